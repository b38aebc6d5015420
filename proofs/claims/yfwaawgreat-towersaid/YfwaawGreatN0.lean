import Derived.Test.YfwaawGreatFacts
namespace Go.Proofs.YfwaawGreat
open Go.Aw
set_option linter.unusedVariables false
set_option maxRecDepth 100000
set_option maxHeartbeats 1000000
/-- nat.trim -/
def F33_3 (N : Nat) (a0 : NS (BitVec 32)) (x2 : Int) (x3 : Bool) : Option (NS (BitVec 32)) := bif x3 then some (true, 0, fun _ => 0#32) else bif (decide (0 ≤ (0 : Int)) && (decide ((0 : Int) ≤ (x2 : Int)) && decide ((x2 : Int) ≤ (a0.2.1 : Int)))) then some ((a0.1, ((x2 : Int).toNat), fun m => a0.2.2 (0 + m))) else none
def F33_2 (N : Nat) (a0 : NS (BitVec 32)) (x2 : Int) : Option (NS (BitVec 32)) := F33_3 N a0 x2 (x2 == 0)
def F33_5 (N : Nat) (a0 : NS (BitVec 32)) (x4 : Int) (x5 : Bool) : Option ((Int) ⊕ (NS (BitVec 32))) := bif x5 then some (.inl (w64 (x4 - 1))) else (F33_2 N a0 x4).map Sum.inr
def F33_L4b (N : Nat) (a0 : NS (BitVec 32)) (x4 : Int) : Option ((Int) ⊕ (NS (BitVec 32))) := bif decide (x4 > 0) then bif (decide (0 ≤ w64 (x4 - 1)) && decide (w64 (x4 - 1) < (a0.2.1 : Int))) then F33_5 N a0 x4 ((a0.2.2 ((w64 (x4 - 1)).toNat)) == (0#32)) else none else F33_5 N a0 x4 false
def F33_L4 (N : Nat) (a0 : NS (BitVec 32)) : (Int) → Option ((Int) ⊕ (NS (BitVec 32))) := fun v => F33_L4b N a0 v
def F33_1 (N : Nat) (a0 : NS (BitVec 32)) (x1 : Int) : Option (NS (BitVec 32)) := iterL (F33_L4 N a0) N x1
def F33 (N : Nat) (a0 : NS (BitVec 32)) : Option (NS (BitVec 32)) := F33_1 N a0 (a0.2.1 : Int)
theorem C33 (N : Nat) (a0 : NS (BitVec 32)) (r : NS (BitVec 32)) (hr : some r = F33 N a0) : Aw.Fn Hfaa.prog 33 [ns U32 a0] (ns U32 r) := by
  refine fn_intro Hfaa.func33 rfl rfl rfl ?_
  intro bn0 w0 H0
  refine AW_seq1 ?_
  refine AW_region ?_
  refine AL_cons (LR_assign (at_ns0 (K := U32) (fun _ => 0#32)) rfl) (sS sT0 sB0 sF0) ?_
  refine AL_nil ?_
  refine thenN ?_
  refine AW_cut (σ := Int) (fun v => ⟨[(0, .inl (ns U32 a0)), (3, .inl (is (I64 v)))], []⟩) (fun v => some r = F33_1 N a0 v) ?_ ?_
  · skip
    refine AW_region ?_
    refine AL_cons (LR_move (at_tmp 0 _) rfl) (sS (sT1 rfl) sB0 sF0) ?_
    refine AL_cons (LR_bi1 (at_tmp 4 _) (len_ns Hfaa.underlying49 a0) rfl) (sS (sT1 rfl) sB0 sF0) ?_
    refine AL_cons (LR_assign (at_tmp 5 _) rfl) (sS (sT1 rfl) sB0 sF0) ?_
    refine AL_nil ?_
    exact thenN (cutLeaf (v := (a0.2.1 : Int)) hr (weak0 ((sT rfl (sT rfl sT0))) sub_nil))
  · rintro x1 hr
    show AW Hfaa.prog _ _ _ ⟨[(0, .inl (ns U32 a0)), (3, .inl (is (I64 x1)))], []⟩
    have hr : some r = F33_1 N a0 x1 := hr
    refine AW_cut (σ := Int) (fun v => ⟨[(0, .inl (ns U32 a0)), (3, .inl (is (I64 v)))], []⟩) (fun v => some r = F33_2 N a0 v) ?_ ?_
    · skip
      refine AW_block ?_
      refine AW_iterR (σ := Int) (r := r) (x0 := x1) (emb := fun v => ⟨[(0, .inl (ns U32 a0)), (3, .inl (is (I64 v)))], []⟩) ?_ hr ?_
      · exact weak0 ((sT rfl (sT rfl sT0))) sub_nil
      rintro x4 out2 hr
      show AW Hfaa.prog _ _ _ ⟨[(0, .inl (ns U32 a0)), (3, .inl (is (I64 x4)))], []⟩
      have hr : some out2 = F33_L4b N a0 x4 := hr
      refine AW_seq1 ?_
      refine AW_cut (σ := Bool) (fun v => ⟨[(0, .inl (ns U32 a0)), (3, .inl (is (I64 x4))), (15, .inl (is (Bl v)))], []⟩) (fun v => some out2 = F33_5 N a0 x4 v) ?_ ?_
      · skip
        refine AW_region ?_
        refine AL_cons (LR_move (at_tmp 3 _) rfl) (sS (sT1 rfl) sB0 sF0) ?_
        refine AL_cons (LR_bin (at_tmp 6 _) (at_c (v' := I64 0) rfl) (gtr_I64 x4 0) rfl) (sS (sA (sT1 rfl) sT0) sB0 sF0) ?_
        refine AL_cons (LR_move (at_tmp 7 _) rfl) (sS (sT1 rfl) sB0 sF0) ?_
        cases hb : decide (x4 > 0)
        · have hr := hr.trans (cond_f hb)
          refine AL_cons (LR_off (b := false) rfl rfl rfl rfl) (sS (sT1 rfl) sB0 sF0) ?_
          refine AL_cons (LR_off (b := false) rfl rfl rfl rfl) (sS (sT1 rfl) sB0 sF0) ?_
          refine AL_cons (LR_off (b := false) rfl rfl rfl rfl) (sS (sT1 rfl) sB0 sF0) ?_
          refine AL_cons (LR_off (b := false) rfl rfl rfl rfl) (sS (sT1 rfl) sB0 sF0) ?_
          refine AL_cons (LR_off (b := false) rfl rfl rfl rfl) (sS (sT1 rfl) sB0 sF0) ?_
          refine AL_cons (LR_off (b := false) rfl rfl rfl rfl) (sS (sT1 rfl) sB0 sF0) ?_
          refine AL_cons (LR_pick (b := false) (at_tmp 8 _) (at_tmp 14 _) (at_c (v' := Bl false) rfl) rfl) (sS (sA (sT1 rfl) (sA (sT1 rfl) sT0)) sB0 sF0) ?_
          refine AL_nil ?_
          exact thenN (cutLeaf (v := false) hr (weak0 ((sT rfl (sT rfl (sT rfl sT0)))) sub_nil))
        · have hr := hr.trans (cond_t hb)
          refine AL_cons (LR_on rfl rfl rfl (LR_move (at_tmp 0 _) rfl)) (sS (sT rfl (sT1 rfl)) sB0 sF0) ?_
          refine AL_cons (LR_on rfl rfl rfl (LR_move (at_tmp 3 _) rfl)) (sS (sT rfl (sT1 rfl)) sB0 sF0) ?_
          refine AL_cons (LR_on rfl rfl rfl (LR_bin (at_tmp 10 _) (at_c (v' := I64 1) rfl) (sub_I64 x4 1) rfl)) (sS (sT rfl (sA (sT1 rfl) sT0)) sB0 sF0) ?_
          obtain ⟨hg34, hr⟩ := guard_some hr
          refine AL_cons (LR_on rfl rfl rfl (LR_indexAddrQ Hfaa.underlying49 sz65 (at_tmp 9 _) (at_tmp 11 _) (dand hg34) rfl)) (sS (sT rfl (sA (sT1 rfl) (sT1 rfl))) sB0 sF0) ?_
          refine AL_cons (LR_on rfl rfl rfl (LR_loadQ (at_tmp 12 _) na65 rfl)) (sS (sT rfl (sT1 rfl)) sB0 sF0) ?_
          refine AL_cons (LR_on rfl rfl rfl (LR_bin (at_tmp 13 _) (at_c (v' := U32 (0#32)) rfl) (eql_U32 (a0.2.2 ((w64 (x4 - 1)).toNat)) (0#32)) rfl)) (sS (sT rfl (sA (sT1 rfl) sT0)) sB0 sF0) ?_
          refine AL_cons (LR_pick (b := true) (at_tmp 8 _) (at_tmp 14 _) (at_c (v' := Bl false) rfl) rfl) (sS (sA (sT1 rfl) (sA (sT1 rfl) sT0)) sB0 sF0) ?_
          refine AL_nil ?_
          exact thenN (cutLeaf (v := (a0.2.2 ((w64 (x4 - 1)).toNat)) == (0#32)) hr (weak0 ((sT rfl (sT rfl (sT rfl sT0)))) sub_nil))
      · rintro x5 hr
        show AW Hfaa.prog _ _ _ ⟨[(0, .inl (ns U32 a0)), (3, .inl (is (I64 x4))), (15, .inl (is (Bl x5)))], []⟩
        have hr : some out2 = F33_5 N a0 x4 x5 := hr
        refine AW_condT (b := x5) rfl (fun h => ?_) (fun h => ?_)
        · have hr := hr.trans (cond_t h)
          clear h
          refine AW_skip ?_
          refine thenN ?_
          refine AW_block ?_
          refine AW_region ?_
          refine AL_cons (LR_move (at_tmp 3 _) rfl) (sS (sT1 rfl) sB0 sF0) ?_
          refine AL_cons (LR_bin (at_tmp 16 _) (at_c (v' := I64 1) rfl) (sub_I64 x4 1) rfl) (sS (sA (sT1 rfl) sT0) sB0 sF0) ?_
          refine AL_cons (LR_assign (at_tmp 17 _) rfl) (sS (sT1 rfl) sB0 sF0) ?_
          refine AL_nil ?_
          refine blN ?_
          exact thenN (loopNext (x' := w64 (x4 - 1)) hr (weak0 ((sT rfl (sT rfl sT0))) sub_nil))
        · have hr := hr.trans (cond_f h)
          clear h
          refine AW_exit ?_
          refine thenX ?_
          obtain ⟨r', hro, hr⟩ := map_inr hr
          refine thenX (loopOut hro (fun he => ?_))
          rw [he] at hr
          refine blH ?_
          exact thenN (cutLeaf (v := x4) hr (weak0 ((sT rfl (sT rfl sT0))) sub_nil))
    · rintro x2 hr
      show AW Hfaa.prog _ _ _ ⟨[(0, .inl (ns U32 a0)), (3, .inl (is (I64 x2)))], []⟩
      have hr : some r = F33_2 N a0 x2 := hr
      refine AW_seq1 ?_
      refine AW_cut (σ := Bool) (fun v => ⟨[(0, .inl (ns U32 a0)), (3, .inl (is (I64 x2))), (19, .inl (is (Bl v)))], []⟩) (fun v => some r = F33_3 N a0 x2 v) ?_ ?_
      · skip
        refine AW_region ?_
        refine AL_cons (LR_move (at_tmp 3 _) rfl) (sS (sT1 rfl) sB0 sF0) ?_
        refine AL_cons (LR_bin (at_tmp 18 _) (at_c (v' := I64 0) rfl) (eql_I64 x2 0) rfl) (sS (sA (sT1 rfl) sT0) sB0 sF0) ?_
        refine AL_nil ?_
        exact thenN (cutLeaf (v := x2 == 0) hr (weak0 ((sT rfl (sT rfl (sT rfl sT0)))) sub_nil))
      · rintro x3 hr
        show AW Hfaa.prog _ _ _ ⟨[(0, .inl (ns U32 a0)), (3, .inl (is (I64 x2))), (19, .inl (is (Bl x3)))], []⟩
        have hr : some r = F33_3 N a0 x2 x3 := hr
        refine AW_condT (b := x3) rfl (fun h => ?_) (fun h => ?_)
        · have hr := hr.trans (cond_t h)
          clear h
          refine AW_seq1 ?_
          refine AW_region ?_
          refine AL_cons (LR_assign (at_ns0 (K := U32) (fun _ => 0#32)) rfl) (sS sT0 sB0 sF0) ?_
          refine AL_nil ?_
          refine thenN ?_
          refine AW_ret ?_
          refine thenR ?_
          obtain rfl := Option.some.inj hr
          exact res1 rfl (rvT rfl)
        · have hr := hr.trans (cond_f h)
          clear h
          refine AW_skip ?_
          refine thenN ?_
          refine AW_seq1 ?_
          refine AW_region ?_
          refine AL_cons (LR_move (at_tmp 0 _) rfl) (sS (sT1 rfl) sB0 sF0) ?_
          refine AL_cons (LR_move (at_tmp 3 _) rfl) (sS (sT1 rfl) sB0 sF0) ?_
          obtain ⟨hg18, hr⟩ := guard_some hr
          refine AL_cons (LR_sliceQ (i := (0 : Int)) (j := (x2 : Int)) Hfaa.underlying49 sz65 (at_tmp 20 _) lo_none (hi_some (at_tmp 21 _)) (dand3 hg18) rfl) (sS (sA (sT1 rfl) (sA sT0 (sT1 rfl))) sB0 sF0) ?_
          refine AL_cons (LR_assign (at_tmp 22 _) rfl) (sS (sT1 rfl) sB0 sF0) ?_
          refine AL_nil ?_
          refine thenN ?_
          refine AW_ret ?_
          obtain rfl := Option.some.inj hr
          exact res1 rfl (rvT rfl)
/-- nat.FromU64 -/
def F20 (N : Nat) (a0 : BitVec 64) : Option (NS (BitVec 32)) := (F33 N ((false, 2, fun i => bif Nat.beq i 0 then BitVec.ofInt 32 (a0.toNat : Int) else BitVec.ofInt 32 ((a0 >>> 32).toNat : Int)))).bind fun y2 => some y2
theorem C20 (N : Nat) (a0 : BitVec 64) (r : NS (BitVec 32)) (hr : some r = F20 N a0) : Aw.Fn Hfaa.prog 20 [is (U64 a0)] (ns U32 r) := by
  refine fn_intro Hfaa.func20 rfl rfl rfl ?_
  intro bn0 w0 H0
  refine AW_seq1 ?_
  refine AW_region ?_
  refine AL_cons (LR_assign (at_ns0 (K := U32) (fun _ => 0#32)) rfl) (sS sT0 sB0 sF0) ?_
  refine AL_nil ?_
  refine thenN ?_
  refine AW_seq1 ?_
  refine AW_region ?_
  refine AL_cons (LR_move (at_tmp 0 _) rfl) (sS (sT1 rfl) sB0 sF0) ?_
  refine AL_cons (LR_conv (vx := U64 a0) (at_tmp 3 _) (conv_U32 Hfaa.underlying30 Hfaa.underlying65 (a0.toNat : Int)) rfl) (sS (sT1 rfl) sB0 sF0) ?_
  refine AL_cons (LR_move (at_tmp 0 _) rfl) (sS (sT1 rfl) sB0 sF0) ?_
  refine AL_cons (LR_bin (at_tmp 5 _) (at_c (v' := U64 (32#64)) rfl) (shr_U64 a0 ((32#64).toNat : Int) (Int.natCast_nonneg _)) rfl) (sS (sA (sT1 rfl) sT0) sB0 sF0) ?_
  refine AL_cons (LR_conv (vx := U64 (a0 >>> 32)) (at_tmp 6 _) (conv_U32 Hfaa.underlying30 Hfaa.underlying65 ((a0 >>> 32).toNat : Int)) rfl) (sS (sT1 rfl) sB0 sF0) ?_
  refine AL_cons (LR_bs2 Hfaa.underlying49 el65 (fun _ => rfl) (at_tmp 4 _) (at_tmp 7 _) rfl) (sS (sA (sT1 rfl) (sT1 rfl)) sB0 sF0) ?_
  obtain ⟨y2, hy2, hr⟩ := bind_some hr
  refine AL_cons (LR_call Hfaa.func33 rfl rfl (C33 N ((false, 2, fun i => bif Nat.beq i 0 then BitVec.ofInt 32 (a0.toNat : Int) else BitVec.ofInt 32 ((a0 >>> 32).toNat : Int))) y2 hy2) (all_cons (at_tmp 8 _) all_nil) rfl) (sS (sA (sT1 rfl) sT0) sB0 sF0) ?_
  refine AL_cons (LR_assign (at_tmp 9 _) rfl) (sS (sT1 rfl) sB0 sF0) ?_
  refine AL_nil ?_
  refine thenN ?_
  refine AW_ret ?_
  obtain rfl := Option.some.inj hr
  exact res1 rfl (rvT rfl)
/-- nat.width32 -/
def F59_1 (N : Nat) (x1 : Int) : Option (Int) := some x1
def F59_4 (N : Nat) (x3 : Int) (x5 : BitVec 32) : Option ((BitVec 32 × Int) ⊕ (Int)) := some (.inl ((x5, w64 (x3 + 1))))
def F59_3 (N : Nat) (x2 : BitVec 32) (x3 : Int) (x4 : Bool) : Option ((BitVec 32 × Int) ⊕ (Int)) := bif x4 then F59_4 N x3 (x2 >>> 1) else (F59_1 N x3).map Sum.inr
def F59_L2b (N : Nat) (x2 : BitVec 32) (x3 : Int) : Option ((BitVec 32 × Int) ⊕ (Int)) := F59_3 N x2 x3 (x2 != (0#32))
def F59_L2 (N : Nat) : (BitVec 32 × Int) → Option ((BitVec 32 × Int) ⊕ (Int)) := fun v => F59_L2b N v.1 v.2
def F59 (N : Nat) (a0 : BitVec 32) : Option (Int) := iterL (F59_L2 N) N (a0, 0)
theorem C59 (N : Nat) (a0 : BitVec 32) (r : Int) (hr : some r = F59 N a0) : Aw.Fn Hfaa.prog 59 [is (U32 a0)] (is (I64 r)) := by
  refine fn_intro Hfaa.func59 rfl rfl rfl ?_
  intro bn0 w0 H0
  refine AW_seq1 ?_
  refine AW_region ?_
  refine AL_cons (LR_assign (at_c (v' := I64 0) rfl) rfl) (sS sT0 sB0 sF0) ?_
  refine AL_nil ?_
  refine thenN ?_
  refine AW_seq1 ?_
  refine AW_region ?_
  refine AL_cons (LR_assign (at_c (v' := I64 0) rfl) rfl) (sS sT0 sB0 sF0) ?_
  refine AL_nil ?_
  refine thenN ?_
  refine AW_cut (σ := Int) (fun v => ⟨[(3, .inl (is (I64 v)))], []⟩) (fun v => some r = F59_1 N v) ?_ ?_
  · skip
    refine AW_block ?_
    refine AW_iterR (σ := BitVec 32 × Int) (r := r) (x0 := (a0, 0)) (emb := fun v => ⟨[(0, .inl (is (U32 v.1))), (3, .inl (is (I64 v.2)))], []⟩) ?_ hr ?_
    · exact weak0 ((sT rfl (sT rfl sT0))) sub_nil
    rintro ⟨x2, x3⟩ out2 hr
    show AW Hfaa.prog _ _ _ ⟨[(0, .inl (is (U32 x2))), (3, .inl (is (I64 x3)))], []⟩
    have hr : some out2 = F59_L2b N x2 x3 := hr
    refine AW_seq1 ?_
    refine AW_cut (σ := Bool) (fun v => ⟨[(0, .inl (is (U32 x2))), (3, .inl (is (I64 x3))), (5, .inl (is (Bl v)))], []⟩) (fun v => some out2 = F59_3 N x2 x3 v) ?_ ?_
    · skip
      refine AW_region ?_
      refine AL_cons (LR_move (at_tmp 0 _) rfl) (sS (sT1 rfl) sB0 sF0) ?_
      refine AL_cons (LR_bin (at_tmp 4 _) (at_c (v' := U32 (0#32)) rfl) (neq_U32 x2 (0#32)) rfl) (sS (sA (sT1 rfl) sT0) sB0 sF0) ?_
      refine AL_nil ?_
      exact thenN (cutLeaf (v := x2 != (0#32)) hr (weak0 ((sT rfl (sT rfl (sT rfl sT0)))) sub_nil))
    · rintro x4 hr
      show AW Hfaa.prog _ _ _ ⟨[(0, .inl (is (U32 x2))), (3, .inl (is (I64 x3))), (5, .inl (is (Bl x4)))], []⟩
      have hr : some out2 = F59_3 N x2 x3 x4 := hr
      refine AW_condT (b := x4) rfl (fun h => ?_) (fun h => ?_)
      · have hr := hr.trans (cond_t h)
        clear h
        refine AW_skip ?_
        refine thenN ?_
        refine AW_block ?_
        refine AW_cut (σ := BitVec 32) (fun v => ⟨[(0, .inl (is (U32 v))), (3, .inl (is (I64 x3)))], []⟩) (fun v => some out2 = F59_4 N x3 v) ?_ ?_
        · skip
          refine AW_region ?_
          refine AL_cons (LR_move (at_tmp 0 _) rfl) (sS (sT1 rfl) sB0 sF0) ?_
          refine AL_cons (LR_bin (at_tmp 6 _) (at_c (v' := U64 (1#64)) rfl) (shr_U32 x2 ((1#64).toNat : Int) (Int.natCast_nonneg _)) rfl) (sS (sA (sT1 rfl) sT0) sB0 sF0) ?_
          refine AL_cons (LR_assign (at_tmp 7 _) rfl) (sS (sT1 rfl) sB0 sF0) ?_
          refine AL_nil ?_
          exact thenN (cutLeaf (v := x2 >>> 1) hr (weak0 ((sT rfl (sT rfl sT0))) sub_nil))
        · rintro x5 hr
          show AW Hfaa.prog _ _ _ ⟨[(0, .inl (is (U32 x5))), (3, .inl (is (I64 x3)))], []⟩
          have hr : some out2 = F59_4 N x3 x5 := hr
          refine AW_region ?_
          refine AL_cons (LR_move (at_tmp 3 _) rfl) (sS (sT1 rfl) sB0 sF0) ?_
          refine AL_cons (LR_bin (at_tmp 8 _) (at_c (v' := I64 1) rfl) (add_I64 x3 1) rfl) (sS (sA (sT1 rfl) sT0) sB0 sF0) ?_
          refine AL_cons (LR_assign (at_tmp 9 _) rfl) (sS (sT1 rfl) sB0 sF0) ?_
          refine AL_nil ?_
          refine blN ?_
          exact thenN (loopNext (x' := (x5, w64 (x3 + 1))) hr (weak0 ((sT rfl (sT rfl sT0))) sub_nil))
      · have hr := hr.trans (cond_f h)
        clear h
        refine AW_exit ?_
        refine thenX ?_
        obtain ⟨r', hro, hr⟩ := map_inr hr
        refine thenX (loopOut hro (fun he => ?_))
        rw [he] at hr
        refine blH ?_
        exact thenN (cutLeaf (v := x3) hr (weak0 ((sT rfl sT0)) sub_nil))
  · rintro x1 hr
    show AW Hfaa.prog _ _ _ ⟨[(3, .inl (is (I64 x1)))], []⟩
    have hr : some r = F59_1 N x1 := hr
    refine AW_seq1 ?_
    refine AW_region ?_
    refine AL_cons (LR_move (at_tmp 3 _) rfl) (sS (sT1 rfl) sB0 sF0) ?_
    refine AL_cons (LR_assign (at_tmp 10 _) rfl) (sS (sT1 rfl) sB0 sF0) ?_
    refine AL_nil ?_
    refine thenN ?_
    refine AW_ret ?_
    obtain rfl := Option.some.inj hr
    exact res1 rfl (rvT rfl)
/-- nat.BitLen -/
def F34_3 (N : Nat) (x1 : NS (BitVec 32)) (x3 : Int) : Option (Int) := bif (decide (0 ≤ x3) && decide (x3 < (x1.2.1 : Int))) then (F59 N (x1.2.2 x3.toNat)).bind fun y3 => some (w64 ((w64 (32 * x3)) + y3)) else none
def F34_2 (N : Nat) (x1 : NS (BitVec 32)) (x2 : Bool) : Option (Int) := bif x2 then some 0 else F34_3 N x1 (w64 ((x1.2.1 : Int) - 1))
def F34_1 (N : Nat) (x1 : NS (BitVec 32)) : Option (Int) := F34_2 N x1 x1.1
def F34 (N : Nat) (a0 : NS (BitVec 32)) : Option (Int) := (F33 N a0).bind fun y4 => F34_1 N y4
theorem C34 (N : Nat) (a0 : NS (BitVec 32)) (r : Int) (hr : some r = F34 N a0) : Aw.Fn Hfaa.prog 34 [ns U32 a0] (is (I64 r)) := by
  refine fn_intro Hfaa.func34 rfl rfl rfl ?_
  intro bn0 w0 H0
  refine AW_seq1 ?_
  refine AW_region ?_
  refine AL_cons (LR_assign (at_c (v' := I64 0) rfl) rfl) (sS sT0 sB0 sF0) ?_
  refine AL_nil ?_
  refine thenN ?_
  refine AW_cut (σ := NS (BitVec 32)) (fun v => ⟨[(0, .inl (ns U32 v))], []⟩) (fun v => some r = F34_1 N v) ?_ ?_
  · skip
    refine AW_region ?_
    refine AL_cons (LR_move (at_tmp 0 _) rfl) (sS (sT1 rfl) sB0 sF0) ?_
    obtain ⟨y4, hy4, hr⟩ := bind_some hr
    refine AL_cons (LR_call Hfaa.func33 rfl rfl (C33 N a0 y4 hy4) (all_cons (at_tmp 4 _) all_nil) rfl) (sS (sA (sT1 rfl) sT0) sB0 sF0) ?_
    refine AL_cons (LR_assign (at_tmp 5 _) rfl) (sS (sT1 rfl) sB0 sF0) ?_
    refine AL_nil ?_
    exact thenN (cutLeaf (v := y4) hr (weak0 ((sT rfl sT0)) sub_nil))
  · rintro x1 hr
    show AW Hfaa.prog _ _ _ ⟨[(0, .inl (ns U32 x1))], []⟩
    have hr : some r = F34_1 N x1 := hr
    refine AW_seq1 ?_
    refine AW_cut (σ := Bool) (fun v => ⟨[(0, .inl (ns U32 x1)), (7, .inl (is (Bl v)))], []⟩) (fun v => some r = F34_2 N x1 v) ?_ ?_
    · skip
      refine AW_region ?_
      refine AL_cons (LR_move (at_tmp 0 _) rfl) (sS (sT1 rfl) sB0 sF0) ?_
      refine AL_cons (LR_binA (at_tmp 6 _) (at_ns0 (K := U32) (fun _ => 0#32)) (eqNs Hfaa.underlying49 x1 _) rfl) (sS (sA (sT1 rfl) sT0) sB0 sF0) ?_
      refine AL_nil ?_
      exact thenN (cutLeaf (v := x1.1) hr (weak0 ((sT rfl (sT rfl sT0))) sub_nil))
    · rintro x2 hr
      show AW Hfaa.prog _ _ _ ⟨[(0, .inl (ns U32 x1)), (7, .inl (is (Bl x2)))], []⟩
      have hr : some r = F34_2 N x1 x2 := hr
      refine AW_condT (b := x2) rfl (fun h => ?_) (fun h => ?_)
      · have hr := hr.trans (cond_t h)
        clear h
        refine AW_seq1 ?_
        refine AW_region ?_
        refine AL_cons (LR_assign (at_c (v' := I64 0) rfl) rfl) (sS sT0 sB0 sF0) ?_
        refine AL_nil ?_
        refine thenN ?_
        refine AW_ret ?_
        refine thenR ?_
        obtain rfl := Option.some.inj hr
        exact res1 rfl (rvT rfl)
      · have hr := hr.trans (cond_f h)
        clear h
        refine AW_skip ?_
        refine thenN ?_
        refine AW_cut (σ := Int) (fun v => ⟨[(0, .inl (ns U32 x1)), (3, .inl (is (I64 v)))], []⟩) (fun v => some r = F34_3 N x1 v) ?_ ?_
        · skip
          refine AW_region ?_
          refine AL_cons (LR_move (at_tmp 0 _) rfl) (sS (sT1 rfl) sB0 sF0) ?_
          refine AL_cons (LR_bi1 (at_tmp 8 _) (len_ns Hfaa.underlying49 x1) rfl) (sS (sT1 rfl) sB0 sF0) ?_
          refine AL_cons (LR_bin (at_tmp 9 _) (at_c (v' := I64 1) rfl) (sub_I64 (x1.2.1 : Int) 1) rfl) (sS (sA (sT1 rfl) sT0) sB0 sF0) ?_
          refine AL_cons (LR_assign (at_tmp 10 _) rfl) (sS (sT1 rfl) sB0 sF0) ?_
          refine AL_nil ?_
          exact thenN (cutLeaf (v := w64 ((x1.2.1 : Int) - 1)) hr (weak0 ((sT rfl (sT rfl sT0))) sub_nil))
        · rintro x3 hr
          show AW Hfaa.prog _ _ _ ⟨[(0, .inl (ns U32 x1)), (3, .inl (is (I64 x3)))], []⟩
          have hr : some r = F34_3 N x1 x3 := hr
          refine AW_seq1 ?_
          refine AW_region ?_
          refine AL_cons (LR_move (at_tmp 3 _) rfl) (sS (sT1 rfl) sB0 sF0) ?_
          refine AL_cons (LR_bin (at_c (v' := I64 32) rfl) (at_tmp 11 _) (mul_I64 32 x3) rfl) (sS (sA sT0 (sT1 rfl)) sB0 sF0) ?_
          refine AL_cons (LR_move (at_tmp 0 _) rfl) (sS (sT1 rfl) sB0 sF0) ?_
          refine AL_cons (LR_move (at_tmp 3 _) rfl) (sS (sT1 rfl) sB0 sF0) ?_
          obtain ⟨hg2, hr⟩ := guard_some hr
          refine AL_cons (LR_indexAddrQ Hfaa.underlying49 sz65 (at_tmp 13 _) (at_tmp 14 _) (dand hg2) rfl) (sS (sA (sT1 rfl) (sT1 rfl)) sB0 sF0) ?_
          refine AL_cons (LR_loadQ (at_tmp 15 _) na65 rfl) (sS (sT1 rfl) sB0 sF0) ?_
          obtain ⟨y3, hy3, hr⟩ := bind_some hr
          refine AL_cons (LR_call Hfaa.func59 rfl rfl (C59 N (x1.2.2 x3.toNat) y3 hy3) (all_cons (at_tmp 16 _) all_nil) rfl) (sS (sA (sT1 rfl) sT0) sB0 sF0) ?_
          refine AL_cons (LR_bin (at_tmp 12 _) (at_tmp 17 _) (add_I64 (w64 (32 * x3)) y3) rfl) (sS (sA (sT1 rfl) (sT1 rfl)) sB0 sF0) ?_
          refine AL_cons (LR_assign (at_tmp 18 _) rfl) (sS (sT1 rfl) sB0 sF0) ?_
          refine AL_nil ?_
          refine thenN ?_
          refine AW_ret ?_
          obtain rfl := Option.some.inj hr
          exact res1 rfl (rvT rfl)
/-- nat.lift -/
def F64_5 (N : Nat) (x1 : NS (BitVec 32)) (x3 : Int) (x6 : Nat → BitVec 32) : Option (NS (BitVec 32)) := (F33 N ((false, (w64 ((w64 ((x1.2.1 : Int) + x3)) + 1)).toNat, x6))).bind fun y3 => some y3
def F64_9 (N : Nat) (x1 : NS (BitVec 32)) (x3 : Int) (x4 : Int) (x7 : Int) (x8 : Int) (x11 : Nat → BitVec 32) : Option ((Int × (Nat → BitVec 32)) ⊕ (NS (BitVec 32))) := some (.inl ((w64 (x8 + 1), x11)))
def F64_12 (N : Nat) (x1 : NS (BitVec 32)) (x3 : Int) (x4 : Int) (x7 : Int) (x8 : Int) (x13 : BitVec 64) (x14 : Nat → BitVec 32) : Option ((Int × (Nat → BitVec 32)) ⊕ (NS (BitVec 32))) := bif (decide (0 ≤ w64 ((w64 (x8 + x3)) + 1)) && decide (w64 ((w64 (x8 + x3)) + 1) < ((w64 ((w64 ((x1.2.1 : Int) + x3)) + 1)).toNat : Int))) then F64_9 N x1 x3 x4 x7 x8 (upd x14 ((w64 ((w64 (x8 + x3)) + 1)).toNat) (BitVec.ofInt 32 ((x13 >>> 32).toNat : Int))) else none
def F64_11 (N : Nat) (x1 : NS (BitVec 32)) (x3 : Int) (x4 : Int) (x7 : Int) (x8 : Int) (x9 : Nat → BitVec 32) (x13 : BitVec 64) : Option ((Int × (Nat → BitVec 32)) ⊕ (NS (BitVec 32))) := bif (decide (0 ≤ w64 (x8 + x3)) && decide (w64 (x8 + x3) < ((w64 ((w64 ((x1.2.1 : Int) + x3)) + 1)).toNat : Int))) then bif (decide (0 ≤ w64 (x8 + x3)) && decide (w64 (x8 + x3) < ((w64 ((w64 ((x1.2.1 : Int) + x3)) + 1)).toNat : Int))) then F64_12 N x1 x3 x4 x7 x8 x13 (upd x9 ((w64 (x8 + x3)).toNat) ((x9 ((w64 (x8 + x3)).toNat)) ||| (BitVec.ofInt 32 (x13.toNat : Int)))) else none else none
def F64_10 (N : Nat) (x1 : NS (BitVec 32)) (x3 : Int) (x4 : Int) (x7 : Int) (x8 : Int) (x9 : Nat → BitVec 32) (x12 : BitVec 32) : Option ((Int × (Nat → BitVec 32)) ⊕ (NS (BitVec 32))) := bif decide (0 ≤ x4) then F64_11 N x1 x3 x4 x7 x8 x9 ((BitVec.ofInt 64 (x12.toNat : Int)) <<< x4.toNat) else none
def F64_8 (N : Nat) (x1 : NS (BitVec 32)) (x3 : Int) (x4 : Int) (x7 : Int) (x8 : Int) (x9 : Nat → BitVec 32) (x10 : Bool) : Option ((Int × (Nat → BitVec 32)) ⊕ (NS (BitVec 32))) := bif x10 then bif (decide (0 ≤ x8) && decide (x8 < (x1.2.1 : Int))) then F64_10 N x1 x3 x4 x7 x8 x9 (x1.2.2 x8.toNat) else none else (F64_5 N x1 x3 x9).map Sum.inr
def F64_L7b (N : Nat) (x1 : NS (BitVec 32)) (x3 : Int) (x4 : Int) (x7 : Int) (x8 : Int) (x9 : Nat → BitVec 32) : Option ((Int × (Nat → BitVec 32)) ⊕ (NS (BitVec 32))) := F64_8 N x1 x3 x4 x7 x8 x9 (decide (x8 < x7))
def F64_L7 (N : Nat) (x1 : NS (BitVec 32)) (x3 : Int) (x4 : Int) (x7 : Int) : (Int × (Nat → BitVec 32)) → Option ((Int × (Nat → BitVec 32)) ⊕ (NS (BitVec 32))) := fun v => F64_L7b N x1 x3 x4 x7 v.1 v.2
def F64_6 (N : Nat) (x1 : NS (BitVec 32)) (x3 : Int) (x4 : Int) (x5 : Nat → BitVec 32) (x7 : Int) : Option (NS (BitVec 32)) := iterL (F64_L7 N x1 x3 x4 x7) N (0, x5)
def F64_4 (N : Nat) (x1 : NS (BitVec 32)) (x3 : Int) (x4 : Int) (x5 : Nat → BitVec 32) : Option (NS (BitVec 32)) := F64_6 N x1 x3 x4 x5 (x1.2.1 : Int)
def F64_3 (N : Nat) (x1 : NS (BitVec 32)) (x3 : Int) (x4 : Int) : Option (NS (BitVec 32)) := bif (decide (0 ≤ w64 ((w64 ((x1.2.1 : Int) + x3)) + 1)) && decide (w64 ((w64 ((x1.2.1 : Int) + x3)) + 1) ≤ 1099511627776)) then F64_4 N x1 x3 x4 (fun _ => 0#32) else none
def F64_2 (N : Nat) (a1 : Int) (x1 : NS (BitVec 32)) (x2 : Bool) : Option (NS (BitVec 32)) := bif x2 then some (true, 0, fun _ => 0#32) else F64_3 N x1 (w64 (a1.tdiv 32)) (a1.tmod 32)
def F64_1 (N : Nat) (a1 : Int) (x1 : NS (BitVec 32)) : Option (NS (BitVec 32)) := F64_2 N a1 x1 x1.1
def F64 (N : Nat) (a0 : NS (BitVec 32)) (a1 : Int) : Option (NS (BitVec 32)) := (F33 N a0).bind fun y4 => F64_1 N a1 y4
theorem C64 (N : Nat) (a0 : NS (BitVec 32)) (a1 : Int) (r : NS (BitVec 32)) (hr : some r = F64 N a0 a1) : Aw.Fn Hfaa.prog 64 [ns U32 a0, is (I64 a1)] (ns U32 r) := by
  refine fn_intro Hfaa.func64 rfl rfl rfl ?_
  intro bn0 w0 H0
  refine AW_seq1 ?_
  refine AW_region ?_
  refine AL_cons (LR_assign (at_ns0 (K := U32) (fun _ => 0#32)) rfl) (sS sT0 sB0 sF0) ?_
  refine AL_nil ?_
  refine thenN ?_
  refine AW_cut (σ := NS (BitVec 32)) (fun v => ⟨[(0, .inl (ns U32 v)), (1, .inl (is (I64 a1)))], []⟩) (fun v => some r = F64_1 N a1 v) ?_ ?_
  · skip
    refine AW_region ?_
    refine AL_cons (LR_move (at_tmp 0 _) rfl) (sS (sT1 rfl) sB0 sF0) ?_
    obtain ⟨y4, hy4, hr⟩ := bind_some hr
    refine AL_cons (LR_call Hfaa.func33 rfl rfl (C33 N a0 y4 hy4) (all_cons (at_tmp 11 _) all_nil) rfl) (sS (sA (sT1 rfl) sT0) sB0 sF0) ?_
    refine AL_cons (LR_assign (at_tmp 12 _) rfl) (sS (sT1 rfl) sB0 sF0) ?_
    refine AL_nil ?_
    exact thenN (cutLeaf (v := y4) hr (weak0 ((sT rfl (sT rfl sT0))) sub_nil))
  · rintro x1 hr
    show AW Hfaa.prog _ _ _ ⟨[(0, .inl (ns U32 x1)), (1, .inl (is (I64 a1)))], []⟩
    have hr : some r = F64_1 N a1 x1 := hr
    refine AW_seq1 ?_
    refine AW_cut (σ := Bool) (fun v => ⟨[(0, .inl (ns U32 x1)), (1, .inl (is (I64 a1))), (14, .inl (is (Bl v)))], []⟩) (fun v => some r = F64_2 N a1 x1 v) ?_ ?_
    · skip
      refine AW_region ?_
      refine AL_cons (LR_move (at_tmp 0 _) rfl) (sS (sT1 rfl) sB0 sF0) ?_
      refine AL_cons (LR_binA (at_tmp 13 _) (at_ns0 (K := U32) (fun _ => 0#32)) (eqNs Hfaa.underlying49 x1 _) rfl) (sS (sA (sT1 rfl) sT0) sB0 sF0) ?_
      refine AL_nil ?_
      exact thenN (cutLeaf (v := x1.1) hr (weak0 ((sT rfl (sT rfl (sT rfl sT0)))) sub_nil))
    · rintro x2 hr
      show AW Hfaa.prog _ _ _ ⟨[(0, .inl (ns U32 x1)), (1, .inl (is (I64 a1))), (14, .inl (is (Bl x2)))], []⟩
      have hr : some r = F64_2 N a1 x1 x2 := hr
      refine AW_condT (b := x2) rfl (fun h => ?_) (fun h => ?_)
      · have hr := hr.trans (cond_t h)
        clear h
        refine AW_seq1 ?_
        refine AW_region ?_
        refine AL_cons (LR_assign (at_ns0 (K := U32) (fun _ => 0#32)) rfl) (sS sT0 sB0 sF0) ?_
        refine AL_nil ?_
        refine thenN ?_
        refine AW_ret ?_
        refine thenR ?_
        obtain rfl := Option.some.inj hr
        exact res1 rfl (rvT rfl)
      · have hr := hr.trans (cond_f h)
        clear h
        refine AW_skip ?_
        refine thenN ?_
        refine AW_cut (σ := Int × Int) (fun v => ⟨[(0, .inl (ns U32 x1)), (5, .inl (is (I64 v.1))), (6, .inl (is (I64 v.2)))], []⟩) (fun v => some r = F64_3 N x1 v.1 v.2) ?_ ?_
        · skip
          refine AW_region ?_
          refine AL_cons (LR_move (at_tmp 1 _) rfl) (sS (sT1 rfl) sB0 sF0) ?_
          refine AL_cons (LR_bin (at_tmp 15 _) (at_c (v' := I64 32) rfl) (quo_I64 a1 32 (by decide)) rfl) (sS (sA (sT1 rfl) sT0) sB0 sF0) ?_
          refine AL_cons (LR_move (at_tmp 1 _) rfl) (sS (sT1 rfl) sB0 sF0) ?_
          refine AL_cons (LR_bin (at_tmp 17 _) (at_c (v' := I64 32) rfl) (rem_I64 a1 32 (by decide)) rfl) (sS (sA (sT1 rfl) sT0) sB0 sF0) ?_
          refine AL_cons (LR_assign (at_tmp 16 _) rfl) (sS (sT1 rfl) sB0 sF0) ?_
          refine AL_cons (LR_assign (at_tmp 18 _) rfl) (sS (sT1 rfl) sB0 sF0) ?_
          refine AL_nil ?_
          exact thenN (cutLeaf (v := (w64 (a1.tdiv 32), a1.tmod 32)) hr (weak0 ((sT rfl (sT rfl (sT rfl sT0)))) sub_nil))
        · rintro ⟨x3, x4⟩ hr
          show AW Hfaa.prog _ _ _ ⟨[(0, .inl (ns U32 x1)), (5, .inl (is (I64 x3))), (6, .inl (is (I64 x4)))], []⟩
          have hr : some r = F64_3 N x1 x3 x4 := hr
          refine AW_cut (σ := (Nat → BitVec 32)) (fun v => ⟨[(0, .inl (ns U32 x1)), (5, .inl (is (I64 x3))), (6, .inl (is (I64 x4))), (7, .inr (.inr (.inl (24, 0, (w64 ((w64 ((x1.2.1 : Int) + x3)) + 1)).toNat, (w64 ((w64 ((x1.2.1 : Int) + x3)) + 1)).toNat))))], [(24, pb 65 (ar U32 ((w64 ((w64 ((x1.2.1 : Int) + x3)) + 1)).toNat) v ++ []))]⟩) (fun v => some r = F64_4 N x1 x3 x4 v) ?_ ?_
          · skip
            refine AW_region ?_
            refine AL_cons (LR_move (at_tmp 0 _) rfl) (sS (sT1 rfl) sB0 sF0) ?_
            refine AL_cons (LR_bi1 (at_tmp 19 _) (len_ns Hfaa.underlying49 x1) rfl) (sS (sT1 rfl) sB0 sF0) ?_
            refine AL_cons (LR_move (at_tmp 5 _) rfl) (sS (sT1 rfl) sB0 sF0) ?_
            refine AL_cons (LR_bin (at_tmp 20 _) (at_tmp 21 _) (add_I64 (x1.2.1 : Int) x3) rfl) (sS (sA (sT1 rfl) (sT1 rfl)) sB0 sF0) ?_
            refine AL_cons (LR_bin (at_tmp 22 _) (at_c (v' := I64 1) rfl) (add_I64 (w64 ((x1.2.1 : Int) + x3)) 1) rfl) (sS (sA (sT1 rfl) sT0) sB0 sF0) ?_
            obtain ⟨hg110, hr⟩ := guard_some hr
            refine AL_cons (LR_makeSlice Hfaa.underlying49 el65 (at_tmp 23 _) (dand hg110) rfl) (sS (sT1 rfl) sB0 (sF1 rfl)) ?_
            refine AL_cons (LR_assign (at_tmp 24 _) rfl) (sS (sT1 rfl) sB0 sF0) ?_
            refine AL_nil ?_
            exact thenN (cutLeaf (v := fun _ => 0#32) hr (weak0 ((sT rfl (sT rfl (sT rfl (sT rfl sT0))))) (sub_keep sub_nil)))
          · rintro x5 hr
            show AW Hfaa.prog _ _ _ ⟨[(0, .inl (ns U32 x1)), (5, .inl (is (I64 x3))), (6, .inl (is (I64 x4))), (7, .inr (.inr (.inl (24, 0, (w64 ((w64 ((x1.2.1 : Int) + x3)) + 1)).toNat, (w64 ((w64 ((x1.2.1 : Int) + x3)) + 1)).toNat))))], [(24, pb 65 (ar U32 ((w64 ((w64 ((x1.2.1 : Int) + x3)) + 1)).toNat) x5 ++ []))]⟩
            have hr : some r = F64_4 N x1 x3 x4 x5 := hr
            refine AW_cut (σ := (Nat → BitVec 32)) (fun v => ⟨[(7, .inr (.inr (.inl (24, 0, (w64 ((w64 ((x1.2.1 : Int) + x3)) + 1)).toNat, (w64 ((w64 ((x1.2.1 : Int) + x3)) + 1)).toNat))))], [(24, pb 65 (ar U32 ((w64 ((w64 ((x1.2.1 : Int) + x3)) + 1)).toNat) v ++ []))]⟩) (fun v => some r = F64_5 N x1 x3 v) ?_ ?_
            · skip
              refine AW_cut (σ := Int) (fun v => ⟨[(5, .inl (is (I64 x3))), (6, .inl (is (I64 x4))), (7, .inr (.inr (.inl (24, 0, (w64 ((w64 ((x1.2.1 : Int) + x3)) + 1)).toNat, (w64 ((w64 ((x1.2.1 : Int) + x3)) + 1)).toNat)))), (25, .inl (ns U32 x1)), (26, .inl (is (I64 v))), (27, .inl (is (I64 0)))], [(24, pb 65 (ar U32 ((w64 ((w64 ((x1.2.1 : Int) + x3)) + 1)).toNat) x5 ++ []))]⟩) (fun v => some r = F64_6 N x1 x3 x4 x5 v) ?_ ?_
              · skip
                refine AW_region ?_
                refine AL_cons (LR_move (at_tmp 0 _) rfl) (sS (sT1 rfl) sB0 sF0) ?_
                refine AL_cons (LR_bi1 (at_tmp 25 _) (len_ns Hfaa.underlying49 x1) rfl) (sS (sT1 rfl) sB0 sF0) ?_
                refine AL_cons (LR_move (at_c (v' := I64 0) rfl) rfl) (sS sT0 sB0 sF0) ?_
                refine AL_nil ?_
                exact thenN (cutLeaf (v := (x1.2.1 : Int)) hr (weak0 ((sT rfl (sT rfl (sT rfl (sT rfl (sT rfl (sT rfl sT0))))))) (sub_keep sub_nil)))
              · rintro x7 hr
                show AW Hfaa.prog _ _ _ ⟨[(5, .inl (is (I64 x3))), (6, .inl (is (I64 x4))), (7, .inr (.inr (.inl (24, 0, (w64 ((w64 ((x1.2.1 : Int) + x3)) + 1)).toNat, (w64 ((w64 ((x1.2.1 : Int) + x3)) + 1)).toNat)))), (25, .inl (ns U32 x1)), (26, .inl (is (I64 x7))), (27, .inl (is (I64 0)))], [(24, pb 65 (ar U32 ((w64 ((w64 ((x1.2.1 : Int) + x3)) + 1)).toNat) x5 ++ []))]⟩
                have hr : some r = F64_6 N x1 x3 x4 x5 x7 := hr
                refine AW_block ?_
                refine AW_iterR (σ := Int × (Nat → BitVec 32)) (r := r) (x0 := (0, x5)) (emb := fun v => ⟨[(5, .inl (is (I64 x3))), (6, .inl (is (I64 x4))), (7, .inr (.inr (.inl (24, 0, (w64 ((w64 ((x1.2.1 : Int) + x3)) + 1)).toNat, (w64 ((w64 ((x1.2.1 : Int) + x3)) + 1)).toNat)))), (25, .inl (ns U32 x1)), (26, .inl (is (I64 x7))), (27, .inl (is (I64 v.1)))], [(24, pb 65 (ar U32 ((w64 ((w64 ((x1.2.1 : Int) + x3)) + 1)).toNat) v.2 ++ []))]⟩) ?_ hr ?_
                · exact weak0 ((sT rfl (sT rfl (sT rfl (sT rfl (sT rfl (sT rfl sT0))))))) (sub_keep sub_nil)
                rintro ⟨x8, x9⟩ out2 hr
                show AW Hfaa.prog _ _ _ ⟨[(5, .inl (is (I64 x3))), (6, .inl (is (I64 x4))), (7, .inr (.inr (.inl (24, 0, (w64 ((w64 ((x1.2.1 : Int) + x3)) + 1)).toNat, (w64 ((w64 ((x1.2.1 : Int) + x3)) + 1)).toNat)))), (25, .inl (ns U32 x1)), (26, .inl (is (I64 x7))), (27, .inl (is (I64 x8)))], [(24, pb 65 (ar U32 ((w64 ((w64 ((x1.2.1 : Int) + x3)) + 1)).toNat) x9 ++ []))]⟩
                have hr : some out2 = F64_L7b N x1 x3 x4 x7 x8 x9 := hr
                refine AW_cut (σ := Bool) (fun v => ⟨[(5, .inl (is (I64 x3))), (6, .inl (is (I64 x4))), (7, .inr (.inr (.inl (24, 0, (w64 ((w64 ((x1.2.1 : Int) + x3)) + 1)).toNat, (w64 ((w64 ((x1.2.1 : Int) + x3)) + 1)).toNat)))), (25, .inl (ns U32 x1)), (26, .inl (is (I64 x7))), (27, .inl (is (I64 x8))), (28, .inl (is (Bl v)))], [(24, pb 65 (ar U32 ((w64 ((w64 ((x1.2.1 : Int) + x3)) + 1)).toNat) x9 ++ []))]⟩) (fun v => some out2 = F64_8 N x1 x3 x4 x7 x8 x9 v) ?_ ?_
                · skip
                  refine AW_region ?_
                  refine AL_cons (LR_bin (at_tmp 27 _) (at_tmp 26 _) (lss_I64 x8 x7) rfl) (sS (sA (sT1 rfl) (sT1 rfl)) sB0 sF0) ?_
                  refine AL_nil ?_
                  exact thenN (cutLeaf (v := decide (x8 < x7)) hr (weak0 ((sT rfl (sT rfl (sT rfl (sT rfl (sT rfl (sT rfl (sT rfl sT0)))))))) (sub_keep sub_nil)))
                · rintro x10 hr
                  show AW Hfaa.prog _ _ _ ⟨[(5, .inl (is (I64 x3))), (6, .inl (is (I64 x4))), (7, .inr (.inr (.inl (24, 0, (w64 ((w64 ((x1.2.1 : Int) + x3)) + 1)).toNat, (w64 ((w64 ((x1.2.1 : Int) + x3)) + 1)).toNat)))), (25, .inl (ns U32 x1)), (26, .inl (is (I64 x7))), (27, .inl (is (I64 x8))), (28, .inl (is (Bl x10)))], [(24, pb 65 (ar U32 ((w64 ((w64 ((x1.2.1 : Int) + x3)) + 1)).toNat) x9 ++ []))]⟩
                  have hr : some out2 = F64_8 N x1 x3 x4 x7 x8 x9 x10 := hr
                  refine AW_seq1 ?_
                  refine AW_condT (b := x10) rfl (fun h => ?_) (fun h => ?_)
                  · have hr := hr.trans (cond_t h)
                    clear h
                    refine AW_skip ?_
                    refine thenN ?_
                    refine AW_cut (σ := (Nat → BitVec 32)) (fun v => ⟨[(5, .inl (is (I64 x3))), (6, .inl (is (I64 x4))), (7, .inr (.inr (.inl (24, 0, (w64 ((w64 ((x1.2.1 : Int) + x3)) + 1)).toNat, (w64 ((w64 ((x1.2.1 : Int) + x3)) + 1)).toNat)))), (25, .inl (ns U32 x1)), (26, .inl (is (I64 x7))), (27, .inl (is (I64 x8)))], [(24, pb 65 (ar U32 ((w64 ((w64 ((x1.2.1 : Int) + x3)) + 1)).toNat) v ++ []))]⟩) (fun v => some out2 = F64_9 N x1 x3 x4 x7 x8 v) ?_ ?_
                    · skip
                      refine AW_block ?_
                      refine AW_cut (σ := BitVec 32) (fun v => ⟨[(5, .inl (is (I64 x3))), (6, .inl (is (I64 x4))), (7, .inr (.inr (.inl (24, 0, (w64 ((w64 ((x1.2.1 : Int) + x3)) + 1)).toNat, (w64 ((w64 ((x1.2.1 : Int) + x3)) + 1)).toNat)))), (25, .inl (ns U32 x1)), (26, .inl (is (I64 x7))), (27, .inl (is (I64 x8))), (8, .inl (is (I64 x8))), (9, .inl (is (U32 v)))], [(24, pb 65 (ar U32 ((w64 ((w64 ((x1.2.1 : Int) + x3)) + 1)).toNat) x9 ++ []))]⟩) (fun v => some out2 = F64_10 N x1 x3 x4 x7 x8 x9 v) ?_ ?_
                      · skip
                        refine AW_region ?_
                        refine AL_cons (LR_move (at_tmp 27 _) rfl) (sS (sT1 rfl) sB0 sF0) ?_
                        obtain ⟨hg109, hr⟩ := guard_some hr
                        refine AL_cons (LR_indexAddrQ Hfaa.underlying49 sz65 (at_tmp 25 _) (at_tmp 27 _) (dand hg109) rfl) (sS (sA (sT1 rfl) (sT1 rfl)) sB0 sF0) ?_
                        refine AL_cons (LR_loadQ (at_tmp 30 _) na65 rfl) (sS (sT1 rfl) sB0 sF0) ?_
                        refine AL_cons (LR_assign (at_tmp 29 _) rfl) (sS (sT1 rfl) sB0 sF0) ?_
                        refine AL_cons (LR_assign (at_tmp 31 _) rfl) (sS (sT1 rfl) sB0 sF0) ?_
                        refine AL_nil ?_
                        exact thenN (cutLeaf (v := x1.2.2 x8.toNat) hr (weak0 ((sT rfl (sT rfl (sT rfl (sT rfl (sT rfl (sT rfl (sT rfl (sT rfl sT0))))))))) (sub_keep sub_nil)))
                      · rintro x12 hr
                        show AW Hfaa.prog _ _ _ ⟨[(5, .inl (is (I64 x3))), (6, .inl (is (I64 x4))), (7, .inr (.inr (.inl (24, 0, (w64 ((w64 ((x1.2.1 : Int) + x3)) + 1)).toNat, (w64 ((w64 ((x1.2.1 : Int) + x3)) + 1)).toNat)))), (25, .inl (ns U32 x1)), (26, .inl (is (I64 x7))), (27, .inl (is (I64 x8))), (8, .inl (is (I64 x8))), (9, .inl (is (U32 x12)))], [(24, pb 65 (ar U32 ((w64 ((w64 ((x1.2.1 : Int) + x3)) + 1)).toNat) x9 ++ []))]⟩
                        have hr : some out2 = F64_10 N x1 x3 x4 x7 x8 x9 x12 := hr
                        refine AW_cut (σ := BitVec 64) (fun v => ⟨[(5, .inl (is (I64 x3))), (6, .inl (is (I64 x4))), (7, .inr (.inr (.inl (24, 0, (w64 ((w64 ((x1.2.1 : Int) + x3)) + 1)).toNat, (w64 ((w64 ((x1.2.1 : Int) + x3)) + 1)).toNat)))), (25, .inl (ns U32 x1)), (26, .inl (is (I64 x7))), (27, .inl (is (I64 x8))), (8, .inl (is (I64 x8))), (10, .inl (is (U64 v)))], [(24, pb 65 (ar U32 ((w64 ((w64 ((x1.2.1 : Int) + x3)) + 1)).toNat) x9 ++ []))]⟩) (fun v => some out2 = F64_11 N x1 x3 x4 x7 x8 x9 v) ?_ ?_
                        · skip
                          refine AW_region ?_
                          refine AL_cons (LR_move (at_tmp 9 _) rfl) (sS (sT1 rfl) sB0 sF0) ?_
                          refine AL_cons (LR_conv (vx := U32 x12) (at_tmp 32 _) (conv_U64 Hfaa.underlying65 Hfaa.underlying30 (x12.toNat : Int)) rfl) (sS (sT1 rfl) sB0 sF0) ?_
                          refine AL_cons (LR_move (at_tmp 6 _) rfl) (sS (sT1 rfl) sB0 sF0) ?_
                          obtain ⟨hg108, hr⟩ := guard_some hr
                          refine AL_cons (LR_bin (at_tmp 33 _) (at_tmp 34 _) (shl_U64 (BitVec.ofInt 64 (x12.toNat : Int)) x4 (of_decide_eq_true hg108)) rfl) (sS (sA (sT1 rfl) (sT1 rfl)) sB0 sF0) ?_
                          refine AL_cons (LR_assign (at_tmp 35 _) rfl) (sS (sT1 rfl) sB0 sF0) ?_
                          refine AL_nil ?_
                          exact thenN (cutLeaf (v := (BitVec.ofInt 64 (x12.toNat : Int)) <<< x4.toNat) hr (weak0 ((sT rfl (sT rfl (sT rfl (sT rfl (sT rfl (sT rfl (sT rfl (sT rfl sT0))))))))) (sub_keep sub_nil)))
                        · rintro x13 hr
                          show AW Hfaa.prog _ _ _ ⟨[(5, .inl (is (I64 x3))), (6, .inl (is (I64 x4))), (7, .inr (.inr (.inl (24, 0, (w64 ((w64 ((x1.2.1 : Int) + x3)) + 1)).toNat, (w64 ((w64 ((x1.2.1 : Int) + x3)) + 1)).toNat)))), (25, .inl (ns U32 x1)), (26, .inl (is (I64 x7))), (27, .inl (is (I64 x8))), (8, .inl (is (I64 x8))), (10, .inl (is (U64 x13)))], [(24, pb 65 (ar U32 ((w64 ((w64 ((x1.2.1 : Int) + x3)) + 1)).toNat) x9 ++ []))]⟩
                          have hr : some out2 = F64_11 N x1 x3 x4 x7 x8 x9 x13 := hr
                          refine AW_cut (σ := (Nat → BitVec 32)) (fun v => ⟨[(5, .inl (is (I64 x3))), (6, .inl (is (I64 x4))), (7, .inr (.inr (.inl (24, 0, (w64 ((w64 ((x1.2.1 : Int) + x3)) + 1)).toNat, (w64 ((w64 ((x1.2.1 : Int) + x3)) + 1)).toNat)))), (25, .inl (ns U32 x1)), (26, .inl (is (I64 x7))), (27, .inl (is (I64 x8))), (8, .inl (is (I64 x8))), (10, .inl (is (U64 x13)))], [(24, pb 65 (ar U32 ((w64 ((w64 ((x1.2.1 : Int) + x3)) + 1)).toNat) v ++ []))]⟩) (fun v => some out2 = F64_12 N x1 x3 x4 x7 x8 x13 v) ?_ ?_
                          · skip
                            refine AW_region ?_
                            refine AL_cons (LR_move (at_tmp 7 _) rfl) (sS (sT1 rfl) sB0 sF0) ?_
                            refine AL_cons (LR_move (at_tmp 8 _) rfl) (sS (sT1 rfl) sB0 sF0) ?_
                            refine AL_cons (LR_move (at_tmp 5 _) rfl) (sS (sT1 rfl) sB0 sF0) ?_
                            refine AL_cons (LR_bin (at_tmp 37 _) (at_tmp 38 _) (add_I64 x8 x3) rfl) (sS (sA (sT1 rfl) (sT1 rfl)) sB0 sF0) ?_
                            obtain ⟨hg106, hr⟩ := guard_some hr
                            refine AL_cons (LR_indexAddrS (o := (w64 (x8 + x3)).toNat) Hfaa.underlying49 sz65 (at_tmp 36 _) (at_tmp 39 _) (dand hg106) (by first | rfl | omega) rfl) (sS (sA (sT1 rfl) (sT1 rfl)) sB0 sF0) ?_
                            refine AL_cons (LR_load (at_tmp 40 _) na65 (gA (ltn (dand hg106))) rfl) (sS (sT1 rfl) (sB1 rfl) sF0) ?_
                            refine AL_cons (LR_move (at_tmp 10 _) rfl) (sS (sT1 rfl) sB0 sF0) ?_
                            refine AL_cons (LR_conv (vx := U64 x13) (at_tmp 42 _) (conv_U32 Hfaa.underlying30 Hfaa.underlying65 (x13.toNat : Int)) rfl) (sS (sT1 rfl) sB0 sF0) ?_
                            refine AL_cons (LR_bin (at_tmp 41 _) (at_tmp 43 _) (or_U32 (x9 ((w64 (x8 + x3)).toNat)) (BitVec.ofInt 32 (x13.toNat : Int))) rfl) (sS (sA (sT1 rfl) (sT1 rfl)) sB0 sF0) ?_
                            obtain ⟨hg107, hr⟩ := guard_some hr
                            refine AL_cons (LR_indexAddrS (o := (w64 (x8 + x3)).toNat) Hfaa.underlying49 sz65 (at_tmp 36 _) (at_tmp 39 _) (dand hg107) (by first | rfl | omega) rfl) (sS (sA (sT1 rfl) (sT1 rfl)) sB0 sF0) ?_
                            refine AL_cons (LR_storeA (at_tmp 45 _) (at_tmp 44 _) (cells_one (one_is rfl)) (onC (one_is rfl) onN) sz65 rfl (ble_dyn (lnA ln0) (by have := (ltn (dand hg107)); omega)) (stA (ltn (dand hg107)))) (sS (sA (sT1 rfl) (sT1 rfl)) (sB1 rfl) sF0) ?_
                            refine AL_nil ?_
                            exact thenN (cutLeaf (v := upd x9 ((w64 (x8 + x3)).toNat) ((x9 ((w64 (x8 + x3)).toNat)) ||| (BitVec.ofInt 32 (x13.toNat : Int)))) hr (weak0 ((sT rfl (sT rfl (sT rfl (sT rfl (sT rfl (sT rfl (sT rfl (sT rfl sT0))))))))) (sub_keep sub_nil)))
                          · rintro x14 hr
                            show AW Hfaa.prog _ _ _ ⟨[(5, .inl (is (I64 x3))), (6, .inl (is (I64 x4))), (7, .inr (.inr (.inl (24, 0, (w64 ((w64 ((x1.2.1 : Int) + x3)) + 1)).toNat, (w64 ((w64 ((x1.2.1 : Int) + x3)) + 1)).toNat)))), (25, .inl (ns U32 x1)), (26, .inl (is (I64 x7))), (27, .inl (is (I64 x8))), (8, .inl (is (I64 x8))), (10, .inl (is (U64 x13)))], [(24, pb 65 (ar U32 ((w64 ((w64 ((x1.2.1 : Int) + x3)) + 1)).toNat) x14 ++ []))]⟩
                            have hr : some out2 = F64_12 N x1 x3 x4 x7 x8 x13 x14 := hr
                            refine AW_region ?_
                            refine AL_cons (LR_move (at_tmp 7 _) rfl) (sS (sT1 rfl) sB0 sF0) ?_
                            refine AL_cons (LR_move (at_tmp 8 _) rfl) (sS (sT1 rfl) sB0 sF0) ?_
                            refine AL_cons (LR_move (at_tmp 5 _) rfl) (sS (sT1 rfl) sB0 sF0) ?_
                            refine AL_cons (LR_bin (at_tmp 47 _) (at_tmp 48 _) (add_I64 x8 x3) rfl) (sS (sA (sT1 rfl) (sT1 rfl)) sB0 sF0) ?_
                            refine AL_cons (LR_bin (at_tmp 49 _) (at_c (v' := I64 1) rfl) (add_I64 (w64 (x8 + x3)) 1) rfl) (sS (sA (sT1 rfl) sT0) sB0 sF0) ?_
                            refine AL_cons (LR_move (at_tmp 10 _) rfl) (sS (sT1 rfl) sB0 sF0) ?_
                            refine AL_cons (LR_bin (at_tmp 51 _) (at_c (v' := U64 (32#64)) rfl) (shr_U64 x13 ((32#64).toNat : Int) (Int.natCast_nonneg _)) rfl) (sS (sA (sT1 rfl) sT0) sB0 sF0) ?_
                            refine AL_cons (LR_conv (vx := U64 (x13 >>> 32)) (at_tmp 52 _) (conv_U32 Hfaa.underlying30 Hfaa.underlying65 ((x13 >>> 32).toNat : Int)) rfl) (sS (sT1 rfl) sB0 sF0) ?_
                            obtain ⟨hg105, hr⟩ := guard_some hr
                            refine AL_cons (LR_indexAddrS (o := (w64 ((w64 (x8 + x3)) + 1)).toNat) Hfaa.underlying49 sz65 (at_tmp 46 _) (at_tmp 50 _) (dand hg105) (by first | rfl | omega) rfl) (sS (sA (sT1 rfl) (sT1 rfl)) sB0 sF0) ?_
                            refine AL_cons (LR_storeA (at_tmp 54 _) (at_tmp 53 _) (cells_one (one_is rfl)) (onC (one_is rfl) onN) sz65 rfl (ble_dyn (lnA ln0) (by have := (ltn (dand hg105)); omega)) (stA (ltn (dand hg105)))) (sS (sA (sT1 rfl) (sT1 rfl)) (sB1 rfl) sF0) ?_
                            refine AL_nil ?_
                            refine blN ?_
                            exact thenN (cutLeaf (v := upd x14 ((w64 ((w64 (x8 + x3)) + 1)).toNat) (BitVec.ofInt 32 ((x13 >>> 32).toNat : Int))) hr (weak0 ((sT rfl (sT rfl (sT rfl (sT rfl (sT rfl (sT rfl sT0))))))) (sub_keep sub_nil)))
                    · rintro x11 hr
                      show AW Hfaa.prog _ _ _ ⟨[(5, .inl (is (I64 x3))), (6, .inl (is (I64 x4))), (7, .inr (.inr (.inl (24, 0, (w64 ((w64 ((x1.2.1 : Int) + x3)) + 1)).toNat, (w64 ((w64 ((x1.2.1 : Int) + x3)) + 1)).toNat)))), (25, .inl (ns U32 x1)), (26, .inl (is (I64 x7))), (27, .inl (is (I64 x8)))], [(24, pb 65 (ar U32 ((w64 ((w64 ((x1.2.1 : Int) + x3)) + 1)).toNat) x11 ++ []))]⟩
                      have hr : some out2 = F64_9 N x1 x3 x4 x7 x8 x11 := hr
                      refine AW_region ?_
                      refine AL_cons (LR_bin (at_tmp 27 _) (at_c (v' := I64 1) rfl) (add_I64 x8 1) rfl) (sS (sA (sT1 rfl) sT0) sB0 sF0) ?_
                      refine AL_cons (LR_move (at_tmp 55 _) rfl) (sS (sT1 rfl) sB0 sF0) ?_
                      refine AL_nil ?_
                      exact thenN (loopNext (x' := (w64 (x8 + 1), x11)) hr (weak0 ((sT rfl (sT rfl (sT rfl (sT rfl (sT rfl (sT rfl sT0))))))) (sub_keep sub_nil)))
                  · have hr := hr.trans (cond_f h)
                    clear h
                    refine AW_exit ?_
                    refine thenX ?_
                    obtain ⟨r', hro, hr⟩ := map_inr hr
                    refine thenX (loopOut hro (fun he => ?_))
                    rw [he] at hr
                    refine blH ?_
                    exact thenN (cutLeaf (v := x9) hr (weak0 ((sT rfl sT0)) (sub_keep sub_nil)))
            · rintro x6 hr
              show AW Hfaa.prog _ _ _ ⟨[(7, .inr (.inr (.inl (24, 0, (w64 ((w64 ((x1.2.1 : Int) + x3)) + 1)).toNat, (w64 ((w64 ((x1.2.1 : Int) + x3)) + 1)).toNat))))], [(24, pb 65 (ar U32 ((w64 ((w64 ((x1.2.1 : Int) + x3)) + 1)).toNat) x6 ++ []))]⟩
              have hr : some r = F64_5 N x1 x3 x6 := hr
              refine AW_seq1 ?_
              refine AW_region ?_
              refine AL_cons (LR_move (at_tmp 7 _) rfl) (sS (sT1 rfl) sB0 sF0) ?_
              refine AL_frz U32 24 ⟨[(7, .inl (ns U32 ((false, (w64 ((w64 ((x1.2.1 : Int) + x3)) + 1)).toNat, x6)))), (56, .inl (ns U32 ((false, (w64 ((w64 ((x1.2.1 : Int) + x3)) + 1)).toNat, x6))))], []⟩ rfl (sub_drop sub_nil) rfl (fzC rfl (Nat.le_refl _) (Nat.le_refl _) (fzC rfl (Nat.le_refl _) (Nat.le_refl _) fz0)) ?_
              obtain ⟨y3, hy3, hr⟩ := bind_some hr
              refine AL_cons (LR_call Hfaa.func33 rfl rfl (C33 N ((false, (w64 ((w64 ((x1.2.1 : Int) + x3)) + 1)).toNat, x6)) y3 hy3) (all_cons (at_tmp 56 _) all_nil) rfl) (sS (sA (sT1 rfl) sT0) sB0 sF0) ?_
              refine AL_cons (LR_assign (at_tmp 57 _) rfl) (sS (sT1 rfl) sB0 sF0) ?_
              refine AL_nil ?_
              refine thenN ?_
              refine AW_ret ?_
              obtain rfl := Option.some.inj hr
              exact res1 rfl (rvT rfl)
/-- nat.Shl -/
def F36 (N : Nat) (a0 : NS (BitVec 32)) (a1 : BitVec 16) : Option (NS (BitVec 32)) := (F64 N a0 (w64 (a1.toNat : Int))).bind fun y2 => some y2
theorem C36 (N : Nat) (a0 : NS (BitVec 32)) (a1 : BitVec 16) (r : NS (BitVec 32)) (hr : some r = F36 N a0 a1) : Aw.Fn Hfaa.prog 36 [ns U32 a0, is (U16 a1)] (ns U32 r) := by
  refine fn_intro Hfaa.func36 rfl rfl rfl ?_
  intro bn0 w0 H0
  refine AW_seq1 ?_
  refine AW_region ?_
  refine AL_cons (LR_assign (at_ns0 (K := U32) (fun _ => 0#32)) rfl) (sS sT0 sB0 sF0) ?_
  refine AL_nil ?_
  refine thenN ?_
  refine AW_seq1 ?_
  refine AW_region ?_
  refine AL_cons (LR_move (at_tmp 0 _) rfl) (sS (sT1 rfl) sB0 sF0) ?_
  refine AL_cons (LR_move (at_tmp 1 _) rfl) (sS (sT1 rfl) sB0 sF0) ?_
  refine AL_cons (LR_conv (vx := U16 a1) (at_tmp 6 _) (conv_I64 Hfaa.underlying71 Hfaa.underlying3 (a1.toNat : Int)) rfl) (sS (sT1 rfl) sB0 sF0) ?_
  obtain ⟨y2, hy2, hr⟩ := bind_some hr
  refine AL_cons (LR_call Hfaa.func64 rfl rfl (C64 N a0 (w64 (a1.toNat : Int)) y2 hy2) (all_cons (at_tmp 5 _) (all_cons (at_tmp 7 _) all_nil)) rfl) (sS (sA (sT1 rfl) (sA (sT1 rfl) sT0)) sB0 sF0) ?_
  refine AL_cons (LR_assign (at_tmp 8 _) rfl) (sS (sT1 rfl) sB0 sF0) ?_
  refine AL_nil ?_
  refine thenN ?_
  refine AW_ret ?_
  obtain rfl := Option.some.inj hr
  exact res1 rfl (rvT rfl)
/-- nat.Cmp -/
def F60_3 (N : Nat) (x4 : Bool) : Option (Int) := bif x4 then some (-1) else some 1
def F60_8 (N : Nat) (x1 : NS (BitVec 32)) (x2 : NS (BitVec 32)) (x6 : Int) (x9 : Bool) : Option ((Int) ⊕ (Int)) := bif x9 then (some 1).map Sum.inr else some (.inl (w64 (x6 - 1)))
def F60_7 (N : Nat) (x1 : NS (BitVec 32)) (x2 : NS (BitVec 32)) (x6 : Int) (x8 : Bool) : Option ((Int) ⊕ (Int)) := bif x8 then (some (-1)).map Sum.inr else bif (decide (0 ≤ x6) && decide (x6 < (x1.2.1 : Int))) then bif (decide (0 ≤ x6) && decide (x6 < (x2.2.1 : Int))) then F60_8 N x1 x2 x6 (decide ((x2.2.2 x6.toNat).toNat < (x1.2.2 x6.toNat).toNat)) else none else none
def F60_6 (N : Nat) (x1 : NS (BitVec 32)) (x2 : NS (BitVec 32)) (x6 : Int) (x7 : Bool) : Option ((Int) ⊕ (Int)) := bif x7 then bif (decide (0 ≤ x6) && decide (x6 < (x1.2.1 : Int))) then bif (decide (0 ≤ x6) && decide (x6 < (x2.2.1 : Int))) then F60_7 N x1 x2 x6 (decide ((x1.2.2 x6.toNat).toNat < (x2.2.2 x6.toNat).toNat)) else none else none else (some 0).map Sum.inr
def F60_L5b (N : Nat) (x1 : NS (BitVec 32)) (x2 : NS (BitVec 32)) (x6 : Int) : Option ((Int) ⊕ (Int)) := F60_6 N x1 x2 x6 (decide (x6 ≥ 0))
def F60_L5 (N : Nat) (x1 : NS (BitVec 32)) (x2 : NS (BitVec 32)) : (Int) → Option ((Int) ⊕ (Int)) := fun v => F60_L5b N x1 x2 v
def F60_4 (N : Nat) (x1 : NS (BitVec 32)) (x2 : NS (BitVec 32)) (x5 : Int) : Option (Int) := iterL (F60_L5 N x1 x2) N x5
def F60_2 (N : Nat) (x1 : NS (BitVec 32)) (x2 : NS (BitVec 32)) (x3 : Bool) : Option (Int) := bif x3 then F60_3 N (decide ((x1.2.1 : Int) < (x2.2.1 : Int))) else F60_4 N x1 x2 (w64 ((x1.2.1 : Int) - 1))
def F60_1 (N : Nat) (x1 : NS (BitVec 32)) (x2 : NS (BitVec 32)) : Option (Int) := F60_2 N x1 x2 ((x1.2.1 : Int) != (x2.2.1 : Int))
def F60 (N : Nat) (a0 : NS (BitVec 32)) (a1 : NS (BitVec 32)) : Option (Int) := (F33 N a0).bind fun y3 => (F33 N a1).bind fun y4 => F60_1 N y3 y4
theorem C60 (N : Nat) (a0 : NS (BitVec 32)) (a1 : NS (BitVec 32)) (r : Int) (hr : some r = F60 N a0 a1) : Aw.Fn Hfaa.prog 60 [ns U32 a0, ns U32 a1] (is (I8 r)) := by
  refine fn_intro Hfaa.func60 rfl rfl rfl ?_
  intro bn0 w0 H0
  refine AW_seq1 ?_
  refine AW_region ?_
  refine AL_cons (LR_assign (at_c (v' := I8 0) rfl) rfl) (sS sT0 sB0 sF0) ?_
  refine AL_nil ?_
  refine thenN ?_
  refine AW_cut (σ := NS (BitVec 32) × NS (BitVec 32)) (fun v => ⟨[(0, .inl (ns U32 v.1)), (1, .inl (ns U32 v.2))], []⟩) (fun v => some r = F60_1 N v.1 v.2) ?_ ?_
  · skip
    refine AW_region ?_
    refine AL_cons (LR_move (at_tmp 0 _) rfl) (sS (sT1 rfl) sB0 sF0) ?_
    obtain ⟨y3, hy3, hr⟩ := bind_some hr
    refine AL_cons (LR_call Hfaa.func33 rfl rfl (C33 N a0 y3 hy3) (all_cons (at_tmp 6 _) all_nil) rfl) (sS (sA (sT1 rfl) sT0) sB0 sF0) ?_
    refine AL_cons (LR_move (at_tmp 1 _) rfl) (sS (sT1 rfl) sB0 sF0) ?_
    obtain ⟨y4, hy4, hr⟩ := bind_some hr
    refine AL_cons (LR_call Hfaa.func33 rfl rfl (C33 N a1 y4 hy4) (all_cons (at_tmp 8 _) all_nil) rfl) (sS (sA (sT1 rfl) sT0) sB0 sF0) ?_
    refine AL_cons (LR_assign (at_tmp 7 _) rfl) (sS (sT1 rfl) sB0 sF0) ?_
    refine AL_cons (LR_assign (at_tmp 9 _) rfl) (sS (sT1 rfl) sB0 sF0) ?_
    refine AL_nil ?_
    exact thenN (cutLeaf (v := (y3, y4)) hr (weak0 ((sT rfl (sT rfl sT0))) sub_nil))
  · rintro ⟨x1, x2⟩ hr
    show AW Hfaa.prog _ _ _ ⟨[(0, .inl (ns U32 x1)), (1, .inl (ns U32 x2))], []⟩
    have hr : some r = F60_1 N x1 x2 := hr
    refine AW_seq1 ?_
    refine AW_cut (σ := Bool) (fun v => ⟨[(0, .inl (ns U32 x1)), (1, .inl (ns U32 x2)), (14, .inl (is (Bl v)))], []⟩) (fun v => some r = F60_2 N x1 x2 v) ?_ ?_
    · skip
      refine AW_region ?_
      refine AL_cons (LR_move (at_tmp 0 _) rfl) (sS (sT1 rfl) sB0 sF0) ?_
      refine AL_cons (LR_bi1 (at_tmp 10 _) (len_ns Hfaa.underlying49 x1) rfl) (sS (sT1 rfl) sB0 sF0) ?_
      refine AL_cons (LR_move (at_tmp 1 _) rfl) (sS (sT1 rfl) sB0 sF0) ?_
      refine AL_cons (LR_bi1 (at_tmp 12 _) (len_ns Hfaa.underlying49 x2) rfl) (sS (sT1 rfl) sB0 sF0) ?_
      refine AL_cons (LR_bin (at_tmp 11 _) (at_tmp 13 _) (neq_I64 (x1.2.1 : Int) (x2.2.1 : Int)) rfl) (sS (sA (sT1 rfl) (sT1 rfl)) sB0 sF0) ?_
      refine AL_nil ?_
      exact thenN (cutLeaf (v := (x1.2.1 : Int) != (x2.2.1 : Int)) hr (weak0 ((sT rfl (sT rfl (sT rfl sT0)))) sub_nil))
    · rintro x3 hr
      show AW Hfaa.prog _ _ _ ⟨[(0, .inl (ns U32 x1)), (1, .inl (ns U32 x2)), (14, .inl (is (Bl x3)))], []⟩
      have hr : some r = F60_2 N x1 x2 x3 := hr
      refine AW_condT (b := x3) rfl (fun h => ?_) (fun h => ?_)
      · have hr := hr.trans (cond_t h)
        clear h
        refine AW_seq1 ?_
        refine AW_cut (σ := Bool) (fun v => ⟨[(19, .inl (is (Bl v)))], []⟩) (fun v => some r = F60_3 N v) ?_ ?_
        · skip
          refine AW_region ?_
          refine AL_cons (LR_move (at_tmp 0 _) rfl) (sS (sT1 rfl) sB0 sF0) ?_
          refine AL_cons (LR_bi1 (at_tmp 15 _) (len_ns Hfaa.underlying49 x1) rfl) (sS (sT1 rfl) sB0 sF0) ?_
          refine AL_cons (LR_move (at_tmp 1 _) rfl) (sS (sT1 rfl) sB0 sF0) ?_
          refine AL_cons (LR_bi1 (at_tmp 17 _) (len_ns Hfaa.underlying49 x2) rfl) (sS (sT1 rfl) sB0 sF0) ?_
          refine AL_cons (LR_bin (at_tmp 16 _) (at_tmp 18 _) (lss_I64 (x1.2.1 : Int) (x2.2.1 : Int)) rfl) (sS (sA (sT1 rfl) (sT1 rfl)) sB0 sF0) ?_
          refine AL_nil ?_
          exact thenN (cutLeaf (v := decide ((x1.2.1 : Int) < (x2.2.1 : Int))) hr (weak0 ((sT rfl sT0)) sub_nil))
        · rintro x4 hr
          show AW Hfaa.prog _ _ _ ⟨[(19, .inl (is (Bl x4)))], []⟩
          have hr : some r = F60_3 N x4 := hr
          refine AW_condT (b := x4) rfl (fun h => ?_) (fun h => ?_)
          · have hr := hr.trans (cond_t h)
            clear h
            refine AW_seq1 ?_
            refine AW_region ?_
            refine AL_cons (LR_assign (at_c (v' := I8 (-1)) rfl) rfl) (sS sT0 sB0 sF0) ?_
            refine AL_nil ?_
            refine thenN ?_
            refine AW_ret ?_
            refine thenR ?_
            refine thenR ?_
            obtain rfl := Option.some.inj hr
            exact res1 rfl (rvT rfl)
          · have hr := hr.trans (cond_f h)
            clear h
            refine AW_skip ?_
            refine thenN ?_
            refine AW_seq1 ?_
            refine AW_region ?_
            refine AL_cons (LR_assign (at_c (v' := I8 1) rfl) rfl) (sS sT0 sB0 sF0) ?_
            refine AL_nil ?_
            refine thenN ?_
            refine AW_ret ?_
            refine thenR ?_
            obtain rfl := Option.some.inj hr
            exact res1 rfl (rvT rfl)
      · have hr := hr.trans (cond_f h)
        clear h
        refine AW_skip ?_
        refine thenN ?_
        refine AW_seq1 ?_
        refine AW_cut (σ := Int) (fun v => ⟨[(0, .inl (ns U32 x1)), (1, .inl (ns U32 x2)), (5, .inl (is (I64 v)))], []⟩) (fun v => some r = F60_4 N x1 x2 v) ?_ ?_
        · skip
          refine AW_region ?_
          refine AL_cons (LR_move (at_tmp 0 _) rfl) (sS (sT1 rfl) sB0 sF0) ?_
          refine AL_cons (LR_bi1 (at_tmp 20 _) (len_ns Hfaa.underlying49 x1) rfl) (sS (sT1 rfl) sB0 sF0) ?_
          refine AL_cons (LR_bin (at_tmp 21 _) (at_c (v' := I64 1) rfl) (sub_I64 (x1.2.1 : Int) 1) rfl) (sS (sA (sT1 rfl) sT0) sB0 sF0) ?_
          refine AL_cons (LR_assign (at_tmp 22 _) rfl) (sS (sT1 rfl) sB0 sF0) ?_
          refine AL_nil ?_
          exact thenN (cutLeaf (v := w64 ((x1.2.1 : Int) - 1)) hr (weak0 ((sT rfl (sT rfl (sT rfl sT0)))) sub_nil))
        · rintro x5 hr
          show AW Hfaa.prog _ _ _ ⟨[(0, .inl (ns U32 x1)), (1, .inl (ns U32 x2)), (5, .inl (is (I64 x5)))], []⟩
          have hr : some r = F60_4 N x1 x2 x5 := hr
          refine AW_block ?_
          refine AW_iterR (σ := Int) (r := r) (x0 := x5) (emb := fun v => ⟨[(0, .inl (ns U32 x1)), (1, .inl (ns U32 x2)), (5, .inl (is (I64 v)))], []⟩) ?_ hr ?_
          · exact weak0 ((sT rfl (sT rfl (sT rfl sT0)))) sub_nil
          rintro x6 out2 hr
          show AW Hfaa.prog _ _ _ ⟨[(0, .inl (ns U32 x1)), (1, .inl (ns U32 x2)), (5, .inl (is (I64 x6)))], []⟩
          have hr : some out2 = F60_L5b N x1 x2 x6 := hr
          refine AW_seq1 ?_
          refine AW_cut (σ := Bool) (fun v => ⟨[(0, .inl (ns U32 x1)), (1, .inl (ns U32 x2)), (5, .inl (is (I64 x6))), (24, .inl (is (Bl v)))], []⟩) (fun v => some out2 = F60_6 N x1 x2 x6 v) ?_ ?_
          · skip
            refine AW_region ?_
            refine AL_cons (LR_move (at_tmp 5 _) rfl) (sS (sT1 rfl) sB0 sF0) ?_
            refine AL_cons (LR_bin (at_tmp 23 _) (at_c (v' := I64 0) rfl) (geq_I64 x6 0) rfl) (sS (sA (sT1 rfl) sT0) sB0 sF0) ?_
            refine AL_nil ?_
            exact thenN (cutLeaf (v := decide (x6 ≥ 0)) hr (weak0 ((sT rfl (sT rfl (sT rfl (sT rfl sT0))))) sub_nil))
          · rintro x7 hr
            show AW Hfaa.prog _ _ _ ⟨[(0, .inl (ns U32 x1)), (1, .inl (ns U32 x2)), (5, .inl (is (I64 x6))), (24, .inl (is (Bl x7)))], []⟩
            have hr : some out2 = F60_6 N x1 x2 x6 x7 := hr
            refine AW_condT (b := x7) rfl (fun h => ?_) (fun h => ?_)
            · have hr := hr.trans (cond_t h)
              clear h
              refine AW_skip ?_
              refine thenN ?_
              refine AW_seq1 ?_
              refine AW_block ?_
              refine AW_seq1 ?_
              refine AW_cut (σ := Bool) (fun v => ⟨[(0, .inl (ns U32 x1)), (1, .inl (ns U32 x2)), (5, .inl (is (I64 x6))), (35, .inl (is (Bl v)))], []⟩) (fun v => some out2 = F60_7 N x1 x2 x6 v) ?_ ?_
              · skip
                obtain ⟨hg95, hr⟩ := guard_some hr
                obtain ⟨hg96, hr⟩ := guard_some hr
                refine AW_draw mixed
                  (lrC (LR_move (at_tmp 0 _) rfl)
                  (lrC (LR_move (at_tmp 5 _) rfl)
                  (lrC (LR_indexAddrQ Hfaa.underlying49 sz65 (at_tmp 27 _) (at_tmp 28 _) (dand hg95) rfl)
                  (lrC (LR_loadQ (at_tmp 29 _) na65 rfl)
                  (lrC (LR_move (at_tmp 1 _) rfl)
                  (lrC (LR_move (at_tmp 5 _) rfl)
                  (lrC (LR_indexAddrQ Hfaa.underlying49 sz65 (at_tmp 31 _) (at_tmp 32 _) (dand hg96) rfl)
                  (lrC (LR_loadQ (at_tmp 33 _) na65 rfl)
                  (lrC (LR_bin (at_tmp 30 _) (at_tmp 34 _) (lss_U32 (x1.2.2 x6.toNat) (x2.2.2 x6.toNat)) rfl)
                  lrN)))))))))
                  (by kernel_rfl)
                  (saC (sS (sT1 rfl) sB0 sF0) (saC (sS (sT1 rfl) sB0 sF0) (saC (sS (sA (sT1 rfl) (sT1 rfl)) sB0 sF0) (saC (sS (sT1 rfl) sB0 sF0) (saC (sS (sT1 rfl) sB0 sF0) (saC (sS (sT1 rfl) sB0 sF0) (saC (sS (sA (sT1 rfl) (sT1 rfl)) sB0 sF0) (saC (sS (sT1 rfl) sB0 sF0) (saC (sS (sA (sT1 rfl) (sT1 rfl)) sB0 sF0) saN))))))))) ?_
                exact thenN (cutLeaf (v := decide ((x1.2.2 x6.toNat).toNat < (x2.2.2 x6.toNat).toNat)) hr (weak0 ((sT rfl (sT rfl (sT rfl (sT rfl sT0))))) sub_nil))
              · rintro x8 hr
                show AW Hfaa.prog _ _ _ ⟨[(0, .inl (ns U32 x1)), (1, .inl (ns U32 x2)), (5, .inl (is (I64 x6))), (35, .inl (is (Bl x8)))], []⟩
                have hr : some out2 = F60_7 N x1 x2 x6 x8 := hr
                refine AW_condT (b := x8) rfl (fun h => ?_) (fun h => ?_)
                · have hr := hr.trans (cond_t h)
                  clear h
                  refine AW_seq1 ?_
                  refine AW_region ?_
                  refine AL_cons (LR_assign (at_c (v' := I8 (-1)) rfl) rfl) (sS sT0 sB0 sF0) ?_
                  refine AL_nil ?_
                  refine thenN ?_
                  refine AW_ret ?_
                  refine thenR ?_
                  refine blR ?_
                  refine thenR ?_
                  obtain ⟨r', hro, hr⟩ := map_inr hr
                  refine thenR (loopOut hro (fun he => ?_))
                  rw [he] at hr
                  refine blR ?_
                  refine thenR ?_
                  obtain rfl := Option.some.inj hr
                  exact res1 rfl (rvT rfl)
                · have hr := hr.trans (cond_f h)
                  clear h
                  refine AW_skip ?_
                  refine thenN ?_
                  refine AW_cut (σ := Bool) (fun v => ⟨[(0, .inl (ns U32 x1)), (1, .inl (ns U32 x2)), (5, .inl (is (I64 x6))), (44, .inl (is (Bl v)))], []⟩) (fun v => some out2 = F60_8 N x1 x2 x6 v) ?_ ?_
                  · skip
                    obtain ⟨hg93, hr⟩ := guard_some hr
                    obtain ⟨hg94, hr⟩ := guard_some hr
                    refine AW_draw mixed
                      (lrC (LR_move (at_tmp 0 _) rfl)
                      (lrC (LR_move (at_tmp 5 _) rfl)
                      (lrC (LR_indexAddrQ Hfaa.underlying49 sz65 (at_tmp 36 _) (at_tmp 37 _) (dand hg93) rfl)
                      (lrC (LR_loadQ (at_tmp 38 _) na65 rfl)
                      (lrC (LR_move (at_tmp 1 _) rfl)
                      (lrC (LR_move (at_tmp 5 _) rfl)
                      (lrC (LR_indexAddrQ Hfaa.underlying49 sz65 (at_tmp 40 _) (at_tmp 41 _) (dand hg94) rfl)
                      (lrC (LR_loadQ (at_tmp 42 _) na65 rfl)
                      (lrC (LR_bin (at_tmp 39 _) (at_tmp 43 _) (gtr_U32 (x1.2.2 x6.toNat) (x2.2.2 x6.toNat)) rfl)
                      lrN)))))))))
                      (by kernel_rfl)
                      (saC (sS (sT1 rfl) sB0 sF0) (saC (sS (sT1 rfl) sB0 sF0) (saC (sS (sA (sT1 rfl) (sT1 rfl)) sB0 sF0) (saC (sS (sT1 rfl) sB0 sF0) (saC (sS (sT1 rfl) sB0 sF0) (saC (sS (sT1 rfl) sB0 sF0) (saC (sS (sA (sT1 rfl) (sT1 rfl)) sB0 sF0) (saC (sS (sT1 rfl) sB0 sF0) (saC (sS (sA (sT1 rfl) (sT1 rfl)) sB0 sF0) saN))))))))) ?_
                    exact thenN (cutLeaf (v := decide ((x2.2.2 x6.toNat).toNat < (x1.2.2 x6.toNat).toNat)) hr (weak0 ((sT rfl (sT rfl (sT rfl (sT rfl sT0))))) sub_nil))
                  · rintro x9 hr
                    show AW Hfaa.prog _ _ _ ⟨[(0, .inl (ns U32 x1)), (1, .inl (ns U32 x2)), (5, .inl (is (I64 x6))), (44, .inl (is (Bl x9)))], []⟩
                    have hr : some out2 = F60_8 N x1 x2 x6 x9 := hr
                    refine AW_condT (b := x9) rfl (fun h => ?_) (fun h => ?_)
                    · have hr := hr.trans (cond_t h)
                      clear h
                      refine AW_seq1 ?_
                      refine AW_region ?_
                      refine AL_cons (LR_assign (at_c (v' := I8 1) rfl) rfl) (sS sT0 sB0 sF0) ?_
                      refine AL_nil ?_
                      refine thenN ?_
                      refine AW_ret ?_
                      refine blR ?_
                      refine thenR ?_
                      obtain ⟨r', hro, hr⟩ := map_inr hr
                      refine thenR (loopOut hro (fun he => ?_))
                      rw [he] at hr
                      refine blR ?_
                      refine thenR ?_
                      obtain rfl := Option.some.inj hr
                      exact res1 rfl (rvT rfl)
                    · have hr := hr.trans (cond_f h)
                      clear h
                      refine AW_skip ?_
                      refine blN ?_
                      refine thenN ?_
                      refine AW_region ?_
                      refine AL_cons (LR_move (at_tmp 5 _) rfl) (sS (sT1 rfl) sB0 sF0) ?_
                      refine AL_cons (LR_bin (at_tmp 25 _) (at_c (v' := I64 1) rfl) (sub_I64 x6 1) rfl) (sS (sA (sT1 rfl) sT0) sB0 sF0) ?_
                      refine AL_cons (LR_assign (at_tmp 26 _) rfl) (sS (sT1 rfl) sB0 sF0) ?_
                      refine AL_nil ?_
                      exact thenN (loopNext (x' := w64 (x6 - 1)) hr (weak0 ((sT rfl (sT rfl (sT rfl sT0)))) sub_nil))
            · have hr := hr.trans (cond_f h)
              clear h
              refine AW_exit ?_
              refine thenX ?_
              obtain ⟨r', hro, hr⟩ := map_inr hr
              refine thenX (loopOut hro (fun he => ?_))
              rw [he] at hr
              refine blH ?_
              refine thenN ?_
              refine AW_seq1 ?_
              refine AW_region ?_
              refine AL_cons (LR_assign (at_c (v' := I8 0) rfl) rfl) (sS sT0 sB0 sF0) ?_
              refine AL_nil ?_
              refine thenN ?_
              refine AW_ret ?_
              obtain rfl := Option.some.inj hr
              exact res1 rfl (rvT rfl)
/-- nat.Take -/
def F61_4 (N : Nat) (x1 : NS (BitVec 32)) (x4 : Nat → BitVec 32) : Option (NS (BitVec 32)) := some ((false, (x1.2.1 : Int).toNat, x4))
def F61_3 (N : Nat) (x1 : NS (BitVec 32)) (x3 : Nat → BitVec 32) : Option (NS (BitVec 32)) := bif decide (x1.2.1 ≤ (x1.2.1 : Int).toNat) then F61_4 N x1 (cpy x3 x1.2.1 x1.2.2) else none
def F61_2 (N : Nat) (x1 : NS (BitVec 32)) (x2 : Bool) : Option (NS (BitVec 32)) := bif x2 then some (true, 0, fun _ => 0#32) else bif (decide (0 ≤ (x1.2.1 : Int)) && decide ((x1.2.1 : Int) ≤ 1099511627776)) then F61_3 N x1 (fun _ => 0#32) else none
def F61_1 (N : Nat) (x1 : NS (BitVec 32)) : Option (NS (BitVec 32)) := F61_2 N x1 x1.1
def F61 (N : Nat) (a0 : NS (BitVec 32)) : Option (NS (BitVec 32)) := (F33 N a0).bind fun y2 => F61_1 N y2
theorem C61 (N : Nat) (a0 : NS (BitVec 32)) (r : NS (BitVec 32)) (hr : some r = F61 N a0) : Aw.Fn Hfaa.prog 61 [ns U32 a0] (ns U32 r) := by
  refine fn_intro Hfaa.func61 rfl rfl rfl ?_
  intro bn0 w0 H0
  refine AW_seq1 ?_
  refine AW_region ?_
  refine AL_cons (LR_assign (at_ns0 (K := U32) (fun _ => 0#32)) rfl) (sS sT0 sB0 sF0) ?_
  refine AL_nil ?_
  refine thenN ?_
  refine AW_cut (σ := NS (BitVec 32)) (fun v => ⟨[(3, .inl (ns U32 v))], []⟩) (fun v => some r = F61_1 N v) ?_ ?_
  · skip
    refine AW_region ?_
    refine AL_cons (LR_move (at_tmp 0 _) rfl) (sS (sT1 rfl) sB0 sF0) ?_
    obtain ⟨y2, hy2, hr⟩ := bind_some hr
    refine AL_cons (LR_call Hfaa.func33 rfl rfl (C33 N a0 y2 hy2) (all_cons (at_tmp 5 _) all_nil) rfl) (sS (sA (sT1 rfl) sT0) sB0 sF0) ?_
    refine AL_cons (LR_assign (at_tmp 6 _) rfl) (sS (sT1 rfl) sB0 sF0) ?_
    refine AL_nil ?_
    exact thenN (cutLeaf (v := y2) hr (weak0 ((sT rfl sT0)) sub_nil))
  · rintro x1 hr
    show AW Hfaa.prog _ _ _ ⟨[(3, .inl (ns U32 x1))], []⟩
    have hr : some r = F61_1 N x1 := hr
    refine AW_seq1 ?_
    refine AW_cut (σ := Bool) (fun v => ⟨[(3, .inl (ns U32 x1)), (8, .inl (is (Bl v)))], []⟩) (fun v => some r = F61_2 N x1 v) ?_ ?_
    · skip
      refine AW_region ?_
      refine AL_cons (LR_move (at_tmp 3 _) rfl) (sS (sT1 rfl) sB0 sF0) ?_
      refine AL_cons (LR_binA (at_tmp 7 _) (at_ns0 (K := U32) (fun _ => 0#32)) (eqNs Hfaa.underlying49 x1 _) rfl) (sS (sA (sT1 rfl) sT0) sB0 sF0) ?_
      refine AL_nil ?_
      exact thenN (cutLeaf (v := x1.1) hr (weak0 ((sT rfl (sT rfl sT0))) sub_nil))
    · rintro x2 hr
      show AW Hfaa.prog _ _ _ ⟨[(3, .inl (ns U32 x1)), (8, .inl (is (Bl x2)))], []⟩
      have hr : some r = F61_2 N x1 x2 := hr
      refine AW_condT (b := x2) rfl (fun h => ?_) (fun h => ?_)
      · have hr := hr.trans (cond_t h)
        clear h
        refine AW_seq1 ?_
        refine AW_region ?_
        refine AL_cons (LR_assign (at_ns0 (K := U32) (fun _ => 0#32)) rfl) (sS sT0 sB0 sF0) ?_
        refine AL_nil ?_
        refine thenN ?_
        refine AW_ret ?_
        refine thenR ?_
        obtain rfl := Option.some.inj hr
        exact res1 rfl (rvT rfl)
      · have hr := hr.trans (cond_f h)
        clear h
        refine AW_skip ?_
        refine thenN ?_
        refine AW_cut (σ := (Nat → BitVec 32)) (fun v => ⟨[(3, .inl (ns U32 x1)), (4, .inr (.inr (.inl (11, 0, (x1.2.1 : Int).toNat, (x1.2.1 : Int).toNat))))], [(11, pb 65 (ar U32 ((x1.2.1 : Int).toNat) v ++ []))]⟩) (fun v => some r = F61_3 N x1 v) ?_ ?_
        · skip
          refine AW_region ?_
          refine AL_cons (LR_move (at_tmp 3 _) rfl) (sS (sT1 rfl) sB0 sF0) ?_
          refine AL_cons (LR_bi1 (at_tmp 9 _) (len_ns Hfaa.underlying49 x1) rfl) (sS (sT1 rfl) sB0 sF0) ?_
          obtain ⟨hg4, hr⟩ := guard_some hr
          refine AL_cons (LR_makeSlice Hfaa.underlying49 el65 (at_tmp 10 _) (dand hg4) rfl) (sS (sT1 rfl) sB0 (sF1 rfl)) ?_
          refine AL_cons (LR_assign (at_tmp 11 _) rfl) (sS (sT1 rfl) sB0 sF0) ?_
          refine AL_nil ?_
          exact thenN (cutLeaf (v := fun _ => 0#32) hr (weak0 ((sT rfl (sT rfl sT0))) (sub_keep sub_nil)))
        · rintro x3 hr
          show AW Hfaa.prog _ _ _ ⟨[(3, .inl (ns U32 x1)), (4, .inr (.inr (.inl (11, 0, (x1.2.1 : Int).toNat, (x1.2.1 : Int).toNat))))], [(11, pb 65 (ar U32 ((x1.2.1 : Int).toNat) x3 ++ []))]⟩
          have hr : some r = F61_3 N x1 x3 := hr
          refine AW_cut (σ := (Nat → BitVec 32)) (fun v => ⟨[(4, .inr (.inr (.inl (11, 0, (x1.2.1 : Int).toNat, (x1.2.1 : Int).toNat))))], [(11, pb 65 (ar U32 ((x1.2.1 : Int).toNat) v ++ []))]⟩) (fun v => some r = F61_4 N x1 v) ?_ ?_
          · skip
            refine AW_region ?_
            refine AL_cons (LR_move (at_tmp 4 _) rfl) (sS (sT1 rfl) sB0 sF0) ?_
            refine AL_cons (LR_move (at_tmp 3 _) rfl) (sS (sT1 rfl) sB0 sF0) ?_
            obtain ⟨hg3, hr⟩ := guard_some hr
            refine AL_cons (LR_copyQ Hfaa.underlying49 sz65 (fun _ => rfl) (at_tmp 12 _) (at_tmp 13 _) (of_decide_eq_true hg3) rfl) (sS (sA (sT1 rfl) (sT1 rfl)) (sB1 rfl) sF0) ?_
            refine AL_nil ?_
            exact thenN (cutLeaf (v := cpy x3 x1.2.1 x1.2.2) hr (weak0 ((sT rfl sT0)) (sub_keep sub_nil)))
          · rintro x4 hr
            show AW Hfaa.prog _ _ _ ⟨[(4, .inr (.inr (.inl (11, 0, (x1.2.1 : Int).toNat, (x1.2.1 : Int).toNat))))], [(11, pb 65 (ar U32 ((x1.2.1 : Int).toNat) x4 ++ []))]⟩
            have hr : some r = F61_4 N x1 x4 := hr
            refine AW_seq1 ?_
            refine AW_region ?_
            refine AL_cons (LR_move (at_tmp 4 _) rfl) (sS (sT1 rfl) sB0 sF0) ?_
            refine AL_cons (LR_assign (at_tmp 15 _) rfl) (sS (sT1 rfl) sB0 sF0) ?_
            refine AL_nil ?_
            refine thenN ?_
            refine AW_frz U32 11 ⟨[(4, .inl (ns U32 ((false, (x1.2.1 : Int).toNat, x4)))), (15, .inl (ns U32 ((false, (x1.2.1 : Int).toNat, x4)))), (2, .inl (ns U32 ((false, (x1.2.1 : Int).toNat, x4))))], []⟩ rfl (sub_drop sub_nil) rfl (fzC rfl (Nat.le_refl _) (Nat.le_refl _) (fzC rfl (Nat.le_refl _) (Nat.le_refl _) (fzC rfl (Nat.le_refl _) (Nat.le_refl _) fz0))) ?_
            refine AW_ret ?_
            obtain rfl := Option.some.inj hr
            exact res1 rfl (rvT rfl)
/-- nat.divLimb -/
def F62_2 (N : Nat) (a0 : NS (BitVec 32)) (x2 : BitVec 64) (x3 : Nat → BitVec 32) : Option (NS (BitVec 32) × BitVec 32) := (F33 N ((false, (a0.2.1 : Int).toNat, x3))).bind fun y2 => some ((y2, BitVec.ofInt 32 (x2.toNat : Int)))
def F62_6 (N : Nat) (a0 : NS (BitVec 32)) (a1 : BitVec 32) (x6 : Int) (x9 : BitVec 64) (x10 : Nat → BitVec 32) : Option ((BitVec 64 × Int × (Nat → BitVec 32)) ⊕ (NS (BitVec 32) × BitVec 32)) := some (.inl ((x9, w64 (x6 - 1), x10)))
def F62_8 (N : Nat) (a0 : NS (BitVec 32)) (a1 : BitVec 32) (x6 : Int) (x11 : BitVec 64) (x12 : Nat → BitVec 32) : Option ((BitVec 64 × Int × (Nat → BitVec 32)) ⊕ (NS (BitVec 32) × BitVec 32)) := bif (BitVec.ofInt 64 (a1.toNat : Int)) != 0#64 then F62_6 N a0 a1 x6 (x11 % (BitVec.ofInt 64 (a1.toNat : Int))) x12 else none
def F62_7 (N : Nat) (a0 : NS (BitVec 32)) (a1 : BitVec 32) (x6 : Int) (x7 : Nat → BitVec 32) (x11 : BitVec 64) : Option ((BitVec 64 × Int × (Nat → BitVec 32)) ⊕ (NS (BitVec 32) × BitVec 32)) := bif (BitVec.ofInt 64 (a1.toNat : Int)) != 0#64 then bif (decide (0 ≤ x6) && decide (x6 < ((a0.2.1 : Int).toNat : Int))) then F62_8 N a0 a1 x6 x11 (upd x7 x6.toNat (BitVec.ofInt 32 ((x11 / (BitVec.ofInt 64 (a1.toNat : Int))).toNat : Int))) else none else none
def F62_5 (N : Nat) (a0 : NS (BitVec 32)) (a1 : BitVec 32) (x5 : BitVec 64) (x6 : Int) (x7 : Nat → BitVec 32) (x8 : Bool) : Option ((BitVec 64 × Int × (Nat → BitVec 32)) ⊕ (NS (BitVec 32) × BitVec 32)) := bif x8 then bif (decide (0 ≤ x6) && decide (x6 < (a0.2.1 : Int))) then F62_7 N a0 a1 x6 x7 ((x5 <<< 32) ||| (BitVec.ofInt 64 ((a0.2.2 x6.toNat).toNat : Int))) else none else (F62_2 N a0 x5 x7).map Sum.inr
def F62_L4b (N : Nat) (a0 : NS (BitVec 32)) (a1 : BitVec 32) (x5 : BitVec 64) (x6 : Int) (x7 : Nat → BitVec 32) : Option ((BitVec 64 × Int × (Nat → BitVec 32)) ⊕ (NS (BitVec 32) × BitVec 32)) := F62_5 N a0 a1 x5 x6 x7 (decide (x6 ≥ 0))
def F62_L4 (N : Nat) (a0 : NS (BitVec 32)) (a1 : BitVec 32) : (BitVec 64 × Int × (Nat → BitVec 32)) → Option ((BitVec 64 × Int × (Nat → BitVec 32)) ⊕ (NS (BitVec 32) × BitVec 32)) := fun v => F62_L4b N a0 a1 v.1 v.2.1 v.2.2
def F62_3 (N : Nat) (a0 : NS (BitVec 32)) (a1 : BitVec 32) (x1 : Nat → BitVec 32) (x4 : Int) : Option (NS (BitVec 32) × BitVec 32) := iterL (F62_L4 N a0 a1) N (0#64, x4, x1)
def F62_1 (N : Nat) (a0 : NS (BitVec 32)) (a1 : BitVec 32) (x1 : Nat → BitVec 32) : Option (NS (BitVec 32) × BitVec 32) := F62_3 N a0 a1 x1 (w64 ((a0.2.1 : Int) - 1))
def F62 (N : Nat) (a0 : NS (BitVec 32)) (a1 : BitVec 32) : Option (NS (BitVec 32) × BitVec 32) := bif (decide (0 ≤ (a0.2.1 : Int)) && decide ((a0.2.1 : Int) ≤ 1099511627776)) then F62_1 N a0 a1 (fun _ => 0#32) else none
theorem C62 (N : Nat) (a0 : NS (BitVec 32)) (a1 : BitVec 32) (r : NS (BitVec 32) × BitVec 32) (hr : some r = F62 N a0 a1) : Aw.Fn Hfaa.prog 62 [ns U32 a0, is (U32 a1)] (tup [ns U32 r.1, is (U32 r.2)]) := by
  refine fn_intro Hfaa.func62 rfl rfl rfl ?_
  intro bn0 w0 H0
  refine AW_seq1 ?_
  refine AW_region ?_
  refine AL_cons (LR_assign (at_ns0 (K := U32) (fun _ => 0#32)) rfl) (sS sT0 sB0 sF0) ?_
  refine AL_cons (LR_assign (at_c (v' := U32 (0#32)) rfl) rfl) (sS sT0 sB0 sF0) ?_
  refine AL_nil ?_
  refine thenN ?_
  refine AW_cut (σ := (Nat → BitVec 32)) (fun v => ⟨[(0, .inl (ns U32 a0)), (1, .inl (is (U32 a1))), (6, .inr (.inr (.inl (11, 0, (a0.2.1 : Int).toNat, (a0.2.1 : Int).toNat))))], [(11, pb 65 (ar U32 ((a0.2.1 : Int).toNat) v ++ []))]⟩) (fun v => some r = F62_1 N a0 a1 v) ?_ ?_
  · skip
    refine AW_region ?_
    refine AL_cons (LR_move (at_tmp 0 _) rfl) (sS (sT1 rfl) sB0 sF0) ?_
    refine AL_cons (LR_bi1 (at_tmp 9 _) (len_ns Hfaa.underlying49 a0) rfl) (sS (sT1 rfl) sB0 sF0) ?_
    obtain ⟨hg86, hr⟩ := guard_some hr
    refine AL_cons (LR_makeSlice Hfaa.underlying49 el65 (at_tmp 10 _) (dand hg86) rfl) (sS (sT1 rfl) sB0 (sF1 rfl)) ?_
    refine AL_cons (LR_assign (at_tmp 11 _) rfl) (sS (sT1 rfl) sB0 sF0) ?_
    refine AL_nil ?_
    exact thenN (cutLeaf (v := fun _ => 0#32) hr (weak0 ((sT rfl (sT rfl (sT rfl sT0)))) (sub_keep sub_nil)))
  · rintro x1 hr
    show AW Hfaa.prog _ _ _ ⟨[(0, .inl (ns U32 a0)), (1, .inl (is (U32 a1))), (6, .inr (.inr (.inl (11, 0, (a0.2.1 : Int).toNat, (a0.2.1 : Int).toNat))))], [(11, pb 65 (ar U32 ((a0.2.1 : Int).toNat) x1 ++ []))]⟩
    have hr : some r = F62_1 N a0 a1 x1 := hr
    refine AW_seq1 ?_
    refine AW_region ?_
    refine AL_cons (LR_assign (at_c (v' := U64 (0#64)) rfl) rfl) (sS sT0 sB0 sF0) ?_
    refine AL_nil ?_
    refine thenN ?_
    refine AW_cut (σ := BitVec 64 × (Nat → BitVec 32)) (fun v => ⟨[(6, .inr (.inr (.inl (11, 0, (a0.2.1 : Int).toNat, (a0.2.1 : Int).toNat)))), (7, .inl (is (U64 v.1)))], [(11, pb 65 (ar U32 ((a0.2.1 : Int).toNat) v.2 ++ []))]⟩) (fun v => some r = F62_2 N a0 v.1 v.2) ?_ ?_
    · skip
      refine AW_cut (σ := Int) (fun v => ⟨[(0, .inl (ns U32 a0)), (1, .inl (is (U32 a1))), (6, .inr (.inr (.inl (11, 0, (a0.2.1 : Int).toNat, (a0.2.1 : Int).toNat)))), (7, .inl (is (U64 (0#64)))), (8, .inl (is (I64 v)))], [(11, pb 65 (ar U32 ((a0.2.1 : Int).toNat) x1 ++ []))]⟩) (fun v => some r = F62_3 N a0 a1 x1 v) ?_ ?_
      · skip
        refine AW_region ?_
        refine AL_cons (LR_move (at_tmp 0 _) rfl) (sS (sT1 rfl) sB0 sF0) ?_
        refine AL_cons (LR_bi1 (at_tmp 12 _) (len_ns Hfaa.underlying49 a0) rfl) (sS (sT1 rfl) sB0 sF0) ?_
        refine AL_cons (LR_bin (at_tmp 13 _) (at_c (v' := I64 1) rfl) (sub_I64 (a0.2.1 : Int) 1) rfl) (sS (sA (sT1 rfl) sT0) sB0 sF0) ?_
        refine AL_cons (LR_assign (at_tmp 14 _) rfl) (sS (sT1 rfl) sB0 sF0) ?_
        refine AL_nil ?_
        exact thenN (cutLeaf (v := w64 ((a0.2.1 : Int) - 1)) hr (weak0 ((sT rfl (sT rfl (sT rfl (sT rfl (sT rfl sT0)))))) (sub_keep sub_nil)))
      · rintro x4 hr
        show AW Hfaa.prog _ _ _ ⟨[(0, .inl (ns U32 a0)), (1, .inl (is (U32 a1))), (6, .inr (.inr (.inl (11, 0, (a0.2.1 : Int).toNat, (a0.2.1 : Int).toNat)))), (7, .inl (is (U64 (0#64)))), (8, .inl (is (I64 x4)))], [(11, pb 65 (ar U32 ((a0.2.1 : Int).toNat) x1 ++ []))]⟩
        have hr : some r = F62_3 N a0 a1 x1 x4 := hr
        refine AW_block ?_
        refine AW_iterR (σ := BitVec 64 × Int × (Nat → BitVec 32)) (r := r) (x0 := (0#64, x4, x1)) (emb := fun v => ⟨[(0, .inl (ns U32 a0)), (1, .inl (is (U32 a1))), (6, .inr (.inr (.inl (11, 0, (a0.2.1 : Int).toNat, (a0.2.1 : Int).toNat)))), (7, .inl (is (U64 v.1))), (8, .inl (is (I64 v.2.1)))], [(11, pb 65 (ar U32 ((a0.2.1 : Int).toNat) v.2.2 ++ []))]⟩) ?_ hr ?_
        · exact weak0 ((sT rfl (sT rfl (sT rfl (sT rfl (sT rfl sT0)))))) (sub_keep sub_nil)
        rintro ⟨x5, x6, x7⟩ out2 hr
        show AW Hfaa.prog _ _ _ ⟨[(0, .inl (ns U32 a0)), (1, .inl (is (U32 a1))), (6, .inr (.inr (.inl (11, 0, (a0.2.1 : Int).toNat, (a0.2.1 : Int).toNat)))), (7, .inl (is (U64 x5))), (8, .inl (is (I64 x6)))], [(11, pb 65 (ar U32 ((a0.2.1 : Int).toNat) x7 ++ []))]⟩
        have hr : some out2 = F62_L4b N a0 a1 x5 x6 x7 := hr
        refine AW_seq1 ?_
        refine AW_cut (σ := Bool) (fun v => ⟨[(0, .inl (ns U32 a0)), (1, .inl (is (U32 a1))), (6, .inr (.inr (.inl (11, 0, (a0.2.1 : Int).toNat, (a0.2.1 : Int).toNat)))), (7, .inl (is (U64 x5))), (8, .inl (is (I64 x6))), (16, .inl (is (Bl v)))], [(11, pb 65 (ar U32 ((a0.2.1 : Int).toNat) x7 ++ []))]⟩) (fun v => some out2 = F62_5 N a0 a1 x5 x6 x7 v) ?_ ?_
        · skip
          refine AW_region ?_
          refine AL_cons (LR_move (at_tmp 8 _) rfl) (sS (sT1 rfl) sB0 sF0) ?_
          refine AL_cons (LR_bin (at_tmp 15 _) (at_c (v' := I64 0) rfl) (geq_I64 x6 0) rfl) (sS (sA (sT1 rfl) sT0) sB0 sF0) ?_
          refine AL_nil ?_
          exact thenN (cutLeaf (v := decide (x6 ≥ 0)) hr (weak0 ((sT rfl (sT rfl (sT rfl (sT rfl (sT rfl (sT rfl sT0))))))) (sub_keep sub_nil)))
        · rintro x8 hr
          show AW Hfaa.prog _ _ _ ⟨[(0, .inl (ns U32 a0)), (1, .inl (is (U32 a1))), (6, .inr (.inr (.inl (11, 0, (a0.2.1 : Int).toNat, (a0.2.1 : Int).toNat)))), (7, .inl (is (U64 x5))), (8, .inl (is (I64 x6))), (16, .inl (is (Bl x8)))], [(11, pb 65 (ar U32 ((a0.2.1 : Int).toNat) x7 ++ []))]⟩
          have hr : some out2 = F62_5 N a0 a1 x5 x6 x7 x8 := hr
          refine AW_condT (b := x8) rfl (fun h => ?_) (fun h => ?_)
          · have hr := hr.trans (cond_t h)
            clear h
            refine AW_skip ?_
            refine thenN ?_
            refine AW_cut (σ := BitVec 64 × (Nat → BitVec 32)) (fun v => ⟨[(0, .inl (ns U32 a0)), (1, .inl (is (U32 a1))), (6, .inr (.inr (.inl (11, 0, (a0.2.1 : Int).toNat, (a0.2.1 : Int).toNat)))), (7, .inl (is (U64 v.1))), (8, .inl (is (I64 x6)))], [(11, pb 65 (ar U32 ((a0.2.1 : Int).toNat) v.2 ++ []))]⟩) (fun v => some out2 = F62_6 N a0 a1 x6 v.1 v.2) ?_ ?_
            · skip
              refine AW_block ?_
              refine AW_cut (σ := BitVec 64) (fun v => ⟨[(0, .inl (ns U32 a0)), (1, .inl (is (U32 a1))), (6, .inr (.inr (.inl (11, 0, (a0.2.1 : Int).toNat, (a0.2.1 : Int).toNat)))), (7, .inl (is (U64 v))), (8, .inl (is (I64 x6)))], [(11, pb 65 (ar U32 ((a0.2.1 : Int).toNat) x7 ++ []))]⟩) (fun v => some out2 = F62_7 N a0 a1 x6 x7 v) ?_ ?_
              · skip
                refine AW_region ?_
                refine AL_cons (LR_move (at_tmp 7 _) rfl) (sS (sT1 rfl) sB0 sF0) ?_
                refine AL_cons (LR_bin (at_tmp 19 _) (at_c (v' := U64 (32#64)) rfl) (shl_U64 x5 ((32#64).toNat : Int) (Int.natCast_nonneg _)) rfl) (sS (sA (sT1 rfl) sT0) sB0 sF0) ?_
                refine AL_cons (LR_move (at_tmp 0 _) rfl) (sS (sT1 rfl) sB0 sF0) ?_
                refine AL_cons (LR_move (at_tmp 8 _) rfl) (sS (sT1 rfl) sB0 sF0) ?_
                obtain ⟨hg85, hr⟩ := guard_some hr
                refine AL_cons (LR_indexAddrQ Hfaa.underlying49 sz65 (at_tmp 21 _) (at_tmp 22 _) (dand hg85) rfl) (sS (sA (sT1 rfl) (sT1 rfl)) sB0 sF0) ?_
                refine AL_cons (LR_loadQ (at_tmp 23 _) na65 rfl) (sS (sT1 rfl) sB0 sF0) ?_
                refine AL_cons (LR_conv (vx := U32 (a0.2.2 x6.toNat)) (at_tmp 24 _) (conv_U64 Hfaa.underlying65 Hfaa.underlying30 ((a0.2.2 x6.toNat).toNat : Int)) rfl) (sS (sT1 rfl) sB0 sF0) ?_
                refine AL_cons (LR_bin (at_tmp 20 _) (at_tmp 25 _) (or_U64 (x5 <<< 32) (BitVec.ofInt 64 ((a0.2.2 x6.toNat).toNat : Int))) rfl) (sS (sA (sT1 rfl) (sT1 rfl)) sB0 sF0) ?_
                refine AL_cons (LR_assign (at_tmp 26 _) rfl) (sS (sT1 rfl) sB0 sF0) ?_
                refine AL_nil ?_
                exact thenN (cutLeaf (v := (x5 <<< 32) ||| (BitVec.ofInt 64 ((a0.2.2 x6.toNat).toNat : Int))) hr (weak0 ((sT rfl (sT rfl (sT rfl (sT rfl (sT rfl sT0)))))) (sub_keep sub_nil)))
              · rintro x11 hr
                show AW Hfaa.prog _ _ _ ⟨[(0, .inl (ns U32 a0)), (1, .inl (is (U32 a1))), (6, .inr (.inr (.inl (11, 0, (a0.2.1 : Int).toNat, (a0.2.1 : Int).toNat)))), (7, .inl (is (U64 x11))), (8, .inl (is (I64 x6)))], [(11, pb 65 (ar U32 ((a0.2.1 : Int).toNat) x7 ++ []))]⟩
                have hr : some out2 = F62_7 N a0 a1 x6 x7 x11 := hr
                refine AW_cut (σ := (Nat → BitVec 32)) (fun v => ⟨[(0, .inl (ns U32 a0)), (1, .inl (is (U32 a1))), (6, .inr (.inr (.inl (11, 0, (a0.2.1 : Int).toNat, (a0.2.1 : Int).toNat)))), (7, .inl (is (U64 x11))), (8, .inl (is (I64 x6)))], [(11, pb 65 (ar U32 ((a0.2.1 : Int).toNat) v ++ []))]⟩) (fun v => some out2 = F62_8 N a0 a1 x6 x11 v) ?_ ?_
                · skip
                  refine AW_region ?_
                  refine AL_cons (LR_move (at_tmp 6 _) rfl) (sS (sT1 rfl) sB0 sF0) ?_
                  refine AL_cons (LR_move (at_tmp 8 _) rfl) (sS (sT1 rfl) sB0 sF0) ?_
                  refine AL_cons (LR_move (at_tmp 7 _) rfl) (sS (sT1 rfl) sB0 sF0) ?_
                  refine AL_cons (LR_move (at_tmp 1 _) rfl) (sS (sT1 rfl) sB0 sF0) ?_
                  refine AL_cons (LR_conv (vx := U32 a1) (at_tmp 30 _) (conv_U64 Hfaa.underlying65 Hfaa.underlying30 (a1.toNat : Int)) rfl) (sS (sT1 rfl) sB0 sF0) ?_
                  obtain ⟨hg83, hr⟩ := guard_some hr
                  refine AL_cons (LR_bin (at_tmp 29 _) (at_tmp 31 _) (quo_U64 x11 (BitVec.ofInt 64 (a1.toNat : Int)) (dne hg83)) rfl) (sS (sA (sT1 rfl) (sT1 rfl)) sB0 sF0) ?_
                  refine AL_cons (LR_conv (vx := U64 (x11 / (BitVec.ofInt 64 (a1.toNat : Int)))) (at_tmp 32 _) (conv_U32 Hfaa.underlying30 Hfaa.underlying65 ((x11 / (BitVec.ofInt 64 (a1.toNat : Int))).toNat : Int)) rfl) (sS (sT1 rfl) sB0 sF0) ?_
                  obtain ⟨hg84, hr⟩ := guard_some hr
                  refine AL_cons (LR_indexAddrS (o := x6.toNat) Hfaa.underlying49 sz65 (at_tmp 27 _) (at_tmp 28 _) (dand hg84) (by first | rfl | omega) rfl) (sS (sA (sT1 rfl) (sT1 rfl)) sB0 sF0) ?_
                  refine AL_cons (LR_storeA (at_tmp 34 _) (at_tmp 33 _) (cells_one (one_is rfl)) (onC (one_is rfl) onN) sz65 rfl (ble_dyn (lnA ln0) (by have := (ltn (dand hg84)); omega)) (stA (ltn (dand hg84)))) (sS (sA (sT1 rfl) (sT1 rfl)) (sB1 rfl) sF0) ?_
                  refine AL_nil ?_
                  exact thenN (cutLeaf (v := upd x7 x6.toNat (BitVec.ofInt 32 ((x11 / (BitVec.ofInt 64 (a1.toNat : Int))).toNat : Int))) hr (weak0 ((sT rfl (sT rfl (sT rfl (sT rfl (sT rfl sT0)))))) (sub_keep sub_nil)))
                · rintro x12 hr
                  show AW Hfaa.prog _ _ _ ⟨[(0, .inl (ns U32 a0)), (1, .inl (is (U32 a1))), (6, .inr (.inr (.inl (11, 0, (a0.2.1 : Int).toNat, (a0.2.1 : Int).toNat)))), (7, .inl (is (U64 x11))), (8, .inl (is (I64 x6)))], [(11, pb 65 (ar U32 ((a0.2.1 : Int).toNat) x12 ++ []))]⟩
                  have hr : some out2 = F62_8 N a0 a1 x6 x11 x12 := hr
                  refine AW_region ?_
                  refine AL_cons (LR_move (at_tmp 7 _) rfl) (sS (sT1 rfl) sB0 sF0) ?_
                  refine AL_cons (LR_move (at_tmp 1 _) rfl) (sS (sT1 rfl) sB0 sF0) ?_
                  refine AL_cons (LR_conv (vx := U32 a1) (at_tmp 36 _) (conv_U64 Hfaa.underlying65 Hfaa.underlying30 (a1.toNat : Int)) rfl) (sS (sT1 rfl) sB0 sF0) ?_
                  obtain ⟨hg82, hr⟩ := guard_some hr
                  refine AL_cons (LR_bin (at_tmp 35 _) (at_tmp 37 _) (rem_U64 x11 (BitVec.ofInt 64 (a1.toNat : Int)) (dne hg82)) rfl) (sS (sA (sT1 rfl) (sT1 rfl)) sB0 sF0) ?_
                  refine AL_cons (LR_assign (at_tmp 38 _) rfl) (sS (sT1 rfl) sB0 sF0) ?_
                  refine AL_nil ?_
                  refine blN ?_
                  exact thenN (cutLeaf (v := (x11 % (BitVec.ofInt 64 (a1.toNat : Int)), x12)) hr (weak0 ((sT rfl (sT rfl (sT rfl (sT rfl (sT rfl sT0)))))) (sub_keep sub_nil)))
            · rintro ⟨x9, x10⟩ hr
              show AW Hfaa.prog _ _ _ ⟨[(0, .inl (ns U32 a0)), (1, .inl (is (U32 a1))), (6, .inr (.inr (.inl (11, 0, (a0.2.1 : Int).toNat, (a0.2.1 : Int).toNat)))), (7, .inl (is (U64 x9))), (8, .inl (is (I64 x6)))], [(11, pb 65 (ar U32 ((a0.2.1 : Int).toNat) x10 ++ []))]⟩
              have hr : some out2 = F62_6 N a0 a1 x6 x9 x10 := hr
              refine AW_region ?_
              refine AL_cons (LR_move (at_tmp 8 _) rfl) (sS (sT1 rfl) sB0 sF0) ?_
              refine AL_cons (LR_bin (at_tmp 17 _) (at_c (v' := I64 1) rfl) (sub_I64 x6 1) rfl) (sS (sA (sT1 rfl) sT0) sB0 sF0) ?_
              refine AL_cons (LR_assign (at_tmp 18 _) rfl) (sS (sT1 rfl) sB0 sF0) ?_
              refine AL_nil ?_
              exact thenN (loopNext (x' := (x9, w64 (x6 - 1), x10)) hr (weak0 ((sT rfl (sT rfl (sT rfl (sT rfl (sT rfl sT0)))))) (sub_keep sub_nil)))
          · have hr := hr.trans (cond_f h)
            clear h
            refine AW_exit ?_
            refine thenX ?_
            obtain ⟨r', hro, hr⟩ := map_inr hr
            refine thenX (loopOut hro (fun he => ?_))
            rw [he] at hr
            refine blH ?_
            exact thenN (cutLeaf (v := (x5, x7)) hr (weak0 ((sT rfl (sT rfl sT0))) (sub_keep sub_nil)))
    · rintro ⟨x2, x3⟩ hr
      show AW Hfaa.prog _ _ _ ⟨[(6, .inr (.inr (.inl (11, 0, (a0.2.1 : Int).toNat, (a0.2.1 : Int).toNat)))), (7, .inl (is (U64 x2)))], [(11, pb 65 (ar U32 ((a0.2.1 : Int).toNat) x3 ++ []))]⟩
      have hr : some r = F62_2 N a0 x2 x3 := hr
      refine AW_seq1 ?_
      refine AW_region ?_
      refine AL_cons (LR_move (at_tmp 6 _) rfl) (sS (sT1 rfl) sB0 sF0) ?_
      refine AL_frz U32 11 ⟨[(6, .inl (ns U32 ((false, (a0.2.1 : Int).toNat, x3)))), (7, .inl (is (U64 x2))), (39, .inl (ns U32 ((false, (a0.2.1 : Int).toNat, x3))))], []⟩ rfl (sub_drop sub_nil) rfl (fzC rfl (Nat.le_refl _) (Nat.le_refl _) (fzA rfl (fzC rfl (Nat.le_refl _) (Nat.le_refl _) fz0))) ?_
      obtain ⟨y2, hy2, hr⟩ := bind_some hr
      refine AL_cons (LR_call Hfaa.func33 rfl rfl (C33 N ((false, (a0.2.1 : Int).toNat, x3)) y2 hy2) (all_cons (at_tmp 39 _) all_nil) rfl) (sS (sA (sT1 rfl) sT0) sB0 sF0) ?_
      refine AL_cons (LR_move (at_tmp 7 _) rfl) (sS (sT1 rfl) sB0 sF0) ?_
      refine AL_cons (LR_conv (vx := U64 x2) (at_tmp 41 _) (conv_U32 Hfaa.underlying30 Hfaa.underlying65 (x2.toNat : Int)) rfl) (sS (sT1 rfl) sB0 sF0) ?_
      refine AL_cons (LR_assign (at_tmp 40 _) rfl) (sS (sT1 rfl) sB0 sF0) ?_
      refine AL_cons (LR_assign (at_tmp 42 _) rfl) (sS (sT1 rfl) sB0 sF0) ?_
      refine AL_nil ?_
      refine thenN ?_
      refine AW_ret ?_
      obtain rfl := Option.some.inj hr
      exact res2 rfl (rvT rfl) (rvT rfl)
/-- nat.guess -/
def F124_3 (N : Nat) (x4 : BitVec 64) : Option (BitVec 32) := some (BitVec.ofInt 32 (x4.toNat : Int))
def F124_8 (N : Nat) (a2 : BitVec 32) (a3 : BitVec 32) (a4 : BitVec 32) (x8 : BitVec 64) (x9 : BitVec 64) (x10 : Bool) : Option ((BitVec 64 × BitVec 64) ⊕ (BitVec 32)) := bif x10 then (F124_3 N x8).map Sum.inr else some (.inl (x8, x9))
def F124_7 (N : Nat) (a2 : BitVec 32) (a3 : BitVec 32) (a4 : BitVec 32) (x8 : BitVec 64) (x9 : BitVec 64) : Option ((BitVec 64 × BitVec 64) ⊕ (BitVec 32)) := F124_8 N a2 a3 a4 x8 x9 (decide ((4294967296#64).toNat ≤ x9.toNat))
def F124_6 (N : Nat) (a2 : BitVec 32) (a3 : BitVec 32) (a4 : BitVec 32) (x6 : BitVec 64) (x8 : BitVec 64) : Option ((BitVec 64 × BitVec 64) ⊕ (BitVec 32)) := F124_7 N a2 a3 a4 x8 (x6 + (BitVec.ofInt 64 (a3.toNat : Int)))
def F124_5 (N : Nat) (a2 : BitVec 32) (a3 : BitVec 32) (a4 : BitVec 32) (x5 : BitVec 64) (x6 : BitVec 64) (x7 : Bool) : Option ((BitVec 64 × BitVec 64) ⊕ (BitVec 32)) := bif x7 then F124_6 N a2 a3 a4 x6 (x5 - (1#64)) else (F124_3 N x5).map Sum.inr
def F124_L4b (N : Nat) (a2 : BitVec 32) (a3 : BitVec 32) (a4 : BitVec 32) (x5 : BitVec 64) (x6 : BitVec 64) : Option ((BitVec 64 × BitVec 64) ⊕ (BitVec 32)) := F124_5 N a2 a3 a4 x5 x6 ((decide ((4294967296#64).toNat ≤ x5.toNat)) || (decide (((x6 <<< 32) ||| (BitVec.ofInt 64 (a2.toNat : Int))).toNat < (x5 * (BitVec.ofInt 64 (a4.toNat : Int))).toNat)))
def F124_L4 (N : Nat) (a2 : BitVec 32) (a3 : BitVec 32) (a4 : BitVec 32) : (BitVec 64 × BitVec 64) → Option ((BitVec 64 × BitVec 64) ⊕ (BitVec 32)) := fun v => F124_L4b N a2 a3 a4 v.1 v.2
def F124_2 (N : Nat) (a2 : BitVec 32) (a3 : BitVec 32) (a4 : BitVec 32) (x2 : BitVec 64) (x3 : BitVec 64) : Option (BitVec 32) := iterL (F124_L4 N a2 a3 a4) N (x2, x3)
def F124_1 (N : Nat) (a2 : BitVec 32) (a3 : BitVec 32) (a4 : BitVec 32) (x1 : BitVec 64) : Option (BitVec 32) := bif (BitVec.ofInt 64 (a3.toNat : Int)) != 0#64 then bif (BitVec.ofInt 64 (a3.toNat : Int)) != 0#64 then F124_2 N a2 a3 a4 (x1 / (BitVec.ofInt 64 (a3.toNat : Int))) (x1 % (BitVec.ofInt 64 (a3.toNat : Int))) else none else none
def F124 (N : Nat) (a0 : BitVec 32) (a1 : BitVec 32) (a2 : BitVec 32) (a3 : BitVec 32) (a4 : BitVec 32) : Option (BitVec 32) := F124_1 N a2 a3 a4 (((BitVec.ofInt 64 (a0.toNat : Int)) <<< 32) ||| (BitVec.ofInt 64 (a1.toNat : Int)))
theorem C124 (N : Nat) (a0 : BitVec 32) (a1 : BitVec 32) (a2 : BitVec 32) (a3 : BitVec 32) (a4 : BitVec 32) (r : BitVec 32) (hr : some r = F124 N a0 a1 a2 a3 a4) : Aw.Fn Hfaa.prog 124 [is (U32 a0), is (U32 a1), is (U32 a2), is (U32 a3), is (U32 a4)] (is (U32 r)) := by
  refine fn_intro Hfaa.func124 rfl rfl rfl ?_
  intro bn0 w0 H0
  refine AW_seq1 ?_
  refine AW_region ?_
  refine AL_cons (LR_assign (at_c (v' := U32 (0#32)) rfl) rfl) (sS sT0 sB0 sF0) ?_
  refine AL_nil ?_
  refine thenN ?_
  refine AW_cut (σ := BitVec 64) (fun v => ⟨[(2, .inl (is (U32 a2))), (3, .inl (is (U32 a3))), (4, .inl (is (U32 a4))), (11, .inl (is (U64 v)))], []⟩) (fun v => some r = F124_1 N a2 a3 a4 v) ?_ ?_
  · skip
    refine AW_region ?_
    refine AL_cons (LR_move (at_tmp 0 _) rfl) (sS (sT1 rfl) sB0 sF0) ?_
    refine AL_cons (LR_conv (vx := U32 a0) (at_tmp 14 _) (conv_U64 Hfaa.underlying65 Hfaa.underlying30 (a0.toNat : Int)) rfl) (sS (sT1 rfl) sB0 sF0) ?_
    refine AL_cons (LR_bin (at_tmp 15 _) (at_c (v' := U64 (32#64)) rfl) (shl_U64 (BitVec.ofInt 64 (a0.toNat : Int)) ((32#64).toNat : Int) (Int.natCast_nonneg _)) rfl) (sS (sA (sT1 rfl) sT0) sB0 sF0) ?_
    refine AL_cons (LR_move (at_tmp 1 _) rfl) (sS (sT1 rfl) sB0 sF0) ?_
    refine AL_cons (LR_conv (vx := U32 a1) (at_tmp 17 _) (conv_U64 Hfaa.underlying65 Hfaa.underlying30 (a1.toNat : Int)) rfl) (sS (sT1 rfl) sB0 sF0) ?_
    refine AL_cons (LR_bin (at_tmp 16 _) (at_tmp 18 _) (or_U64 ((BitVec.ofInt 64 (a0.toNat : Int)) <<< 32) (BitVec.ofInt 64 (a1.toNat : Int))) rfl) (sS (sA (sT1 rfl) (sT1 rfl)) sB0 sF0) ?_
    refine AL_cons (LR_assign (at_tmp 19 _) rfl) (sS (sT1 rfl) sB0 sF0) ?_
    refine AL_nil ?_
    exact thenN (cutLeaf (v := ((BitVec.ofInt 64 (a0.toNat : Int)) <<< 32) ||| (BitVec.ofInt 64 (a1.toNat : Int))) hr (weak0 ((sT rfl (sT rfl (sT rfl (sT rfl sT0))))) sub_nil))
  · rintro x1 hr
    show AW Hfaa.prog _ _ _ ⟨[(2, .inl (is (U32 a2))), (3, .inl (is (U32 a3))), (4, .inl (is (U32 a4))), (11, .inl (is (U64 x1)))], []⟩
    have hr : some r = F124_1 N a2 a3 a4 x1 := hr
    refine AW_cut (σ := BitVec 64 × BitVec 64) (fun v => ⟨[(2, .inl (is (U32 a2))), (3, .inl (is (U32 a3))), (4, .inl (is (U32 a4))), (12, .inl (is (U64 v.1))), (13, .inl (is (U64 v.2)))], []⟩) (fun v => some r = F124_2 N a2 a3 a4 v.1 v.2) ?_ ?_
    · skip
      obtain ⟨hg3, hr⟩ := guard_some hr
      obtain ⟨hg4, hr⟩ := guard_some hr
      refine AW_draw mixed
        (lrC (LR_move (at_tmp 11 _) rfl)
        (lrC (LR_move (at_tmp 3 _) rfl)
        (lrC (LR_conv (vx := U32 a3) (at_tmp 21 _) (conv_U64 Hfaa.underlying65 Hfaa.underlying30 (a3.toNat : Int)) rfl)
        (lrC (LR_bin (at_tmp 20 _) (at_tmp 22 _) (quo_U64 x1 (BitVec.ofInt 64 (a3.toNat : Int)) (dne hg3)) rfl)
        (lrC (LR_move (at_tmp 11 _) rfl)
        (lrC (LR_move (at_tmp 3 _) rfl)
        (lrC (LR_conv (vx := U32 a3) (at_tmp 25 _) (conv_U64 Hfaa.underlying65 Hfaa.underlying30 (a3.toNat : Int)) rfl)
        (lrC (LR_bin (at_tmp 24 _) (at_tmp 26 _) (rem_U64 x1 (BitVec.ofInt 64 (a3.toNat : Int)) (dne hg4)) rfl)
        (lrC (LR_assign (at_tmp 23 _) rfl)
        (lrC (LR_assign (at_tmp 27 _) rfl)
        lrN))))))))))
        (by kernel_rfl)
        (saC (sS (sT1 rfl) sB0 sF0) (saC (sS (sT1 rfl) sB0 sF0) (saC (sS (sT1 rfl) sB0 sF0) (saC (sS (sA (sT1 rfl) (sT1 rfl)) sB0 sF0) (saC (sS (sT1 rfl) sB0 sF0) (saC (sS (sT1 rfl) sB0 sF0) (saC (sS (sT1 rfl) sB0 sF0) (saC (sS (sA (sT1 rfl) (sT1 rfl)) sB0 sF0) (saC (sS (sT1 rfl) sB0 sF0) (saC (sS (sT1 rfl) sB0 sF0) saN)))))))))) ?_
      exact thenN (cutLeaf (v := (x1 / (BitVec.ofInt 64 (a3.toNat : Int)), x1 % (BitVec.ofInt 64 (a3.toNat : Int)))) hr (weak0 ((sT rfl (sT rfl (sT rfl (sT rfl (sT rfl sT0)))))) sub_nil))
    · rintro ⟨x2, x3⟩ hr
      show AW Hfaa.prog _ _ _ ⟨[(2, .inl (is (U32 a2))), (3, .inl (is (U32 a3))), (4, .inl (is (U32 a4))), (12, .inl (is (U64 x2))), (13, .inl (is (U64 x3)))], []⟩
      have hr : some r = F124_2 N a2 a3 a4 x2 x3 := hr
      refine AW_cut (σ := BitVec 64) (fun v => ⟨[(12, .inl (is (U64 v)))], []⟩) (fun v => some r = F124_3 N v) ?_ ?_
      · skip
        refine AW_block ?_
        refine AW_iterR (σ := BitVec 64 × BitVec 64) (r := r) (x0 := (x2, x3)) (emb := fun v => ⟨[(2, .inl (is (U32 a2))), (3, .inl (is (U32 a3))), (4, .inl (is (U32 a4))), (12, .inl (is (U64 v.1))), (13, .inl (is (U64 v.2)))], []⟩) ?_ hr ?_
        · exact weak0 ((sT rfl (sT rfl (sT rfl (sT rfl (sT rfl sT0)))))) sub_nil
        rintro ⟨x5, x6⟩ out2 hr
        show AW Hfaa.prog _ _ _ ⟨[(2, .inl (is (U32 a2))), (3, .inl (is (U32 a3))), (4, .inl (is (U32 a4))), (12, .inl (is (U64 x5))), (13, .inl (is (U64 x6)))], []⟩
        have hr : some out2 = F124_L4b N a2 a3 a4 x5 x6 := hr
        refine AW_seq1 ?_
        refine AW_cut (σ := Bool) (fun v => ⟨[(2, .inl (is (U32 a2))), (3, .inl (is (U32 a3))), (4, .inl (is (U32 a4))), (12, .inl (is (U64 x5))), (13, .inl (is (U64 x6))), (41, .inl (is (Bl v)))], []⟩) (fun v => some out2 = F124_5 N a2 a3 a4 x5 x6 v) ?_ ?_
        · skip
          refine AW_region ?_
          refine AL_cons (LR_move (at_tmp 12 _) rfl) (sS (sT1 rfl) sB0 sF0) ?_
          refine AL_cons (LR_bin (at_tmp 28 _) (at_c (v' := U64 (4294967296#64)) rfl) (geq_U64 x5 (4294967296#64)) rfl) (sS (sA (sT1 rfl) sT0) sB0 sF0) ?_
          refine AL_cons (LR_move (at_tmp 29 _) rfl) (sS (sT1 rfl) sB0 sF0) ?_
          refine AL_cutAt 11 ⟨[(2, .inl (is (U32 a2))), (3, .inl (is (U32 a3))), (4, .inl (is (U32 a4))), (12, .inl (is (U64 x5))), (13, .inl (is (U64 x6))), (28, .inl (is (U64 x5))), (29, .inl (is (Bl (decide ((4294967296#64).toNat ≤ x5.toNat))))), (30, .inl (is (Bl (decide ((4294967296#64).toNat ≤ x5.toNat))))), (41, .inl (is (Bl ((decide ((4294967296#64).toNat ≤ x5.toNat)) || (decide (((x6 <<< 32) ||| (BitVec.ofInt 64 (a2.toNat : Int))).toNat < (x5 * (BitVec.ofInt 64 (a4.toNat : Int))).toNat))))))], []⟩ ?_ ?_
          · cases hb : decide ((4294967296#64).toNat ≤ x5.toNat)
            · skip
              refine AL_cons (LR_on rfl rfl rfl (LR_move (at_tmp 12 _) rfl)) (sS (sT rfl (sT1 rfl)) sB0 sF0) ?_
              refine AL_cons (LR_on rfl rfl rfl (LR_move (at_tmp 4 _) rfl)) (sS (sT rfl (sT1 rfl)) sB0 sF0) ?_
              refine AL_cons (LR_on rfl rfl rfl (LR_conv (vx := U32 a4) (at_tmp 32 _) (conv_U64 Hfaa.underlying65 Hfaa.underlying30 (a4.toNat : Int)) rfl)) (sS (sT rfl (sT1 rfl)) sB0 sF0) ?_
              refine AL_cons (LR_on rfl rfl rfl (LR_bin (at_tmp 31 _) (at_tmp 33 _) (mul_U64 x5 (BitVec.ofInt 64 (a4.toNat : Int))) rfl)) (sS (sT rfl (sA (sT1 rfl) (sT1 rfl))) sB0 sF0) ?_
              refine AL_cons (LR_on rfl rfl rfl (LR_move (at_tmp 13 _) rfl)) (sS (sT rfl (sT1 rfl)) sB0 sF0) ?_
              refine AL_cons (LR_on rfl rfl rfl (LR_bin (at_tmp 35 _) (at_c (v' := U64 (32#64)) rfl) (shl_U64 x6 ((32#64).toNat : Int) (Int.natCast_nonneg _)) rfl)) (sS (sT rfl (sA (sT1 rfl) sT0)) sB0 sF0) ?_
              refine AL_cons (LR_on rfl rfl rfl (LR_move (at_tmp 2 _) rfl)) (sS (sT rfl (sT1 rfl)) sB0 sF0) ?_
              refine AL_cons (LR_on rfl rfl rfl (LR_conv (vx := U32 a2) (at_tmp 37 _) (conv_U64 Hfaa.underlying65 Hfaa.underlying30 (a2.toNat : Int)) rfl)) (sS (sT rfl (sT1 rfl)) sB0 sF0) ?_
              refine AL_cons (LR_on rfl rfl rfl (LR_bin (at_tmp 36 _) (at_tmp 38 _) (or_U64 (x6 <<< 32) (BitVec.ofInt 64 (a2.toNat : Int))) rfl)) (sS (sT rfl (sA (sT1 rfl) (sT1 rfl))) sB0 sF0) ?_
              refine AL_cons (LR_on rfl rfl rfl (LR_bin (at_tmp 34 _) (at_tmp 39 _) (gtr_U64 (x5 * (BitVec.ofInt 64 (a4.toNat : Int))) ((x6 <<< 32) ||| (BitVec.ofInt 64 (a2.toNat : Int)))) rfl)) (sS (sT rfl (sA (sT1 rfl) (sT1 rfl))) sB0 sF0) ?_
              refine AL_cons (LR_pick (b := false) (at_tmp 30 _) (at_c (v' := Bl true) rfl) (at_tmp 40 _) rfl) (sS (sA (sT1 rfl) (sA sT0 (sT1 rfl))) sB0 sF0) ?_
              exact AL_nil ⟨rfl, weak0 ((sT rfl (sT rfl (sT rfl (sT rfl (sT rfl (sT rfl (sT rfl (sT rfl (sT rfl sT0)))))))))) sub_nil⟩
            · skip
              refine AL_cons (LR_off (b := true) rfl rfl rfl rfl) (sS (sT1 rfl) sB0 sF0) ?_
              refine AL_cons (LR_off (b := true) rfl rfl rfl rfl) (sS (sT1 rfl) sB0 sF0) ?_
              refine AL_cons (LR_off (b := true) rfl rfl rfl rfl) (sS (sT1 rfl) sB0 sF0) ?_
              refine AL_cons (LR_off (b := true) rfl rfl rfl rfl) (sS (sT1 rfl) sB0 sF0) ?_
              refine AL_cons (LR_off (b := true) rfl rfl rfl rfl) (sS (sT1 rfl) sB0 sF0) ?_
              refine AL_cons (LR_off (b := true) rfl rfl rfl rfl) (sS (sT1 rfl) sB0 sF0) ?_
              refine AL_cons (LR_off (b := true) rfl rfl rfl rfl) (sS (sT1 rfl) sB0 sF0) ?_
              refine AL_cons (LR_off (b := true) rfl rfl rfl rfl) (sS (sT1 rfl) sB0 sF0) ?_
              refine AL_cons (LR_off (b := true) rfl rfl rfl rfl) (sS (sT1 rfl) sB0 sF0) ?_
              refine AL_cons (LR_off (b := true) rfl rfl rfl rfl) (sS (sT1 rfl) sB0 sF0) ?_
              refine AL_cons (LR_pick (b := true) (at_tmp 30 _) (at_c (v' := Bl true) rfl) (at_tmp 40 _) rfl) (sS (sA (sT1 rfl) (sA sT0 (sT1 rfl))) sB0 sF0) ?_
              exact AL_nil ⟨rfl, weak0 ((sT rfl (sT rfl (sT rfl (sT rfl (sT rfl (sT rfl (sT rfl (sT rfl (sT rfl sT0)))))))))) sub_nil⟩
          refine AL_nil ?_
          exact thenN (cutLeaf (v := (decide ((4294967296#64).toNat ≤ x5.toNat)) || (decide (((x6 <<< 32) ||| (BitVec.ofInt 64 (a2.toNat : Int))).toNat < (x5 * (BitVec.ofInt 64 (a4.toNat : Int))).toNat))) hr (weak0 ((sT rfl (sT rfl (sT rfl (sT rfl (sT rfl (sT rfl sT0))))))) sub_nil))
        · rintro x7 hr
          show AW Hfaa.prog _ _ _ ⟨[(2, .inl (is (U32 a2))), (3, .inl (is (U32 a3))), (4, .inl (is (U32 a4))), (12, .inl (is (U64 x5))), (13, .inl (is (U64 x6))), (41, .inl (is (Bl x7)))], []⟩
          have hr : some out2 = F124_5 N a2 a3 a4 x5 x6 x7 := hr
          refine AW_condT (b := x7) rfl (fun h => ?_) (fun h => ?_)
          · have hr := hr.trans (cond_t h)
            clear h
            refine AW_skip ?_
            refine thenN ?_
            refine AW_block ?_
            refine AW_cut (σ := BitVec 64) (fun v => ⟨[(2, .inl (is (U32 a2))), (3, .inl (is (U32 a3))), (4, .inl (is (U32 a4))), (12, .inl (is (U64 v))), (13, .inl (is (U64 x6)))], []⟩) (fun v => some out2 = F124_6 N a2 a3 a4 x6 v) ?_ ?_
            · skip
              refine AW_region ?_
              refine AL_cons (LR_move (at_tmp 12 _) rfl) (sS (sT1 rfl) sB0 sF0) ?_
              refine AL_cons (LR_bin (at_tmp 42 _) (at_c (v' := U64 (1#64)) rfl) (sub_U64 x5 (1#64)) rfl) (sS (sA (sT1 rfl) sT0) sB0 sF0) ?_
              refine AL_cons (LR_assign (at_tmp 43 _) rfl) (sS (sT1 rfl) sB0 sF0) ?_
              refine AL_nil ?_
              exact thenN (cutLeaf (v := x5 - (1#64)) hr (weak0 ((sT rfl (sT rfl (sT rfl (sT rfl (sT rfl sT0)))))) sub_nil))
            · rintro x8 hr
              show AW Hfaa.prog _ _ _ ⟨[(2, .inl (is (U32 a2))), (3, .inl (is (U32 a3))), (4, .inl (is (U32 a4))), (12, .inl (is (U64 x8))), (13, .inl (is (U64 x6)))], []⟩
              have hr : some out2 = F124_6 N a2 a3 a4 x6 x8 := hr
              refine AW_cut (σ := BitVec 64) (fun v => ⟨[(2, .inl (is (U32 a2))), (3, .inl (is (U32 a3))), (4, .inl (is (U32 a4))), (12, .inl (is (U64 x8))), (13, .inl (is (U64 v)))], []⟩) (fun v => some out2 = F124_7 N a2 a3 a4 x8 v) ?_ ?_
              · skip
                refine AW_region ?_
                refine AL_cons (LR_move (at_tmp 13 _) rfl) (sS (sT1 rfl) sB0 sF0) ?_
                refine AL_cons (LR_move (at_tmp 3 _) rfl) (sS (sT1 rfl) sB0 sF0) ?_
                refine AL_cons (LR_conv (vx := U32 a3) (at_tmp 45 _) (conv_U64 Hfaa.underlying65 Hfaa.underlying30 (a3.toNat : Int)) rfl) (sS (sT1 rfl) sB0 sF0) ?_
                refine AL_cons (LR_bin (at_tmp 44 _) (at_tmp 46 _) (add_U64 x6 (BitVec.ofInt 64 (a3.toNat : Int))) rfl) (sS (sA (sT1 rfl) (sT1 rfl)) sB0 sF0) ?_
                refine AL_cons (LR_assign (at_tmp 47 _) rfl) (sS (sT1 rfl) sB0 sF0) ?_
                refine AL_nil ?_
                exact thenN (cutLeaf (v := x6 + (BitVec.ofInt 64 (a3.toNat : Int))) hr (weak0 ((sT rfl (sT rfl (sT rfl (sT rfl (sT rfl sT0)))))) sub_nil))
              · rintro x9 hr
                show AW Hfaa.prog _ _ _ ⟨[(2, .inl (is (U32 a2))), (3, .inl (is (U32 a3))), (4, .inl (is (U32 a4))), (12, .inl (is (U64 x8))), (13, .inl (is (U64 x9)))], []⟩
                have hr : some out2 = F124_7 N a2 a3 a4 x8 x9 := hr
                refine AW_cut (σ := Bool) (fun v => ⟨[(2, .inl (is (U32 a2))), (3, .inl (is (U32 a3))), (4, .inl (is (U32 a4))), (12, .inl (is (U64 x8))), (13, .inl (is (U64 x9))), (49, .inl (is (Bl v)))], []⟩) (fun v => some out2 = F124_8 N a2 a3 a4 x8 x9 v) ?_ ?_
                · skip
                  refine AW_region ?_
                  refine AL_cons (LR_move (at_tmp 13 _) rfl) (sS (sT1 rfl) sB0 sF0) ?_
                  refine AL_cons (LR_bin (at_tmp 48 _) (at_c (v' := U64 (4294967296#64)) rfl) (geq_U64 x9 (4294967296#64)) rfl) (sS (sA (sT1 rfl) sT0) sB0 sF0) ?_
                  refine AL_nil ?_
                  exact thenN (cutLeaf (v := decide ((4294967296#64).toNat ≤ x9.toNat)) hr (weak0 ((sT rfl (sT rfl (sT rfl (sT rfl (sT rfl (sT rfl sT0))))))) sub_nil))
                · rintro x10 hr
                  show AW Hfaa.prog _ _ _ ⟨[(2, .inl (is (U32 a2))), (3, .inl (is (U32 a3))), (4, .inl (is (U32 a4))), (12, .inl (is (U64 x8))), (13, .inl (is (U64 x9))), (49, .inl (is (Bl x10)))], []⟩
                  have hr : some out2 = F124_8 N a2 a3 a4 x8 x9 x10 := hr
                  refine AW_condT (b := x10) rfl (fun h => ?_) (fun h => ?_)
                  · have hr := hr.trans (cond_t h)
                    clear h
                    refine AW_exit ?_
                    refine blO (by decide) ?_
                    obtain ⟨r', hro, hr⟩ := map_inr hr
                    refine thenX (loopOut hro (fun he => ?_))
                    rw [he] at hr
                    refine blH ?_
                    exact thenN (cutLeaf (v := x8) hr (weak0 ((sT rfl sT0)) sub_nil))
                  · have hr := hr.trans (cond_f h)
                    clear h
                    refine AW_skip ?_
                    refine blN ?_
                    exact thenN (loopNext (x' := (x8, x9)) hr (weak0 ((sT rfl (sT rfl (sT rfl (sT rfl (sT rfl sT0)))))) sub_nil))
          · have hr := hr.trans (cond_f h)
            clear h
            refine AW_exit ?_
            refine thenX ?_
            obtain ⟨r', hro, hr⟩ := map_inr hr
            refine thenX (loopOut hro (fun he => ?_))
            rw [he] at hr
            refine blH ?_
            exact thenN (cutLeaf (v := x5) hr (weak0 ((sT rfl sT0)) sub_nil))
      · rintro x4 hr
        show AW Hfaa.prog _ _ _ ⟨[(12, .inl (is (U64 x4)))], []⟩
        have hr : some r = F124_3 N x4 := hr
        refine AW_seq1 ?_
        refine AW_region ?_
        refine AL_cons (LR_move (at_tmp 12 _) rfl) (sS (sT1 rfl) sB0 sF0) ?_
        refine AL_cons (LR_conv (vx := U64 x4) (at_tmp 50 _) (conv_U32 Hfaa.underlying30 Hfaa.underlying65 (x4.toNat : Int)) rfl) (sS (sT1 rfl) sB0 sF0) ?_
        refine AL_cons (LR_assign (at_tmp 51 _) rfl) (sS (sT1 rfl) sB0 sF0) ?_
        refine AL_nil ?_
        refine thenN ?_
        refine AW_ret ?_
        obtain rfl := Option.some.inj hr
        exact res1 rfl (rvT rfl)
/-- nat.takeAway -/
def F125_1 (N : Nat) (b0_m : Nat) (x1 : BitVec 64) (x2 : Nat → BitVec 32) : Option (Bool × (Nat → BitVec 32)) := some ((x1 == (1#64), x2))
def F125_5 (N : Nat) (b0_m : Nat) (b0_o : Nat) (b0_l : Nat) (b0_c : Nat) (a1 : NS (BitVec 32)) (a2 : BitVec 32) (x3 : Int) (x6 : Int) (x9 : BitVec 64) (x10 : BitVec 64) (x11 : Nat → BitVec 32) : Option ((BitVec 64 × BitVec 64 × Int × (Nat → BitVec 32)) ⊕ (Bool × (Nat → BitVec 32))) := some (.inl ((x9, x10, w64 (x6 + 1), x11)))
def F125_9 (N : Nat) (b0_m : Nat) (b0_o : Nat) (b0_l : Nat) (b0_c : Nat) (a1 : NS (BitVec 32)) (a2 : BitVec 32) (x3 : Int) (x6 : Int) (x12 : BitVec 64) (x14 : Nat → BitVec 32) (x15 : BitVec 64) : Option ((BitVec 64 × BitVec 64 × Int × (Nat → BitVec 32)) ⊕ (Bool × (Nat → BitVec 32))) := F125_5 N b0_m b0_o b0_l b0_c a1 a2 x3 x6 (x12 >>> 32) x15 x14
def F125_8 (N : Nat) (b0_m : Nat) (b0_o : Nat) (b0_l : Nat) (b0_c : Nat) (a1 : NS (BitVec 32)) (a2 : BitVec 32) (x3 : Int) (x6 : Int) (x12 : BitVec 64) (x13 : BitVec 64) (x14 : Nat → BitVec 32) : Option ((BitVec 64 × BitVec 64 × Int × (Nat → BitVec 32)) ⊕ (Bool × (Nat → BitVec 32))) := F125_9 N b0_m b0_o b0_l b0_c a1 a2 x3 x6 x12 x14 (x13 >>> 63)
def F125_7 (N : Nat) (b0_m : Nat) (b0_o : Nat) (b0_l : Nat) (b0_c : Nat) (a1 : NS (BitVec 32)) (a2 : BitVec 32) (x3 : Int) (x6 : Int) (x7 : Nat → BitVec 32) (x12 : BitVec 64) (x13 : BitVec 64) : Option ((BitVec 64 × BitVec 64 × Int × (Nat → BitVec 32)) ⊕ (Bool × (Nat → BitVec 32))) := bif (decide (0 ≤ x6) && decide (x6 < (b0_l : Int))) then bif decide (b0_o + x6.toNat < b0_m) then F125_8 N b0_m b0_o b0_l b0_c a1 a2 x3 x6 x12 x13 (upd x7 (b0_o + x6.toNat) (BitVec.ofInt 32 (x13.toNat : Int))) else none else none
def F125_6 (N : Nat) (b0_m : Nat) (b0_o : Nat) (b0_l : Nat) (b0_c : Nat) (a1 : NS (BitVec 32)) (a2 : BitVec 32) (x3 : Int) (x5 : BitVec 64) (x6 : Int) (x7 : Nat → BitVec 32) (x12 : BitVec 64) : Option ((BitVec 64 × BitVec 64 × Int × (Nat → BitVec 32)) ⊕ (Bool × (Nat → BitVec 32))) := bif (decide (0 ≤ x6) && decide (x6 < (b0_l : Int))) then bif decide (b0_o + x6.toNat < b0_m) then F125_7 N b0_m b0_o b0_l b0_c a1 a2 x3 x6 x7 x12 (((BitVec.ofInt 64 ((x7 (b0_o + x6.toNat)).toNat : Int)) - (x12 &&& (4294967295#64))) - x5) else none else none
def F125_10 (N : Nat) (b0_m : Nat) (b0_o : Nat) (b0_l : Nat) (b0_c : Nat) (a1 : NS (BitVec 32)) (a2 : BitVec 32) (x3 : Int) (x4 : BitVec 64) (x5 : BitVec 64) (x6 : Int) (x7 : Nat → BitVec 32) (x16 : Bool) : Option ((BitVec 64 × BitVec 64 × Int × (Nat → BitVec 32)) ⊕ (Bool × (Nat → BitVec 32))) := bif x16 then bif (decide (0 ≤ x6) && decide (x6 < (a1.2.1 : Int))) then F125_6 N b0_m b0_o b0_l b0_c a1 a2 x3 x5 x6 x7 (x4 + ((BitVec.ofInt 64 (a2.toNat : Int)) * (BitVec.ofInt 64 ((a1.2.2 x6.toNat).toNat : Int)))) else none else F125_6 N b0_m b0_o b0_l b0_c a1 a2 x3 x5 x6 x7 x4
def F125_4 (N : Nat) (b0_m : Nat) (b0_o : Nat) (b0_l : Nat) (b0_c : Nat) (a1 : NS (BitVec 32)) (a2 : BitVec 32) (x3 : Int) (x4 : BitVec 64) (x5 : BitVec 64) (x6 : Int) (x7 : Nat → BitVec 32) (x8 : Bool) : Option ((BitVec 64 × BitVec 64 × Int × (Nat → BitVec 32)) ⊕ (Bool × (Nat → BitVec 32))) := bif x8 then F125_10 N b0_m b0_o b0_l b0_c a1 a2 x3 x4 x5 x6 x7 (decide (x6 < (a1.2.1 : Int))) else (F125_1 N b0_m x5 x7).map Sum.inr
def F125_L3b (N : Nat) (b0_m : Nat) (b0_o : Nat) (b0_l : Nat) (b0_c : Nat) (a1 : NS (BitVec 32)) (a2 : BitVec 32) (x3 : Int) (x4 : BitVec 64) (x5 : BitVec 64) (x6 : Int) (x7 : Nat → BitVec 32) : Option ((BitVec 64 × BitVec 64 × Int × (Nat → BitVec 32)) ⊕ (Bool × (Nat → BitVec 32))) := F125_4 N b0_m b0_o b0_l b0_c a1 a2 x3 x4 x5 x6 x7 (decide (x6 < x3))
def F125_L3 (N : Nat) (b0_m : Nat) (b0_o : Nat) (b0_l : Nat) (b0_c : Nat) (a1 : NS (BitVec 32)) (a2 : BitVec 32) (x3 : Int) : (BitVec 64 × BitVec 64 × Int × (Nat → BitVec 32)) → Option ((BitVec 64 × BitVec 64 × Int × (Nat → BitVec 32)) ⊕ (Bool × (Nat → BitVec 32))) := fun v => F125_L3b N b0_m b0_o b0_l b0_c a1 a2 x3 v.1 v.2.1 v.2.2.1 v.2.2.2
def F125_2 (N : Nat) (b0_m : Nat) (b0_o : Nat) (b0_l : Nat) (b0_c : Nat) (b0_w : Nat → BitVec 32) (a1 : NS (BitVec 32)) (a2 : BitVec 32) (x3 : Int) : Option (Bool × (Nat → BitVec 32)) := iterL (F125_L3 N b0_m b0_o b0_l b0_c a1 a2 x3) N (0#64, 0#64, 0, b0_w)
def F125 (N : Nat) (b0_m : Nat) (b0_o : Nat) (b0_l : Nat) (b0_c : Nat) (b0_w : Nat → BitVec 32) (a1 : NS (BitVec 32)) (a2 : BitVec 32) : Option (Bool × (Nat → BitVec 32)) := F125_2 N b0_m b0_o b0_l b0_c b0_w a1 a2 (b0_l : Int)
theorem C125 (N : Nat) (b0_m : Nat) (b0_o : Nat) (b0_l : Nat) (b0_c : Nat) (b0_w : Nat → BitVec 32) (a1 : NS (BitVec 32)) (a2 : BitVec 32) (r : Bool × (Nat → BitVec 32)) (hr : some r = F125 N b0_m b0_o b0_l b0_c b0_w a1 a2) : FnB Hfaa.prog 125 [.inr (.inr (.inl (0, b0_o, b0_l, b0_c))), .inl (ns U32 a1), .inl (is (U32 a2))] [(0, pb 65 (ar U32 b0_m b0_w ++ []))] (is (Bl r.1)) [(0, pb 65 (ar U32 b0_m r.2 ++ []))] := by
  refine fnB_intro Hfaa.func125 rfl rfl rfl rfl rfl ⟨hf_pb _ _, trivial⟩ ?_
  intro bn0 w0 H0
  refine AW_seq1 ?_
  refine AW_region ?_
  refine AL_cons (LR_assign (at_c (v' := Bl false) rfl) rfl) (sS sT0 sB0 sF0) ?_
  refine AL_nil ?_
  refine thenN ?_
  refine AW_seq1 ?_
  refine AW_region ?_
  refine AL_cons (LR_assign (at_c (v' := U64 (0#64)) rfl) rfl) (sS sT0 sB0 sF0) ?_
  refine AL_cons (LR_assign (at_c (v' := U64 (0#64)) rfl) rfl) (sS sT0 sB0 sF0) ?_
  refine AL_nil ?_
  refine thenN ?_
  refine AW_cut (σ := BitVec 64 × (Nat → BitVec 32)) (fun v => ⟨[(8, .inl (is (U64 v.1)))], [(0, pb 65 (ar U32 b0_m v.2 ++ []))]⟩) (fun v => some r = F125_1 N b0_m v.1 v.2) ?_ ?_
  · skip
    refine AW_cut (σ := Int) (fun v => ⟨[(0, .inr (.inr (.inl (0, b0_o, b0_l, b0_c)))), (1, .inl (ns U32 a1)), (2, .inl (is (U32 a2))), (7, .inl (is (U64 (0#64)))), (8, .inl (is (U64 (0#64)))), (12, .inl (is (I64 v))), (13, .inl (is (I64 0)))], [(0, pb 65 (ar U32 b0_m b0_w ++ []))]⟩) (fun v => some r = F125_2 N b0_m b0_o b0_l b0_c b0_w a1 a2 v) ?_ ?_
    · skip
      refine AW_region ?_
      refine AL_cons (LR_move (at_tmp 0 _) rfl) (sS (sT1 rfl) sB0 sF0) ?_
      refine AL_cons (LR_lenT (at_tmp 11 _) Hfaa.underlying49 rfl) (sS (sT1 rfl) sB0 sF0) ?_
      refine AL_cons (LR_move (at_c (v' := I64 0) rfl) rfl) (sS sT0 sB0 sF0) ?_
      refine AL_nil ?_
      exact thenN (cutLeaf (v := (b0_l : Int)) hr (weakB ((sT rfl (sT rfl (sT rfl (sT rfl (sT rfl (sT rfl (sT rfl sT0)))))))) (sub_keep sub_nil) rfl))
    · rintro x3 hr
      show AW Hfaa.prog _ _ _ ⟨[(0, .inr (.inr (.inl (0, b0_o, b0_l, b0_c)))), (1, .inl (ns U32 a1)), (2, .inl (is (U32 a2))), (7, .inl (is (U64 (0#64)))), (8, .inl (is (U64 (0#64)))), (12, .inl (is (I64 x3))), (13, .inl (is (I64 0)))], [(0, pb 65 (ar U32 b0_m b0_w ++ []))]⟩
      have hr : some r = F125_2 N b0_m b0_o b0_l b0_c b0_w a1 a2 x3 := hr
      refine AW_block ?_
      refine AW_iterR (σ := BitVec 64 × BitVec 64 × Int × (Nat → BitVec 32)) (r := r) (x0 := (0#64, 0#64, 0, b0_w)) (emb := fun v => ⟨[(0, .inr (.inr (.inl (0, b0_o, b0_l, b0_c)))), (1, .inl (ns U32 a1)), (2, .inl (is (U32 a2))), (7, .inl (is (U64 v.1))), (8, .inl (is (U64 v.2.1))), (12, .inl (is (I64 x3))), (13, .inl (is (I64 v.2.2.1)))], [(0, pb 65 (ar U32 b0_m v.2.2.2 ++ []))]⟩) ?_ hr ?_
      · exact weakB ((sT rfl (sT rfl (sT rfl (sT rfl (sT rfl (sT rfl (sT rfl sT0)))))))) (sub_keep sub_nil) rfl
      rintro ⟨x4, x5, x6, x7⟩ out2 hr
      show AW Hfaa.prog _ _ _ ⟨[(0, .inr (.inr (.inl (0, b0_o, b0_l, b0_c)))), (1, .inl (ns U32 a1)), (2, .inl (is (U32 a2))), (7, .inl (is (U64 x4))), (8, .inl (is (U64 x5))), (12, .inl (is (I64 x3))), (13, .inl (is (I64 x6)))], [(0, pb 65 (ar U32 b0_m x7 ++ []))]⟩
      have hr : some out2 = F125_L3b N b0_m b0_o b0_l b0_c a1 a2 x3 x4 x5 x6 x7 := hr
      refine AW_cut (σ := Bool) (fun v => ⟨[(0, .inr (.inr (.inl (0, b0_o, b0_l, b0_c)))), (1, .inl (ns U32 a1)), (2, .inl (is (U32 a2))), (7, .inl (is (U64 x4))), (8, .inl (is (U64 x5))), (12, .inl (is (I64 x3))), (13, .inl (is (I64 x6))), (14, .inl (is (Bl v)))], [(0, pb 65 (ar U32 b0_m x7 ++ []))]⟩) (fun v => some out2 = F125_4 N b0_m b0_o b0_l b0_c a1 a2 x3 x4 x5 x6 x7 v) ?_ ?_
      · skip
        refine AW_region ?_
        refine AL_cons (LR_bin (at_tmp 13 _) (at_tmp 12 _) (lss_I64 x6 x3) rfl) (sS (sA (sT1 rfl) (sT1 rfl)) sB0 sF0) ?_
        refine AL_nil ?_
        exact thenN (cutLeaf (v := decide (x6 < x3)) hr (weakB ((sT rfl (sT rfl (sT rfl (sT rfl (sT rfl (sT rfl (sT rfl (sT rfl sT0))))))))) (sub_keep sub_nil) rfl))
      · rintro x8 hr
        show AW Hfaa.prog _ _ _ ⟨[(0, .inr (.inr (.inl (0, b0_o, b0_l, b0_c)))), (1, .inl (ns U32 a1)), (2, .inl (is (U32 a2))), (7, .inl (is (U64 x4))), (8, .inl (is (U64 x5))), (12, .inl (is (I64 x3))), (13, .inl (is (I64 x6))), (14, .inl (is (Bl x8)))], [(0, pb 65 (ar U32 b0_m x7 ++ []))]⟩
        have hr : some out2 = F125_4 N b0_m b0_o b0_l b0_c a1 a2 x3 x4 x5 x6 x7 x8 := hr
        refine AW_seq1 ?_
        refine AW_condT (b := x8) rfl (fun h => ?_) (fun h => ?_)
        · have hr := hr.trans (cond_t h)
          clear h
          refine AW_skip ?_
          refine thenN ?_
          refine AW_cut (σ := BitVec 64 × BitVec 64 × (Nat → BitVec 32)) (fun v => ⟨[(0, .inr (.inr (.inl (0, b0_o, b0_l, b0_c)))), (1, .inl (ns U32 a1)), (2, .inl (is (U32 a2))), (7, .inl (is (U64 v.1))), (12, .inl (is (I64 x3))), (13, .inl (is (I64 x6))), (8, .inl (is (U64 v.2.1)))], [(0, pb 65 (ar U32 b0_m v.2.2 ++ []))]⟩) (fun v => some out2 = F125_5 N b0_m b0_o b0_l b0_c a1 a2 x3 x6 v.1 v.2.1 v.2.2) ?_ ?_
          · skip
            refine AW_block ?_
            refine AW_seq1 ?_
            refine AW_region ?_
            refine AL_cons (LR_move (at_tmp 13 _) rfl) (sS (sT1 rfl) sB0 sF0) ?_
            refine AL_cons (LR_assign (at_tmp 15 _) rfl) (sS (sT1 rfl) sB0 sF0) ?_
            refine AL_nil ?_
            refine thenN ?_
            refine AW_cut (σ := BitVec 64) (fun v => ⟨[(0, .inr (.inr (.inl (0, b0_o, b0_l, b0_c)))), (1, .inl (ns U32 a1)), (2, .inl (is (U32 a2))), (7, .inl (is (U64 v))), (8, .inl (is (U64 x5))), (12, .inl (is (I64 x3))), (13, .inl (is (I64 x6))), (9, .inl (is (I64 x6)))], [(0, pb 65 (ar U32 b0_m x7 ++ []))]⟩) (fun v => some out2 = F125_6 N b0_m b0_o b0_l b0_c a1 a2 x3 x5 x6 x7 v) ?_ ?_
            · skip
              refine AW_cut (σ := Bool) (fun v => ⟨[(0, .inr (.inr (.inl (0, b0_o, b0_l, b0_c)))), (1, .inl (ns U32 a1)), (2, .inl (is (U32 a2))), (7, .inl (is (U64 x4))), (8, .inl (is (U64 x5))), (12, .inl (is (I64 x3))), (13, .inl (is (I64 x6))), (9, .inl (is (I64 x6))), (19, .inl (is (Bl v)))], [(0, pb 65 (ar U32 b0_m x7 ++ []))]⟩) (fun v => some out2 = F125_10 N b0_m b0_o b0_l b0_c a1 a2 x3 x4 x5 x6 x7 v) ?_ ?_
              · skip
                refine AW_region ?_
                refine AL_cons (LR_move (at_tmp 9 _) rfl) (sS (sT1 rfl) sB0 sF0) ?_
                refine AL_cons (LR_move (at_tmp 1 _) rfl) (sS (sT1 rfl) sB0 sF0) ?_
                refine AL_cons (LR_bi1 (at_tmp 17 _) (len_ns Hfaa.underlying49 a1) rfl) (sS (sT1 rfl) sB0 sF0) ?_
                refine AL_cons (LR_bin (at_tmp 16 _) (at_tmp 18 _) (lss_I64 x6 (a1.2.1 : Int)) rfl) (sS (sA (sT1 rfl) (sT1 rfl)) sB0 sF0) ?_
                refine AL_nil ?_
                exact thenN (cutLeaf (v := decide (x6 < (a1.2.1 : Int))) hr (weakB ((sT rfl (sT rfl (sT rfl (sT rfl (sT rfl (sT rfl (sT rfl (sT rfl (sT rfl sT0)))))))))) (sub_keep sub_nil) rfl))
              · rintro x16 hr
                show AW Hfaa.prog _ _ _ ⟨[(0, .inr (.inr (.inl (0, b0_o, b0_l, b0_c)))), (1, .inl (ns U32 a1)), (2, .inl (is (U32 a2))), (7, .inl (is (U64 x4))), (8, .inl (is (U64 x5))), (12, .inl (is (I64 x3))), (13, .inl (is (I64 x6))), (9, .inl (is (I64 x6))), (19, .inl (is (Bl x16)))], [(0, pb 65 (ar U32 b0_m x7 ++ []))]⟩
                have hr : some out2 = F125_10 N b0_m b0_o b0_l b0_c a1 a2 x3 x4 x5 x6 x7 x16 := hr
                refine AW_condT (b := x16) rfl (fun h => ?_) (fun h => ?_)
                · have hr := hr.trans (cond_t h)
                  clear h
                  refine AW_region ?_
                  refine AL_cons (LR_move (at_tmp 7 _) rfl) (sS (sT1 rfl) sB0 sF0) ?_
                  refine AL_cons (LR_move (at_tmp 2 _) rfl) (sS (sT1 rfl) sB0 sF0) ?_
                  refine AL_cons (LR_conv (vx := U32 a2) (at_tmp 21 _) (conv_U64 Hfaa.underlying65 Hfaa.underlying30 (a2.toNat : Int)) rfl) (sS (sT1 rfl) sB0 sF0) ?_
                  refine AL_cons (LR_move (at_tmp 1 _) rfl) (sS (sT1 rfl) sB0 sF0) ?_
                  refine AL_cons (LR_move (at_tmp 9 _) rfl) (sS (sT1 rfl) sB0 sF0) ?_
                  obtain ⟨hg120, hr⟩ := guard_some hr
                  refine AL_cons (LR_indexAddrQ Hfaa.underlying49 sz65 (at_tmp 23 _) (at_tmp 24 _) (dand hg120) rfl) (sS (sA (sT1 rfl) (sT1 rfl)) sB0 sF0) ?_
                  refine AL_cons (LR_loadQ (at_tmp 25 _) na65 rfl) (sS (sT1 rfl) sB0 sF0) ?_
                  refine AL_cons (LR_conv (vx := U32 (a1.2.2 x6.toNat)) (at_tmp 26 _) (conv_U64 Hfaa.underlying65 Hfaa.underlying30 ((a1.2.2 x6.toNat).toNat : Int)) rfl) (sS (sT1 rfl) sB0 sF0) ?_
                  refine AL_cons (LR_bin (at_tmp 22 _) (at_tmp 27 _) (mul_U64 (BitVec.ofInt 64 (a2.toNat : Int)) (BitVec.ofInt 64 ((a1.2.2 x6.toNat).toNat : Int))) rfl) (sS (sA (sT1 rfl) (sT1 rfl)) sB0 sF0) ?_
                  refine AL_cons (LR_bin (at_tmp 20 _) (at_tmp 28 _) (add_U64 x4 ((BitVec.ofInt 64 (a2.toNat : Int)) * (BitVec.ofInt 64 ((a1.2.2 x6.toNat).toNat : Int)))) rfl) (sS (sA (sT1 rfl) (sT1 rfl)) sB0 sF0) ?_
                  refine AL_cons (LR_assign (at_tmp 29 _) rfl) (sS (sT1 rfl) sB0 sF0) ?_
                  refine AL_nil ?_
                  exact thenN (cutLeaf (v := x4 + ((BitVec.ofInt 64 (a2.toNat : Int)) * (BitVec.ofInt 64 ((a1.2.2 x6.toNat).toNat : Int)))) hr (weakB ((sT rfl (sT rfl (sT rfl (sT rfl (sT rfl (sT rfl (sT rfl (sT rfl sT0))))))))) (sub_keep sub_nil) rfl))
                · have hr := hr.trans (cond_f h)
                  clear h
                  refine AW_skip ?_
                  exact thenN (cutLeaf (v := x4) hr (weakB ((sT rfl (sT rfl (sT rfl (sT rfl (sT rfl (sT rfl (sT rfl (sT rfl sT0))))))))) (sub_keep sub_nil) rfl))
            · rintro x12 hr
              show AW Hfaa.prog _ _ _ ⟨[(0, .inr (.inr (.inl (0, b0_o, b0_l, b0_c)))), (1, .inl (ns U32 a1)), (2, .inl (is (U32 a2))), (7, .inl (is (U64 x12))), (8, .inl (is (U64 x5))), (12, .inl (is (I64 x3))), (13, .inl (is (I64 x6))), (9, .inl (is (I64 x6)))], [(0, pb 65 (ar U32 b0_m x7 ++ []))]⟩
              have hr : some out2 = F125_6 N b0_m b0_o b0_l b0_c a1 a2 x3 x5 x6 x7 x12 := hr
              refine AW_cut (σ := BitVec 64) (fun v => ⟨[(0, .inr (.inr (.inl (0, b0_o, b0_l, b0_c)))), (1, .inl (ns U32 a1)), (2, .inl (is (U32 a2))), (7, .inl (is (U64 x12))), (12, .inl (is (I64 x3))), (13, .inl (is (I64 x6))), (9, .inl (is (I64 x6))), (10, .inl (is (U64 v)))], [(0, pb 65 (ar U32 b0_m x7 ++ []))]⟩) (fun v => some out2 = F125_7 N b0_m b0_o b0_l b0_c a1 a2 x3 x6 x7 x12 v) ?_ ?_
              · skip
                refine AW_region ?_
                refine AL_cons (LR_move (at_tmp 0 _) rfl) (sS (sT1 rfl) sB0 sF0) ?_
                refine AL_cons (LR_move (at_tmp 9 _) rfl) (sS (sT1 rfl) sB0 sF0) ?_
                obtain ⟨hg118, hr⟩ := guard_some hr
                obtain ⟨hg119, hr⟩ := guard_some hr
                refine AL_cons (LR_indexAddrS (o := b0_o + x6.toNat) Hfaa.underlying49 sz65 (at_tmp 30 _) (at_tmp 31 _) (dand hg118) rfl rfl) (sS (sA (sT1 rfl) (sT1 rfl)) sB0 sF0) ?_
                refine AL_cons (LR_load (at_tmp 32 _) na65 (gA (of_decide_eq_true hg119)) rfl) (sS (sT1 rfl) (sB1 rfl) sF0) ?_
                refine AL_cons (LR_conv (vx := U32 (x7 (b0_o + x6.toNat))) (at_tmp 33 _) (conv_U64 Hfaa.underlying65 Hfaa.underlying30 ((x7 (b0_o + x6.toNat)).toNat : Int)) rfl) (sS (sT1 rfl) sB0 sF0) ?_
                refine AL_cons (LR_move (at_tmp 7 _) rfl) (sS (sT1 rfl) sB0 sF0) ?_
                refine AL_cons (LR_bin (at_tmp 35 _) (at_c (v' := U64 (4294967295#64)) rfl) (and_U64 x12 (4294967295#64)) rfl) (sS (sA (sT1 rfl) sT0) sB0 sF0) ?_
                refine AL_cons (LR_bin (at_tmp 34 _) (at_tmp 36 _) (sub_U64 (BitVec.ofInt 64 ((x7 (b0_o + x6.toNat)).toNat : Int)) (x12 &&& (4294967295#64))) rfl) (sS (sA (sT1 rfl) (sT1 rfl)) sB0 sF0) ?_
                refine AL_cons (LR_move (at_tmp 8 _) rfl) (sS (sT1 rfl) sB0 sF0) ?_
                refine AL_cons (LR_bin (at_tmp 37 _) (at_tmp 38 _) (sub_U64 ((BitVec.ofInt 64 ((x7 (b0_o + x6.toNat)).toNat : Int)) - (x12 &&& (4294967295#64))) x5) rfl) (sS (sA (sT1 rfl) (sT1 rfl)) sB0 sF0) ?_
                refine AL_cons (LR_assign (at_tmp 39 _) rfl) (sS (sT1 rfl) sB0 sF0) ?_
                refine AL_nil ?_
                exact thenN (cutLeaf (v := ((BitVec.ofInt 64 ((x7 (b0_o + x6.toNat)).toNat : Int)) - (x12 &&& (4294967295#64))) - x5) hr (weakB ((sT rfl (sT rfl (sT rfl (sT rfl (sT rfl (sT rfl (sT rfl (sT rfl sT0))))))))) (sub_keep sub_nil) rfl))
              · rintro x13 hr
                show AW Hfaa.prog _ _ _ ⟨[(0, .inr (.inr (.inl (0, b0_o, b0_l, b0_c)))), (1, .inl (ns U32 a1)), (2, .inl (is (U32 a2))), (7, .inl (is (U64 x12))), (12, .inl (is (I64 x3))), (13, .inl (is (I64 x6))), (9, .inl (is (I64 x6))), (10, .inl (is (U64 x13)))], [(0, pb 65 (ar U32 b0_m x7 ++ []))]⟩
                have hr : some out2 = F125_7 N b0_m b0_o b0_l b0_c a1 a2 x3 x6 x7 x12 x13 := hr
                refine AW_cut (σ := (Nat → BitVec 32)) (fun v => ⟨[(0, .inr (.inr (.inl (0, b0_o, b0_l, b0_c)))), (1, .inl (ns U32 a1)), (2, .inl (is (U32 a2))), (7, .inl (is (U64 x12))), (12, .inl (is (I64 x3))), (13, .inl (is (I64 x6))), (10, .inl (is (U64 x13)))], [(0, pb 65 (ar U32 b0_m v ++ []))]⟩) (fun v => some out2 = F125_8 N b0_m b0_o b0_l b0_c a1 a2 x3 x6 x12 x13 v) ?_ ?_
                · skip
                  refine AW_region ?_
                  refine AL_cons (LR_move (at_tmp 0 _) rfl) (sS (sT1 rfl) sB0 sF0) ?_
                  refine AL_cons (LR_move (at_tmp 9 _) rfl) (sS (sT1 rfl) sB0 sF0) ?_
                  refine AL_cons (LR_move (at_tmp 10 _) rfl) (sS (sT1 rfl) sB0 sF0) ?_
                  refine AL_cons (LR_conv (vx := U64 x13) (at_tmp 42 _) (conv_U32 Hfaa.underlying30 Hfaa.underlying65 (x13.toNat : Int)) rfl) (sS (sT1 rfl) sB0 sF0) ?_
                  obtain ⟨hg116, hr⟩ := guard_some hr
                  obtain ⟨hg117, hr⟩ := guard_some hr
                  refine AL_cons (LR_indexAddrS (o := b0_o + x6.toNat) Hfaa.underlying49 sz65 (at_tmp 40 _) (at_tmp 41 _) (dand hg116) rfl rfl) (sS (sA (sT1 rfl) (sT1 rfl)) sB0 sF0) ?_
                  refine AL_cons (LR_storeA (at_tmp 44 _) (at_tmp 43 _) (cells_one (one_is rfl)) (onC (one_is rfl) onN) sz65 rfl (ble_dyn (lnA ln0) (by have := (of_decide_eq_true hg117); omega)) (stA (of_decide_eq_true hg117))) (sS (sA (sT1 rfl) (sT1 rfl)) (sB1 rfl) sF0) ?_
                  refine AL_nil ?_
                  exact thenN (cutLeaf (v := upd x7 (b0_o + x6.toNat) (BitVec.ofInt 32 (x13.toNat : Int))) hr (weakB ((sT rfl (sT rfl (sT rfl (sT rfl (sT rfl (sT rfl (sT rfl sT0)))))))) (sub_keep sub_nil) rfl))
                · rintro x14 hr
                  show AW Hfaa.prog _ _ _ ⟨[(0, .inr (.inr (.inl (0, b0_o, b0_l, b0_c)))), (1, .inl (ns U32 a1)), (2, .inl (is (U32 a2))), (7, .inl (is (U64 x12))), (12, .inl (is (I64 x3))), (13, .inl (is (I64 x6))), (10, .inl (is (U64 x13)))], [(0, pb 65 (ar U32 b0_m x14 ++ []))]⟩
                  have hr : some out2 = F125_8 N b0_m b0_o b0_l b0_c a1 a2 x3 x6 x12 x13 x14 := hr
                  refine AW_cut (σ := BitVec 64) (fun v => ⟨[(0, .inr (.inr (.inl (0, b0_o, b0_l, b0_c)))), (1, .inl (ns U32 a1)), (2, .inl (is (U32 a2))), (7, .inl (is (U64 x12))), (12, .inl (is (I64 x3))), (13, .inl (is (I64 x6))), (8, .inl (is (U64 v)))], [(0, pb 65 (ar U32 b0_m x14 ++ []))]⟩) (fun v => some out2 = F125_9 N b0_m b0_o b0_l b0_c a1 a2 x3 x6 x12 x14 v) ?_ ?_
                  · skip
                    refine AW_region ?_
                    refine AL_cons (LR_move (at_tmp 10 _) rfl) (sS (sT1 rfl) sB0 sF0) ?_
                    refine AL_cons (LR_bin (at_tmp 45 _) (at_c (v' := U64 (63#64)) rfl) (shr_U64 x13 ((63#64).toNat : Int) (Int.natCast_nonneg _)) rfl) (sS (sA (sT1 rfl) sT0) sB0 sF0) ?_
                    refine AL_cons (LR_assign (at_tmp 46 _) rfl) (sS (sT1 rfl) sB0 sF0) ?_
                    refine AL_nil ?_
                    exact thenN (cutLeaf (v := x13 >>> 63) hr (weakB ((sT rfl (sT rfl (sT rfl (sT rfl (sT rfl (sT rfl (sT rfl sT0)))))))) (sub_keep sub_nil) rfl))
                  · rintro x15 hr
                    show AW Hfaa.prog _ _ _ ⟨[(0, .inr (.inr (.inl (0, b0_o, b0_l, b0_c)))), (1, .inl (ns U32 a1)), (2, .inl (is (U32 a2))), (7, .inl (is (U64 x12))), (12, .inl (is (I64 x3))), (13, .inl (is (I64 x6))), (8, .inl (is (U64 x15)))], [(0, pb 65 (ar U32 b0_m x14 ++ []))]⟩
                    have hr : some out2 = F125_9 N b0_m b0_o b0_l b0_c a1 a2 x3 x6 x12 x14 x15 := hr
                    refine AW_region ?_
                    refine AL_cons (LR_move (at_tmp 7 _) rfl) (sS (sT1 rfl) sB0 sF0) ?_
                    refine AL_cons (LR_bin (at_tmp 47 _) (at_c (v' := U64 (32#64)) rfl) (shr_U64 x12 ((32#64).toNat : Int) (Int.natCast_nonneg _)) rfl) (sS (sA (sT1 rfl) sT0) sB0 sF0) ?_
                    refine AL_cons (LR_assign (at_tmp 48 _) rfl) (sS (sT1 rfl) sB0 sF0) ?_
                    refine AL_nil ?_
                    refine blN ?_
                    exact thenN (cutLeaf (v := (x12 >>> 32, x15, x14)) hr (weakB ((sT rfl (sT rfl (sT rfl (sT rfl (sT rfl (sT rfl (sT rfl sT0)))))))) (sub_keep sub_nil) rfl))
          · rintro ⟨x9, x10, x11⟩ hr
            show AW Hfaa.prog _ _ _ ⟨[(0, .inr (.inr (.inl (0, b0_o, b0_l, b0_c)))), (1, .inl (ns U32 a1)), (2, .inl (is (U32 a2))), (7, .inl (is (U64 x9))), (12, .inl (is (I64 x3))), (13, .inl (is (I64 x6))), (8, .inl (is (U64 x10)))], [(0, pb 65 (ar U32 b0_m x11 ++ []))]⟩
            have hr : some out2 = F125_5 N b0_m b0_o b0_l b0_c a1 a2 x3 x6 x9 x10 x11 := hr
            refine AW_region ?_
            refine AL_cons (LR_bin (at_tmp 13 _) (at_c (v' := I64 1) rfl) (add_I64 x6 1) rfl) (sS (sA (sT1 rfl) sT0) sB0 sF0) ?_
            refine AL_cons (LR_move (at_tmp 49 _) rfl) (sS (sT1 rfl) sB0 sF0) ?_
            refine AL_nil ?_
            exact thenN (loopNext (x' := (x9, x10, w64 (x6 + 1), x11)) hr (weakB ((sT rfl (sT rfl (sT rfl (sT rfl (sT rfl (sT rfl (sT rfl sT0)))))))) (sub_keep sub_nil) rfl))
        · have hr := hr.trans (cond_f h)
          clear h
          refine AW_exit ?_
          refine thenX ?_
          obtain ⟨r', hro, hr⟩ := map_inr hr
          refine thenX (loopOut hro (fun he => ?_))
          rw [he] at hr
          refine blH ?_
          exact thenN (cutLeaf (v := (x5, x7)) hr (weakB ((sT rfl sT0)) (sub_keep sub_nil) rfl))
  · rintro ⟨x1, x2⟩ hr
    show AW Hfaa.prog _ _ _ ⟨[(8, .inl (is (U64 x1)))], [(0, pb 65 (ar U32 b0_m x2 ++ []))]⟩
    have hr : some r = F125_1 N b0_m x1 x2 := hr
    refine AW_seq1 ?_
    refine AW_region ?_
    refine AL_cons (LR_move (at_tmp 8 _) rfl) (sS (sT1 rfl) sB0 sF0) ?_
    refine AL_cons (LR_bin (at_tmp 50 _) (at_c (v' := U64 (1#64)) rfl) (eql_U64 x1 (1#64)) rfl) (sS (sA (sT1 rfl) sT0) sB0 sF0) ?_
    refine AL_cons (LR_assign (at_tmp 51 _) rfl) (sS (sT1 rfl) sB0 sF0) ?_
    refine AL_nil ?_
    refine thenN ?_
    refine AW_ret ?_
    obtain rfl := Option.some.inj hr
    exact ⟨res1 rfl (rvT rfl), (sub_keep sub_nil)⟩
/-- nat.putBack -/
def F126_4 (N : Nat) (b0_m : Nat) (b0_o : Nat) (b0_l : Nat) (b0_c : Nat) (a1 : NS (BitVec 32)) (x1 : Int) (x3 : Int) (x6 : BitVec 64) (x7 : Nat → BitVec 32) : Option ((BitVec 64 × Int × (Nat → BitVec 32)) ⊕ ((Nat → BitVec 32))) := some (.inl ((x6, w64 (x3 + 1), x7)))
def F126_7 (N : Nat) (b0_m : Nat) (b0_o : Nat) (b0_l : Nat) (b0_c : Nat) (a1 : NS (BitVec 32)) (x1 : Int) (x3 : Int) (x9 : BitVec 64) (x10 : Nat → BitVec 32) : Option ((BitVec 64 × Int × (Nat → BitVec 32)) ⊕ ((Nat → BitVec 32))) := F126_4 N b0_m b0_o b0_l b0_c a1 x1 x3 (x9 >>> 32) x10
def F126_6 (N : Nat) (b0_m : Nat) (b0_o : Nat) (b0_l : Nat) (b0_c : Nat) (a1 : NS (BitVec 32)) (x1 : Int) (x3 : Int) (x4 : Nat → BitVec 32) (x9 : BitVec 64) : Option ((BitVec 64 × Int × (Nat → BitVec 32)) ⊕ ((Nat → BitVec 32))) := bif (decide (0 ≤ x3) && decide (x3 < (b0_l : Int))) then bif decide (b0_o + x3.toNat < b0_m) then F126_7 N b0_m b0_o b0_l b0_c a1 x1 x3 x9 (upd x4 (b0_o + x3.toNat) (BitVec.ofInt 32 (x9.toNat : Int))) else none else none
def F126_8 (N : Nat) (b0_m : Nat) (b0_o : Nat) (b0_l : Nat) (b0_c : Nat) (a1 : NS (BitVec 32)) (x1 : Int) (x3 : Int) (x4 : Nat → BitVec 32) (x8 : BitVec 64) (x11 : Bool) : Option ((BitVec 64 × Int × (Nat → BitVec 32)) ⊕ ((Nat → BitVec 32))) := bif x11 then bif (decide (0 ≤ x3) && decide (x3 < (a1.2.1 : Int))) then F126_6 N b0_m b0_o b0_l b0_c a1 x1 x3 x4 (x8 + (BitVec.ofInt 64 ((a1.2.2 x3.toNat).toNat : Int))) else none else F126_6 N b0_m b0_o b0_l b0_c a1 x1 x3 x4 x8
def F126_5 (N : Nat) (b0_m : Nat) (b0_o : Nat) (b0_l : Nat) (b0_c : Nat) (a1 : NS (BitVec 32)) (x1 : Int) (x3 : Int) (x4 : Nat → BitVec 32) (x8 : BitVec 64) : Option ((BitVec 64 × Int × (Nat → BitVec 32)) ⊕ ((Nat → BitVec 32))) := F126_8 N b0_m b0_o b0_l b0_c a1 x1 x3 x4 x8 (decide (x3 < (a1.2.1 : Int)))
def F126_3 (N : Nat) (b0_m : Nat) (b0_o : Nat) (b0_l : Nat) (b0_c : Nat) (a1 : NS (BitVec 32)) (x1 : Int) (x2 : BitVec 64) (x3 : Int) (x4 : Nat → BitVec 32) (x5 : Bool) : Option ((BitVec 64 × Int × (Nat → BitVec 32)) ⊕ ((Nat → BitVec 32))) := bif x5 then bif (decide (0 ≤ x3) && decide (x3 < (b0_l : Int))) then bif decide (b0_o + x3.toNat < b0_m) then F126_5 N b0_m b0_o b0_l b0_c a1 x1 x3 x4 (x2 + (BitVec.ofInt 64 ((x4 (b0_o + x3.toNat)).toNat : Int))) else none else none else (some x4).map Sum.inr
def F126_L2b (N : Nat) (b0_m : Nat) (b0_o : Nat) (b0_l : Nat) (b0_c : Nat) (a1 : NS (BitVec 32)) (x1 : Int) (x2 : BitVec 64) (x3 : Int) (x4 : Nat → BitVec 32) : Option ((BitVec 64 × Int × (Nat → BitVec 32)) ⊕ ((Nat → BitVec 32))) := F126_3 N b0_m b0_o b0_l b0_c a1 x1 x2 x3 x4 (decide (x3 < x1))
def F126_L2 (N : Nat) (b0_m : Nat) (b0_o : Nat) (b0_l : Nat) (b0_c : Nat) (a1 : NS (BitVec 32)) (x1 : Int) : (BitVec 64 × Int × (Nat → BitVec 32)) → Option ((BitVec 64 × Int × (Nat → BitVec 32)) ⊕ ((Nat → BitVec 32))) := fun v => F126_L2b N b0_m b0_o b0_l b0_c a1 x1 v.1 v.2.1 v.2.2
def F126_1 (N : Nat) (b0_m : Nat) (b0_o : Nat) (b0_l : Nat) (b0_c : Nat) (b0_w : Nat → BitVec 32) (a1 : NS (BitVec 32)) (x1 : Int) : Option ((Nat → BitVec 32)) := iterL (F126_L2 N b0_m b0_o b0_l b0_c a1 x1) N (0#64, 0, b0_w)
def F126 (N : Nat) (b0_m : Nat) (b0_o : Nat) (b0_l : Nat) (b0_c : Nat) (b0_w : Nat → BitVec 32) (a1 : NS (BitVec 32)) : Option ((Nat → BitVec 32)) := F126_1 N b0_m b0_o b0_l b0_c b0_w a1 (b0_l : Int)
theorem C126 (N : Nat) (b0_m : Nat) (b0_o : Nat) (b0_l : Nat) (b0_c : Nat) (b0_w : Nat → BitVec 32) (a1 : NS (BitVec 32)) (r : (Nat → BitVec 32)) (hr : some r = F126 N b0_m b0_o b0_l b0_c b0_w a1) : FnB Hfaa.prog 126 [.inr (.inr (.inl (0, b0_o, b0_l, b0_c))), .inl (ns U32 a1)] [(0, pb 65 (ar U32 b0_m b0_w ++ []))] (tup []) [(0, pb 65 (ar U32 b0_m r ++ []))] := by
  refine fnB_intro Hfaa.func126 rfl rfl rfl rfl rfl ⟨hf_pb _ _, trivial⟩ ?_
  intro bn0 w0 H0
  refine AW_seq1 ?_
  refine AW_region ?_
  refine AL_cons (LR_assign (at_c (v' := U64 (0#64)) rfl) rfl) (sS sT0 sB0 sF0) ?_
  refine AL_nil ?_
  refine thenN ?_
  refine AW_cut (σ := Int) (fun v => ⟨[(0, .inr (.inr (.inl (0, b0_o, b0_l, b0_c)))), (1, .inl (ns U32 a1)), (4, .inl (is (U64 (0#64)))), (7, .inl (is (I64 v))), (8, .inl (is (I64 0)))], [(0, pb 65 (ar U32 b0_m b0_w ++ []))]⟩) (fun v => some r = F126_1 N b0_m b0_o b0_l b0_c b0_w a1 v) ?_ ?_
  · skip
    refine AW_region ?_
    refine AL_cons (LR_move (at_tmp 0 _) rfl) (sS (sT1 rfl) sB0 sF0) ?_
    refine AL_cons (LR_lenT (at_tmp 6 _) Hfaa.underlying49 rfl) (sS (sT1 rfl) sB0 sF0) ?_
    refine AL_cons (LR_move (at_c (v' := I64 0) rfl) rfl) (sS sT0 sB0 sF0) ?_
    refine AL_nil ?_
    exact thenN (cutLeaf (v := (b0_l : Int)) hr (weakB ((sT rfl (sT rfl (sT rfl (sT rfl (sT rfl sT0)))))) (sub_keep sub_nil) rfl))
  · rintro x1 hr
    show AW Hfaa.prog _ _ _ ⟨[(0, .inr (.inr (.inl (0, b0_o, b0_l, b0_c)))), (1, .inl (ns U32 a1)), (4, .inl (is (U64 (0#64)))), (7, .inl (is (I64 x1))), (8, .inl (is (I64 0)))], [(0, pb 65 (ar U32 b0_m b0_w ++ []))]⟩
    have hr : some r = F126_1 N b0_m b0_o b0_l b0_c b0_w a1 x1 := hr
    refine AW_block ?_
    refine AW_iterR (σ := BitVec 64 × Int × (Nat → BitVec 32)) (r := r) (x0 := (0#64, 0, b0_w)) (emb := fun v => ⟨[(0, .inr (.inr (.inl (0, b0_o, b0_l, b0_c)))), (1, .inl (ns U32 a1)), (4, .inl (is (U64 v.1))), (7, .inl (is (I64 x1))), (8, .inl (is (I64 v.2.1)))], [(0, pb 65 (ar U32 b0_m v.2.2 ++ []))]⟩) ?_ hr ?_
    · exact weakB ((sT rfl (sT rfl (sT rfl (sT rfl (sT rfl sT0)))))) (sub_keep sub_nil) rfl
    rintro ⟨x2, x3, x4⟩ out1 hr
    show AW Hfaa.prog _ _ _ ⟨[(0, .inr (.inr (.inl (0, b0_o, b0_l, b0_c)))), (1, .inl (ns U32 a1)), (4, .inl (is (U64 x2))), (7, .inl (is (I64 x1))), (8, .inl (is (I64 x3)))], [(0, pb 65 (ar U32 b0_m x4 ++ []))]⟩
    have hr : some out1 = F126_L2b N b0_m b0_o b0_l b0_c a1 x1 x2 x3 x4 := hr
    refine AW_cut (σ := Bool) (fun v => ⟨[(0, .inr (.inr (.inl (0, b0_o, b0_l, b0_c)))), (1, .inl (ns U32 a1)), (4, .inl (is (U64 x2))), (7, .inl (is (I64 x1))), (8, .inl (is (I64 x3))), (9, .inl (is (Bl v)))], [(0, pb 65 (ar U32 b0_m x4 ++ []))]⟩) (fun v => some out1 = F126_3 N b0_m b0_o b0_l b0_c a1 x1 x2 x3 x4 v) ?_ ?_
    · skip
      refine AW_region ?_
      refine AL_cons (LR_bin (at_tmp 8 _) (at_tmp 7 _) (lss_I64 x3 x1) rfl) (sS (sA (sT1 rfl) (sT1 rfl)) sB0 sF0) ?_
      refine AL_nil ?_
      exact thenN (cutLeaf (v := decide (x3 < x1)) hr (weakB ((sT rfl (sT rfl (sT rfl (sT rfl (sT rfl (sT rfl sT0))))))) (sub_keep sub_nil) rfl))
    · rintro x5 hr
      show AW Hfaa.prog _ _ _ ⟨[(0, .inr (.inr (.inl (0, b0_o, b0_l, b0_c)))), (1, .inl (ns U32 a1)), (4, .inl (is (U64 x2))), (7, .inl (is (I64 x1))), (8, .inl (is (I64 x3))), (9, .inl (is (Bl x5)))], [(0, pb 65 (ar U32 b0_m x4 ++ []))]⟩
      have hr : some out1 = F126_3 N b0_m b0_o b0_l b0_c a1 x1 x2 x3 x4 x5 := hr
      refine AW_seq1 ?_
      refine AW_condT (b := x5) rfl (fun h => ?_) (fun h => ?_)
      · have hr := hr.trans (cond_t h)
        clear h
        refine AW_skip ?_
        refine thenN ?_
        refine AW_cut (σ := BitVec 64 × (Nat → BitVec 32)) (fun v => ⟨[(0, .inr (.inr (.inl (0, b0_o, b0_l, b0_c)))), (1, .inl (ns U32 a1)), (4, .inl (is (U64 v.1))), (7, .inl (is (I64 x1))), (8, .inl (is (I64 x3)))], [(0, pb 65 (ar U32 b0_m v.2 ++ []))]⟩) (fun v => some out1 = F126_4 N b0_m b0_o b0_l b0_c a1 x1 x3 v.1 v.2) ?_ ?_
        · skip
          refine AW_block ?_
          refine AW_seq1 ?_
          refine AW_region ?_
          refine AL_cons (LR_move (at_tmp 8 _) rfl) (sS (sT1 rfl) sB0 sF0) ?_
          refine AL_cons (LR_assign (at_tmp 10 _) rfl) (sS (sT1 rfl) sB0 sF0) ?_
          refine AL_nil ?_
          refine thenN ?_
          refine AW_cut (σ := BitVec 64) (fun v => ⟨[(0, .inr (.inr (.inl (0, b0_o, b0_l, b0_c)))), (1, .inl (ns U32 a1)), (4, .inl (is (U64 v))), (7, .inl (is (I64 x1))), (8, .inl (is (I64 x3))), (5, .inl (is (I64 x3)))], [(0, pb 65 (ar U32 b0_m x4 ++ []))]⟩) (fun v => some out1 = F126_5 N b0_m b0_o b0_l b0_c a1 x1 x3 x4 v) ?_ ?_
          · skip
            refine AW_region ?_
            refine AL_cons (LR_move (at_tmp 4 _) rfl) (sS (sT1 rfl) sB0 sF0) ?_
            refine AL_cons (LR_move (at_tmp 0 _) rfl) (sS (sT1 rfl) sB0 sF0) ?_
            refine AL_cons (LR_move (at_tmp 5 _) rfl) (sS (sT1 rfl) sB0 sF0) ?_
            obtain ⟨hg59, hr⟩ := guard_some hr
            obtain ⟨hg60, hr⟩ := guard_some hr
            refine AL_cons (LR_indexAddrS (o := b0_o + x3.toNat) Hfaa.underlying49 sz65 (at_tmp 12 _) (at_tmp 13 _) (dand hg59) rfl rfl) (sS (sA (sT1 rfl) (sT1 rfl)) sB0 sF0) ?_
            refine AL_cons (LR_load (at_tmp 14 _) na65 (gA (of_decide_eq_true hg60)) rfl) (sS (sT1 rfl) (sB1 rfl) sF0) ?_
            refine AL_cons (LR_conv (vx := U32 (x4 (b0_o + x3.toNat))) (at_tmp 15 _) (conv_U64 Hfaa.underlying65 Hfaa.underlying30 ((x4 (b0_o + x3.toNat)).toNat : Int)) rfl) (sS (sT1 rfl) sB0 sF0) ?_
            refine AL_cons (LR_bin (at_tmp 11 _) (at_tmp 16 _) (add_U64 x2 (BitVec.ofInt 64 ((x4 (b0_o + x3.toNat)).toNat : Int))) rfl) (sS (sA (sT1 rfl) (sT1 rfl)) sB0 sF0) ?_
            refine AL_cons (LR_assign (at_tmp 17 _) rfl) (sS (sT1 rfl) sB0 sF0) ?_
            refine AL_nil ?_
            exact thenN (cutLeaf (v := x2 + (BitVec.ofInt 64 ((x4 (b0_o + x3.toNat)).toNat : Int))) hr (weakB ((sT rfl (sT rfl (sT rfl (sT rfl (sT rfl (sT rfl sT0))))))) (sub_keep sub_nil) rfl))
          · rintro x8 hr
            show AW Hfaa.prog _ _ _ ⟨[(0, .inr (.inr (.inl (0, b0_o, b0_l, b0_c)))), (1, .inl (ns U32 a1)), (4, .inl (is (U64 x8))), (7, .inl (is (I64 x1))), (8, .inl (is (I64 x3))), (5, .inl (is (I64 x3)))], [(0, pb 65 (ar U32 b0_m x4 ++ []))]⟩
            have hr : some out1 = F126_5 N b0_m b0_o b0_l b0_c a1 x1 x3 x4 x8 := hr
            refine AW_cut (σ := BitVec 64) (fun v => ⟨[(0, .inr (.inr (.inl (0, b0_o, b0_l, b0_c)))), (1, .inl (ns U32 a1)), (4, .inl (is (U64 v))), (7, .inl (is (I64 x1))), (8, .inl (is (I64 x3))), (5, .inl (is (I64 x3)))], [(0, pb 65 (ar U32 b0_m x4 ++ []))]⟩) (fun v => some out1 = F126_6 N b0_m b0_o b0_l b0_c a1 x1 x3 x4 v) ?_ ?_
            · skip
              refine AW_cut (σ := Bool) (fun v => ⟨[(0, .inr (.inr (.inl (0, b0_o, b0_l, b0_c)))), (1, .inl (ns U32 a1)), (4, .inl (is (U64 x8))), (7, .inl (is (I64 x1))), (8, .inl (is (I64 x3))), (5, .inl (is (I64 x3))), (21, .inl (is (Bl v)))], [(0, pb 65 (ar U32 b0_m x4 ++ []))]⟩) (fun v => some out1 = F126_8 N b0_m b0_o b0_l b0_c a1 x1 x3 x4 x8 v) ?_ ?_
              · skip
                refine AW_region ?_
                refine AL_cons (LR_move (at_tmp 5 _) rfl) (sS (sT1 rfl) sB0 sF0) ?_
                refine AL_cons (LR_move (at_tmp 1 _) rfl) (sS (sT1 rfl) sB0 sF0) ?_
                refine AL_cons (LR_bi1 (at_tmp 19 _) (len_ns Hfaa.underlying49 a1) rfl) (sS (sT1 rfl) sB0 sF0) ?_
                refine AL_cons (LR_bin (at_tmp 18 _) (at_tmp 20 _) (lss_I64 x3 (a1.2.1 : Int)) rfl) (sS (sA (sT1 rfl) (sT1 rfl)) sB0 sF0) ?_
                refine AL_nil ?_
                exact thenN (cutLeaf (v := decide (x3 < (a1.2.1 : Int))) hr (weakB ((sT rfl (sT rfl (sT rfl (sT rfl (sT rfl (sT rfl (sT rfl sT0)))))))) (sub_keep sub_nil) rfl))
              · rintro x11 hr
                show AW Hfaa.prog _ _ _ ⟨[(0, .inr (.inr (.inl (0, b0_o, b0_l, b0_c)))), (1, .inl (ns U32 a1)), (4, .inl (is (U64 x8))), (7, .inl (is (I64 x1))), (8, .inl (is (I64 x3))), (5, .inl (is (I64 x3))), (21, .inl (is (Bl x11)))], [(0, pb 65 (ar U32 b0_m x4 ++ []))]⟩
                have hr : some out1 = F126_8 N b0_m b0_o b0_l b0_c a1 x1 x3 x4 x8 x11 := hr
                refine AW_condT (b := x11) rfl (fun h => ?_) (fun h => ?_)
                · have hr := hr.trans (cond_t h)
                  clear h
                  refine AW_region ?_
                  refine AL_cons (LR_move (at_tmp 4 _) rfl) (sS (sT1 rfl) sB0 sF0) ?_
                  refine AL_cons (LR_move (at_tmp 1 _) rfl) (sS (sT1 rfl) sB0 sF0) ?_
                  refine AL_cons (LR_move (at_tmp 5 _) rfl) (sS (sT1 rfl) sB0 sF0) ?_
                  obtain ⟨hg58, hr⟩ := guard_some hr
                  refine AL_cons (LR_indexAddrQ Hfaa.underlying49 sz65 (at_tmp 23 _) (at_tmp 24 _) (dand hg58) rfl) (sS (sA (sT1 rfl) (sT1 rfl)) sB0 sF0) ?_
                  refine AL_cons (LR_loadQ (at_tmp 25 _) na65 rfl) (sS (sT1 rfl) sB0 sF0) ?_
                  refine AL_cons (LR_conv (vx := U32 (a1.2.2 x3.toNat)) (at_tmp 26 _) (conv_U64 Hfaa.underlying65 Hfaa.underlying30 ((a1.2.2 x3.toNat).toNat : Int)) rfl) (sS (sT1 rfl) sB0 sF0) ?_
                  refine AL_cons (LR_bin (at_tmp 22 _) (at_tmp 27 _) (add_U64 x8 (BitVec.ofInt 64 ((a1.2.2 x3.toNat).toNat : Int))) rfl) (sS (sA (sT1 rfl) (sT1 rfl)) sB0 sF0) ?_
                  refine AL_cons (LR_assign (at_tmp 28 _) rfl) (sS (sT1 rfl) sB0 sF0) ?_
                  refine AL_nil ?_
                  exact thenN (cutLeaf (v := x8 + (BitVec.ofInt 64 ((a1.2.2 x3.toNat).toNat : Int))) hr (weakB ((sT rfl (sT rfl (sT rfl (sT rfl (sT rfl (sT rfl sT0))))))) (sub_keep sub_nil) rfl))
                · have hr := hr.trans (cond_f h)
                  clear h
                  refine AW_skip ?_
                  exact thenN (cutLeaf (v := x8) hr (weakB ((sT rfl (sT rfl (sT rfl (sT rfl (sT rfl (sT rfl sT0))))))) (sub_keep sub_nil) rfl))
            · rintro x9 hr
              show AW Hfaa.prog _ _ _ ⟨[(0, .inr (.inr (.inl (0, b0_o, b0_l, b0_c)))), (1, .inl (ns U32 a1)), (4, .inl (is (U64 x9))), (7, .inl (is (I64 x1))), (8, .inl (is (I64 x3))), (5, .inl (is (I64 x3)))], [(0, pb 65 (ar U32 b0_m x4 ++ []))]⟩
              have hr : some out1 = F126_6 N b0_m b0_o b0_l b0_c a1 x1 x3 x4 x9 := hr
              refine AW_cut (σ := (Nat → BitVec 32)) (fun v => ⟨[(0, .inr (.inr (.inl (0, b0_o, b0_l, b0_c)))), (1, .inl (ns U32 a1)), (4, .inl (is (U64 x9))), (7, .inl (is (I64 x1))), (8, .inl (is (I64 x3)))], [(0, pb 65 (ar U32 b0_m v ++ []))]⟩) (fun v => some out1 = F126_7 N b0_m b0_o b0_l b0_c a1 x1 x3 x9 v) ?_ ?_
              · skip
                refine AW_region ?_
                refine AL_cons (LR_move (at_tmp 0 _) rfl) (sS (sT1 rfl) sB0 sF0) ?_
                refine AL_cons (LR_move (at_tmp 5 _) rfl) (sS (sT1 rfl) sB0 sF0) ?_
                refine AL_cons (LR_move (at_tmp 4 _) rfl) (sS (sT1 rfl) sB0 sF0) ?_
                refine AL_cons (LR_conv (vx := U64 x9) (at_tmp 31 _) (conv_U32 Hfaa.underlying30 Hfaa.underlying65 (x9.toNat : Int)) rfl) (sS (sT1 rfl) sB0 sF0) ?_
                obtain ⟨hg56, hr⟩ := guard_some hr
                obtain ⟨hg57, hr⟩ := guard_some hr
                refine AL_cons (LR_indexAddrS (o := b0_o + x3.toNat) Hfaa.underlying49 sz65 (at_tmp 29 _) (at_tmp 30 _) (dand hg56) rfl rfl) (sS (sA (sT1 rfl) (sT1 rfl)) sB0 sF0) ?_
                refine AL_cons (LR_storeA (at_tmp 33 _) (at_tmp 32 _) (cells_one (one_is rfl)) (onC (one_is rfl) onN) sz65 rfl (ble_dyn (lnA ln0) (by have := (of_decide_eq_true hg57); omega)) (stA (of_decide_eq_true hg57))) (sS (sA (sT1 rfl) (sT1 rfl)) (sB1 rfl) sF0) ?_
                refine AL_nil ?_
                exact thenN (cutLeaf (v := upd x4 (b0_o + x3.toNat) (BitVec.ofInt 32 (x9.toNat : Int))) hr (weakB ((sT rfl (sT rfl (sT rfl (sT rfl (sT rfl sT0)))))) (sub_keep sub_nil) rfl))
              · rintro x10 hr
                show AW Hfaa.prog _ _ _ ⟨[(0, .inr (.inr (.inl (0, b0_o, b0_l, b0_c)))), (1, .inl (ns U32 a1)), (4, .inl (is (U64 x9))), (7, .inl (is (I64 x1))), (8, .inl (is (I64 x3)))], [(0, pb 65 (ar U32 b0_m x10 ++ []))]⟩
                have hr : some out1 = F126_7 N b0_m b0_o b0_l b0_c a1 x1 x3 x9 x10 := hr
                refine AW_region ?_
                refine AL_cons (LR_move (at_tmp 4 _) rfl) (sS (sT1 rfl) sB0 sF0) ?_
                refine AL_cons (LR_bin (at_tmp 34 _) (at_c (v' := U64 (32#64)) rfl) (shr_U64 x9 ((32#64).toNat : Int) (Int.natCast_nonneg _)) rfl) (sS (sA (sT1 rfl) sT0) sB0 sF0) ?_
                refine AL_cons (LR_assign (at_tmp 35 _) rfl) (sS (sT1 rfl) sB0 sF0) ?_
                refine AL_nil ?_
                refine blN ?_
                exact thenN (cutLeaf (v := (x9 >>> 32, x10)) hr (weakB ((sT rfl (sT rfl (sT rfl (sT rfl (sT rfl sT0)))))) (sub_keep sub_nil) rfl))
        · rintro ⟨x6, x7⟩ hr
          show AW Hfaa.prog _ _ _ ⟨[(0, .inr (.inr (.inl (0, b0_o, b0_l, b0_c)))), (1, .inl (ns U32 a1)), (4, .inl (is (U64 x6))), (7, .inl (is (I64 x1))), (8, .inl (is (I64 x3)))], [(0, pb 65 (ar U32 b0_m x7 ++ []))]⟩
          have hr : some out1 = F126_4 N b0_m b0_o b0_l b0_c a1 x1 x3 x6 x7 := hr
          refine AW_region ?_
          refine AL_cons (LR_bin (at_tmp 8 _) (at_c (v' := I64 1) rfl) (add_I64 x3 1) rfl) (sS (sA (sT1 rfl) sT0) sB0 sF0) ?_
          refine AL_cons (LR_move (at_tmp 36 _) rfl) (sS (sT1 rfl) sB0 sF0) ?_
          refine AL_nil ?_
          exact thenN (loopNext (x' := (x6, w64 (x3 + 1), x7)) hr (weakB ((sT rfl (sT rfl (sT rfl (sT rfl (sT rfl sT0)))))) (sub_keep sub_nil) rfl))
      · have hr := hr.trans (cond_f h)
        clear h
        refine AW_exit ?_
        refine thenX ?_
        obtain ⟨r', hro, hr⟩ := map_inr hr
        refine thenX (loopOut hro (fun he => ?_))
        rw [he] at hr
        refine blH ?_
        obtain rfl := Option.some.inj hr
        exact ⟨res0 rfl , (sub_keep sub_nil)⟩
/-- nat.Shr -/
def F38_7 (N : Nat) (x1 : NS (BitVec 32)) (x2 : Int) (x6 : Bool) (x8 : Nat → BitVec 32) : Option (NS (BitVec 32) × Bool) := (F33 N ((false, (w64 ((x1.2.1 : Int) - x2)).toNat, x8))).bind fun y3 => some (y3, x6)
def F38_11 (N : Nat) (x1 : NS (BitVec 32)) (x2 : Int) (x3 : Int) (x6 : Bool) (x9 : Int) (x10 : Int) (x13 : Nat → BitVec 32) : Option ((Int × (Nat → BitVec 32)) ⊕ (NS (BitVec 32) × Bool)) := some (.inl ((w64 (x10 + 1), x13)))
def F38_13 (N : Nat) (x1 : NS (BitVec 32)) (x2 : Int) (x3 : Int) (x6 : Bool) (x9 : Int) (x10 : Int) (x11 : Nat → BitVec 32) (x15 : BitVec 64) : Option ((Int × (Nat → BitVec 32)) ⊕ (NS (BitVec 32) × Bool)) := bif decide (0 ≤ x3) then bif (decide (0 ≤ x10) && decide (x10 < ((w64 ((x1.2.1 : Int) - x2)).toNat : Int))) then F38_11 N x1 x2 x3 x6 x9 x10 (upd x11 x10.toNat (BitVec.ofInt 32 ((x15 >>> x3.toNat).toNat : Int))) else none else none
def F38_14 (N : Nat) (x1 : NS (BitVec 32)) (x2 : Int) (x3 : Int) (x6 : Bool) (x9 : Int) (x10 : Int) (x11 : Nat → BitVec 32) (x14 : BitVec 64) (x16 : Bool) : Option ((Int × (Nat → BitVec 32)) ⊕ (NS (BitVec 32) × Bool)) := bif x16 then bif (decide (0 ≤ w64 ((w64 (x10 + x2)) + 1)) && decide (w64 ((w64 (x10 + x2)) + 1) < (x1.2.1 : Int))) then F38_13 N x1 x2 x3 x6 x9 x10 x11 (x14 ||| ((BitVec.ofInt 64 ((x1.2.2 ((w64 ((w64 (x10 + x2)) + 1)).toNat)).toNat : Int)) <<< 32)) else none else F38_13 N x1 x2 x3 x6 x9 x10 x11 x14
def F38_12 (N : Nat) (x1 : NS (BitVec 32)) (x2 : Int) (x3 : Int) (x6 : Bool) (x9 : Int) (x10 : Int) (x11 : Nat → BitVec 32) (x14 : BitVec 64) : Option ((Int × (Nat → BitVec 32)) ⊕ (NS (BitVec 32) × Bool)) := F38_14 N x1 x2 x3 x6 x9 x10 x11 x14 (decide ((w64 ((w64 (x10 + x2)) + 1)) < (x1.2.1 : Int)))
def F38_10 (N : Nat) (x1 : NS (BitVec 32)) (x2 : Int) (x3 : Int) (x6 : Bool) (x9 : Int) (x10 : Int) (x11 : Nat → BitVec 32) (x12 : Bool) : Option ((Int × (Nat → BitVec 32)) ⊕ (NS (BitVec 32) × Bool)) := bif x12 then bif (decide (0 ≤ w64 (x10 + x2)) && decide (w64 (x10 + x2) < (x1.2.1 : Int))) then F38_12 N x1 x2 x3 x6 x9 x10 x11 (BitVec.ofInt 64 ((x1.2.2 ((w64 (x10 + x2)).toNat)).toNat : Int)) else none else (F38_7 N x1 x2 x6 x11).map Sum.inr
def F38_L9b (N : Nat) (x1 : NS (BitVec 32)) (x2 : Int) (x3 : Int) (x6 : Bool) (x9 : Int) (x10 : Int) (x11 : Nat → BitVec 32) : Option ((Int × (Nat → BitVec 32)) ⊕ (NS (BitVec 32) × Bool)) := F38_10 N x1 x2 x3 x6 x9 x10 x11 (decide (x10 < x9))
def F38_L9 (N : Nat) (x1 : NS (BitVec 32)) (x2 : Int) (x3 : Int) (x6 : Bool) (x9 : Int) : (Int × (Nat → BitVec 32)) → Option ((Int × (Nat → BitVec 32)) ⊕ (NS (BitVec 32) × Bool)) := fun v => F38_L9b N x1 x2 x3 x6 x9 v.1 v.2
def F38_8 (N : Nat) (x1 : NS (BitVec 32)) (x2 : Int) (x3 : Int) (x6 : Bool) (x7 : Nat → BitVec 32) (x9 : Int) : Option (NS (BitVec 32) × Bool) := iterL (F38_L9 N x1 x2 x3 x6 x9) N (0, x7)
def F38_6 (N : Nat) (x1 : NS (BitVec 32)) (x2 : Int) (x3 : Int) (x6 : Bool) (x7 : Nat → BitVec 32) : Option (NS (BitVec 32) × Bool) := F38_8 N x1 x2 x3 x6 x7 (((w64 ((x1.2.1 : Int) - x2)).toNat : Int))
def F38_5 (N : Nat) (x1 : NS (BitVec 32)) (x2 : Int) (x3 : Int) (x6 : Bool) : Option (NS (BitVec 32) × Bool) := bif (decide (0 ≤ w64 ((x1.2.1 : Int) - x2)) && decide (w64 ((x1.2.1 : Int) - x2) ≤ 1099511627776)) then F38_6 N x1 x2 x3 x6 (fun _ => 0#32) else none
def F38_4 (N : Nat) (x1 : NS (BitVec 32)) (x2 : Int) (x3 : Int) (x4 : Bool) (x5 : Bool) : Option (NS (BitVec 32) × Bool) := bif x5 then some (((true, 0, fun _ => 0#32), x4)) else bif x4 then F38_5 N x1 x2 x3 true else bif (decide (0 ≤ x2) && decide (x2 < (x1.2.1 : Int))) then bif decide (0 ≤ x3) then F38_5 N x1 x2 x3 (((x1.2.2 x2.toNat) &&& (((1#32) <<< x3.toNat) - (1#32))) != (0#32)) else none else none
def F38_3 (N : Nat) (x1 : NS (BitVec 32)) (x2 : Int) (x3 : Int) (x4 : Bool) : Option (NS (BitVec 32) × Bool) := F38_4 N x1 x2 x3 x4 (decide (x2 ≥ (x1.2.1 : Int)))
def F38_17 (N : Nat) (x1 : NS (BitVec 32)) (x2 : Int) (x3 : Int) (x18 : Int) (x20 : Bool) : Option ((Bool × Int) ⊕ (NS (BitVec 32) × Bool)) := some (.inl ((x20, w64 (x18 + 1))))
def F38_16 (N : Nat) (x1 : NS (BitVec 32)) (x2 : Int) (x3 : Int) (x17 : Bool) (x18 : Int) (x19 : Bool) : Option ((Bool × Int) ⊕ (NS (BitVec 32) × Bool)) := bif x19 then bif x17 then F38_17 N x1 x2 x3 x18 true else bif (decide (0 ≤ x18) && decide (x18 < (x1.2.1 : Int))) then F38_17 N x1 x2 x3 x18 ((x1.2.2 x18.toNat) != (0#32)) else none else (F38_3 N x1 x2 x3 x17).map Sum.inr
def F38_L15b (N : Nat) (x1 : NS (BitVec 32)) (x2 : Int) (x3 : Int) (x17 : Bool) (x18 : Int) : Option ((Bool × Int) ⊕ (NS (BitVec 32) × Bool)) := F38_16 N x1 x2 x3 x17 x18 ((decide (x18 < x2)) && (decide (x18 < (x1.2.1 : Int))))
def F38_L15 (N : Nat) (x1 : NS (BitVec 32)) (x2 : Int) (x3 : Int) : (Bool × Int) → Option ((Bool × Int) ⊕ (NS (BitVec 32) × Bool)) := fun v => F38_L15b N x1 x2 x3 v.1 v.2
def F38_2 (N : Nat) (x1 : NS (BitVec 32)) (x2 : Int) (x3 : Int) : Option (NS (BitVec 32) × Bool) := iterL (F38_L15 N x1 x2 x3) N (false, 0)
def F38_1 (N : Nat) (a1 : BitVec 16) (x1 : NS (BitVec 32)) : Option (NS (BitVec 32) × Bool) := F38_2 N x1 (w64 ((w64 (a1.toNat : Int)).tdiv 32)) ((w64 (a1.toNat : Int)).tmod 32)
def F38 (N : Nat) (a0 : NS (BitVec 32)) (a1 : BitVec 16) : Option (NS (BitVec 32) × Bool) := (F33 N a0).bind fun y4 => F38_1 N a1 y4
theorem C38 (N : Nat) (a0 : NS (BitVec 32)) (a1 : BitVec 16) (r : NS (BitVec 32) × Bool) (hr : some r = F38 N a0 a1) : Aw.Fn Hfaa.prog 38 [ns U32 a0, is (U16 a1)] (tup [ns U32 r.1, is (Bl r.2)]) := by
  refine fn_intro Hfaa.func38 rfl rfl rfl ?_
  intro bn0 w0 H0
  refine AW_seq1 ?_
  refine AW_region ?_
  refine AL_cons (LR_assign (at_ns0 (K := U32) (fun _ => 0#32)) rfl) (sS sT0 sB0 sF0) ?_
  refine AL_cons (LR_assign (at_c (v' := Bl false) rfl) rfl) (sS sT0 sB0 sF0) ?_
  refine AL_nil ?_
  refine thenN ?_
  refine AW_cut (σ := NS (BitVec 32)) (fun v => ⟨[(0, .inl (ns U32 v)), (1, .inl (is (U16 a1))), (5, .inl (is (Bl false)))], []⟩) (fun v => some r = F38_1 N a1 v) ?_ ?_
  · skip
    refine AW_region ?_
    refine AL_cons (LR_move (at_tmp 0 _) rfl) (sS (sT1 rfl) sB0 sF0) ?_
    obtain ⟨y4, hy4, hr⟩ := bind_some hr
    refine AL_cons (LR_call Hfaa.func33 rfl rfl (C33 N a0 y4 hy4) (all_cons (at_tmp 11 _) all_nil) rfl) (sS (sA (sT1 rfl) sT0) sB0 sF0) ?_
    refine AL_cons (LR_assign (at_tmp 12 _) rfl) (sS (sT1 rfl) sB0 sF0) ?_
    refine AL_nil ?_
    exact thenN (cutLeaf (v := y4) hr (weak0 ((sT rfl (sT rfl (sT rfl sT0)))) sub_nil))
  · rintro x1 hr
    show AW Hfaa.prog _ _ _ ⟨[(0, .inl (ns U32 x1)), (1, .inl (is (U16 a1))), (5, .inl (is (Bl false)))], []⟩
    have hr : some r = F38_1 N a1 x1 := hr
    refine AW_cut (σ := Int × Int) (fun v => ⟨[(0, .inl (ns U32 x1)), (5, .inl (is (Bl false))), (6, .inl (is (I64 v.1))), (7, .inl (is (I64 v.2)))], []⟩) (fun v => some r = F38_2 N x1 v.1 v.2) ?_ ?_
    · skip
      refine AW_region ?_
      refine AL_cons (LR_move (at_tmp 1 _) rfl) (sS (sT1 rfl) sB0 sF0) ?_
      refine AL_cons (LR_conv (vx := U16 a1) (at_tmp 13 _) (conv_I64 Hfaa.underlying71 Hfaa.underlying3 (a1.toNat : Int)) rfl) (sS (sT1 rfl) sB0 sF0) ?_
      refine AL_cons (LR_bin (at_tmp 14 _) (at_c (v' := I64 32) rfl) (quo_I64 (w64 (a1.toNat : Int)) 32 (by decide)) rfl) (sS (sA (sT1 rfl) sT0) sB0 sF0) ?_
      refine AL_cons (LR_move (at_tmp 1 _) rfl) (sS (sT1 rfl) sB0 sF0) ?_
      refine AL_cons (LR_conv (vx := U16 a1) (at_tmp 16 _) (conv_I64 Hfaa.underlying71 Hfaa.underlying3 (a1.toNat : Int)) rfl) (sS (sT1 rfl) sB0 sF0) ?_
      refine AL_cons (LR_bin (at_tmp 17 _) (at_c (v' := I64 32) rfl) (rem_I64 (w64 (a1.toNat : Int)) 32 (by decide)) rfl) (sS (sA (sT1 rfl) sT0) sB0 sF0) ?_
      refine AL_cons (LR_assign (at_tmp 15 _) rfl) (sS (sT1 rfl) sB0 sF0) ?_
      refine AL_cons (LR_assign (at_tmp 18 _) rfl) (sS (sT1 rfl) sB0 sF0) ?_
      refine AL_nil ?_
      exact thenN (cutLeaf (v := (w64 ((w64 (a1.toNat : Int)).tdiv 32), (w64 (a1.toNat : Int)).tmod 32)) hr (weak0 ((sT rfl (sT rfl (sT rfl (sT rfl sT0))))) sub_nil))
    · rintro ⟨x2, x3⟩ hr
      show AW Hfaa.prog _ _ _ ⟨[(0, .inl (ns U32 x1)), (5, .inl (is (Bl false))), (6, .inl (is (I64 x2))), (7, .inl (is (I64 x3)))], []⟩
      have hr : some r = F38_2 N x1 x2 x3 := hr
      refine AW_cut (σ := Bool) (fun v => ⟨[(0, .inl (ns U32 x1)), (5, .inl (is (Bl v))), (6, .inl (is (I64 x2))), (7, .inl (is (I64 x3)))], []⟩) (fun v => some r = F38_3 N x1 x2 x3 v) ?_ ?_
      · skip
        refine AW_seq1 ?_
        refine AW_region ?_
        refine AL_cons (LR_assign (at_c (v' := I64 0) rfl) rfl) (sS sT0 sB0 sF0) ?_
        refine AL_nil ?_
        refine thenN ?_
        refine AW_block ?_
        refine AW_iterR (σ := Bool × Int) (r := r) (x0 := (false, 0)) (emb := fun v => ⟨[(0, .inl (ns U32 x1)), (5, .inl (is (Bl v.1))), (6, .inl (is (I64 x2))), (7, .inl (is (I64 x3))), (8, .inl (is (I64 v.2)))], []⟩) ?_ hr ?_
        · exact weak0 ((sT rfl (sT rfl (sT rfl (sT rfl (sT rfl sT0)))))) sub_nil
        rintro ⟨x17, x18⟩ out4 hr
        show AW Hfaa.prog _ _ _ ⟨[(0, .inl (ns U32 x1)), (5, .inl (is (Bl x17))), (6, .inl (is (I64 x2))), (7, .inl (is (I64 x3))), (8, .inl (is (I64 x18)))], []⟩
        have hr : some out4 = F38_L15b N x1 x2 x3 x17 x18 := hr
        refine AW_seq1 ?_
        refine AW_cut (σ := Bool) (fun v => ⟨[(0, .inl (ns U32 x1)), (5, .inl (is (Bl x17))), (6, .inl (is (I64 x2))), (7, .inl (is (I64 x3))), (8, .inl (is (I64 x18))), (27, .inl (is (Bl v)))], []⟩) (fun v => some out4 = F38_16 N x1 x2 x3 x17 x18 v) ?_ ?_
        · skip
          refine AW_region ?_
          refine AL_cons (LR_move (at_tmp 8 _) rfl) (sS (sT1 rfl) sB0 sF0) ?_
          refine AL_cons (LR_move (at_tmp 6 _) rfl) (sS (sT1 rfl) sB0 sF0) ?_
          refine AL_cons (LR_bin (at_tmp 19 _) (at_tmp 20 _) (lss_I64 x18 x2) rfl) (sS (sA (sT1 rfl) (sT1 rfl)) sB0 sF0) ?_
          refine AL_cons (LR_move (at_tmp 21 _) rfl) (sS (sT1 rfl) sB0 sF0) ?_
          refine AL_cutAt 5 ⟨[(0, .inl (ns U32 x1)), (5, .inl (is (Bl x17))), (6, .inl (is (I64 x2))), (7, .inl (is (I64 x3))), (8, .inl (is (I64 x18))), (19, .inl (is (I64 x18))), (20, .inl (is (I64 x2))), (21, .inl (is (Bl (decide (x18 < x2))))), (22, .inl (is (Bl (decide (x18 < x2))))), (27, .inl (is (Bl ((decide (x18 < x2)) && (decide (x18 < (x1.2.1 : Int)))))))], []⟩ ?_ ?_
          · cases hb : decide (x18 < x2)
            · skip
              refine AL_cons (LR_off (b := false) rfl rfl rfl rfl) (sS (sT1 rfl) sB0 sF0) ?_
              refine AL_cons (LR_off (b := false) rfl rfl rfl rfl) (sS (sT1 rfl) sB0 sF0) ?_
              refine AL_cons (LR_off (b := false) rfl rfl rfl rfl) (sS (sT1 rfl) sB0 sF0) ?_
              refine AL_cons (LR_off (b := false) rfl rfl rfl rfl) (sS (sT1 rfl) sB0 sF0) ?_
              refine AL_cons (LR_pick (b := false) (at_tmp 22 _) (at_tmp 26 _) (at_c (v' := Bl false) rfl) rfl) (sS (sA (sT1 rfl) (sA (sT1 rfl) sT0)) sB0 sF0) ?_
              exact AL_nil ⟨rfl, weak0 ((sT rfl (sT rfl (sT rfl (sT rfl (sT rfl (sT rfl (sT rfl (sT rfl (sT rfl (sT rfl sT0))))))))))) sub_nil⟩
            · skip
              refine AL_cons (LR_on rfl rfl rfl (LR_move (at_tmp 8 _) rfl)) (sS (sT rfl (sT1 rfl)) sB0 sF0) ?_
              refine AL_cons (LR_on rfl rfl rfl (LR_move (at_tmp 0 _) rfl)) (sS (sT rfl (sT1 rfl)) sB0 sF0) ?_
              refine AL_cons (LR_on rfl rfl rfl (LR_bi1 (at_tmp 24 _) (len_ns Hfaa.underlying49 x1) rfl)) (sS (sT rfl (sT1 rfl)) sB0 sF0) ?_
              refine AL_cons (LR_on rfl rfl rfl (LR_bin (at_tmp 23 _) (at_tmp 25 _) (lss_I64 x18 (x1.2.1 : Int)) rfl)) (sS (sT rfl (sA (sT1 rfl) (sT1 rfl))) sB0 sF0) ?_
              refine AL_cons (LR_pick (b := true) (at_tmp 22 _) (at_tmp 26 _) (at_c (v' := Bl false) rfl) rfl) (sS (sA (sT1 rfl) (sA (sT1 rfl) sT0)) sB0 sF0) ?_
              exact AL_nil ⟨rfl, weak0 ((sT rfl (sT rfl (sT rfl (sT rfl (sT rfl (sT rfl (sT rfl (sT rfl (sT rfl (sT rfl sT0))))))))))) sub_nil⟩
          refine AL_nil ?_
          exact thenN (cutLeaf (v := (decide (x18 < x2)) && (decide (x18 < (x1.2.1 : Int)))) hr (weak0 ((sT rfl (sT rfl (sT rfl (sT rfl (sT rfl (sT rfl sT0))))))) sub_nil))
        · rintro x19 hr
          show AW Hfaa.prog _ _ _ ⟨[(0, .inl (ns U32 x1)), (5, .inl (is (Bl x17))), (6, .inl (is (I64 x2))), (7, .inl (is (I64 x3))), (8, .inl (is (I64 x18))), (27, .inl (is (Bl x19)))], []⟩
          have hr : some out4 = F38_16 N x1 x2 x3 x17 x18 x19 := hr
          refine AW_condT (b := x19) rfl (fun h => ?_) (fun h => ?_)
          · have hr := hr.trans (cond_t h)
            clear h
            refine AW_skip ?_
            refine thenN ?_
            refine AW_cut (σ := Bool) (fun v => ⟨[(0, .inl (ns U32 x1)), (5, .inl (is (Bl v))), (6, .inl (is (I64 x2))), (7, .inl (is (I64 x3))), (8, .inl (is (I64 x18)))], []⟩) (fun v => some out4 = F38_17 N x1 x2 x3 x18 v) ?_ ?_
            · skip
              refine AW_block ?_
              refine AW_region ?_
              refine AL_cons (LR_move (at_tmp 5 _) rfl) (sS (sT1 rfl) sB0 sF0) ?_
              refine AL_cons (LR_move (at_tmp 30 _) rfl) (sS (sT1 rfl) sB0 sF0) ?_
              cases hb : x17
              · have hr := hr.trans (cond_f hb)
                refine AL_cons (LR_on rfl rfl rfl (LR_move (at_tmp 0 _) rfl)) (sS (sT rfl (sT1 rfl)) sB0 sF0) ?_
                refine AL_cons (LR_on rfl rfl rfl (LR_move (at_tmp 8 _) rfl)) (sS (sT rfl (sT1 rfl)) sB0 sF0) ?_
                obtain ⟨hg94, hr⟩ := guard_some hr
                refine AL_cons (LR_on rfl rfl rfl (LR_indexAddrQ Hfaa.underlying49 sz65 (at_tmp 32 _) (at_tmp 33 _) (dand hg94) rfl)) (sS (sT rfl (sA (sT1 rfl) (sT1 rfl))) sB0 sF0) ?_
                refine AL_cons (LR_on rfl rfl rfl (LR_loadQ (at_tmp 34 _) na65 rfl)) (sS (sT rfl (sT1 rfl)) sB0 sF0) ?_
                refine AL_cons (LR_on rfl rfl rfl (LR_bin (at_tmp 35 _) (at_c (v' := U32 (0#32)) rfl) (neq_U32 (x1.2.2 x18.toNat) (0#32)) rfl)) (sS (sT rfl (sA (sT1 rfl) sT0)) sB0 sF0) ?_
                refine AL_cons (LR_pick (b := false) (at_tmp 31 _) (at_c (v' := Bl true) rfl) (at_tmp 36 _) rfl) (sS (sA (sT1 rfl) (sA sT0 (sT1 rfl))) sB0 sF0) ?_
                refine AL_cons (LR_assign (at_tmp 37 _) rfl) (sS (sT1 rfl) sB0 sF0) ?_
                refine AL_nil ?_
                refine blN ?_
                exact thenN (cutLeaf (v := (x1.2.2 x18.toNat) != (0#32)) hr (weak0 ((sT rfl (sT rfl (sT rfl (sT rfl (sT rfl sT0)))))) sub_nil))
              · have hr := hr.trans (cond_t hb)
                refine AL_cons (LR_off (b := true) rfl rfl rfl rfl) (sS (sT1 rfl) sB0 sF0) ?_
                refine AL_cons (LR_off (b := true) rfl rfl rfl rfl) (sS (sT1 rfl) sB0 sF0) ?_
                refine AL_cons (LR_off (b := true) rfl rfl rfl rfl) (sS (sT1 rfl) sB0 sF0) ?_
                refine AL_cons (LR_off (b := true) rfl rfl rfl rfl) (sS (sT1 rfl) sB0 sF0) ?_
                refine AL_cons (LR_off (b := true) rfl rfl rfl rfl) (sS (sT1 rfl) sB0 sF0) ?_
                refine AL_cons (LR_pick (b := true) (at_tmp 31 _) (at_c (v' := Bl true) rfl) (at_tmp 36 _) rfl) (sS (sA (sT1 rfl) (sA sT0 (sT1 rfl))) sB0 sF0) ?_
                refine AL_cons (LR_assign (at_tmp 37 _) rfl) (sS (sT1 rfl) sB0 sF0) ?_
                refine AL_nil ?_
                refine blN ?_
                exact thenN (cutLeaf (v := true) hr (weak0 ((sT rfl (sT rfl (sT rfl (sT rfl (sT rfl sT0)))))) sub_nil))
            · rintro x20 hr
              show AW Hfaa.prog _ _ _ ⟨[(0, .inl (ns U32 x1)), (5, .inl (is (Bl x20))), (6, .inl (is (I64 x2))), (7, .inl (is (I64 x3))), (8, .inl (is (I64 x18)))], []⟩
              have hr : some out4 = F38_17 N x1 x2 x3 x18 x20 := hr
              refine AW_region ?_
              refine AL_cons (LR_move (at_tmp 8 _) rfl) (sS (sT1 rfl) sB0 sF0) ?_
              refine AL_cons (LR_bin (at_tmp 28 _) (at_c (v' := I64 1) rfl) (add_I64 x18 1) rfl) (sS (sA (sT1 rfl) sT0) sB0 sF0) ?_
              refine AL_cons (LR_assign (at_tmp 29 _) rfl) (sS (sT1 rfl) sB0 sF0) ?_
              refine AL_nil ?_
              exact thenN (loopNext (x' := (x20, w64 (x18 + 1))) hr (weak0 ((sT rfl (sT rfl (sT rfl (sT rfl (sT rfl sT0)))))) sub_nil))
          · have hr := hr.trans (cond_f h)
            clear h
            refine AW_exit ?_
            refine thenX ?_
            obtain ⟨r', hro, hr⟩ := map_inr hr
            refine thenX (loopOut hro (fun he => ?_))
            rw [he] at hr
            refine blH ?_
            exact thenN (cutLeaf (v := x17) hr (weak0 ((sT rfl (sT rfl (sT rfl (sT rfl sT0))))) sub_nil))
      · rintro x4 hr
        show AW Hfaa.prog _ _ _ ⟨[(0, .inl (ns U32 x1)), (5, .inl (is (Bl x4))), (6, .inl (is (I64 x2))), (7, .inl (is (I64 x3)))], []⟩
        have hr : some r = F38_3 N x1 x2 x3 x4 := hr
        refine AW_seq1 ?_
        refine AW_cut (σ := Bool) (fun v => ⟨[(0, .inl (ns U32 x1)), (5, .inl (is (Bl x4))), (6, .inl (is (I64 x2))), (7, .inl (is (I64 x3))), (41, .inl (is (Bl v)))], []⟩) (fun v => some r = F38_4 N x1 x2 x3 x4 v) ?_ ?_
        · skip
          refine AW_region ?_
          refine AL_cons (LR_move (at_tmp 6 _) rfl) (sS (sT1 rfl) sB0 sF0) ?_
          refine AL_cons (LR_move (at_tmp 0 _) rfl) (sS (sT1 rfl) sB0 sF0) ?_
          refine AL_cons (LR_bi1 (at_tmp 39 _) (len_ns Hfaa.underlying49 x1) rfl) (sS (sT1 rfl) sB0 sF0) ?_
          refine AL_cons (LR_bin (at_tmp 38 _) (at_tmp 40 _) (geq_I64 x2 (x1.2.1 : Int)) rfl) (sS (sA (sT1 rfl) (sT1 rfl)) sB0 sF0) ?_
          refine AL_nil ?_
          exact thenN (cutLeaf (v := decide (x2 ≥ (x1.2.1 : Int))) hr (weak0 ((sT rfl (sT rfl (sT rfl (sT rfl (sT rfl sT0)))))) sub_nil))
        · rintro x5 hr
          show AW Hfaa.prog _ _ _ ⟨[(0, .inl (ns U32 x1)), (5, .inl (is (Bl x4))), (6, .inl (is (I64 x2))), (7, .inl (is (I64 x3))), (41, .inl (is (Bl x5)))], []⟩
          have hr : some r = F38_4 N x1 x2 x3 x4 x5 := hr
          refine AW_condT (b := x5) rfl (fun h => ?_) (fun h => ?_)
          · have hr := hr.trans (cond_t h)
            clear h
            refine AW_seq1 ?_
            refine AW_region ?_
            refine AL_cons (LR_move (at_tmp 5 _) rfl) (sS (sT1 rfl) sB0 sF0) ?_
            refine AL_cons (LR_assign (at_ns0 (K := U32) (fun _ => 0#32)) rfl) (sS sT0 sB0 sF0) ?_
            refine AL_cons (LR_assign (at_tmp 42 _) rfl) (sS (sT1 rfl) sB0 sF0) ?_
            refine AL_nil ?_
            refine thenN ?_
            refine AW_ret ?_
            refine thenR ?_
            obtain rfl := Option.some.inj hr
            exact res2 rfl (rvT rfl) (rvT rfl)
          · have hr := hr.trans (cond_f h)
            clear h
            refine AW_skip ?_
            refine thenN ?_
            refine AW_cut (σ := Bool) (fun v => ⟨[(0, .inl (ns U32 x1)), (5, .inl (is (Bl v))), (6, .inl (is (I64 x2))), (7, .inl (is (I64 x3)))], []⟩) (fun v => some r = F38_5 N x1 x2 x3 v) ?_ ?_
            · skip
              rcases bool_em x4 with hb2 | hb2
              · have hr := hr.trans (cond_f hb2)
                obtain ⟨hg85, hr⟩ := guard_some hr
                obtain ⟨hg86, hr⟩ := guard_some hr
                refine AW_draw mixed
                  (lrC (LR_asB (LR_move (at_tmp 5 _) rfl) hb2)
                  (lrC (LR_move (at_tmp 43 _) rfl)
                  (lrC (LR_on rfl rfl rfl (LR_move (at_tmp 0 _) rfl))
                  (lrC (LR_on rfl rfl rfl (LR_move (at_tmp 6 _) rfl))
                  (lrC (LR_on rfl rfl rfl (LR_indexAddrQ Hfaa.underlying49 sz65 (at_tmp 45 _) (at_tmp 46 _) (dand hg85) rfl))
                  (lrC (LR_on rfl rfl rfl (LR_loadQ (at_tmp 47 _) na65 rfl))
                  (lrC (LR_on rfl rfl rfl (LR_move (at_tmp 7 _) rfl))
                  (lrC (LR_on rfl rfl rfl (LR_bin (at_c (v' := U32 (1#32)) rfl) (at_tmp 49 _) (shl_U32 (1#32) x3 (of_decide_eq_true hg86)) rfl))
                  (lrC (LR_on rfl rfl rfl (LR_bin (at_tmp 50 _) (at_c (v' := U32 (1#32)) rfl) (sub_U32 ((1#32) <<< x3.toNat) (1#32)) rfl))
                  (lrC (LR_on rfl rfl rfl (LR_bin (at_tmp 48 _) (at_tmp 51 _) (and_U32 (x1.2.2 x2.toNat) (((1#32) <<< x3.toNat) - (1#32))) rfl))
                  (lrC (LR_on rfl rfl rfl (LR_bin (at_tmp 52 _) (at_c (v' := U32 (0#32)) rfl) (neq_U32 ((x1.2.2 x2.toNat) &&& (((1#32) <<< x3.toNat) - (1#32))) (0#32)) rfl))
                  (lrC (LR_pick (b := false) (at_tmp 44 _) (at_c (v' := Bl true) rfl) (at_tmp 53 _) rfl)
                  (lrC (LR_assign (at_tmp 54 _) rfl)
                  lrN)))))))))))))
                  (by kernel_rfl)
                  (saC (sS (sT1 rfl) sB0 sF0) (saC (sS (sT1 rfl) sB0 sF0) (saC (sS (sT rfl (sT1 rfl)) sB0 sF0) (saC (sS (sT rfl (sT1 rfl)) sB0 sF0) (saC (sS (sT rfl (sA (sT1 rfl) (sT1 rfl))) sB0 sF0) (saC (sS (sT rfl (sT1 rfl)) sB0 sF0) (saC (sS (sT rfl (sT1 rfl)) sB0 sF0) (saC (sS (sT rfl (sA sT0 (sT1 rfl))) sB0 sF0) (saC (sS (sT rfl (sA (sT1 rfl) sT0)) sB0 sF0) (saC (sS (sT rfl (sA (sT1 rfl) (sT1 rfl))) sB0 sF0) (saC (sS (sT rfl (sA (sT1 rfl) sT0)) sB0 sF0) (saC (sS (sA (sT1 rfl) (sA sT0 (sT1 rfl))) sB0 sF0) (saC (sS (sT1 rfl) sB0 sF0) saN))))))))))))) ?_
                exact thenN (cutLeaf (v := ((x1.2.2 x2.toNat) &&& (((1#32) <<< x3.toNat) - (1#32))) != (0#32)) hr (weak0 ((sT rfl (sT rfl (sT rfl (sT rfl sT0))))) sub_nil))
              · have hr := hr.trans (cond_t hb2)
                refine AW_draw mixed
                  (lrC (LR_asB (LR_move (at_tmp 5 _) rfl) hb2)
                  (lrC (LR_move (at_tmp 43 _) rfl)
                  (lrC (LR_off (b := true) rfl rfl rfl rfl)
                  (lrC (LR_off (b := true) rfl rfl rfl rfl)
                  (lrC (LR_off (b := true) rfl rfl rfl rfl)
                  (lrC (LR_off (b := true) rfl rfl rfl rfl)
                  (lrC (LR_off (b := true) rfl rfl rfl rfl)
                  (lrC (LR_off (b := true) rfl rfl rfl rfl)
                  (lrC (LR_off (b := true) rfl rfl rfl rfl)
                  (lrC (LR_off (b := true) rfl rfl rfl rfl)
                  (lrC (LR_off (b := true) rfl rfl rfl rfl)
                  (lrC (LR_pick (b := true) (at_tmp 44 _) (at_c (v' := Bl true) rfl) (at_tmp 53 _) rfl)
                  (lrC (LR_assign (at_tmp 54 _) rfl)
                  lrN)))))))))))))
                  (by kernel_rfl)
                  (saC (sS (sT1 rfl) sB0 sF0) (saC (sS (sT1 rfl) sB0 sF0) (saC (sS (sT1 rfl) sB0 sF0) (saC (sS (sT1 rfl) sB0 sF0) (saC (sS (sT1 rfl) sB0 sF0) (saC (sS (sT1 rfl) sB0 sF0) (saC (sS (sT1 rfl) sB0 sF0) (saC (sS (sT1 rfl) sB0 sF0) (saC (sS (sT1 rfl) sB0 sF0) (saC (sS (sT1 rfl) sB0 sF0) (saC (sS (sT1 rfl) sB0 sF0) (saC (sS (sA (sT1 rfl) (sA sT0 (sT1 rfl))) sB0 sF0) (saC (sS (sT1 rfl) sB0 sF0) saN))))))))))))) ?_
                exact thenN (cutLeaf (v := true) hr (weak0 ((sT rfl (sT rfl (sT rfl (sT rfl sT0))))) sub_nil))
            · rintro x6 hr
              show AW Hfaa.prog _ _ _ ⟨[(0, .inl (ns U32 x1)), (5, .inl (is (Bl x6))), (6, .inl (is (I64 x2))), (7, .inl (is (I64 x3)))], []⟩
              have hr : some r = F38_5 N x1 x2 x3 x6 := hr
              refine AW_cut (σ := (Nat → BitVec 32)) (fun v => ⟨[(0, .inl (ns U32 x1)), (5, .inl (is (Bl x6))), (6, .inl (is (I64 x2))), (7, .inl (is (I64 x3))), (4, .inr (.inr (.inl (59, 0, (w64 ((x1.2.1 : Int) - x2)).toNat, (w64 ((x1.2.1 : Int) - x2)).toNat))))], [(59, pb 65 (ar U32 ((w64 ((x1.2.1 : Int) - x2)).toNat) v ++ []))]⟩) (fun v => some r = F38_6 N x1 x2 x3 x6 v) ?_ ?_
              · skip
                refine AW_region ?_
                refine AL_cons (LR_move (at_tmp 0 _) rfl) (sS (sT1 rfl) sB0 sF0) ?_
                refine AL_cons (LR_bi1 (at_tmp 55 _) (len_ns Hfaa.underlying49 x1) rfl) (sS (sT1 rfl) sB0 sF0) ?_
                refine AL_cons (LR_move (at_tmp 6 _) rfl) (sS (sT1 rfl) sB0 sF0) ?_
                refine AL_cons (LR_bin (at_tmp 56 _) (at_tmp 57 _) (sub_I64 (x1.2.1 : Int) x2) rfl) (sS (sA (sT1 rfl) (sT1 rfl)) sB0 sF0) ?_
                obtain ⟨hg84, hr⟩ := guard_some hr
                refine AL_cons (LR_makeSlice Hfaa.underlying49 el65 (at_tmp 58 _) (dand hg84) rfl) (sS (sT1 rfl) sB0 (sF1 rfl)) ?_
                refine AL_cons (LR_assign (at_tmp 59 _) rfl) (sS (sT1 rfl) sB0 sF0) ?_
                refine AL_nil ?_
                exact thenN (cutLeaf (v := fun _ => 0#32) hr (weak0 ((sT rfl (sT rfl (sT rfl (sT rfl (sT rfl sT0)))))) (sub_keep sub_nil)))
              · rintro x7 hr
                show AW Hfaa.prog _ _ _ ⟨[(0, .inl (ns U32 x1)), (5, .inl (is (Bl x6))), (6, .inl (is (I64 x2))), (7, .inl (is (I64 x3))), (4, .inr (.inr (.inl (59, 0, (w64 ((x1.2.1 : Int) - x2)).toNat, (w64 ((x1.2.1 : Int) - x2)).toNat))))], [(59, pb 65 (ar U32 ((w64 ((x1.2.1 : Int) - x2)).toNat) x7 ++ []))]⟩
                have hr : some r = F38_6 N x1 x2 x3 x6 x7 := hr
                refine AW_cut (σ := (Nat → BitVec 32)) (fun v => ⟨[(5, .inl (is (Bl x6))), (4, .inr (.inr (.inl (59, 0, (w64 ((x1.2.1 : Int) - x2)).toNat, (w64 ((x1.2.1 : Int) - x2)).toNat))))], [(59, pb 65 (ar U32 ((w64 ((x1.2.1 : Int) - x2)).toNat) v ++ []))]⟩) (fun v => some r = F38_7 N x1 x2 x6 v) ?_ ?_
                · skip
                  refine AW_cut (σ := Int) (fun v => ⟨[(0, .inl (ns U32 x1)), (5, .inl (is (Bl x6))), (6, .inl (is (I64 x2))), (7, .inl (is (I64 x3))), (4, .inr (.inr (.inl (59, 0, (w64 ((x1.2.1 : Int) - x2)).toNat, (w64 ((x1.2.1 : Int) - x2)).toNat)))), (61, .inl (is (I64 v))), (62, .inl (is (I64 0)))], [(59, pb 65 (ar U32 ((w64 ((x1.2.1 : Int) - x2)).toNat) x7 ++ []))]⟩) (fun v => some r = F38_8 N x1 x2 x3 x6 x7 v) ?_ ?_
                  · skip
                    refine AW_region ?_
                    refine AL_cons (LR_move (at_tmp 4 _) rfl) (sS (sT1 rfl) sB0 sF0) ?_
                    refine AL_cons (LR_lenT (at_tmp 60 _) Hfaa.underlying49 rfl) (sS (sT1 rfl) sB0 sF0) ?_
                    refine AL_cons (LR_move (at_c (v' := I64 0) rfl) rfl) (sS sT0 sB0 sF0) ?_
                    refine AL_nil ?_
                    exact thenN (cutLeaf (v := ((w64 ((x1.2.1 : Int) - x2)).toNat : Int)) hr (weak0 ((sT rfl (sT rfl (sT rfl (sT rfl (sT rfl (sT rfl (sT rfl sT0)))))))) (sub_keep sub_nil)))
                  · rintro x9 hr
                    show AW Hfaa.prog _ _ _ ⟨[(0, .inl (ns U32 x1)), (5, .inl (is (Bl x6))), (6, .inl (is (I64 x2))), (7, .inl (is (I64 x3))), (4, .inr (.inr (.inl (59, 0, (w64 ((x1.2.1 : Int) - x2)).toNat, (w64 ((x1.2.1 : Int) - x2)).toNat)))), (61, .inl (is (I64 x9))), (62, .inl (is (I64 0)))], [(59, pb 65 (ar U32 ((w64 ((x1.2.1 : Int) - x2)).toNat) x7 ++ []))]⟩
                    have hr : some r = F38_8 N x1 x2 x3 x6 x7 x9 := hr
                    refine AW_block ?_
                    refine AW_iterR (σ := Int × (Nat → BitVec 32)) (r := r) (x0 := (0, x7)) (emb := fun v => ⟨[(0, .inl (ns U32 x1)), (5, .inl (is (Bl x6))), (6, .inl (is (I64 x2))), (7, .inl (is (I64 x3))), (4, .inr (.inr (.inl (59, 0, (w64 ((x1.2.1 : Int) - x2)).toNat, (w64 ((x1.2.1 : Int) - x2)).toNat)))), (61, .inl (is (I64 x9))), (62, .inl (is (I64 v.1)))], [(59, pb 65 (ar U32 ((w64 ((x1.2.1 : Int) - x2)).toNat) v.2 ++ []))]⟩) ?_ hr ?_
                    · exact weak0 ((sT rfl (sT rfl (sT rfl (sT rfl (sT rfl (sT rfl (sT rfl sT0)))))))) (sub_keep sub_nil)
                    rintro ⟨x10, x11⟩ out3 hr
                    show AW Hfaa.prog _ _ _ ⟨[(0, .inl (ns U32 x1)), (5, .inl (is (Bl x6))), (6, .inl (is (I64 x2))), (7, .inl (is (I64 x3))), (4, .inr (.inr (.inl (59, 0, (w64 ((x1.2.1 : Int) - x2)).toNat, (w64 ((x1.2.1 : Int) - x2)).toNat)))), (61, .inl (is (I64 x9))), (62, .inl (is (I64 x10)))], [(59, pb 65 (ar U32 ((w64 ((x1.2.1 : Int) - x2)).toNat) x11 ++ []))]⟩
                    have hr : some out3 = F38_L9b N x1 x2 x3 x6 x9 x10 x11 := hr
                    refine AW_cut (σ := Bool) (fun v => ⟨[(0, .inl (ns U32 x1)), (5, .inl (is (Bl x6))), (6, .inl (is (I64 x2))), (7, .inl (is (I64 x3))), (4, .inr (.inr (.inl (59, 0, (w64 ((x1.2.1 : Int) - x2)).toNat, (w64 ((x1.2.1 : Int) - x2)).toNat)))), (61, .inl (is (I64 x9))), (62, .inl (is (I64 x10))), (63, .inl (is (Bl v)))], [(59, pb 65 (ar U32 ((w64 ((x1.2.1 : Int) - x2)).toNat) x11 ++ []))]⟩) (fun v => some out3 = F38_10 N x1 x2 x3 x6 x9 x10 x11 v) ?_ ?_
                    · skip
                      refine AW_region ?_
                      refine AL_cons (LR_bin (at_tmp 62 _) (at_tmp 61 _) (lss_I64 x10 x9) rfl) (sS (sA (sT1 rfl) (sT1 rfl)) sB0 sF0) ?_
                      refine AL_nil ?_
                      exact thenN (cutLeaf (v := decide (x10 < x9)) hr (weak0 ((sT rfl (sT rfl (sT rfl (sT rfl (sT rfl (sT rfl (sT rfl (sT rfl sT0))))))))) (sub_keep sub_nil)))
                    · rintro x12 hr
                      show AW Hfaa.prog _ _ _ ⟨[(0, .inl (ns U32 x1)), (5, .inl (is (Bl x6))), (6, .inl (is (I64 x2))), (7, .inl (is (I64 x3))), (4, .inr (.inr (.inl (59, 0, (w64 ((x1.2.1 : Int) - x2)).toNat, (w64 ((x1.2.1 : Int) - x2)).toNat)))), (61, .inl (is (I64 x9))), (62, .inl (is (I64 x10))), (63, .inl (is (Bl x12)))], [(59, pb 65 (ar U32 ((w64 ((x1.2.1 : Int) - x2)).toNat) x11 ++ []))]⟩
                      have hr : some out3 = F38_10 N x1 x2 x3 x6 x9 x10 x11 x12 := hr
                      refine AW_seq1 ?_
                      refine AW_condT (b := x12) rfl (fun h => ?_) (fun h => ?_)
                      · have hr := hr.trans (cond_t h)
                        clear h
                        refine AW_skip ?_
                        refine thenN ?_
                        refine AW_cut (σ := (Nat → BitVec 32)) (fun v => ⟨[(0, .inl (ns U32 x1)), (5, .inl (is (Bl x6))), (6, .inl (is (I64 x2))), (7, .inl (is (I64 x3))), (4, .inr (.inr (.inl (59, 0, (w64 ((x1.2.1 : Int) - x2)).toNat, (w64 ((x1.2.1 : Int) - x2)).toNat)))), (61, .inl (is (I64 x9))), (62, .inl (is (I64 x10)))], [(59, pb 65 (ar U32 ((w64 ((x1.2.1 : Int) - x2)).toNat) v ++ []))]⟩) (fun v => some out3 = F38_11 N x1 x2 x3 x6 x9 x10 v) ?_ ?_
                        · skip
                          refine AW_block ?_
                          refine AW_seq1 ?_
                          refine AW_region ?_
                          refine AL_cons (LR_move (at_tmp 62 _) rfl) (sS (sT1 rfl) sB0 sF0) ?_
                          refine AL_cons (LR_assign (at_tmp 64 _) rfl) (sS (sT1 rfl) sB0 sF0) ?_
                          refine AL_nil ?_
                          refine thenN ?_
                          refine AW_cut (σ := BitVec 64) (fun v => ⟨[(0, .inl (ns U32 x1)), (5, .inl (is (Bl x6))), (6, .inl (is (I64 x2))), (7, .inl (is (I64 x3))), (4, .inr (.inr (.inl (59, 0, (w64 ((x1.2.1 : Int) - x2)).toNat, (w64 ((x1.2.1 : Int) - x2)).toNat)))), (61, .inl (is (I64 x9))), (62, .inl (is (I64 x10))), (9, .inl (is (I64 x10))), (10, .inl (is (U64 v)))], [(59, pb 65 (ar U32 ((w64 ((x1.2.1 : Int) - x2)).toNat) x11 ++ []))]⟩) (fun v => some out3 = F38_12 N x1 x2 x3 x6 x9 x10 x11 v) ?_ ?_
                          · skip
                            refine AW_region ?_
                            refine AL_cons (LR_move (at_tmp 0 _) rfl) (sS (sT1 rfl) sB0 sF0) ?_
                            refine AL_cons (LR_move (at_tmp 9 _) rfl) (sS (sT1 rfl) sB0 sF0) ?_
                            refine AL_cons (LR_move (at_tmp 6 _) rfl) (sS (sT1 rfl) sB0 sF0) ?_
                            refine AL_cons (LR_bin (at_tmp 66 _) (at_tmp 67 _) (add_I64 x10 x2) rfl) (sS (sA (sT1 rfl) (sT1 rfl)) sB0 sF0) ?_
                            obtain ⟨hg83, hr⟩ := guard_some hr
                            refine AL_cons (LR_indexAddrQ Hfaa.underlying49 sz65 (at_tmp 65 _) (at_tmp 68 _) (dand hg83) rfl) (sS (sA (sT1 rfl) (sT1 rfl)) sB0 sF0) ?_
                            refine AL_cons (LR_loadQ (at_tmp 69 _) na65 rfl) (sS (sT1 rfl) sB0 sF0) ?_
                            refine AL_cons (LR_conv (vx := U32 (x1.2.2 ((w64 (x10 + x2)).toNat))) (at_tmp 70 _) (conv_U64 Hfaa.underlying65 Hfaa.underlying30 ((x1.2.2 ((w64 (x10 + x2)).toNat)).toNat : Int)) rfl) (sS (sT1 rfl) sB0 sF0) ?_
                            refine AL_cons (LR_assign (at_tmp 71 _) rfl) (sS (sT1 rfl) sB0 sF0) ?_
                            refine AL_nil ?_
                            exact thenN (cutLeaf (v := BitVec.ofInt 64 ((x1.2.2 ((w64 (x10 + x2)).toNat)).toNat : Int)) hr (weak0 ((sT rfl (sT rfl (sT rfl (sT rfl (sT rfl (sT rfl (sT rfl (sT rfl (sT rfl sT0)))))))))) (sub_keep sub_nil)))
                          · rintro x14 hr
                            show AW Hfaa.prog _ _ _ ⟨[(0, .inl (ns U32 x1)), (5, .inl (is (Bl x6))), (6, .inl (is (I64 x2))), (7, .inl (is (I64 x3))), (4, .inr (.inr (.inl (59, 0, (w64 ((x1.2.1 : Int) - x2)).toNat, (w64 ((x1.2.1 : Int) - x2)).toNat)))), (61, .inl (is (I64 x9))), (62, .inl (is (I64 x10))), (9, .inl (is (I64 x10))), (10, .inl (is (U64 x14)))], [(59, pb 65 (ar U32 ((w64 ((x1.2.1 : Int) - x2)).toNat) x11 ++ []))]⟩
                            have hr : some out3 = F38_12 N x1 x2 x3 x6 x9 x10 x11 x14 := hr
                            refine AW_cut (σ := BitVec 64) (fun v => ⟨[(0, .inl (ns U32 x1)), (5, .inl (is (Bl x6))), (6, .inl (is (I64 x2))), (7, .inl (is (I64 x3))), (4, .inr (.inr (.inl (59, 0, (w64 ((x1.2.1 : Int) - x2)).toNat, (w64 ((x1.2.1 : Int) - x2)).toNat)))), (61, .inl (is (I64 x9))), (62, .inl (is (I64 x10))), (9, .inl (is (I64 x10))), (10, .inl (is (U64 v)))], [(59, pb 65 (ar U32 ((w64 ((x1.2.1 : Int) - x2)).toNat) x11 ++ []))]⟩) (fun v => some out3 = F38_13 N x1 x2 x3 x6 x9 x10 x11 v) ?_ ?_
                            · skip
                              refine AW_cut (σ := Bool) (fun v => ⟨[(0, .inl (ns U32 x1)), (5, .inl (is (Bl x6))), (6, .inl (is (I64 x2))), (7, .inl (is (I64 x3))), (4, .inr (.inr (.inl (59, 0, (w64 ((x1.2.1 : Int) - x2)).toNat, (w64 ((x1.2.1 : Int) - x2)).toNat)))), (61, .inl (is (I64 x9))), (62, .inl (is (I64 x10))), (9, .inl (is (I64 x10))), (10, .inl (is (U64 x14))), (78, .inl (is (Bl v)))], [(59, pb 65 (ar U32 ((w64 ((x1.2.1 : Int) - x2)).toNat) x11 ++ []))]⟩) (fun v => some out3 = F38_14 N x1 x2 x3 x6 x9 x10 x11 x14 v) ?_ ?_
                              · skip
                                refine AW_region ?_
                                refine AL_cons (LR_move (at_tmp 9 _) rfl) (sS (sT1 rfl) sB0 sF0) ?_
                                refine AL_cons (LR_move (at_tmp 6 _) rfl) (sS (sT1 rfl) sB0 sF0) ?_
                                refine AL_cons (LR_bin (at_tmp 72 _) (at_tmp 73 _) (add_I64 x10 x2) rfl) (sS (sA (sT1 rfl) (sT1 rfl)) sB0 sF0) ?_
                                refine AL_cons (LR_bin (at_tmp 74 _) (at_c (v' := I64 1) rfl) (add_I64 (w64 (x10 + x2)) 1) rfl) (sS (sA (sT1 rfl) sT0) sB0 sF0) ?_
                                refine AL_cons (LR_move (at_tmp 0 _) rfl) (sS (sT1 rfl) sB0 sF0) ?_
                                refine AL_cons (LR_bi1 (at_tmp 76 _) (len_ns Hfaa.underlying49 x1) rfl) (sS (sT1 rfl) sB0 sF0) ?_
                                refine AL_cons (LR_bin (at_tmp 75 _) (at_tmp 77 _) (lss_I64 (w64 ((w64 (x10 + x2)) + 1)) (x1.2.1 : Int)) rfl) (sS (sA (sT1 rfl) (sT1 rfl)) sB0 sF0) ?_
                                refine AL_nil ?_
                                exact thenN (cutLeaf (v := decide ((w64 ((w64 (x10 + x2)) + 1)) < (x1.2.1 : Int))) hr (weak0 ((sT rfl (sT rfl (sT rfl (sT rfl (sT rfl (sT rfl (sT rfl (sT rfl (sT rfl (sT rfl sT0))))))))))) (sub_keep sub_nil)))
                              · rintro x16 hr
                                show AW Hfaa.prog _ _ _ ⟨[(0, .inl (ns U32 x1)), (5, .inl (is (Bl x6))), (6, .inl (is (I64 x2))), (7, .inl (is (I64 x3))), (4, .inr (.inr (.inl (59, 0, (w64 ((x1.2.1 : Int) - x2)).toNat, (w64 ((x1.2.1 : Int) - x2)).toNat)))), (61, .inl (is (I64 x9))), (62, .inl (is (I64 x10))), (9, .inl (is (I64 x10))), (10, .inl (is (U64 x14))), (78, .inl (is (Bl x16)))], [(59, pb 65 (ar U32 ((w64 ((x1.2.1 : Int) - x2)).toNat) x11 ++ []))]⟩
                                have hr : some out3 = F38_14 N x1 x2 x3 x6 x9 x10 x11 x14 x16 := hr
                                refine AW_condT (b := x16) rfl (fun h => ?_) (fun h => ?_)
                                · have hr := hr.trans (cond_t h)
                                  clear h
                                  refine AW_region ?_
                                  refine AL_cons (LR_move (at_tmp 10 _) rfl) (sS (sT1 rfl) sB0 sF0) ?_
                                  refine AL_cons (LR_move (at_tmp 0 _) rfl) (sS (sT1 rfl) sB0 sF0) ?_
                                  refine AL_cons (LR_move (at_tmp 9 _) rfl) (sS (sT1 rfl) sB0 sF0) ?_
                                  refine AL_cons (LR_move (at_tmp 6 _) rfl) (sS (sT1 rfl) sB0 sF0) ?_
                                  refine AL_cons (LR_bin (at_tmp 81 _) (at_tmp 82 _) (add_I64 x10 x2) rfl) (sS (sA (sT1 rfl) (sT1 rfl)) sB0 sF0) ?_
                                  refine AL_cons (LR_bin (at_tmp 83 _) (at_c (v' := I64 1) rfl) (add_I64 (w64 (x10 + x2)) 1) rfl) (sS (sA (sT1 rfl) sT0) sB0 sF0) ?_
                                  obtain ⟨hg82, hr⟩ := guard_some hr
                                  refine AL_cons (LR_indexAddrQ Hfaa.underlying49 sz65 (at_tmp 80 _) (at_tmp 84 _) (dand hg82) rfl) (sS (sA (sT1 rfl) (sT1 rfl)) sB0 sF0) ?_
                                  refine AL_cons (LR_loadQ (at_tmp 85 _) na65 rfl) (sS (sT1 rfl) sB0 sF0) ?_
                                  refine AL_cons (LR_conv (vx := U32 (x1.2.2 ((w64 ((w64 (x10 + x2)) + 1)).toNat))) (at_tmp 86 _) (conv_U64 Hfaa.underlying65 Hfaa.underlying30 ((x1.2.2 ((w64 ((w64 (x10 + x2)) + 1)).toNat)).toNat : Int)) rfl) (sS (sT1 rfl) sB0 sF0) ?_
                                  refine AL_cons (LR_bin (at_tmp 87 _) (at_c (v' := U64 (32#64)) rfl) (shl_U64 (BitVec.ofInt 64 ((x1.2.2 ((w64 ((w64 (x10 + x2)) + 1)).toNat)).toNat : Int)) ((32#64).toNat : Int) (Int.natCast_nonneg _)) rfl) (sS (sA (sT1 rfl) sT0) sB0 sF0) ?_
                                  refine AL_cons (LR_bin (at_tmp 79 _) (at_tmp 88 _) (or_U64 x14 ((BitVec.ofInt 64 ((x1.2.2 ((w64 ((w64 (x10 + x2)) + 1)).toNat)).toNat : Int)) <<< 32)) rfl) (sS (sA (sT1 rfl) (sT1 rfl)) sB0 sF0) ?_
                                  refine AL_cons (LR_assign (at_tmp 89 _) rfl) (sS (sT1 rfl) sB0 sF0) ?_
                                  refine AL_nil ?_
                                  exact thenN (cutLeaf (v := x14 ||| ((BitVec.ofInt 64 ((x1.2.2 ((w64 ((w64 (x10 + x2)) + 1)).toNat)).toNat : Int)) <<< 32)) hr (weak0 ((sT rfl (sT rfl (sT rfl (sT rfl (sT rfl (sT rfl (sT rfl (sT rfl (sT rfl sT0)))))))))) (sub_keep sub_nil)))
                                · have hr := hr.trans (cond_f h)
                                  clear h
                                  refine AW_skip ?_
                                  exact thenN (cutLeaf (v := x14) hr (weak0 ((sT rfl (sT rfl (sT rfl (sT rfl (sT rfl (sT rfl (sT rfl (sT rfl (sT rfl sT0)))))))))) (sub_keep sub_nil)))
                            · rintro x15 hr
                              show AW Hfaa.prog _ _ _ ⟨[(0, .inl (ns U32 x1)), (5, .inl (is (Bl x6))), (6, .inl (is (I64 x2))), (7, .inl (is (I64 x3))), (4, .inr (.inr (.inl (59, 0, (w64 ((x1.2.1 : Int) - x2)).toNat, (w64 ((x1.2.1 : Int) - x2)).toNat)))), (61, .inl (is (I64 x9))), (62, .inl (is (I64 x10))), (9, .inl (is (I64 x10))), (10, .inl (is (U64 x15)))], [(59, pb 65 (ar U32 ((w64 ((x1.2.1 : Int) - x2)).toNat) x11 ++ []))]⟩
                              have hr : some out3 = F38_13 N x1 x2 x3 x6 x9 x10 x11 x15 := hr
                              refine AW_region ?_
                              refine AL_cons (LR_move (at_tmp 4 _) rfl) (sS (sT1 rfl) sB0 sF0) ?_
                              refine AL_cons (LR_move (at_tmp 9 _) rfl) (sS (sT1 rfl) sB0 sF0) ?_
                              refine AL_cons (LR_move (at_tmp 10 _) rfl) (sS (sT1 rfl) sB0 sF0) ?_
                              refine AL_cons (LR_move (at_tmp 7 _) rfl) (sS (sT1 rfl) sB0 sF0) ?_
                              obtain ⟨hg80, hr⟩ := guard_some hr
                              refine AL_cons (LR_bin (at_tmp 92 _) (at_tmp 93 _) (shr_U64 x15 x3 (of_decide_eq_true hg80)) rfl) (sS (sA (sT1 rfl) (sT1 rfl)) sB0 sF0) ?_
                              refine AL_cons (LR_conv (vx := U64 (x15 >>> x3.toNat)) (at_tmp 94 _) (conv_U32 Hfaa.underlying30 Hfaa.underlying65 ((x15 >>> x3.toNat).toNat : Int)) rfl) (sS (sT1 rfl) sB0 sF0) ?_
                              obtain ⟨hg81, hr⟩ := guard_some hr
                              refine AL_cons (LR_indexAddrS (o := x10.toNat) Hfaa.underlying49 sz65 (at_tmp 90 _) (at_tmp 91 _) (dand hg81) (by first | rfl | omega) rfl) (sS (sA (sT1 rfl) (sT1 rfl)) sB0 sF0) ?_
                              refine AL_cons (LR_storeA (at_tmp 96 _) (at_tmp 95 _) (cells_one (one_is rfl)) (onC (one_is rfl) onN) sz65 rfl (ble_dyn (lnA ln0) (by have := (ltn (dand hg81)); omega)) (stA (ltn (dand hg81)))) (sS (sA (sT1 rfl) (sT1 rfl)) (sB1 rfl) sF0) ?_
                              refine AL_nil ?_
                              refine blN ?_
                              exact thenN (cutLeaf (v := upd x11 x10.toNat (BitVec.ofInt 32 ((x15 >>> x3.toNat).toNat : Int))) hr (weak0 ((sT rfl (sT rfl (sT rfl (sT rfl (sT rfl (sT rfl (sT rfl sT0)))))))) (sub_keep sub_nil)))
                        · rintro x13 hr
                          show AW Hfaa.prog _ _ _ ⟨[(0, .inl (ns U32 x1)), (5, .inl (is (Bl x6))), (6, .inl (is (I64 x2))), (7, .inl (is (I64 x3))), (4, .inr (.inr (.inl (59, 0, (w64 ((x1.2.1 : Int) - x2)).toNat, (w64 ((x1.2.1 : Int) - x2)).toNat)))), (61, .inl (is (I64 x9))), (62, .inl (is (I64 x10)))], [(59, pb 65 (ar U32 ((w64 ((x1.2.1 : Int) - x2)).toNat) x13 ++ []))]⟩
                          have hr : some out3 = F38_11 N x1 x2 x3 x6 x9 x10 x13 := hr
                          refine AW_region ?_
                          refine AL_cons (LR_bin (at_tmp 62 _) (at_c (v' := I64 1) rfl) (add_I64 x10 1) rfl) (sS (sA (sT1 rfl) sT0) sB0 sF0) ?_
                          refine AL_cons (LR_move (at_tmp 97 _) rfl) (sS (sT1 rfl) sB0 sF0) ?_
                          refine AL_nil ?_
                          exact thenN (loopNext (x' := (w64 (x10 + 1), x13)) hr (weak0 ((sT rfl (sT rfl (sT rfl (sT rfl (sT rfl (sT rfl (sT rfl sT0)))))))) (sub_keep sub_nil)))
                      · have hr := hr.trans (cond_f h)
                        clear h
                        refine AW_exit ?_
                        refine thenX ?_
                        obtain ⟨r', hro, hr⟩ := map_inr hr
                        refine thenX (loopOut hro (fun he => ?_))
                        rw [he] at hr
                        refine blH ?_
                        exact thenN (cutLeaf (v := x11) hr (weak0 ((sT rfl (sT rfl sT0))) (sub_keep sub_nil)))
                · rintro x8 hr
                  show AW Hfaa.prog _ _ _ ⟨[(5, .inl (is (Bl x6))), (4, .inr (.inr (.inl (59, 0, (w64 ((x1.2.1 : Int) - x2)).toNat, (w64 ((x1.2.1 : Int) - x2)).toNat))))], [(59, pb 65 (ar U32 ((w64 ((x1.2.1 : Int) - x2)).toNat) x8 ++ []))]⟩
                  have hr : some r = F38_7 N x1 x2 x6 x8 := hr
                  refine AW_seq1 ?_
                  refine AW_region ?_
                  refine AL_cons (LR_move (at_tmp 4 _) rfl) (sS (sT1 rfl) sB0 sF0) ?_
                  refine AL_frz U32 59 ⟨[(5, .inl (is (Bl x6))), (4, .inl (ns U32 ((false, (w64 ((x1.2.1 : Int) - x2)).toNat, x8)))), (98, .inl (ns U32 ((false, (w64 ((x1.2.1 : Int) - x2)).toNat, x8))))], []⟩ rfl (sub_drop sub_nil) rfl (fzA rfl (fzC rfl (Nat.le_refl _) (Nat.le_refl _) (fzC rfl (Nat.le_refl _) (Nat.le_refl _) fz0))) ?_
                  obtain ⟨y3, hy3, hr⟩ := bind_some hr
                  refine AL_cons (LR_call Hfaa.func33 rfl rfl (C33 N ((false, (w64 ((x1.2.1 : Int) - x2)).toNat, x8)) y3 hy3) (all_cons (at_tmp 98 _) all_nil) rfl) (sS (sA (sT1 rfl) sT0) sB0 sF0) ?_
                  refine AL_cons (LR_move (at_tmp 5 _) rfl) (sS (sT1 rfl) sB0 sF0) ?_
                  refine AL_cons (LR_assign (at_tmp 99 _) rfl) (sS (sT1 rfl) sB0 sF0) ?_
                  refine AL_cons (LR_assign (at_tmp 100 _) rfl) (sS (sT1 rfl) sB0 sF0) ?_
                  refine AL_nil ?_
                  refine thenN ?_
                  refine AW_ret ?_
                  obtain rfl := Option.some.inj hr
                  exact res2 rfl (rvT rfl) (rvT rfl)
/-- nat.divLong -/
def F63_8 (N : Nat) (a0 : NS (BitVec 32)) (x1 : Int) (x8 : Nat → BitVec 32) (x9 : NS (BitVec 32)) : Option (NS (BitVec 32) × NS (BitVec 32)) := (F33 N ((false, (w64 ((w64 ((a0.2.1 : Int) - x1)) + 1)).toNat, x8))).bind fun y54 => some (y54, x9)
def F63_7 (N : Nat) (a0 : NS (BitVec 32)) (x1 : Int) (x2 : Int) (x7 : Nat → BitVec 32) (x8 : Nat → BitVec 32) : Option (NS (BitVec 32) × NS (BitVec 32)) := (F38 N ((false, (w64 ((a0.2.1 : Int) + 1)).toNat, x7)) (BitVec.ofInt 16 x2)).bind fun y55 => F63_8 N a0 x1 x8 y55.1
def F63_12 (N : Nat) (a0 : NS (BitVec 32)) (x1 : Int) (x2 : Int) (x3 : NS (BitVec 32)) (x11 : Int) (x15 : Nat → BitVec 32) (x16 : Nat → BitVec 32) : Option ((Int × (Nat → BitVec 32) × (Nat → BitVec 32)) ⊕ (NS (BitVec 32) × NS (BitVec 32))) := some (.inl ((w64 (x11 - 1), x15, x16)))
def F63_14 (N : Nat) (a0 : NS (BitVec 32)) (x1 : Int) (x2 : Int) (x3 : NS (BitVec 32)) (x11 : Int) (x13 : Nat → BitVec 32) (x18 : BitVec 32) (x19 : Nat → BitVec 32) : Option ((Int × (Nat → BitVec 32) × (Nat → BitVec 32)) ⊕ (NS (BitVec 32) × NS (BitVec 32))) := bif (decide (0 ≤ x11) && decide (x11 < ((w64 ((w64 ((a0.2.1 : Int) - x1)) + 1)).toNat : Int))) then F63_12 N a0 x1 x2 x3 x11 x19 (upd x13 x11.toNat x18) else none
def F63_16 (N : Nat) (a0 : NS (BitVec 32)) (x1 : Int) (x2 : Int) (x3 : NS (BitVec 32)) (x11 : Int) (x13 : Nat → BitVec 32) (x21 : Nat → BitVec 32) (x22 : BitVec 32) : Option ((Int × (Nat → BitVec 32) × (Nat → BitVec 32)) ⊕ (NS (BitVec 32) × NS (BitVec 32))) := bif (decide (0 ≤ (x11 : Int)) && (decide ((x11 : Int) ≤ (w64 ((w64 (x11 + x1)) + 1) : Int)) && decide ((w64 ((w64 (x11 + x1)) + 1) : Int) ≤ ((w64 ((a0.2.1 : Int) + 1)).toNat : Int)))) then bif decide ((x11 : Int) < ((w64 ((a0.2.1 : Int) + 1)).toNat : Int)) then (F126 N ((w64 ((a0.2.1 : Int) + 1)).toNat) ((x11 : Int).toNat) (((w64 ((w64 (x11 + x1)) + 1) : Int).toNat) - ((x11 : Int).toNat)) ((w64 ((a0.2.1 : Int) + 1)).toNat - ((x11 : Int).toNat)) x21 x3).bind fun y101 => F63_14 N a0 x1 x2 x3 x11 x13 x22 y101 else none else none
def F63_15 (N : Nat) (a0 : NS (BitVec 32)) (x1 : Int) (x2 : Int) (x3 : NS (BitVec 32)) (x11 : Int) (x13 : Nat → BitVec 32) (x17 : BitVec 32) (x20 : Bool) (x21 : Nat → BitVec 32) : Option ((Int × (Nat → BitVec 32) × (Nat → BitVec 32)) ⊕ (NS (BitVec 32) × NS (BitVec 32))) := bif x20 then F63_16 N a0 x1 x2 x3 x11 x13 x21 (x17 - (1#32)) else F63_14 N a0 x1 x2 x3 x11 x13 x17 x21
def F63_13 (N : Nat) (a0 : NS (BitVec 32)) (x1 : Int) (x2 : Int) (x3 : NS (BitVec 32)) (x11 : Int) (x12 : Nat → BitVec 32) (x13 : Nat → BitVec 32) (x17 : BitVec 32) : Option ((Int × (Nat → BitVec 32) × (Nat → BitVec 32)) ⊕ (NS (BitVec 32) × NS (BitVec 32))) := bif (decide (0 ≤ (x11 : Int)) && (decide ((x11 : Int) ≤ (w64 ((w64 (x11 + x1)) + 1) : Int)) && decide ((w64 ((w64 (x11 + x1)) + 1) : Int) ≤ ((w64 ((a0.2.1 : Int) + 1)).toNat : Int)))) then bif decide ((x11 : Int) < ((w64 ((a0.2.1 : Int) + 1)).toNat : Int)) then (F125 N ((w64 ((a0.2.1 : Int) + 1)).toNat) ((x11 : Int).toNat) (((w64 ((w64 (x11 + x1)) + 1) : Int).toNat) - ((x11 : Int).toNat)) ((w64 ((a0.2.1 : Int) + 1)).toNat - ((x11 : Int).toNat)) x12 x3 x17).bind fun y102 => F63_15 N a0 x1 x2 x3 x11 x13 x17 y102.1 y102.2 else none else none
def F63_11 (N : Nat) (a0 : NS (BitVec 32)) (x1 : Int) (x2 : Int) (x3 : NS (BitVec 32)) (x11 : Int) (x12 : Nat → BitVec 32) (x13 : Nat → BitVec 32) (x14 : Bool) : Option ((Int × (Nat → BitVec 32) × (Nat → BitVec 32)) ⊕ (NS (BitVec 32) × NS (BitVec 32))) := bif x14 then bif (decide (0 ≤ w64 (x11 + x1)) && decide (w64 (x11 + x1) < ((w64 ((a0.2.1 : Int) + 1)).toNat : Int))) then bif (decide (0 ≤ w64 ((w64 (x11 + x1)) - 1)) && decide (w64 ((w64 (x11 + x1)) - 1) < ((w64 ((a0.2.1 : Int) + 1)).toNat : Int))) then bif (decide (0 ≤ w64 ((w64 (x11 + x1)) - 2)) && decide (w64 ((w64 (x11 + x1)) - 2) < ((w64 ((a0.2.1 : Int) + 1)).toNat : Int))) then bif (decide (0 ≤ w64 (x1 - 1)) && decide (w64 (x1 - 1) < (x3.2.1 : Int))) then bif (decide (0 ≤ w64 (x1 - 2)) && decide (w64 (x1 - 2) < (x3.2.1 : Int))) then (F124 N (x12 ((w64 (x11 + x1)).toNat)) (x12 ((w64 ((w64 (x11 + x1)) - 1)).toNat)) (x12 ((w64 ((w64 (x11 + x1)) - 2)).toNat)) (x3.2.2 ((w64 (x1 - 1)).toNat)) (x3.2.2 ((w64 (x1 - 2)).toNat))).bind fun y103 => F63_13 N a0 x1 x2 x3 x11 x12 x13 y103 else none else none else none else none else none else (F63_7 N a0 x1 x2 x12 x13).map Sum.inr
def F63_L10b (N : Nat) (a0 : NS (BitVec 32)) (x1 : Int) (x2 : Int) (x3 : NS (BitVec 32)) (x11 : Int) (x12 : Nat → BitVec 32) (x13 : Nat → BitVec 32) : Option ((Int × (Nat → BitVec 32) × (Nat → BitVec 32)) ⊕ (NS (BitVec 32) × NS (BitVec 32))) := F63_11 N a0 x1 x2 x3 x11 x12 x13 (decide (x11 ≥ 0))
def F63_L10 (N : Nat) (a0 : NS (BitVec 32)) (x1 : Int) (x2 : Int) (x3 : NS (BitVec 32)) : (Int × (Nat → BitVec 32) × (Nat → BitVec 32)) → Option ((Int × (Nat → BitVec 32) × (Nat → BitVec 32)) ⊕ (NS (BitVec 32) × NS (BitVec 32))) := fun v => F63_L10b N a0 x1 x2 x3 v.1 v.2.1 v.2.2
def F63_9 (N : Nat) (a0 : NS (BitVec 32)) (x1 : Int) (x2 : Int) (x3 : NS (BitVec 32)) (x5 : Nat → BitVec 32) (x6 : Nat → BitVec 32) (x10 : Int) : Option (NS (BitVec 32) × NS (BitVec 32)) := iterL (F63_L10 N a0 x1 x2 x3) N (x10, x5, x6)
def F63_6 (N : Nat) (a0 : NS (BitVec 32)) (x1 : Int) (x2 : Int) (x3 : NS (BitVec 32)) (x5 : Nat → BitVec 32) (x6 : Nat → BitVec 32) : Option (NS (BitVec 32) × NS (BitVec 32)) := F63_9 N a0 x1 x2 x3 x5 x6 (w64 ((((w64 ((w64 ((a0.2.1 : Int) - x1)) + 1)).toNat : Int)) - 1))
def F63_5 (N : Nat) (a0 : NS (BitVec 32)) (x1 : Int) (x2 : Int) (x3 : NS (BitVec 32)) (x5 : Nat → BitVec 32) : Option (NS (BitVec 32) × NS (BitVec 32)) := bif (decide (0 ≤ w64 ((w64 ((a0.2.1 : Int) - x1)) + 1)) && decide (w64 ((w64 ((a0.2.1 : Int) - x1)) + 1) ≤ 1099511627776)) then F63_6 N a0 x1 x2 x3 x5 (fun _ => 0#32) else none
def F63_4 (N : Nat) (a0 : NS (BitVec 32)) (x1 : Int) (x2 : Int) (x3 : NS (BitVec 32)) (x4 : Nat → BitVec 32) : Option (NS (BitVec 32) × NS (BitVec 32)) := (F64 N a0 x2).bind fun y104 => bif decide (y104.2.1 ≤ (w64 ((a0.2.1 : Int) + 1)).toNat) then F63_5 N a0 x1 x2 x3 (cpy x4 y104.2.1 y104.2.2) else none
def F63_3 (N : Nat) (a0 : NS (BitVec 32)) (x1 : Int) (x2 : Int) (x3 : NS (BitVec 32)) : Option (NS (BitVec 32) × NS (BitVec 32)) := bif (decide (0 ≤ w64 ((a0.2.1 : Int) + 1)) && decide (w64 ((a0.2.1 : Int) + 1) ≤ 1099511627776)) then F63_4 N a0 x1 x2 x3 (fun _ => 0#32) else none
def F63_2 (N : Nat) (a0 : NS (BitVec 32)) (a1 : NS (BitVec 32)) (x1 : Int) (x2 : Int) : Option (NS (BitVec 32) × NS (BitVec 32)) := (F64 N a1 x2).bind fun y105 => F63_3 N a0 x1 x2 y105
def F63_1 (N : Nat) (a0 : NS (BitVec 32)) (a1 : NS (BitVec 32)) (x1 : Int) : Option (NS (BitVec 32) × NS (BitVec 32)) := bif (decide (0 ≤ w64 (x1 - 1)) && decide (w64 (x1 - 1) < (a1.2.1 : Int))) then (F59 N (a1.2.2 ((w64 (x1 - 1)).toNat))).bind fun y106 => F63_2 N a0 a1 x1 (w64 (32 - y106)) else none
def F63 (N : Nat) (a0 : NS (BitVec 32)) (a1 : NS (BitVec 32)) : Option (NS (BitVec 32) × NS (BitVec 32)) := F63_1 N a0 a1 (a1.2.1 : Int)
theorem C63 (N : Nat) (a0 : NS (BitVec 32)) (a1 : NS (BitVec 32)) (r : NS (BitVec 32) × NS (BitVec 32)) (hr : some r = F63 N a0 a1) : Aw.Fn Hfaa.prog 63 [ns U32 a0, ns U32 a1] (tup [ns U32 r.1, ns U32 r.2]) := by
  refine fn_intro Hfaa.func63 rfl rfl rfl ?_
  intro bn0 w0 H0
  refine AW_seq1 ?_
  refine AW_region ?_
  refine AL_cons (LR_assign (at_ns0 (K := U32) (fun _ => 0#32)) rfl) (sS sT0 sB0 sF0) ?_
  refine AL_cons (LR_assign (at_ns0 (K := U32) (fun _ => 0#32)) rfl) (sS sT0 sB0 sF0) ?_
  refine AL_nil ?_
  refine thenN ?_
  refine AW_cut (σ := Int) (fun v => ⟨[(0, .inl (ns U32 a0)), (1, .inl (ns U32 a1)), (6, .inl (is (I64 v)))], []⟩) (fun v => some r = F63_1 N a0 a1 v) ?_ ?_
  · skip
    refine AW_region ?_
    refine AL_cons (LR_move (at_tmp 1 _) rfl) (sS (sT1 rfl) sB0 sF0) ?_
    refine AL_cons (LR_bi1 (at_tmp 15 _) (len_ns Hfaa.underlying49 a1) rfl) (sS (sT1 rfl) sB0 sF0) ?_
    refine AL_cons (LR_assign (at_tmp 16 _) rfl) (sS (sT1 rfl) sB0 sF0) ?_
    refine AL_nil ?_
    exact thenN (cutLeaf (v := (a1.2.1 : Int)) hr (weak0 ((sT rfl (sT rfl (sT rfl sT0)))) sub_nil))
  · rintro x1 hr
    show AW Hfaa.prog _ _ _ ⟨[(0, .inl (ns U32 a0)), (1, .inl (ns U32 a1)), (6, .inl (is (I64 x1)))], []⟩
    have hr : some r = F63_1 N a0 a1 x1 := hr
    refine AW_cut (σ := Int) (fun v => ⟨[(0, .inl (ns U32 a0)), (1, .inl (ns U32 a1)), (6, .inl (is (I64 x1))), (7, .inl (is (I64 v)))], []⟩) (fun v => some r = F63_2 N a0 a1 x1 v) ?_ ?_
    · skip
      refine AW_region ?_
      refine AL_cons (LR_move (at_tmp 1 _) rfl) (sS (sT1 rfl) sB0 sF0) ?_
      refine AL_cons (LR_move (at_tmp 6 _) rfl) (sS (sT1 rfl) sB0 sF0) ?_
      refine AL_cons (LR_bin (at_tmp 18 _) (at_c (v' := I64 1) rfl) (sub_I64 x1 1) rfl) (sS (sA (sT1 rfl) sT0) sB0 sF0) ?_
      obtain ⟨hg284, hr⟩ := guard_some hr
      refine AL_cons (LR_indexAddrQ Hfaa.underlying49 sz65 (at_tmp 17 _) (at_tmp 19 _) (dand hg284) rfl) (sS (sA (sT1 rfl) (sT1 rfl)) sB0 sF0) ?_
      refine AL_cons (LR_loadQ (at_tmp 20 _) na65 rfl) (sS (sT1 rfl) sB0 sF0) ?_
      obtain ⟨y106, hy106, hr⟩ := bind_some hr
      refine AL_cons (LR_call Hfaa.func59 rfl rfl (C59 N (a1.2.2 ((w64 (x1 - 1)).toNat)) y106 hy106) (all_cons (at_tmp 21 _) all_nil) rfl) (sS (sA (sT1 rfl) sT0) sB0 sF0) ?_
      refine AL_cons (LR_bin (at_c (v' := I64 32) rfl) (at_tmp 22 _) (sub_I64 32 y106) rfl) (sS (sA sT0 (sT1 rfl)) sB0 sF0) ?_
      refine AL_cons (LR_assign (at_tmp 23 _) rfl) (sS (sT1 rfl) sB0 sF0) ?_
      refine AL_nil ?_
      exact thenN (cutLeaf (v := w64 (32 - y106)) hr (weak0 ((sT rfl (sT rfl (sT rfl (sT rfl sT0))))) sub_nil))
    · rintro x2 hr
      show AW Hfaa.prog _ _ _ ⟨[(0, .inl (ns U32 a0)), (1, .inl (ns U32 a1)), (6, .inl (is (I64 x1))), (7, .inl (is (I64 x2)))], []⟩
      have hr : some r = F63_2 N a0 a1 x1 x2 := hr
      refine AW_cut (σ := NS (BitVec 32)) (fun v => ⟨[(0, .inl (ns U32 a0)), (6, .inl (is (I64 x1))), (7, .inl (is (I64 x2))), (8, .inl (ns U32 v))], []⟩) (fun v => some r = F63_3 N a0 x1 x2 v) ?_ ?_
      · skip
        refine AW_region ?_
        refine AL_cons (LR_move (at_tmp 1 _) rfl) (sS (sT1 rfl) sB0 sF0) ?_
        refine AL_cons (LR_move (at_tmp 7 _) rfl) (sS (sT1 rfl) sB0 sF0) ?_
        obtain ⟨y105, hy105, hr⟩ := bind_some hr
        refine AL_cons (LR_call Hfaa.func64 rfl rfl (C64 N a1 x2 y105 hy105) (all_cons (at_tmp 24 _) (all_cons (at_tmp 25 _) all_nil)) rfl) (sS (sA (sT1 rfl) (sA (sT1 rfl) sT0)) sB0 sF0) ?_
        refine AL_cons (LR_assign (at_tmp 26 _) rfl) (sS (sT1 rfl) sB0 sF0) ?_
        refine AL_nil ?_
        exact thenN (cutLeaf (v := y105) hr (weak0 ((sT rfl (sT rfl (sT rfl (sT rfl sT0))))) sub_nil))
      · rintro x3 hr
        show AW Hfaa.prog _ _ _ ⟨[(0, .inl (ns U32 a0)), (6, .inl (is (I64 x1))), (7, .inl (is (I64 x2))), (8, .inl (ns U32 x3))], []⟩
        have hr : some r = F63_3 N a0 x1 x2 x3 := hr
        refine AW_cut (σ := (Nat → BitVec 32)) (fun v => ⟨[(0, .inl (ns U32 a0)), (6, .inl (is (I64 x1))), (7, .inl (is (I64 x2))), (8, .inl (ns U32 x3)), (9, .inr (.inr (.inl (30, 0, (w64 ((a0.2.1 : Int) + 1)).toNat, (w64 ((a0.2.1 : Int) + 1)).toNat))))], [(30, pb 65 (ar U32 ((w64 ((a0.2.1 : Int) + 1)).toNat) v ++ []))]⟩) (fun v => some r = F63_4 N a0 x1 x2 x3 v) ?_ ?_
        · skip
          refine AW_region ?_
          refine AL_cons (LR_move (at_tmp 0 _) rfl) (sS (sT1 rfl) sB0 sF0) ?_
          refine AL_cons (LR_bi1 (at_tmp 27 _) (len_ns Hfaa.underlying49 a0) rfl) (sS (sT1 rfl) sB0 sF0) ?_
          refine AL_cons (LR_bin (at_tmp 28 _) (at_c (v' := I64 1) rfl) (add_I64 (a0.2.1 : Int) 1) rfl) (sS (sA (sT1 rfl) sT0) sB0 sF0) ?_
          obtain ⟨hg283, hr⟩ := guard_some hr
          refine AL_cons (LR_makeSlice Hfaa.underlying49 el65 (at_tmp 29 _) (dand hg283) rfl) (sS (sT1 rfl) sB0 (sF1 rfl)) ?_
          refine AL_cons (LR_assign (at_tmp 30 _) rfl) (sS (sT1 rfl) sB0 sF0) ?_
          refine AL_nil ?_
          exact thenN (cutLeaf (v := fun _ => 0#32) hr (weak0 ((sT rfl (sT rfl (sT rfl (sT rfl (sT rfl sT0)))))) (sub_keep sub_nil)))
        · rintro x4 hr
          show AW Hfaa.prog _ _ _ ⟨[(0, .inl (ns U32 a0)), (6, .inl (is (I64 x1))), (7, .inl (is (I64 x2))), (8, .inl (ns U32 x3)), (9, .inr (.inr (.inl (30, 0, (w64 ((a0.2.1 : Int) + 1)).toNat, (w64 ((a0.2.1 : Int) + 1)).toNat))))], [(30, pb 65 (ar U32 ((w64 ((a0.2.1 : Int) + 1)).toNat) x4 ++ []))]⟩
          have hr : some r = F63_4 N a0 x1 x2 x3 x4 := hr
          refine AW_cut (σ := (Nat → BitVec 32)) (fun v => ⟨[(0, .inl (ns U32 a0)), (6, .inl (is (I64 x1))), (7, .inl (is (I64 x2))), (8, .inl (ns U32 x3)), (9, .inr (.inr (.inl (30, 0, (w64 ((a0.2.1 : Int) + 1)).toNat, (w64 ((a0.2.1 : Int) + 1)).toNat))))], [(30, pb 65 (ar U32 ((w64 ((a0.2.1 : Int) + 1)).toNat) v ++ []))]⟩) (fun v => some r = F63_5 N a0 x1 x2 x3 v) ?_ ?_
          · skip
            refine AW_region ?_
            refine AL_cons (LR_move (at_tmp 9 _) rfl) (sS (sT1 rfl) sB0 sF0) ?_
            refine AL_cons (LR_move (at_tmp 0 _) rfl) (sS (sT1 rfl) sB0 sF0) ?_
            refine AL_cons (LR_move (at_tmp 7 _) rfl) (sS (sT1 rfl) sB0 sF0) ?_
            obtain ⟨y104, hy104, hr⟩ := bind_some hr
            refine AL_cons (LR_call Hfaa.func64 rfl rfl (C64 N a0 x2 y104 hy104) (all_cons (at_tmp 32 _) (all_cons (at_tmp 33 _) all_nil)) rfl) (sS (sA (sT1 rfl) (sA (sT1 rfl) sT0)) sB0 sF0) ?_
            obtain ⟨hg282, hr⟩ := guard_some hr
            refine AL_cons (LR_copyQ Hfaa.underlying49 sz65 (fun _ => rfl) (at_tmp 31 _) (at_tmp 34 _) (of_decide_eq_true hg282) rfl) (sS (sA (sT1 rfl) (sT1 rfl)) (sB1 rfl) sF0) ?_
            refine AL_nil ?_
            exact thenN (cutLeaf (v := cpy x4 y104.2.1 y104.2.2) hr (weak0 ((sT rfl (sT rfl (sT rfl (sT rfl (sT rfl sT0)))))) (sub_keep sub_nil)))
          · rintro x5 hr
            show AW Hfaa.prog _ _ _ ⟨[(0, .inl (ns U32 a0)), (6, .inl (is (I64 x1))), (7, .inl (is (I64 x2))), (8, .inl (ns U32 x3)), (9, .inr (.inr (.inl (30, 0, (w64 ((a0.2.1 : Int) + 1)).toNat, (w64 ((a0.2.1 : Int) + 1)).toNat))))], [(30, pb 65 (ar U32 ((w64 ((a0.2.1 : Int) + 1)).toNat) x5 ++ []))]⟩
            have hr : some r = F63_5 N a0 x1 x2 x3 x5 := hr
            refine AW_cut (σ := (Nat → BitVec 32)) (fun v => ⟨[(6, .inl (is (I64 x1))), (7, .inl (is (I64 x2))), (8, .inl (ns U32 x3)), (9, .inr (.inr (.inl (30, 0, (w64 ((a0.2.1 : Int) + 1)).toNat, (w64 ((a0.2.1 : Int) + 1)).toNat)))), (10, .inr (.inr (.inl (41, 0, (w64 ((w64 ((a0.2.1 : Int) - x1)) + 1)).toNat, (w64 ((w64 ((a0.2.1 : Int) - x1)) + 1)).toNat))))], [(30, pb 65 (ar U32 ((w64 ((a0.2.1 : Int) + 1)).toNat) x5 ++ [])), (41, pb 65 (ar U32 ((w64 ((w64 ((a0.2.1 : Int) - x1)) + 1)).toNat) v ++ []))]⟩) (fun v => some r = F63_6 N a0 x1 x2 x3 x5 v) ?_ ?_
            · skip
              refine AW_region ?_
              refine AL_cons (LR_move (at_tmp 0 _) rfl) (sS (sT1 rfl) sB0 sF0) ?_
              refine AL_cons (LR_bi1 (at_tmp 36 _) (len_ns Hfaa.underlying49 a0) rfl) (sS (sT1 rfl) sB0 sF0) ?_
              refine AL_cons (LR_move (at_tmp 6 _) rfl) (sS (sT1 rfl) sB0 sF0) ?_
              refine AL_cons (LR_bin (at_tmp 37 _) (at_tmp 38 _) (sub_I64 (a0.2.1 : Int) x1) rfl) (sS (sA (sT1 rfl) (sT1 rfl)) sB0 sF0) ?_
              refine AL_cons (LR_bin (at_tmp 39 _) (at_c (v' := I64 1) rfl) (add_I64 (w64 ((a0.2.1 : Int) - x1)) 1) rfl) (sS (sA (sT1 rfl) sT0) sB0 sF0) ?_
              obtain ⟨hg281, hr⟩ := guard_some hr
              refine AL_cons (LR_makeSlice Hfaa.underlying49 el65 (at_tmp 40 _) (dand hg281) rfl) (sS (sT1 rfl) sB0 (sF1 rfl)) ?_
              refine AL_cons (LR_assign (at_tmp 41 _) rfl) (sS (sT1 rfl) sB0 sF0) ?_
              refine AL_nil ?_
              exact thenN (cutLeaf (v := fun _ => 0#32) hr (weak0 ((sT rfl (sT rfl (sT rfl (sT rfl (sT rfl sT0)))))) (sub_keep (sub_keep sub_nil))))
            · rintro x6 hr
              show AW Hfaa.prog _ _ _ ⟨[(6, .inl (is (I64 x1))), (7, .inl (is (I64 x2))), (8, .inl (ns U32 x3)), (9, .inr (.inr (.inl (30, 0, (w64 ((a0.2.1 : Int) + 1)).toNat, (w64 ((a0.2.1 : Int) + 1)).toNat)))), (10, .inr (.inr (.inl (41, 0, (w64 ((w64 ((a0.2.1 : Int) - x1)) + 1)).toNat, (w64 ((w64 ((a0.2.1 : Int) - x1)) + 1)).toNat))))], [(30, pb 65 (ar U32 ((w64 ((a0.2.1 : Int) + 1)).toNat) x5 ++ [])), (41, pb 65 (ar U32 ((w64 ((w64 ((a0.2.1 : Int) - x1)) + 1)).toNat) x6 ++ []))]⟩
              have hr : some r = F63_6 N a0 x1 x2 x3 x5 x6 := hr
              refine AW_cut (σ := (Nat → BitVec 32) × (Nat → BitVec 32)) (fun v => ⟨[(7, .inl (is (I64 x2))), (9, .inr (.inr (.inl (30, 0, (w64 ((a0.2.1 : Int) + 1)).toNat, (w64 ((a0.2.1 : Int) + 1)).toNat)))), (10, .inr (.inr (.inl (41, 0, (w64 ((w64 ((a0.2.1 : Int) - x1)) + 1)).toNat, (w64 ((w64 ((a0.2.1 : Int) - x1)) + 1)).toNat))))], [(30, pb 65 (ar U32 ((w64 ((a0.2.1 : Int) + 1)).toNat) v.1 ++ [])), (41, pb 65 (ar U32 ((w64 ((w64 ((a0.2.1 : Int) - x1)) + 1)).toNat) v.2 ++ []))]⟩) (fun v => some r = F63_7 N a0 x1 x2 v.1 v.2) ?_ ?_
              · skip
                refine AW_cut (σ := Int) (fun v => ⟨[(6, .inl (is (I64 x1))), (7, .inl (is (I64 x2))), (8, .inl (ns U32 x3)), (9, .inr (.inr (.inl (30, 0, (w64 ((a0.2.1 : Int) + 1)).toNat, (w64 ((a0.2.1 : Int) + 1)).toNat)))), (10, .inr (.inr (.inl (41, 0, (w64 ((w64 ((a0.2.1 : Int) - x1)) + 1)).toNat, (w64 ((w64 ((a0.2.1 : Int) - x1)) + 1)).toNat)))), (11, .inl (is (I64 v)))], [(30, pb 65 (ar U32 ((w64 ((a0.2.1 : Int) + 1)).toNat) x5 ++ [])), (41, pb 65 (ar U32 ((w64 ((w64 ((a0.2.1 : Int) - x1)) + 1)).toNat) x6 ++ []))]⟩) (fun v => some r = F63_9 N a0 x1 x2 x3 x5 x6 v) ?_ ?_
                · skip
                  refine AW_region ?_
                  refine AL_cons (LR_move (at_tmp 10 _) rfl) (sS (sT1 rfl) sB0 sF0) ?_
                  refine AL_cons (LR_lenT (at_tmp 42 _) Hfaa.underlying49 rfl) (sS (sT1 rfl) sB0 sF0) ?_
                  refine AL_cons (LR_bin (at_tmp 43 _) (at_c (v' := I64 1) rfl) (sub_I64 (((w64 ((w64 ((a0.2.1 : Int) - x1)) + 1)).toNat : Int)) 1) rfl) (sS (sA (sT1 rfl) sT0) sB0 sF0) ?_
                  refine AL_cons (LR_assign (at_tmp 44 _) rfl) (sS (sT1 rfl) sB0 sF0) ?_
                  refine AL_nil ?_
                  exact thenN (cutLeaf (v := w64 ((((w64 ((w64 ((a0.2.1 : Int) - x1)) + 1)).toNat : Int)) - 1)) hr (weak0 ((sT rfl (sT rfl (sT rfl (sT rfl (sT rfl (sT rfl sT0))))))) (sub_keep (sub_keep sub_nil))))
                · rintro x10 hr
                  show AW Hfaa.prog _ _ _ ⟨[(6, .inl (is (I64 x1))), (7, .inl (is (I64 x2))), (8, .inl (ns U32 x3)), (9, .inr (.inr (.inl (30, 0, (w64 ((a0.2.1 : Int) + 1)).toNat, (w64 ((a0.2.1 : Int) + 1)).toNat)))), (10, .inr (.inr (.inl (41, 0, (w64 ((w64 ((a0.2.1 : Int) - x1)) + 1)).toNat, (w64 ((w64 ((a0.2.1 : Int) - x1)) + 1)).toNat)))), (11, .inl (is (I64 x10)))], [(30, pb 65 (ar U32 ((w64 ((a0.2.1 : Int) + 1)).toNat) x5 ++ [])), (41, pb 65 (ar U32 ((w64 ((w64 ((a0.2.1 : Int) - x1)) + 1)).toNat) x6 ++ []))]⟩
                  have hr : some r = F63_9 N a0 x1 x2 x3 x5 x6 x10 := hr
                  refine AW_block ?_
                  refine AW_iterR (σ := Int × (Nat → BitVec 32) × (Nat → BitVec 32)) (r := r) (x0 := (x10, x5, x6)) (emb := fun v => ⟨[(6, .inl (is (I64 x1))), (7, .inl (is (I64 x2))), (8, .inl (ns U32 x3)), (9, .inr (.inr (.inl (30, 0, (w64 ((a0.2.1 : Int) + 1)).toNat, (w64 ((a0.2.1 : Int) + 1)).toNat)))), (10, .inr (.inr (.inl (41, 0, (w64 ((w64 ((a0.2.1 : Int) - x1)) + 1)).toNat, (w64 ((w64 ((a0.2.1 : Int) - x1)) + 1)).toNat)))), (11, .inl (is (I64 v.1)))], [(30, pb 65 (ar U32 ((w64 ((a0.2.1 : Int) + 1)).toNat) v.2.1 ++ [])), (41, pb 65 (ar U32 ((w64 ((w64 ((a0.2.1 : Int) - x1)) + 1)).toNat) v.2.2 ++ []))]⟩) ?_ hr ?_
                  · exact weak0 ((sT rfl (sT rfl (sT rfl (sT rfl (sT rfl (sT rfl sT0))))))) (sub_keep (sub_keep sub_nil))
                  rintro ⟨x11, x12, x13⟩ out2 hr
                  show AW Hfaa.prog _ _ _ ⟨[(6, .inl (is (I64 x1))), (7, .inl (is (I64 x2))), (8, .inl (ns U32 x3)), (9, .inr (.inr (.inl (30, 0, (w64 ((a0.2.1 : Int) + 1)).toNat, (w64 ((a0.2.1 : Int) + 1)).toNat)))), (10, .inr (.inr (.inl (41, 0, (w64 ((w64 ((a0.2.1 : Int) - x1)) + 1)).toNat, (w64 ((w64 ((a0.2.1 : Int) - x1)) + 1)).toNat)))), (11, .inl (is (I64 x11)))], [(30, pb 65 (ar U32 ((w64 ((a0.2.1 : Int) + 1)).toNat) x12 ++ [])), (41, pb 65 (ar U32 ((w64 ((w64 ((a0.2.1 : Int) - x1)) + 1)).toNat) x13 ++ []))]⟩
                  have hr : some out2 = F63_L10b N a0 x1 x2 x3 x11 x12 x13 := hr
                  refine AW_seq1 ?_
                  refine AW_cut (σ := Bool) (fun v => ⟨[(6, .inl (is (I64 x1))), (7, .inl (is (I64 x2))), (8, .inl (ns U32 x3)), (9, .inr (.inr (.inl (30, 0, (w64 ((a0.2.1 : Int) + 1)).toNat, (w64 ((a0.2.1 : Int) + 1)).toNat)))), (10, .inr (.inr (.inl (41, 0, (w64 ((w64 ((a0.2.1 : Int) - x1)) + 1)).toNat, (w64 ((w64 ((a0.2.1 : Int) - x1)) + 1)).toNat)))), (11, .inl (is (I64 x11))), (46, .inl (is (Bl v)))], [(30, pb 65 (ar U32 ((w64 ((a0.2.1 : Int) + 1)).toNat) x12 ++ [])), (41, pb 65 (ar U32 ((w64 ((w64 ((a0.2.1 : Int) - x1)) + 1)).toNat) x13 ++ []))]⟩) (fun v => some out2 = F63_11 N a0 x1 x2 x3 x11 x12 x13 v) ?_ ?_
                  · skip
                    refine AW_region ?_
                    refine AL_cons (LR_move (at_tmp 11 _) rfl) (sS (sT1 rfl) sB0 sF0) ?_
                    refine AL_cons (LR_bin (at_tmp 45 _) (at_c (v' := I64 0) rfl) (geq_I64 x11 0) rfl) (sS (sA (sT1 rfl) sT0) sB0 sF0) ?_
                    refine AL_nil ?_
                    exact thenN (cutLeaf (v := decide (x11 ≥ 0)) hr (weak0 ((sT rfl (sT rfl (sT rfl (sT rfl (sT rfl (sT rfl (sT rfl sT0)))))))) (sub_keep (sub_keep sub_nil))))
                  · rintro x14 hr
                    show AW Hfaa.prog _ _ _ ⟨[(6, .inl (is (I64 x1))), (7, .inl (is (I64 x2))), (8, .inl (ns U32 x3)), (9, .inr (.inr (.inl (30, 0, (w64 ((a0.2.1 : Int) + 1)).toNat, (w64 ((a0.2.1 : Int) + 1)).toNat)))), (10, .inr (.inr (.inl (41, 0, (w64 ((w64 ((a0.2.1 : Int) - x1)) + 1)).toNat, (w64 ((w64 ((a0.2.1 : Int) - x1)) + 1)).toNat)))), (11, .inl (is (I64 x11))), (46, .inl (is (Bl x14)))], [(30, pb 65 (ar U32 ((w64 ((a0.2.1 : Int) + 1)).toNat) x12 ++ [])), (41, pb 65 (ar U32 ((w64 ((w64 ((a0.2.1 : Int) - x1)) + 1)).toNat) x13 ++ []))]⟩
                    have hr : some out2 = F63_11 N a0 x1 x2 x3 x11 x12 x13 x14 := hr
                    refine AW_condT (b := x14) rfl (fun h => ?_) (fun h => ?_)
                    · have hr := hr.trans (cond_t h)
                      clear h
                      refine AW_skip ?_
                      refine thenN ?_
                      refine AW_cut (σ := (Nat → BitVec 32) × (Nat → BitVec 32)) (fun v => ⟨[(6, .inl (is (I64 x1))), (7, .inl (is (I64 x2))), (8, .inl (ns U32 x3)), (9, .inr (.inr (.inl (30, 0, (w64 ((a0.2.1 : Int) + 1)).toNat, (w64 ((a0.2.1 : Int) + 1)).toNat)))), (10, .inr (.inr (.inl (41, 0, (w64 ((w64 ((a0.2.1 : Int) - x1)) + 1)).toNat, (w64 ((w64 ((a0.2.1 : Int) - x1)) + 1)).toNat)))), (11, .inl (is (I64 x11)))], [(30, pb 65 (ar U32 ((w64 ((a0.2.1 : Int) + 1)).toNat) v.1 ++ [])), (41, pb 65 (ar U32 ((w64 ((w64 ((a0.2.1 : Int) - x1)) + 1)).toNat) v.2 ++ []))]⟩) (fun v => some out2 = F63_12 N a0 x1 x2 x3 x11 v.1 v.2) ?_ ?_
                      · skip
                        refine AW_block ?_
                        refine AW_cut (σ := BitVec 32) (fun v => ⟨[(6, .inl (is (I64 x1))), (7, .inl (is (I64 x2))), (8, .inl (ns U32 x3)), (9, .inr (.inr (.inl (30, 0, (w64 ((a0.2.1 : Int) + 1)).toNat, (w64 ((a0.2.1 : Int) + 1)).toNat)))), (10, .inr (.inr (.inl (41, 0, (w64 ((w64 ((a0.2.1 : Int) - x1)) + 1)).toNat, (w64 ((w64 ((a0.2.1 : Int) - x1)) + 1)).toNat)))), (11, .inl (is (I64 x11))), (12, .inl (is (U32 v)))], [(30, pb 65 (ar U32 ((w64 ((a0.2.1 : Int) + 1)).toNat) x12 ++ [])), (41, pb 65 (ar U32 ((w64 ((w64 ((a0.2.1 : Int) - x1)) + 1)).toNat) x13 ++ []))]⟩) (fun v => some out2 = F63_13 N a0 x1 x2 x3 x11 x12 x13 v) ?_ ?_
                        · skip
                          obtain ⟨hg276, hr⟩ := guard_some hr
                          obtain ⟨hg277, hr⟩ := guard_some hr
                          obtain ⟨hg278, hr⟩ := guard_some hr
                          obtain ⟨hg279, hr⟩ := guard_some hr
                          obtain ⟨hg280, hr⟩ := guard_some hr
                          obtain ⟨y103, hy103, hr⟩ := bind_some hr
                          refine AW_draw mixed
                            (lrC (LR_move (at_tmp 9 _) rfl)
                            (lrC (LR_move (at_tmp 11 _) rfl)
                            (lrC (LR_move (at_tmp 6 _) rfl)
                            (lrC (LR_bin (at_tmp 50 _) (at_tmp 51 _) (add_I64 x11 x1) rfl)
                            (lrC (LR_indexAddrS (o := (w64 (x11 + x1)).toNat) Hfaa.underlying49 sz65 (at_tmp 49 _) (at_tmp 52 _) (dand hg276) (by first | rfl | omega) rfl)
                            (lrC (LR_load (at_tmp 53 _) na65 (gA (ltn (dand hg276))) rfl)
                            (lrC (LR_move (at_tmp 9 _) rfl)
                            (lrC (LR_move (at_tmp 11 _) rfl)
                            (lrC (LR_move (at_tmp 6 _) rfl)
                            (lrC (LR_bin (at_tmp 56 _) (at_tmp 57 _) (add_I64 x11 x1) rfl)
                            (lrC (LR_bin (at_tmp 58 _) (at_c (v' := I64 1) rfl) (sub_I64 (w64 (x11 + x1)) 1) rfl)
                            (lrC (LR_indexAddrS (o := (w64 ((w64 (x11 + x1)) - 1)).toNat) Hfaa.underlying49 sz65 (at_tmp 55 _) (at_tmp 59 _) (dand hg277) (by first | rfl | omega) rfl)
                            (lrC (LR_load (at_tmp 60 _) na65 (gA (ltn (dand hg277))) rfl)
                            (lrC (LR_move (at_tmp 9 _) rfl)
                            (lrC (LR_move (at_tmp 11 _) rfl)
                            (lrC (LR_move (at_tmp 6 _) rfl)
                            (lrC (LR_bin (at_tmp 63 _) (at_tmp 64 _) (add_I64 x11 x1) rfl)
                            (lrC (LR_bin (at_tmp 65 _) (at_c (v' := I64 2) rfl) (sub_I64 (w64 (x11 + x1)) 2) rfl)
                            (lrC (LR_indexAddrS (o := (w64 ((w64 (x11 + x1)) - 2)).toNat) Hfaa.underlying49 sz65 (at_tmp 62 _) (at_tmp 66 _) (dand hg278) (by first | rfl | omega) rfl)
                            (lrC (LR_load (at_tmp 67 _) na65 (gA (ltn (dand hg278))) rfl)
                            (lrC (LR_move (at_tmp 8 _) rfl)
                            (lrC (LR_move (at_tmp 6 _) rfl)
                            (lrC (LR_bin (at_tmp 70 _) (at_c (v' := I64 1) rfl) (sub_I64 x1 1) rfl)
                            (lrC (LR_indexAddrQ Hfaa.underlying49 sz65 (at_tmp 69 _) (at_tmp 71 _) (dand hg279) rfl)
                            (lrC (LR_loadQ (at_tmp 72 _) na65 rfl)
                            (lrC (LR_move (at_tmp 8 _) rfl)
                            (lrC (LR_move (at_tmp 6 _) rfl)
                            (lrC (LR_bin (at_tmp 75 _) (at_c (v' := I64 2) rfl) (sub_I64 x1 2) rfl)
                            (lrC (LR_indexAddrQ Hfaa.underlying49 sz65 (at_tmp 74 _) (at_tmp 76 _) (dand hg280) rfl)
                            (lrC (LR_loadQ (at_tmp 77 _) na65 rfl)
                            (lrC (LR_call Hfaa.func124 rfl rfl (C124 N (x12 ((w64 (x11 + x1)).toNat)) (x12 ((w64 ((w64 (x11 + x1)) - 1)).toNat)) (x12 ((w64 ((w64 (x11 + x1)) - 2)).toNat)) (x3.2.2 ((w64 (x1 - 1)).toNat)) (x3.2.2 ((w64 (x1 - 2)).toNat)) y103 hy103) (all_cons (at_tmp 54 _) (all_cons (at_tmp 61 _) (all_cons (at_tmp 68 _) (all_cons (at_tmp 73 _) (all_cons (at_tmp 78 _) all_nil))))) rfl)
                            (lrC (LR_assign (at_tmp 79 _) rfl)
                            lrN))))))))))))))))))))))))))))))))
                            (by kernel_rfl)
                            (saC (sS (sT1 rfl) sB0 sF0) (saC (sS (sT1 rfl) sB0 sF0) (saC (sS (sT1 rfl) sB0 sF0) (saC (sS (sA (sT1 rfl) (sT1 rfl)) sB0 sF0) (saC (sS (sA (sT1 rfl) (sT1 rfl)) sB0 sF0) (saC (sS (sT1 rfl) (sB1 rfl) sF0) (saC (sS (sT1 rfl) sB0 sF0) (saC (sS (sT1 rfl) sB0 sF0) (saC (sS (sT1 rfl) sB0 sF0) (saC (sS (sA (sT1 rfl) (sT1 rfl)) sB0 sF0) (saC (sS (sA (sT1 rfl) sT0) sB0 sF0) (saC (sS (sA (sT1 rfl) (sT1 rfl)) sB0 sF0) (saC (sS (sT1 rfl) (sB1 rfl) sF0) (saC (sS (sT1 rfl) sB0 sF0) (saC (sS (sT1 rfl) sB0 sF0) (saC (sS (sT1 rfl) sB0 sF0) (saC (sS (sA (sT1 rfl) (sT1 rfl)) sB0 sF0) (saC (sS (sA (sT1 rfl) sT0) sB0 sF0) (saC (sS (sA (sT1 rfl) (sT1 rfl)) sB0 sF0) (saC (sS (sT1 rfl) (sB1 rfl) sF0) (saC (sS (sT1 rfl) sB0 sF0) (saC (sS (sT1 rfl) sB0 sF0) (saC (sS (sA (sT1 rfl) sT0) sB0 sF0) (saC (sS (sA (sT1 rfl) (sT1 rfl)) sB0 sF0) (saC (sS (sT1 rfl) sB0 sF0) (saC (sS (sT1 rfl) sB0 sF0) (saC (sS (sT1 rfl) sB0 sF0) (saC (sS (sA (sT1 rfl) sT0) sB0 sF0) (saC (sS (sA (sT1 rfl) (sT1 rfl)) sB0 sF0) (saC (sS (sT1 rfl) sB0 sF0) (saC (sS (sA (sT1 rfl) (sA (sT1 rfl) (sA (sT1 rfl) (sA (sT1 rfl) (sA (sT1 rfl) sT0))))) sB0 sF0) (saC (sS (sT1 rfl) sB0 sF0) saN)))))))))))))))))))))))))))))))) ?_
                          exact thenN (cutLeaf (v := y103) hr (weak0 ((sT rfl (sT rfl (sT rfl (sT rfl (sT rfl (sT rfl (sT rfl sT0)))))))) (sub_keep (sub_keep sub_nil))))
                        · rintro x17 hr
                          show AW Hfaa.prog _ _ _ ⟨[(6, .inl (is (I64 x1))), (7, .inl (is (I64 x2))), (8, .inl (ns U32 x3)), (9, .inr (.inr (.inl (30, 0, (w64 ((a0.2.1 : Int) + 1)).toNat, (w64 ((a0.2.1 : Int) + 1)).toNat)))), (10, .inr (.inr (.inl (41, 0, (w64 ((w64 ((a0.2.1 : Int) - x1)) + 1)).toNat, (w64 ((w64 ((a0.2.1 : Int) - x1)) + 1)).toNat)))), (11, .inl (is (I64 x11))), (12, .inl (is (U32 x17)))], [(30, pb 65 (ar U32 ((w64 ((a0.2.1 : Int) + 1)).toNat) x12 ++ [])), (41, pb 65 (ar U32 ((w64 ((w64 ((a0.2.1 : Int) - x1)) + 1)).toNat) x13 ++ []))]⟩
                          have hr : some out2 = F63_13 N a0 x1 x2 x3 x11 x12 x13 x17 := hr
                          refine AW_cut (σ := BitVec 32 × (Nat → BitVec 32)) (fun v => ⟨[(6, .inl (is (I64 x1))), (7, .inl (is (I64 x2))), (8, .inl (ns U32 x3)), (9, .inr (.inr (.inl (30, 0, (w64 ((a0.2.1 : Int) + 1)).toNat, (w64 ((a0.2.1 : Int) + 1)).toNat)))), (10, .inr (.inr (.inl (41, 0, (w64 ((w64 ((a0.2.1 : Int) - x1)) + 1)).toNat, (w64 ((w64 ((a0.2.1 : Int) - x1)) + 1)).toNat)))), (11, .inl (is (I64 x11))), (12, .inl (is (U32 v.1)))], [(30, pb 65 (ar U32 ((w64 ((a0.2.1 : Int) + 1)).toNat) v.2 ++ [])), (41, pb 65 (ar U32 ((w64 ((w64 ((a0.2.1 : Int) - x1)) + 1)).toNat) x13 ++ []))]⟩) (fun v => some out2 = F63_14 N a0 x1 x2 x3 x11 x13 v.1 v.2) ?_ ?_
                          · skip
                            refine AW_cut (σ := Bool × (Nat → BitVec 32)) (fun v => ⟨[(6, .inl (is (I64 x1))), (7, .inl (is (I64 x2))), (8, .inl (ns U32 x3)), (9, .inr (.inr (.inl (30, 0, (w64 ((a0.2.1 : Int) + 1)).toNat, (w64 ((a0.2.1 : Int) + 1)).toNat)))), (10, .inr (.inr (.inl (41, 0, (w64 ((w64 ((a0.2.1 : Int) - x1)) + 1)).toNat, (w64 ((w64 ((a0.2.1 : Int) - x1)) + 1)).toNat)))), (11, .inl (is (I64 x11))), (12, .inl (is (U32 x17))), (89, .inl (is (Bl v.1)))], [(30, pb 65 (ar U32 ((w64 ((a0.2.1 : Int) + 1)).toNat) v.2 ++ [])), (41, pb 65 (ar U32 ((w64 ((w64 ((a0.2.1 : Int) - x1)) + 1)).toNat) x13 ++ []))]⟩) (fun v => some out2 = F63_15 N a0 x1 x2 x3 x11 x13 x17 v.1 v.2) ?_ ?_
                            · skip
                              refine AW_region ?_
                              refine AL_cons (LR_move (at_tmp 9 _) rfl) (sS (sT1 rfl) sB0 sF0) ?_
                              refine AL_cons (LR_move (at_tmp 11 _) rfl) (sS (sT1 rfl) sB0 sF0) ?_
                              refine AL_cons (LR_move (at_tmp 11 _) rfl) (sS (sT1 rfl) sB0 sF0) ?_
                              refine AL_cons (LR_move (at_tmp 6 _) rfl) (sS (sT1 rfl) sB0 sF0) ?_
                              refine AL_cons (LR_bin (at_tmp 82 _) (at_tmp 83 _) (add_I64 x11 x1) rfl) (sS (sA (sT1 rfl) (sT1 rfl)) sB0 sF0) ?_
                              refine AL_cons (LR_bin (at_tmp 84 _) (at_c (v' := I64 1) rfl) (add_I64 (w64 (x11 + x1)) 1) rfl) (sS (sA (sT1 rfl) sT0) sB0 sF0) ?_
                              obtain ⟨hg274, hr⟩ := guard_some hr
                              obtain ⟨hg275, hr⟩ := guard_some hr
                              refine AL_cons (slcE (o' := (x11 : Int).toNat) (l' := ((w64 ((w64 (x11 + x1)) + 1) : Int).toNat) - ((x11 : Int).toNat)) (c' := (w64 ((a0.2.1 : Int) + 1)).toNat - ((x11 : Int).toNat)) (LR_sliceT (i := (x11 : Int)) (j := (w64 ((w64 (x11 + x1)) + 1) : Int)) Hfaa.underlying49 sz65 (at_tmp 80 _) (lo_some (at_tmp 81 _)) (hi_some (at_tmp 85 _)) (dand3 hg274) (of_decide_eq_true hg275) rfl) (by first | rfl | (simp; done) | (simp <;> omega))) (sS (sA (sT1 rfl) (sA (sT1 rfl) (sT1 rfl))) sB0 sF0) ?_
                              refine AL_cons (LR_move (at_tmp 8 _) rfl) (sS (sT1 rfl) sB0 sF0) ?_
                              refine AL_cons (LR_move (at_tmp 12 _) rfl) (sS (sT1 rfl) sB0 sF0) ?_
                              obtain ⟨y102, hy102, hr⟩ := bind_some hr
                              refine AL_cons (LR_callB [(0, 30)] [(30, 0)] Hfaa.func125 rfl rfl (C125 N ((w64 ((a0.2.1 : Int) + 1)).toNat) ((x11 : Int).toNat) (((w64 ((w64 (x11 + x1)) + 1) : Int).toNat) - ((x11 : Int).toNat)) ((w64 ((a0.2.1 : Int) + 1)).toNat - ((x11 : Int).toNat)) x12 x3 x17 y102 hy102) (aTC (at_tmp 86 _) (aTC (at_tmp 87 _) (aTC (at_tmp 88 _) aT0))) rfl rfl rfl rfl rfl) (sS (sA (sT1 rfl) (sA (sT1 rfl) (sA (sT1 rfl) sT0))) (sB1 rfl) sF0) ?_
                              refine AL_nil ?_
                              exact thenN (cutLeaf (v := (y102.1, y102.2)) hr (weak0 ((sT rfl (sT rfl (sT rfl (sT rfl (sT rfl (sT rfl (sT rfl (sT rfl sT0))))))))) (sub_keep (sub_keep sub_nil))))
                            · rintro ⟨x20, x21⟩ hr
                              show AW Hfaa.prog _ _ _ ⟨[(6, .inl (is (I64 x1))), (7, .inl (is (I64 x2))), (8, .inl (ns U32 x3)), (9, .inr (.inr (.inl (30, 0, (w64 ((a0.2.1 : Int) + 1)).toNat, (w64 ((a0.2.1 : Int) + 1)).toNat)))), (10, .inr (.inr (.inl (41, 0, (w64 ((w64 ((a0.2.1 : Int) - x1)) + 1)).toNat, (w64 ((w64 ((a0.2.1 : Int) - x1)) + 1)).toNat)))), (11, .inl (is (I64 x11))), (12, .inl (is (U32 x17))), (89, .inl (is (Bl x20)))], [(30, pb 65 (ar U32 ((w64 ((a0.2.1 : Int) + 1)).toNat) x21 ++ [])), (41, pb 65 (ar U32 ((w64 ((w64 ((a0.2.1 : Int) - x1)) + 1)).toNat) x13 ++ []))]⟩
                              have hr : some out2 = F63_15 N a0 x1 x2 x3 x11 x13 x17 x20 x21 := hr
                              refine AW_condT (b := x20) rfl (fun h => ?_) (fun h => ?_)
                              · have hr := hr.trans (cond_t h)
                                clear h
                                refine AW_cut (σ := BitVec 32) (fun v => ⟨[(6, .inl (is (I64 x1))), (7, .inl (is (I64 x2))), (8, .inl (ns U32 x3)), (9, .inr (.inr (.inl (30, 0, (w64 ((a0.2.1 : Int) + 1)).toNat, (w64 ((a0.2.1 : Int) + 1)).toNat)))), (10, .inr (.inr (.inl (41, 0, (w64 ((w64 ((a0.2.1 : Int) - x1)) + 1)).toNat, (w64 ((w64 ((a0.2.1 : Int) - x1)) + 1)).toNat)))), (11, .inl (is (I64 x11))), (12, .inl (is (U32 v)))], [(30, pb 65 (ar U32 ((w64 ((a0.2.1 : Int) + 1)).toNat) x21 ++ [])), (41, pb 65 (ar U32 ((w64 ((w64 ((a0.2.1 : Int) - x1)) + 1)).toNat) x13 ++ []))]⟩) (fun v => some out2 = F63_16 N a0 x1 x2 x3 x11 x13 x21 v) ?_ ?_
                                · skip
                                  refine AW_region ?_
                                  refine AL_cons (LR_move (at_tmp 12 _) rfl) (sS (sT1 rfl) sB0 sF0) ?_
                                  refine AL_cons (LR_bin (at_tmp 90 _) (at_c (v' := U32 (1#32)) rfl) (sub_U32 x17 (1#32)) rfl) (sS (sA (sT1 rfl) sT0) sB0 sF0) ?_
                                  refine AL_cons (LR_assign (at_tmp 91 _) rfl) (sS (sT1 rfl) sB0 sF0) ?_
                                  refine AL_nil ?_
                                  exact thenN (cutLeaf (v := x17 - (1#32)) hr (weak0 ((sT rfl (sT rfl (sT rfl (sT rfl (sT rfl (sT rfl (sT rfl sT0)))))))) (sub_keep (sub_keep sub_nil))))
                                · rintro x22 hr
                                  show AW Hfaa.prog _ _ _ ⟨[(6, .inl (is (I64 x1))), (7, .inl (is (I64 x2))), (8, .inl (ns U32 x3)), (9, .inr (.inr (.inl (30, 0, (w64 ((a0.2.1 : Int) + 1)).toNat, (w64 ((a0.2.1 : Int) + 1)).toNat)))), (10, .inr (.inr (.inl (41, 0, (w64 ((w64 ((a0.2.1 : Int) - x1)) + 1)).toNat, (w64 ((w64 ((a0.2.1 : Int) - x1)) + 1)).toNat)))), (11, .inl (is (I64 x11))), (12, .inl (is (U32 x22)))], [(30, pb 65 (ar U32 ((w64 ((a0.2.1 : Int) + 1)).toNat) x21 ++ [])), (41, pb 65 (ar U32 ((w64 ((w64 ((a0.2.1 : Int) - x1)) + 1)).toNat) x13 ++ []))]⟩
                                  have hr : some out2 = F63_16 N a0 x1 x2 x3 x11 x13 x21 x22 := hr
                                  refine AW_region ?_
                                  refine AL_cons (LR_move (at_tmp 9 _) rfl) (sS (sT1 rfl) sB0 sF0) ?_
                                  refine AL_cons (LR_move (at_tmp 11 _) rfl) (sS (sT1 rfl) sB0 sF0) ?_
                                  refine AL_cons (LR_move (at_tmp 11 _) rfl) (sS (sT1 rfl) sB0 sF0) ?_
                                  refine AL_cons (LR_move (at_tmp 6 _) rfl) (sS (sT1 rfl) sB0 sF0) ?_
                                  refine AL_cons (LR_bin (at_tmp 94 _) (at_tmp 95 _) (add_I64 x11 x1) rfl) (sS (sA (sT1 rfl) (sT1 rfl)) sB0 sF0) ?_
                                  refine AL_cons (LR_bin (at_tmp 96 _) (at_c (v' := I64 1) rfl) (add_I64 (w64 (x11 + x1)) 1) rfl) (sS (sA (sT1 rfl) sT0) sB0 sF0) ?_
                                  obtain ⟨hg272, hr⟩ := guard_some hr
                                  obtain ⟨hg273, hr⟩ := guard_some hr
                                  refine AL_cons (slcE (o' := (x11 : Int).toNat) (l' := ((w64 ((w64 (x11 + x1)) + 1) : Int).toNat) - ((x11 : Int).toNat)) (c' := (w64 ((a0.2.1 : Int) + 1)).toNat - ((x11 : Int).toNat)) (LR_sliceT (i := (x11 : Int)) (j := (w64 ((w64 (x11 + x1)) + 1) : Int)) Hfaa.underlying49 sz65 (at_tmp 92 _) (lo_some (at_tmp 93 _)) (hi_some (at_tmp 97 _)) (dand3 hg272) (of_decide_eq_true hg273) rfl) (by first | rfl | (simp; done) | (simp <;> omega))) (sS (sA (sT1 rfl) (sA (sT1 rfl) (sT1 rfl))) sB0 sF0) ?_
                                  refine AL_cons (LR_move (at_tmp 8 _) rfl) (sS (sT1 rfl) sB0 sF0) ?_
                                  obtain ⟨y101, hy101, hr⟩ := bind_some hr
                                  refine AL_cons (LR_callB [(0, 30)] [(30, 0)] Hfaa.func126 rfl rfl (C126 N ((w64 ((a0.2.1 : Int) + 1)).toNat) ((x11 : Int).toNat) (((w64 ((w64 (x11 + x1)) + 1) : Int).toNat) - ((x11 : Int).toNat)) ((w64 ((a0.2.1 : Int) + 1)).toNat - ((x11 : Int).toNat)) x21 x3 y101 hy101) (aTC (at_tmp 98 _) (aTC (at_tmp 99 _) aT0)) rfl rfl rfl rfl rfl) (sS (sA (sT1 rfl) (sA (sT1 rfl) sT0)) (sB1 rfl) sF0) ?_
                                  refine AL_nil ?_
                                  exact thenN (cutLeaf (v := (x22, y101)) hr (weak0 ((sT rfl (sT rfl (sT rfl (sT rfl (sT rfl (sT rfl (sT rfl sT0)))))))) (sub_keep (sub_keep sub_nil))))
                              · have hr := hr.trans (cond_f h)
                                clear h
                                refine AW_skip ?_
                                exact thenN (cutLeaf (v := (x17, x21)) hr (weak0 ((sT rfl (sT rfl (sT rfl (sT rfl (sT rfl (sT rfl (sT rfl sT0)))))))) (sub_keep (sub_keep sub_nil))))
                          · rintro ⟨x18, x19⟩ hr
                            show AW Hfaa.prog _ _ _ ⟨[(6, .inl (is (I64 x1))), (7, .inl (is (I64 x2))), (8, .inl (ns U32 x3)), (9, .inr (.inr (.inl (30, 0, (w64 ((a0.2.1 : Int) + 1)).toNat, (w64 ((a0.2.1 : Int) + 1)).toNat)))), (10, .inr (.inr (.inl (41, 0, (w64 ((w64 ((a0.2.1 : Int) - x1)) + 1)).toNat, (w64 ((w64 ((a0.2.1 : Int) - x1)) + 1)).toNat)))), (11, .inl (is (I64 x11))), (12, .inl (is (U32 x18)))], [(30, pb 65 (ar U32 ((w64 ((a0.2.1 : Int) + 1)).toNat) x19 ++ [])), (41, pb 65 (ar U32 ((w64 ((w64 ((a0.2.1 : Int) - x1)) + 1)).toNat) x13 ++ []))]⟩
                            have hr : some out2 = F63_14 N a0 x1 x2 x3 x11 x13 x18 x19 := hr
                            refine AW_region ?_
                            refine AL_cons (LR_move (at_tmp 10 _) rfl) (sS (sT1 rfl) sB0 sF0) ?_
                            refine AL_cons (LR_move (at_tmp 11 _) rfl) (sS (sT1 rfl) sB0 sF0) ?_
                            refine AL_cons (LR_move (at_tmp 12 _) rfl) (sS (sT1 rfl) sB0 sF0) ?_
                            obtain ⟨hg269, hr⟩ := guard_some hr
                            refine AL_cons (LR_indexAddrS (o := x11.toNat) Hfaa.underlying49 sz65 (at_tmp 101 _) (at_tmp 102 _) (dand hg269) (by first | rfl | omega) rfl) (sS (sA (sT1 rfl) (sT1 rfl)) sB0 sF0) ?_
                            refine AL_cons (LR_storeA (at_tmp 104 _) (at_tmp 103 _) (cells_one (one_is rfl)) (onC (one_is rfl) onN) sz65 rfl (ble_dyn (lnA ln0) (by have := (ltn (dand hg269)); omega)) (stA (ltn (dand hg269)))) (sS (sA (sT1 rfl) (sT1 rfl)) (sB1 rfl) sF0) ?_
                            refine AL_nil ?_
                            refine blN ?_
                            exact thenN (cutLeaf (v := (x19, upd x13 x11.toNat x18)) hr (weak0 ((sT rfl (sT rfl (sT rfl (sT rfl (sT rfl (sT rfl sT0))))))) (sub_keep (sub_keep sub_nil))))
                      · rintro ⟨x15, x16⟩ hr
                        show AW Hfaa.prog _ _ _ ⟨[(6, .inl (is (I64 x1))), (7, .inl (is (I64 x2))), (8, .inl (ns U32 x3)), (9, .inr (.inr (.inl (30, 0, (w64 ((a0.2.1 : Int) + 1)).toNat, (w64 ((a0.2.1 : Int) + 1)).toNat)))), (10, .inr (.inr (.inl (41, 0, (w64 ((w64 ((a0.2.1 : Int) - x1)) + 1)).toNat, (w64 ((w64 ((a0.2.1 : Int) - x1)) + 1)).toNat)))), (11, .inl (is (I64 x11)))], [(30, pb 65 (ar U32 ((w64 ((a0.2.1 : Int) + 1)).toNat) x15 ++ [])), (41, pb 65 (ar U32 ((w64 ((w64 ((a0.2.1 : Int) - x1)) + 1)).toNat) x16 ++ []))]⟩
                        have hr : some out2 = F63_12 N a0 x1 x2 x3 x11 x15 x16 := hr
                        refine AW_region ?_
                        refine AL_cons (LR_move (at_tmp 11 _) rfl) (sS (sT1 rfl) sB0 sF0) ?_
                        refine AL_cons (LR_bin (at_tmp 47 _) (at_c (v' := I64 1) rfl) (sub_I64 x11 1) rfl) (sS (sA (sT1 rfl) sT0) sB0 sF0) ?_
                        refine AL_cons (LR_assign (at_tmp 48 _) rfl) (sS (sT1 rfl) sB0 sF0) ?_
                        refine AL_nil ?_
                        exact thenN (loopNext (x' := (w64 (x11 - 1), x15, x16)) hr (weak0 ((sT rfl (sT rfl (sT rfl (sT rfl (sT rfl (sT rfl sT0))))))) (sub_keep (sub_keep sub_nil))))
                    · have hr := hr.trans (cond_f h)
                      clear h
                      refine AW_exit ?_
                      refine thenX ?_
                      obtain ⟨r', hro, hr⟩ := map_inr hr
                      refine thenX (loopOut hro (fun he => ?_))
                      rw [he] at hr
                      refine blH ?_
                      exact thenN (cutLeaf (v := (x12, x13)) hr (weak0 ((sT rfl (sT rfl (sT rfl sT0)))) (sub_keep (sub_keep sub_nil))))
              · rintro ⟨x7, x8⟩ hr
                show AW Hfaa.prog _ _ _ ⟨[(7, .inl (is (I64 x2))), (9, .inr (.inr (.inl (30, 0, (w64 ((a0.2.1 : Int) + 1)).toNat, (w64 ((a0.2.1 : Int) + 1)).toNat)))), (10, .inr (.inr (.inl (41, 0, (w64 ((w64 ((a0.2.1 : Int) - x1)) + 1)).toNat, (w64 ((w64 ((a0.2.1 : Int) - x1)) + 1)).toNat))))], [(30, pb 65 (ar U32 ((w64 ((a0.2.1 : Int) + 1)).toNat) x7 ++ [])), (41, pb 65 (ar U32 ((w64 ((w64 ((a0.2.1 : Int) - x1)) + 1)).toNat) x8 ++ []))]⟩
                have hr : some r = F63_7 N a0 x1 x2 x7 x8 := hr
                refine AW_cut (σ := NS (BitVec 32)) (fun v => ⟨[(10, .inr (.inr (.inl (41, 0, (w64 ((w64 ((a0.2.1 : Int) - x1)) + 1)).toNat, (w64 ((w64 ((a0.2.1 : Int) - x1)) + 1)).toNat)))), (13, .inl (ns U32 v))], [(41, pb 65 (ar U32 ((w64 ((w64 ((a0.2.1 : Int) - x1)) + 1)).toNat) x8 ++ []))]⟩) (fun v => some r = F63_8 N a0 x1 x8 v) ?_ ?_
                · skip
                  refine AW_region ?_
                  refine AL_cons (LR_move (at_tmp 9 _) rfl) (sS (sT1 rfl) sB0 sF0) ?_
                  refine AL_cons (LR_move (at_tmp 7 _) rfl) (sS (sT1 rfl) sB0 sF0) ?_
                  refine AL_cons (LR_conv (vx := I64 x2) (at_tmp 107 _) (conv_U16 Hfaa.underlying3 Hfaa.underlying71 x2) rfl) (sS (sT1 rfl) sB0 sF0) ?_
                  refine AL_frz U32 30 ⟨[(7, .inl (is (I64 x2))), (9, .inl (ns U32 ((false, (w64 ((a0.2.1 : Int) + 1)).toNat, x7)))), (10, .inr (.inr (.inl (41, 0, (w64 ((w64 ((a0.2.1 : Int) - x1)) + 1)).toNat, (w64 ((w64 ((a0.2.1 : Int) - x1)) + 1)).toNat)))), (106, .inl (ns U32 ((false, (w64 ((a0.2.1 : Int) + 1)).toNat, x7)))), (107, .inl (is (I64 x2))), (108, .inl (is (U16 (BitVec.ofInt 16 x2))))], [(41, pb 65 (ar U32 ((w64 ((w64 ((a0.2.1 : Int) - x1)) + 1)).toNat) x8 ++ []))]⟩ rfl (sub_drop (sub_keep sub_nil)) rfl (fzA rfl (fzC rfl (Nat.le_refl _) (Nat.le_refl _) (fzS rfl (by decide) (fzC rfl (Nat.le_refl _) (Nat.le_refl _) (fzA rfl (fzA rfl fz0)))))) ?_
                  obtain ⟨y55, hy55, hr⟩ := bind_some hr
                  refine AL_cons (LR_call Hfaa.func38 rfl rfl (C38 N ((false, (w64 ((a0.2.1 : Int) + 1)).toNat, x7)) (BitVec.ofInt 16 x2) y55 hy55) (all_cons (at_tmp 106 _) (all_cons (at_tmp 108 _) all_nil)) rfl) (sS (sA (sT1 rfl) (sA (sT1 rfl) sT0)) sB0 sF0) ?_
                  refine AL_cons (LR_move (at_tmp 109 _) rfl) (sS (sT1 rfl) sB0 sF0) ?_
                  refine AL_cons (LR_extract (at_tmp 105 _) rfl rfl) (sS (sT1 rfl) sB0 sF0) ?_
                  refine AL_cons (LR_extract (at_tmp 105 _) rfl rfl) (sS (sT1 rfl) sB0 sF0) ?_
                  refine AL_cons (LR_assign (at_tmp 110 _) rfl) (sS (sT1 rfl) sB0 sF0) ?_
                  refine AL_cons (LR_assign (at_tmp 111 _) rfl) (sS (sT1 rfl) sB0 sF0) ?_
                  refine AL_nil ?_
                  exact thenN (cutLeaf (v := y55.1) hr (weak0 ((sT rfl (sT rfl sT0))) (sub_keep sub_nil)))
                · rintro x9 hr
                  show AW Hfaa.prog _ _ _ ⟨[(10, .inr (.inr (.inl (41, 0, (w64 ((w64 ((a0.2.1 : Int) - x1)) + 1)).toNat, (w64 ((w64 ((a0.2.1 : Int) - x1)) + 1)).toNat)))), (13, .inl (ns U32 x9))], [(41, pb 65 (ar U32 ((w64 ((w64 ((a0.2.1 : Int) - x1)) + 1)).toNat) x8 ++ []))]⟩
                  have hr : some r = F63_8 N a0 x1 x8 x9 := hr
                  refine AW_seq1 ?_
                  refine AW_region ?_
                  refine AL_cons (LR_move (at_tmp 10 _) rfl) (sS (sT1 rfl) sB0 sF0) ?_
                  refine AL_frz U32 41 ⟨[(10, .inl (ns U32 ((false, (w64 ((w64 ((a0.2.1 : Int) - x1)) + 1)).toNat, x8)))), (13, .inl (ns U32 x9)), (112, .inl (ns U32 ((false, (w64 ((w64 ((a0.2.1 : Int) - x1)) + 1)).toNat, x8))))], []⟩ rfl (sub_drop sub_nil) rfl (fzC rfl (Nat.le_refl _) (Nat.le_refl _) (fzA rfl (fzC rfl (Nat.le_refl _) (Nat.le_refl _) fz0))) ?_
                  obtain ⟨y54, hy54, hr⟩ := bind_some hr
                  refine AL_cons (LR_call Hfaa.func33 rfl rfl (C33 N ((false, (w64 ((w64 ((a0.2.1 : Int) - x1)) + 1)).toNat, x8)) y54 hy54) (all_cons (at_tmp 112 _) all_nil) rfl) (sS (sA (sT1 rfl) sT0) sB0 sF0) ?_
                  refine AL_cons (LR_move (at_tmp 13 _) rfl) (sS (sT1 rfl) sB0 sF0) ?_
                  refine AL_cons (LR_assign (at_tmp 113 _) rfl) (sS (sT1 rfl) sB0 sF0) ?_
                  refine AL_cons (LR_assign (at_tmp 114 _) rfl) (sS (sT1 rfl) sB0 sF0) ?_
                  refine AL_nil ?_
                  refine thenN ?_
                  refine AW_ret ?_
                  obtain rfl := Option.some.inj hr
                  exact res2 rfl (rvT rfl) (rvT rfl)
/-- nat.DivMod -/
def F35_5 (N : Nat) (x6 : NS (BitVec 32)) (x7 : BitVec 32) : Option (NS (BitVec 32) × NS (BitVec 32) × Bool) := (F20 N (BitVec.ofInt 64 (x7.toNat : Int))).bind fun y16 => some (x6, y16, true)
def F35_6 (N : Nat) (x8 : NS (BitVec 32)) (x9 : NS (BitVec 32)) : Option (NS (BitVec 32) × NS (BitVec 32) × Bool) := some (x8, x9, true)
def F35_4 (N : Nat) (x1 : NS (BitVec 32)) (x2 : NS (BitVec 32)) (x5 : Bool) : Option (NS (BitVec 32) × NS (BitVec 32) × Bool) := bif x5 then bif decide (0 < x2.2.1) then (F62 N x1 (x2.2.2 0)).bind fun y17 => F35_5 N y17.1 y17.2 else none else (F63 N x1 x2).bind fun y19 => F35_6 N y19.1 y19.2
def F35_3 (N : Nat) (x1 : NS (BitVec 32)) (x2 : NS (BitVec 32)) (x4 : Bool) : Option (NS (BitVec 32) × NS (BitVec 32) × Bool) := bif x4 then (F61 N x1).bind fun y9 => some (((true, 0, fun _ => 0#32), y9, true)) else F35_4 N x1 x2 ((x2.2.1 : Int) == 1)
def F35_2 (N : Nat) (x1 : NS (BitVec 32)) (x2 : NS (BitVec 32)) (x3 : Bool) : Option (NS (BitVec 32) × NS (BitVec 32) × Bool) := bif x3 then some (((true, 0, fun _ => 0#32), (true, 0, fun _ => 0#32), false)) else (F60 N x1 x2).bind fun y20 => F35_3 N x1 x2 (decide (y20 < 0))
def F35_1 (N : Nat) (x1 : NS (BitVec 32)) (x2 : NS (BitVec 32)) : Option (NS (BitVec 32) × NS (BitVec 32) × Bool) := F35_2 N x1 x2 x2.1
def F35 (N : Nat) (a0 : NS (BitVec 32)) (a1 : NS (BitVec 32)) : Option (NS (BitVec 32) × NS (BitVec 32) × Bool) := (F33 N a0).bind fun y21 => (F33 N a1).bind fun y22 => F35_1 N y21 y22
theorem C35 (N : Nat) (a0 : NS (BitVec 32)) (a1 : NS (BitVec 32)) (r : NS (BitVec 32) × NS (BitVec 32) × Bool) (hr : some r = F35 N a0 a1) : Aw.Fn Hfaa.prog 35 [ns U32 a0, ns U32 a1] (tup [ns U32 r.1, ns U32 r.2.1, is (Bl r.2.2)]) := by
  refine fn_intro Hfaa.func35 rfl rfl rfl ?_
  intro bn0 w0 H0
  refine AW_seq1 ?_
  refine AW_region ?_
  refine AL_cons (LR_assign (at_ns0 (K := U32) (fun _ => 0#32)) rfl) (sS sT0 sB0 sF0) ?_
  refine AL_cons (LR_assign (at_ns0 (K := U32) (fun _ => 0#32)) rfl) (sS sT0 sB0 sF0) ?_
  refine AL_cons (LR_assign (at_c (v' := Bl false) rfl) rfl) (sS sT0 sB0 sF0) ?_
  refine AL_nil ?_
  refine thenN ?_
  refine AW_cut (σ := NS (BitVec 32) × NS (BitVec 32)) (fun v => ⟨[(0, .inl (ns U32 v.1)), (1, .inl (ns U32 v.2))], []⟩) (fun v => some r = F35_1 N v.1 v.2) ?_ ?_
  · skip
    refine AW_region ?_
    refine AL_cons (LR_move (at_tmp 0 _) rfl) (sS (sT1 rfl) sB0 sF0) ?_
    obtain ⟨y21, hy21, hr⟩ := bind_some hr
    refine AL_cons (LR_call Hfaa.func33 rfl rfl (C33 N a0 y21 hy21) (all_cons (at_tmp 9 _) all_nil) rfl) (sS (sA (sT1 rfl) sT0) sB0 sF0) ?_
    refine AL_cons (LR_move (at_tmp 1 _) rfl) (sS (sT1 rfl) sB0 sF0) ?_
    obtain ⟨y22, hy22, hr⟩ := bind_some hr
    refine AL_cons (LR_call Hfaa.func33 rfl rfl (C33 N a1 y22 hy22) (all_cons (at_tmp 11 _) all_nil) rfl) (sS (sA (sT1 rfl) sT0) sB0 sF0) ?_
    refine AL_cons (LR_assign (at_tmp 10 _) rfl) (sS (sT1 rfl) sB0 sF0) ?_
    refine AL_cons (LR_assign (at_tmp 12 _) rfl) (sS (sT1 rfl) sB0 sF0) ?_
    refine AL_nil ?_
    exact thenN (cutLeaf (v := (y21, y22)) hr (weak0 ((sT rfl (sT rfl sT0))) sub_nil))
  · rintro ⟨x1, x2⟩ hr
    show AW Hfaa.prog _ _ _ ⟨[(0, .inl (ns U32 x1)), (1, .inl (ns U32 x2))], []⟩
    have hr : some r = F35_1 N x1 x2 := hr
    refine AW_seq1 ?_
    refine AW_cut (σ := Bool) (fun v => ⟨[(0, .inl (ns U32 x1)), (1, .inl (ns U32 x2)), (14, .inl (is (Bl v)))], []⟩) (fun v => some r = F35_2 N x1 x2 v) ?_ ?_
    · skip
      refine AW_region ?_
      refine AL_cons (LR_move (at_tmp 1 _) rfl) (sS (sT1 rfl) sB0 sF0) ?_
      refine AL_cons (LR_binA (at_tmp 13 _) (at_ns0 (K := U32) (fun _ => 0#32)) (eqNs Hfaa.underlying49 x2 _) rfl) (sS (sA (sT1 rfl) sT0) sB0 sF0) ?_
      refine AL_nil ?_
      exact thenN (cutLeaf (v := x2.1) hr (weak0 ((sT rfl (sT rfl (sT rfl sT0)))) sub_nil))
    · rintro x3 hr
      show AW Hfaa.prog _ _ _ ⟨[(0, .inl (ns U32 x1)), (1, .inl (ns U32 x2)), (14, .inl (is (Bl x3)))], []⟩
      have hr : some r = F35_2 N x1 x2 x3 := hr
      refine AW_condT (b := x3) rfl (fun h => ?_) (fun h => ?_)
      · have hr := hr.trans (cond_t h)
        clear h
        refine AW_seq1 ?_
        refine AW_region ?_
        refine AL_cons (LR_assign (at_ns0 (K := U32) (fun _ => 0#32)) rfl) (sS sT0 sB0 sF0) ?_
        refine AL_cons (LR_assign (at_ns0 (K := U32) (fun _ => 0#32)) rfl) (sS sT0 sB0 sF0) ?_
        refine AL_cons (LR_assign (at_c (v' := Bl false) rfl) rfl) (sS sT0 sB0 sF0) ?_
        refine AL_nil ?_
        refine thenN ?_
        refine AW_ret ?_
        refine thenR ?_
        obtain rfl := Option.some.inj hr
        exact res3 rfl (rvT rfl) (rvT rfl) (rvT rfl)
      · have hr := hr.trans (cond_f h)
        clear h
        refine AW_skip ?_
        refine thenN ?_
        refine AW_seq1 ?_
        refine AW_cut (σ := Bool) (fun v => ⟨[(0, .inl (ns U32 x1)), (1, .inl (ns U32 x2)), (18, .inl (is (Bl v)))], []⟩) (fun v => some r = F35_3 N x1 x2 v) ?_ ?_
        · skip
          refine AW_region ?_
          refine AL_cons (LR_move (at_tmp 0 _) rfl) (sS (sT1 rfl) sB0 sF0) ?_
          refine AL_cons (LR_move (at_tmp 1 _) rfl) (sS (sT1 rfl) sB0 sF0) ?_
          obtain ⟨y20, hy20, hr⟩ := bind_some hr
          refine AL_cons (LR_call Hfaa.func60 rfl rfl (C60 N x1 x2 y20 hy20) (all_cons (at_tmp 15 _) (all_cons (at_tmp 16 _) all_nil)) rfl) (sS (sA (sT1 rfl) (sA (sT1 rfl) sT0)) sB0 sF0) ?_
          refine AL_cons (LR_bin (at_tmp 17 _) (at_c (v' := I8 0) rfl) (lss_I8 y20 0) rfl) (sS (sA (sT1 rfl) sT0) sB0 sF0) ?_
          refine AL_nil ?_
          exact thenN (cutLeaf (v := decide (y20 < 0)) hr (weak0 ((sT rfl (sT rfl (sT rfl sT0)))) sub_nil))
        · rintro x4 hr
          show AW Hfaa.prog _ _ _ ⟨[(0, .inl (ns U32 x1)), (1, .inl (ns U32 x2)), (18, .inl (is (Bl x4)))], []⟩
          have hr : some r = F35_3 N x1 x2 x4 := hr
          refine AW_condT (b := x4) rfl (fun h => ?_) (fun h => ?_)
          · have hr := hr.trans (cond_t h)
            clear h
            refine AW_seq1 ?_
            refine AW_region ?_
            refine AL_cons (LR_move (at_tmp 0 _) rfl) (sS (sT1 rfl) sB0 sF0) ?_
            obtain ⟨y9, hy9, hr⟩ := bind_some hr
            refine AL_cons (LR_call Hfaa.func61 rfl rfl (C61 N x1 y9 hy9) (all_cons (at_tmp 19 _) all_nil) rfl) (sS (sA (sT1 rfl) sT0) sB0 sF0) ?_
            refine AL_cons (LR_assign (at_ns0 (K := U32) (fun _ => 0#32)) rfl) (sS sT0 sB0 sF0) ?_
            refine AL_cons (LR_assign (at_tmp 20 _) rfl) (sS (sT1 rfl) sB0 sF0) ?_
            refine AL_cons (LR_assign (at_c (v' := Bl true) rfl) rfl) (sS sT0 sB0 sF0) ?_
            refine AL_nil ?_
            refine thenN ?_
            refine AW_ret ?_
            refine thenR ?_
            obtain rfl := Option.some.inj hr
            exact res3 rfl (rvT rfl) (rvT rfl) (rvT rfl)
          · have hr := hr.trans (cond_f h)
            clear h
            refine AW_skip ?_
            refine thenN ?_
            refine AW_seq1 ?_
            refine AW_cut (σ := Bool) (fun v => ⟨[(0, .inl (ns U32 x1)), (1, .inl (ns U32 x2)), (23, .inl (is (Bl v)))], []⟩) (fun v => some r = F35_4 N x1 x2 v) ?_ ?_
            · skip
              refine AW_region ?_
              refine AL_cons (LR_move (at_tmp 1 _) rfl) (sS (sT1 rfl) sB0 sF0) ?_
              refine AL_cons (LR_bi1 (at_tmp 21 _) (len_ns Hfaa.underlying49 x2) rfl) (sS (sT1 rfl) sB0 sF0) ?_
              refine AL_cons (LR_bin (at_tmp 22 _) (at_c (v' := I64 1) rfl) (eql_I64 (x2.2.1 : Int) 1) rfl) (sS (sA (sT1 rfl) sT0) sB0 sF0) ?_
              refine AL_nil ?_
              exact thenN (cutLeaf (v := (x2.2.1 : Int) == 1) hr (weak0 ((sT rfl (sT rfl (sT rfl sT0)))) sub_nil))
            · rintro x5 hr
              show AW Hfaa.prog _ _ _ ⟨[(0, .inl (ns U32 x1)), (1, .inl (ns U32 x2)), (23, .inl (is (Bl x5)))], []⟩
              have hr : some r = F35_4 N x1 x2 x5 := hr
              refine AW_condT (b := x5) rfl (fun h => ?_) (fun h => ?_)
              · have hr := hr.trans (cond_t h)
                clear h
                refine AW_cut (σ := NS (BitVec 32) × BitVec 32) (fun v => ⟨[(7, .inl (ns U32 v.1)), (8, .inl (is (U32 v.2)))], []⟩) (fun v => some r = F35_5 N v.1 v.2) ?_ ?_
                · skip
                  refine AW_region ?_
                  refine AL_cons (LR_move (at_tmp 0 _) rfl) (sS (sT1 rfl) sB0 sF0) ?_
                  refine AL_cons (LR_move (at_tmp 1 _) rfl) (sS (sT1 rfl) sB0 sF0) ?_
                  obtain ⟨hg4, hr⟩ := guard_some hr
                  refine AL_cons (LR_indexAddrQ Hfaa.underlying49 sz65 (at_tmp 26 _) (at_c (v' := I64 0) rfl) (natIx (a := 0) (of_decide_eq_true hg4)) rfl) (sS (sA (sT1 rfl) sT0) sB0 sF0) ?_
                  refine AL_cons (LR_loadQ (at_tmp 27 _) na65 rfl) (sS (sT1 rfl) sB0 sF0) ?_
                  obtain ⟨y17, hy17, hr⟩ := bind_some hr
                  refine AL_cons (LR_call Hfaa.func62 rfl rfl (C62 N x1 (x2.2.2 0) y17 hy17) (all_cons (at_tmp 25 _) (all_cons (at_tmp 28 _) all_nil)) rfl) (sS (sA (sT1 rfl) (sA (sT1 rfl) sT0)) sB0 sF0) ?_
                  refine AL_cons (LR_move (at_tmp 29 _) rfl) (sS (sT1 rfl) sB0 sF0) ?_
                  refine AL_cons (LR_extract (at_tmp 24 _) rfl rfl) (sS (sT1 rfl) sB0 sF0) ?_
                  refine AL_cons (LR_extract (at_tmp 24 _) rfl rfl) (sS (sT1 rfl) sB0 sF0) ?_
                  refine AL_cons (LR_assign (at_tmp 30 _) rfl) (sS (sT1 rfl) sB0 sF0) ?_
                  refine AL_cons (LR_assign (at_tmp 31 _) rfl) (sS (sT1 rfl) sB0 sF0) ?_
                  refine AL_nil ?_
                  exact thenN (cutLeaf (v := (y17.1, y17.2)) hr (weak0 ((sT rfl (sT rfl sT0))) sub_nil))
                · rintro ⟨x6, x7⟩ hr
                  show AW Hfaa.prog _ _ _ ⟨[(7, .inl (ns U32 x6)), (8, .inl (is (U32 x7)))], []⟩
                  have hr : some r = F35_5 N x6 x7 := hr
                  refine AW_seq1 ?_
                  refine AW_region ?_
                  refine AL_cons (LR_move (at_tmp 7 _) rfl) (sS (sT1 rfl) sB0 sF0) ?_
                  refine AL_cons (LR_move (at_tmp 8 _) rfl) (sS (sT1 rfl) sB0 sF0) ?_
                  refine AL_cons (LR_conv (vx := U32 x7) (at_tmp 33 _) (conv_U64 Hfaa.underlying65 Hfaa.underlying30 (x7.toNat : Int)) rfl) (sS (sT1 rfl) sB0 sF0) ?_
                  obtain ⟨y16, hy16, hr⟩ := bind_some hr
                  refine AL_cons (LR_call Hfaa.func20 rfl rfl (C20 N (BitVec.ofInt 64 (x7.toNat : Int)) y16 hy16) (all_cons (at_tmp 34 _) all_nil) rfl) (sS (sA (sT1 rfl) sT0) sB0 sF0) ?_
                  refine AL_cons (LR_assign (at_tmp 32 _) rfl) (sS (sT1 rfl) sB0 sF0) ?_
                  refine AL_cons (LR_assign (at_tmp 35 _) rfl) (sS (sT1 rfl) sB0 sF0) ?_
                  refine AL_cons (LR_assign (at_c (v' := Bl true) rfl) rfl) (sS sT0 sB0 sF0) ?_
                  refine AL_nil ?_
                  refine thenN ?_
                  refine AW_ret ?_
                  refine thenR ?_
                  obtain rfl := Option.some.inj hr
                  exact res3 rfl (rvT rfl) (rvT rfl) (rvT rfl)
              · have hr := hr.trans (cond_f h)
                clear h
                refine AW_skip ?_
                refine thenN ?_
                refine AW_cut (σ := NS (BitVec 32) × NS (BitVec 32)) (fun v => ⟨[(4, .inl (ns U32 v.1)), (5, .inl (ns U32 v.2))], []⟩) (fun v => some r = F35_6 N v.1 v.2) ?_ ?_
                · skip
                  refine AW_region ?_
                  refine AL_cons (LR_move (at_tmp 0 _) rfl) (sS (sT1 rfl) sB0 sF0) ?_
                  refine AL_cons (LR_move (at_tmp 1 _) rfl) (sS (sT1 rfl) sB0 sF0) ?_
                  obtain ⟨y19, hy19, hr⟩ := bind_some hr
                  refine AL_cons (LR_call Hfaa.func63 rfl rfl (C63 N x1 x2 y19 hy19) (all_cons (at_tmp 37 _) (all_cons (at_tmp 38 _) all_nil)) rfl) (sS (sA (sT1 rfl) (sA (sT1 rfl) sT0)) sB0 sF0) ?_
                  refine AL_cons (LR_move (at_tmp 39 _) rfl) (sS (sT1 rfl) sB0 sF0) ?_
                  refine AL_cons (LR_extract (at_tmp 36 _) rfl rfl) (sS (sT1 rfl) sB0 sF0) ?_
                  refine AL_cons (LR_extract (at_tmp 36 _) rfl rfl) (sS (sT1 rfl) sB0 sF0) ?_
                  refine AL_cons (LR_assign (at_tmp 40 _) rfl) (sS (sT1 rfl) sB0 sF0) ?_
                  refine AL_cons (LR_assign (at_tmp 41 _) rfl) (sS (sT1 rfl) sB0 sF0) ?_
                  refine AL_nil ?_
                  exact thenN (cutLeaf (v := (y19.1, y19.2)) hr (weak0 ((sT rfl (sT rfl sT0))) sub_nil))
                · rintro ⟨x8, x9⟩ hr
                  show AW Hfaa.prog _ _ _ ⟨[(4, .inl (ns U32 x8)), (5, .inl (ns U32 x9))], []⟩
                  have hr : some r = F35_6 N x8 x9 := hr
                  refine AW_seq1 ?_
                  refine AW_region ?_
                  refine AL_cons (LR_move (at_tmp 4 _) rfl) (sS (sT1 rfl) sB0 sF0) ?_
                  refine AL_cons (LR_move (at_tmp 5 _) rfl) (sS (sT1 rfl) sB0 sF0) ?_
                  refine AL_cons (LR_assign (at_tmp 42 _) rfl) (sS (sT1 rfl) sB0 sF0) ?_
                  refine AL_cons (LR_assign (at_tmp 43 _) rfl) (sS (sT1 rfl) sB0 sF0) ?_
                  refine AL_cons (LR_assign (at_c (v' := Bl true) rfl) rfl) (sS sT0 sB0 sF0) ?_
                  refine AL_nil ?_
                  refine thenN ?_
                  refine AW_ret ?_
                  obtain rfl := Option.some.inj hr
                  exact res3 rfl (rvT rfl) (rvT rfl) (rvT rfl)
/-- tab.low128 -/
def F37_2 (N : Nat) (x2 : Nat → BitVec 64) : Option (BitVec 64 × BitVec 64) := some ((((x2 3) <<< 32) ||| (x2 2), ((x2 1) <<< 32) ||| (x2 0)))
def F37_6 (N : Nat) (a0 : NS (BitVec 32)) (x3 : Int) (x4 : Int) (x7 : Nat → BitVec 64) : Option ((Int × (Nat → BitVec 64)) ⊕ (BitVec 64 × BitVec 64)) := some (.inl ((w64 (x4 + 1), x7)))
def F37_7 (N : Nat) (a0 : NS (BitVec 32)) (x3 : Int) (x4 : Int) (x5 : Nat → BitVec 64) (x8 : BitVec 32) : Option ((Int × (Nat → BitVec 64)) ⊕ (BitVec 64 × BitVec 64)) := bif (decide (0 ≤ w64 ((BitVec.ofInt 64 x4 &&& BitVec.ofInt 64 3).toNat : Int)) && decide (w64 ((BitVec.ofInt 64 x4 &&& BitVec.ofInt 64 3).toNat : Int) < (4 : Int))) then F37_6 N a0 x3 x4 (upd x5 ((w64 ((BitVec.ofInt 64 x4 &&& BitVec.ofInt 64 3).toNat : Int)).toNat) (BitVec.ofInt 64 (x8.toNat : Int))) else none
def F37_5 (N : Nat) (a0 : NS (BitVec 32)) (x3 : Int) (x4 : Int) (x5 : Nat → BitVec 64) (x6 : Bool) : Option ((Int × (Nat → BitVec 64)) ⊕ (BitVec 64 × BitVec 64)) := bif x6 then bif (decide (0 ≤ x4) && decide (x4 < (a0.2.1 : Int))) then F37_7 N a0 x3 x4 x5 (a0.2.2 x4.toNat) else none else (F37_2 N x5).map Sum.inr
def F37_L4b (N : Nat) (a0 : NS (BitVec 32)) (x3 : Int) (x4 : Int) (x5 : Nat → BitVec 64) : Option ((Int × (Nat → BitVec 64)) ⊕ (BitVec 64 × BitVec 64)) := F37_5 N a0 x3 x4 x5 (decide (x4 < x3))
def F37_L4 (N : Nat) (a0 : NS (BitVec 32)) (x3 : Int) : (Int × (Nat → BitVec 64)) → Option ((Int × (Nat → BitVec 64)) ⊕ (BitVec 64 × BitVec 64)) := fun v => F37_L4b N a0 x3 v.1 v.2
def F37_3 (N : Nat) (a0 : NS (BitVec 32)) (x1 : Nat → BitVec 64) (x3 : Int) : Option (BitVec 64 × BitVec 64) := iterL (F37_L4 N a0 x3) N (0, x1)
def F37_1 (N : Nat) (a0 : NS (BitVec 32)) (x1 : Nat → BitVec 64) : Option (BitVec 64 × BitVec 64) := F37_3 N a0 x1 (a0.2.1 : Int)
def F37 (N : Nat) (a0 : NS (BitVec 32)) : Option (BitVec 64 × BitVec 64) := F37_1 N a0 (fun _ => 0#64)
theorem C37 (N : Nat) (a0 : NS (BitVec 32)) (r : BitVec 64 × BitVec 64) (hr : some r = F37 N a0) : Aw.Fn Hfaa.prog 37 [ns U32 a0] (agg [is (U64 r.1), is (U64 r.2)]) := by
  refine fn_intro Hfaa.func37 rfl rfl rfl ?_
  intro bn0 w0 H0
  refine AW_seq1 ?_
  refine AW_region ?_
  refine AL_cons (zl42 rfl) (sS sT0 sB0 (sF1 rfl)) ?_
  refine AL_nil ?_
  refine thenN ?_
  refine AW_cut (σ := (Nat → BitVec 64)) (fun v => ⟨[(0, .inl (ns U32 a0)), (2, .inr (.inl (2, 0))), (3, .inr (.inl (3, 0)))], [(2, pb 42 [is (U64 (0#64)), is (U64 (0#64))]), (3, pb 109 (ar U64 4 v ++ []))]⟩) (fun v => some r = F37_1 N a0 v) ?_ ?_
  · skip
    refine AW_region ?_
    refine AL_cons (zl109 rfl) (sS sT0 sB0 (sF1 rfl)) ?_
    refine AL_nil ?_
    exact thenN (cutLeaf (v := fun _ => 0#64) hr (weak0 ((sT rfl (sT rfl (sT rfl sT0)))) (sub_keep (sub_keep sub_nil))))
  · rintro x1 hr
    show AW Hfaa.prog _ _ _ ⟨[(0, .inl (ns U32 a0)), (2, .inr (.inl (2, 0))), (3, .inr (.inl (3, 0)))], [(2, pb 42 [is (U64 (0#64)), is (U64 (0#64))]), (3, pb 109 (ar U64 4 x1 ++ []))]⟩
    have hr : some r = F37_1 N a0 x1 := hr
    refine AW_cut (σ := (Nat → BitVec 64)) (fun v => ⟨[(2, .inr (.inl (2, 0))), (3, .inr (.inl (3, 0)))], [(2, pb 42 [is (U64 (0#64)), is (U64 (0#64))]), (3, pb 109 (ar U64 4 v ++ []))]⟩) (fun v => some r = F37_2 N v) ?_ ?_
    · skip
      refine AW_cut (σ := Int) (fun v => ⟨[(2, .inr (.inl (2, 0))), (3, .inr (.inl (3, 0))), (6, .inl (ns U32 a0)), (7, .inl (is (I64 v))), (8, .inl (is (I64 0)))], [(2, pb 42 [is (U64 (0#64)), is (U64 (0#64))]), (3, pb 109 (ar U64 4 x1 ++ []))]⟩) (fun v => some r = F37_3 N a0 x1 v) ?_ ?_
      · skip
        refine AW_region ?_
        refine AL_cons (LR_move (at_tmp 0 _) rfl) (sS (sT1 rfl) sB0 sF0) ?_
        refine AL_cons (LR_bi1 (at_tmp 6 _) (len_ns Hfaa.underlying49 a0) rfl) (sS (sT1 rfl) sB0 sF0) ?_
        refine AL_cons (LR_move (at_c (v' := I64 0) rfl) rfl) (sS sT0 sB0 sF0) ?_
        refine AL_nil ?_
        exact thenN (cutLeaf (v := (a0.2.1 : Int)) hr (weak0 ((sT rfl (sT rfl (sT rfl (sT rfl (sT rfl sT0)))))) (sub_keep (sub_keep sub_nil))))
      · rintro x3 hr
        show AW Hfaa.prog _ _ _ ⟨[(2, .inr (.inl (2, 0))), (3, .inr (.inl (3, 0))), (6, .inl (ns U32 a0)), (7, .inl (is (I64 x3))), (8, .inl (is (I64 0)))], [(2, pb 42 [is (U64 (0#64)), is (U64 (0#64))]), (3, pb 109 (ar U64 4 x1 ++ []))]⟩
        have hr : some r = F37_3 N a0 x1 x3 := hr
        refine AW_block ?_
        refine AW_iterR (σ := Int × (Nat → BitVec 64)) (r := r) (x0 := (0, x1)) (emb := fun v => ⟨[(2, .inr (.inl (2, 0))), (3, .inr (.inl (3, 0))), (6, .inl (ns U32 a0)), (7, .inl (is (I64 x3))), (8, .inl (is (I64 v.1)))], [(2, pb 42 [is (U64 (0#64)), is (U64 (0#64))]), (3, pb 109 (ar U64 4 v.2 ++ []))]⟩) ?_ hr ?_
        · exact weak0 ((sT rfl (sT rfl (sT rfl (sT rfl (sT rfl sT0)))))) (sub_keep (sub_keep sub_nil))
        rintro ⟨x4, x5⟩ out2 hr
        show AW Hfaa.prog _ _ _ ⟨[(2, .inr (.inl (2, 0))), (3, .inr (.inl (3, 0))), (6, .inl (ns U32 a0)), (7, .inl (is (I64 x3))), (8, .inl (is (I64 x4)))], [(2, pb 42 [is (U64 (0#64)), is (U64 (0#64))]), (3, pb 109 (ar U64 4 x5 ++ []))]⟩
        have hr : some out2 = F37_L4b N a0 x3 x4 x5 := hr
        refine AW_cut (σ := Bool) (fun v => ⟨[(2, .inr (.inl (2, 0))), (3, .inr (.inl (3, 0))), (6, .inl (ns U32 a0)), (7, .inl (is (I64 x3))), (8, .inl (is (I64 x4))), (9, .inl (is (Bl v)))], [(2, pb 42 [is (U64 (0#64)), is (U64 (0#64))]), (3, pb 109 (ar U64 4 x5 ++ []))]⟩) (fun v => some out2 = F37_5 N a0 x3 x4 x5 v) ?_ ?_
        · skip
          refine AW_region ?_
          refine AL_cons (LR_bin (at_tmp 8 _) (at_tmp 7 _) (lss_I64 x4 x3) rfl) (sS (sA (sT1 rfl) (sT1 rfl)) sB0 sF0) ?_
          refine AL_nil ?_
          exact thenN (cutLeaf (v := decide (x4 < x3)) hr (weak0 ((sT rfl (sT rfl (sT rfl (sT rfl (sT rfl (sT rfl sT0))))))) (sub_keep (sub_keep sub_nil))))
        · rintro x6 hr
          show AW Hfaa.prog _ _ _ ⟨[(2, .inr (.inl (2, 0))), (3, .inr (.inl (3, 0))), (6, .inl (ns U32 a0)), (7, .inl (is (I64 x3))), (8, .inl (is (I64 x4))), (9, .inl (is (Bl x6)))], [(2, pb 42 [is (U64 (0#64)), is (U64 (0#64))]), (3, pb 109 (ar U64 4 x5 ++ []))]⟩
          have hr : some out2 = F37_5 N a0 x3 x4 x5 x6 := hr
          refine AW_seq1 ?_
          refine AW_condT (b := x6) rfl (fun h => ?_) (fun h => ?_)
          · have hr := hr.trans (cond_t h)
            clear h
            refine AW_skip ?_
            refine thenN ?_
            refine AW_cut (σ := (Nat → BitVec 64)) (fun v => ⟨[(2, .inr (.inl (2, 0))), (3, .inr (.inl (3, 0))), (6, .inl (ns U32 a0)), (7, .inl (is (I64 x3))), (8, .inl (is (I64 x4)))], [(2, pb 42 [is (U64 (0#64)), is (U64 (0#64))]), (3, pb 109 (ar U64 4 v ++ []))]⟩) (fun v => some out2 = F37_6 N a0 x3 x4 v) ?_ ?_
            · skip
              refine AW_block ?_
              refine AW_cut (σ := BitVec 32) (fun v => ⟨[(2, .inr (.inl (2, 0))), (3, .inr (.inl (3, 0))), (6, .inl (ns U32 a0)), (7, .inl (is (I64 x3))), (8, .inl (is (I64 x4))), (4, .inl (is (I64 x4))), (5, .inl (is (U32 v)))], [(2, pb 42 [is (U64 (0#64)), is (U64 (0#64))]), (3, pb 109 (ar U64 4 x5 ++ []))]⟩) (fun v => some out2 = F37_7 N a0 x3 x4 x5 v) ?_ ?_
              · skip
                refine AW_region ?_
                refine AL_cons (LR_move (at_tmp 8 _) rfl) (sS (sT1 rfl) sB0 sF0) ?_
                obtain ⟨hg36, hr⟩ := guard_some hr
                refine AL_cons (LR_indexAddrQ Hfaa.underlying49 sz65 (at_tmp 6 _) (at_tmp 8 _) (dand hg36) rfl) (sS (sA (sT1 rfl) (sT1 rfl)) sB0 sF0) ?_
                refine AL_cons (LR_loadQ (at_tmp 11 _) na65 rfl) (sS (sT1 rfl) sB0 sF0) ?_
                refine AL_cons (LR_assign (at_tmp 10 _) rfl) (sS (sT1 rfl) sB0 sF0) ?_
                refine AL_cons (LR_assign (at_tmp 12 _) rfl) (sS (sT1 rfl) sB0 sF0) ?_
                refine AL_nil ?_
                exact thenN (cutLeaf (v := a0.2.2 x4.toNat) hr (weak0 ((sT rfl (sT rfl (sT rfl (sT rfl (sT rfl (sT rfl (sT rfl sT0)))))))) (sub_keep (sub_keep sub_nil))))
              · rintro x8 hr
                show AW Hfaa.prog _ _ _ ⟨[(2, .inr (.inl (2, 0))), (3, .inr (.inl (3, 0))), (6, .inl (ns U32 a0)), (7, .inl (is (I64 x3))), (8, .inl (is (I64 x4))), (4, .inl (is (I64 x4))), (5, .inl (is (U32 x8)))], [(2, pb 42 [is (U64 (0#64)), is (U64 (0#64))]), (3, pb 109 (ar U64 4 x5 ++ []))]⟩
                have hr : some out2 = F37_7 N a0 x3 x4 x5 x8 := hr
                refine AW_region ?_
                refine AL_cons (LR_move (at_tmp 4 _) rfl) (sS (sT1 rfl) sB0 sF0) ?_
                refine AL_cons (LR_bin (at_tmp 13 _) (at_c (v' := I64 3) rfl) (and_I64 x4 3) rfl) (sS (sA (sT1 rfl) sT0) sB0 sF0) ?_
                refine AL_cons (LR_move (at_tmp 5 _) rfl) (sS (sT1 rfl) sB0 sF0) ?_
                refine AL_cons (LR_conv (vx := U32 x8) (at_tmp 15 _) (conv_U64 Hfaa.underlying65 Hfaa.underlying30 (x8.toNat : Int)) rfl) (sS (sT1 rfl) sB0 sF0) ?_
                obtain ⟨hg35, hr⟩ := guard_some hr
                refine AL_cons (LR_indexAddr (o := (w64 ((BitVec.ofInt 64 x4 &&& BitVec.ofInt 64 3).toNat : Int)).toNat) Hfaa.underlying109 sz30 (at_tmp 3 _) (at_tmp 14 _) (dand hg35) (by first | rfl | omega) rfl) (sS (sA (sT1 rfl) (sT1 rfl)) sB0 sF0) ?_
                refine AL_cons (LR_storeA (at_tmp 17 _) (at_tmp 16 _) (cells_one (one_is rfl)) (onC (one_is rfl) onN) sz30 rfl (ble_dyn (lnA ln0) (by have := (ltn (dand hg35)); omega)) (stA (ltn (dand hg35)))) (sS (sA (sT1 rfl) (sT1 rfl)) (sB1 rfl) sF0) ?_
                refine AL_nil ?_
                refine blN ?_
                exact thenN (cutLeaf (v := upd x5 ((w64 ((BitVec.ofInt 64 x4 &&& BitVec.ofInt 64 3).toNat : Int)).toNat) (BitVec.ofInt 64 (x8.toNat : Int))) hr (weak0 ((sT rfl (sT rfl (sT rfl (sT rfl (sT rfl sT0)))))) (sub_keep (sub_keep sub_nil))))
            · rintro x7 hr
              show AW Hfaa.prog _ _ _ ⟨[(2, .inr (.inl (2, 0))), (3, .inr (.inl (3, 0))), (6, .inl (ns U32 a0)), (7, .inl (is (I64 x3))), (8, .inl (is (I64 x4)))], [(2, pb 42 [is (U64 (0#64)), is (U64 (0#64))]), (3, pb 109 (ar U64 4 x7 ++ []))]⟩
              have hr : some out2 = F37_6 N a0 x3 x4 x7 := hr
              refine AW_region ?_
              refine AL_cons (LR_bin (at_tmp 8 _) (at_c (v' := I64 1) rfl) (add_I64 x4 1) rfl) (sS (sA (sT1 rfl) sT0) sB0 sF0) ?_
              refine AL_cons (LR_move (at_tmp 18 _) rfl) (sS (sT1 rfl) sB0 sF0) ?_
              refine AL_nil ?_
              exact thenN (loopNext (x' := (w64 (x4 + 1), x7)) hr (weak0 ((sT rfl (sT rfl (sT rfl (sT rfl (sT rfl sT0)))))) (sub_keep (sub_keep sub_nil))))
          · have hr := hr.trans (cond_f h)
            clear h
            refine AW_exit ?_
            refine thenX ?_
            obtain ⟨r', hro, hr⟩ := map_inr hr
            refine thenX (loopOut hro (fun he => ?_))
            rw [he] at hr
            refine blH ?_
            exact thenN (cutLeaf (v := x5) hr (weak0 ((sT rfl (sT rfl sT0))) (sub_keep (sub_keep sub_nil))))
    · rintro x2 hr
      show AW Hfaa.prog _ _ _ ⟨[(2, .inr (.inl (2, 0))), (3, .inr (.inl (3, 0)))], [(2, pb 42 [is (U64 (0#64)), is (U64 (0#64))]), (3, pb 109 (ar U64 4 x2 ++ []))]⟩
      have hr : some r = F37_2 N x2 := hr
      refine AW_seq1 ?_
      refine AW_region ?_
      refine AL_cons (LR_indexAddr (o := 3) Hfaa.underlying109 sz30 (at_tmp 3 _) (at_c (v' := I64 3) rfl) (by decide) (by first | rfl | omega) rfl) (sS (sA (sT1 rfl) sT0) sB0 sF0) ?_
      refine AL_cons (LR_load (at_tmp 19 _) na30 (gA (i := 3) (by decide)) rfl) (sS (sT1 rfl) (sB1 rfl) sF0) ?_
      refine AL_cons (LR_bin (at_tmp 20 _) (at_c (v' := U64 (32#64)) rfl) (shl_U64 (x2 3) ((32#64).toNat : Int) (Int.natCast_nonneg _)) rfl) (sS (sA (sT1 rfl) sT0) sB0 sF0) ?_
      refine AL_cons (LR_indexAddr (o := 2) Hfaa.underlying109 sz30 (at_tmp 3 _) (at_c (v' := I64 2) rfl) (by decide) (by first | rfl | omega) rfl) (sS (sA (sT1 rfl) sT0) sB0 sF0) ?_
      refine AL_cons (LR_load (at_tmp 22 _) na30 (gA (i := 2) (by decide)) rfl) (sS (sT1 rfl) (sB1 rfl) sF0) ?_
      refine AL_cons (LR_bin (at_tmp 21 _) (at_tmp 23 _) (or_U64 ((x2 3) <<< 32) (x2 2)) rfl) (sS (sA (sT1 rfl) (sT1 rfl)) sB0 sF0) ?_
      refine AL_cons (LR_indexAddr (o := 1) Hfaa.underlying109 sz30 (at_tmp 3 _) (at_c (v' := I64 1) rfl) (by decide) (by first | rfl | omega) rfl) (sS (sA (sT1 rfl) sT0) sB0 sF0) ?_
      refine AL_cons (LR_load (at_tmp 25 _) na30 (gA (i := 1) (by decide)) rfl) (sS (sT1 rfl) (sB1 rfl) sF0) ?_
      refine AL_cons (LR_bin (at_tmp 26 _) (at_c (v' := U64 (32#64)) rfl) (shl_U64 (x2 1) ((32#64).toNat : Int) (Int.natCast_nonneg _)) rfl) (sS (sA (sT1 rfl) sT0) sB0 sF0) ?_
      refine AL_cons (LR_indexAddr (o := 0) Hfaa.underlying109 sz30 (at_tmp 3 _) (at_c (v' := I64 0) rfl) (by decide) (by first | rfl | omega) rfl) (sS (sA (sT1 rfl) sT0) sB0 sF0) ?_
      refine AL_cons (LR_load (at_tmp 28 _) na30 (gA (i := 0) (by decide)) rfl) (sS (sT1 rfl) (sB1 rfl) sF0) ?_
      refine AL_cons (LR_bin (at_tmp 27 _) (at_tmp 29 _) (or_U64 ((x2 1) <<< 32) (x2 0)) rfl) (sS (sA (sT1 rfl) (sT1 rfl)) sB0 sF0) ?_
      refine AL_cons (bl42 (parts_cons (i := 0) (off := 0) (at_tmp 24 _) (cells_one (one_is rfl)) rfl rfl (parts_cons (i := 1) (off := 1) (at_tmp 30 _) (cells_one (one_is rfl)) rfl rfl parts_nil)) rfl rfl) (sS (sA (sT1 rfl) (sA (sT1 rfl) sT0)) sB0 sF0) ?_
      refine AL_cons (LR_store (at_tmp 2 _) (at_tmp 31 _) (cells_agg _) (onC (one_is rfl) (onC (one_is rfl) onN)) sz42 rfl rfl) (sS (sA (sT1 rfl) (sT1 rfl)) (sB1 rfl) sF0) ?_
      refine AL_nil ?_
      refine thenN ?_
      refine AW_ret ?_
      obtain rfl := Option.some.inj hr
      exact res1 rfl (rvC rfl rfl ag42 sz42 rfl)
/-- nat.Mul -/
def F22_3 (N : Nat) (x1 : NS (BitVec 32)) (x2 : NS (BitVec 32)) (x4 : Nat → BitVec 32) : Option (NS (BitVec 32)) := (F33 N ((false, (w64 ((x1.2.1 : Int) + (x2.2.1 : Int))).toNat, x4))).bind fun y4 => some y4
def F22_7 (N : Nat) (x1 : NS (BitVec 32)) (x2 : NS (BitVec 32)) (x5 : Int) (x6 : Int) (x9 : Nat → BitVec 32) : Option ((Int × (Nat → BitVec 32)) ⊕ (NS (BitVec 32))) := some (.inl ((w64 (x6 + 1), x9)))
def F22_8 (N : Nat) (x1 : NS (BitVec 32)) (x2 : NS (BitVec 32)) (x5 : Int) (x6 : Int) (x10 : BitVec 64) (x11 : Nat → BitVec 32) : Option ((Int × (Nat → BitVec 32)) ⊕ (NS (BitVec 32))) := bif (decide (0 ≤ w64 (x6 + (x2.2.1 : Int))) && decide (w64 (x6 + (x2.2.1 : Int)) < ((w64 ((x1.2.1 : Int) + (x2.2.1 : Int))).toNat : Int))) then F22_7 N x1 x2 x5 x6 (upd x11 ((w64 (x6 + (x2.2.1 : Int))).toNat) (BitVec.ofInt 32 (x10.toNat : Int))) else none
def F22_12 (N : Nat) (x1 : NS (BitVec 32)) (x2 : NS (BitVec 32)) (x5 : Int) (x6 : Int) (x12 : Int) (x14 : Int) (x17 : BitVec 64) (x18 : Nat → BitVec 32) : Option ((BitVec 64 × Int × (Nat → BitVec 32)) ⊕ ((Int × (Nat → BitVec 32)) ⊕ (NS (BitVec 32)))) := some (.inl ((x17, w64 (x14 + 1), x18)))
def F22_14 (N : Nat) (x1 : NS (BitVec 32)) (x2 : NS (BitVec 32)) (x5 : Int) (x6 : Int) (x12 : Int) (x14 : Int) (x19 : BitVec 64) (x20 : Nat → BitVec 32) : Option ((BitVec 64 × Int × (Nat → BitVec 32)) ⊕ ((Int × (Nat → BitVec 32)) ⊕ (NS (BitVec 32)))) := F22_12 N x1 x2 x5 x6 x12 x14 (x19 >>> 32) x20
def F22_13 (N : Nat) (x1 : NS (BitVec 32)) (x2 : NS (BitVec 32)) (x5 : Int) (x6 : Int) (x12 : Int) (x14 : Int) (x15 : Nat → BitVec 32) (x19 : BitVec 64) : Option ((BitVec 64 × Int × (Nat → BitVec 32)) ⊕ ((Int × (Nat → BitVec 32)) ⊕ (NS (BitVec 32)))) := bif (decide (0 ≤ w64 (x6 + x14)) && decide (w64 (x6 + x14) < ((w64 ((x1.2.1 : Int) + (x2.2.1 : Int))).toNat : Int))) then F22_14 N x1 x2 x5 x6 x12 x14 x19 (upd x15 ((w64 (x6 + x14)).toNat) (BitVec.ofInt 32 (x19.toNat : Int))) else none
def F22_11 (N : Nat) (x1 : NS (BitVec 32)) (x2 : NS (BitVec 32)) (x5 : Int) (x6 : Int) (x12 : Int) (x13 : BitVec 64) (x14 : Int) (x15 : Nat → BitVec 32) (x16 : Bool) : Option ((BitVec 64 × Int × (Nat → BitVec 32)) ⊕ ((Int × (Nat → BitVec 32)) ⊕ (NS (BitVec 32)))) := bif x16 then bif (decide (0 ≤ x6) && decide (x6 < (x1.2.1 : Int))) then bif (decide (0 ≤ x14) && decide (x14 < (x2.2.1 : Int))) then bif (decide (0 ≤ w64 (x6 + x14)) && decide (w64 (x6 + x14) < ((w64 ((x1.2.1 : Int) + (x2.2.1 : Int))).toNat : Int))) then F22_13 N x1 x2 x5 x6 x12 x14 x15 (x13 + (((BitVec.ofInt 64 ((x1.2.2 x6.toNat).toNat : Int)) * (BitVec.ofInt 64 ((x2.2.2 x14.toNat).toNat : Int))) + (BitVec.ofInt 64 ((x15 ((w64 (x6 + x14)).toNat)).toNat : Int)))) else none else none else none else (F22_8 N x1 x2 x5 x6 x13 x15).map Sum.inr
def F22_L10b (N : Nat) (x1 : NS (BitVec 32)) (x2 : NS (BitVec 32)) (x5 : Int) (x6 : Int) (x12 : Int) (x13 : BitVec 64) (x14 : Int) (x15 : Nat → BitVec 32) : Option ((BitVec 64 × Int × (Nat → BitVec 32)) ⊕ ((Int × (Nat → BitVec 32)) ⊕ (NS (BitVec 32)))) := F22_11 N x1 x2 x5 x6 x12 x13 x14 x15 (decide (x14 < x12))
def F22_L10 (N : Nat) (x1 : NS (BitVec 32)) (x2 : NS (BitVec 32)) (x5 : Int) (x6 : Int) (x12 : Int) : (BitVec 64 × Int × (Nat → BitVec 32)) → Option ((BitVec 64 × Int × (Nat → BitVec 32)) ⊕ ((Int × (Nat → BitVec 32)) ⊕ (NS (BitVec 32)))) := fun v => F22_L10b N x1 x2 x5 x6 x12 v.1 v.2.1 v.2.2
def F22_9 (N : Nat) (x1 : NS (BitVec 32)) (x2 : NS (BitVec 32)) (x5 : Int) (x6 : Int) (x7 : Nat → BitVec 32) (x12 : Int) : Option ((Int × (Nat → BitVec 32)) ⊕ (NS (BitVec 32))) := iterL (F22_L10 N x1 x2 x5 x6 x12) N (0#64, 0, x7)
def F22_6 (N : Nat) (x1 : NS (BitVec 32)) (x2 : NS (BitVec 32)) (x5 : Int) (x6 : Int) (x7 : Nat → BitVec 32) (x8 : Bool) : Option ((Int × (Nat → BitVec 32)) ⊕ (NS (BitVec 32))) := bif x8 then F22_9 N x1 x2 x5 x6 x7 (x2.2.1 : Int) else (F22_3 N x1 x2 x7).map Sum.inr
def F22_L5b (N : Nat) (x1 : NS (BitVec 32)) (x2 : NS (BitVec 32)) (x5 : Int) (x6 : Int) (x7 : Nat → BitVec 32) : Option ((Int × (Nat → BitVec 32)) ⊕ (NS (BitVec 32))) := F22_6 N x1 x2 x5 x6 x7 (decide (x6 < x5))
def F22_L5 (N : Nat) (x1 : NS (BitVec 32)) (x2 : NS (BitVec 32)) (x5 : Int) : (Int × (Nat → BitVec 32)) → Option ((Int × (Nat → BitVec 32)) ⊕ (NS (BitVec 32))) := fun v => F22_L5b N x1 x2 x5 v.1 v.2
def F22_4 (N : Nat) (x1 : NS (BitVec 32)) (x2 : NS (BitVec 32)) (x3 : Nat → BitVec 32) (x5 : Int) : Option (NS (BitVec 32)) := iterL (F22_L5 N x1 x2 x5) N (0, x3)
def F22_2 (N : Nat) (x1 : NS (BitVec 32)) (x2 : NS (BitVec 32)) (x3 : Nat → BitVec 32) : Option (NS (BitVec 32)) := F22_4 N x1 x2 x3 (x1.2.1 : Int)
def F22_1 (N : Nat) (x1 : NS (BitVec 32)) (x2 : NS (BitVec 32)) : Option (NS (BitVec 32)) := bif (decide (0 ≤ w64 ((x1.2.1 : Int) + (x2.2.1 : Int))) && decide (w64 ((x1.2.1 : Int) + (x2.2.1 : Int)) ≤ 1099511627776)) then F22_2 N x1 x2 (fun _ => 0#32) else none
def F22 (N : Nat) (a0 : NS (BitVec 32)) (a1 : NS (BitVec 32)) : Option (NS (BitVec 32)) := (F33 N a0).bind fun y5 => (F33 N a1).bind fun y6 => F22_1 N y5 y6
theorem C22 (N : Nat) (a0 : NS (BitVec 32)) (a1 : NS (BitVec 32)) (r : NS (BitVec 32)) (hr : some r = F22 N a0 a1) : Aw.Fn Hfaa.prog 22 [ns U32 a0, ns U32 a1] (ns U32 r) := by
  refine fn_intro Hfaa.func22 rfl rfl rfl ?_
  intro bn0 w0 H0
  refine AW_seq1 ?_
  refine AW_region ?_
  refine AL_cons (LR_assign (at_ns0 (K := U32) (fun _ => 0#32)) rfl) (sS sT0 sB0 sF0) ?_
  refine AL_nil ?_
  refine thenN ?_
  refine AW_cut (σ := NS (BitVec 32) × NS (BitVec 32)) (fun v => ⟨[(0, .inl (ns U32 v.1)), (1, .inl (ns U32 v.2))], []⟩) (fun v => some r = F22_1 N v.1 v.2) ?_ ?_
  · skip
    refine AW_region ?_
    refine AL_cons (LR_move (at_tmp 0 _) rfl) (sS (sT1 rfl) sB0 sF0) ?_
    obtain ⟨y5, hy5, hr⟩ := bind_some hr
    refine AL_cons (LR_call Hfaa.func33 rfl rfl (C33 N a0 y5 hy5) (all_cons (at_tmp 9 _) all_nil) rfl) (sS (sA (sT1 rfl) sT0) sB0 sF0) ?_
    refine AL_cons (LR_move (at_tmp 1 _) rfl) (sS (sT1 rfl) sB0 sF0) ?_
    obtain ⟨y6, hy6, hr⟩ := bind_some hr
    refine AL_cons (LR_call Hfaa.func33 rfl rfl (C33 N a1 y6 hy6) (all_cons (at_tmp 11 _) all_nil) rfl) (sS (sA (sT1 rfl) sT0) sB0 sF0) ?_
    refine AL_cons (LR_assign (at_tmp 10 _) rfl) (sS (sT1 rfl) sB0 sF0) ?_
    refine AL_cons (LR_assign (at_tmp 12 _) rfl) (sS (sT1 rfl) sB0 sF0) ?_
    refine AL_nil ?_
    exact thenN (cutLeaf (v := (y5, y6)) hr (weak0 ((sT rfl (sT rfl sT0))) sub_nil))
  · rintro ⟨x1, x2⟩ hr
    show AW Hfaa.prog _ _ _ ⟨[(0, .inl (ns U32 x1)), (1, .inl (ns U32 x2))], []⟩
    have hr : some r = F22_1 N x1 x2 := hr
    refine AW_cut (σ := (Nat → BitVec 32)) (fun v => ⟨[(0, .inl (ns U32 x1)), (1, .inl (ns U32 x2)), (5, .inr (.inr (.inl (18, 0, (w64 ((x1.2.1 : Int) + (x2.2.1 : Int))).toNat, (w64 ((x1.2.1 : Int) + (x2.2.1 : Int))).toNat))))], [(18, pb 65 (ar U32 ((w64 ((x1.2.1 : Int) + (x2.2.1 : Int))).toNat) v ++ []))]⟩) (fun v => some r = F22_2 N x1 x2 v) ?_ ?_
    · skip
      refine AW_region ?_
      refine AL_cons (LR_move (at_tmp 0 _) rfl) (sS (sT1 rfl) sB0 sF0) ?_
      refine AL_cons (LR_bi1 (at_tmp 13 _) (len_ns Hfaa.underlying49 x1) rfl) (sS (sT1 rfl) sB0 sF0) ?_
      refine AL_cons (LR_move (at_tmp 1 _) rfl) (sS (sT1 rfl) sB0 sF0) ?_
      refine AL_cons (LR_bi1 (at_tmp 15 _) (len_ns Hfaa.underlying49 x2) rfl) (sS (sT1 rfl) sB0 sF0) ?_
      refine AL_cons (LR_bin (at_tmp 14 _) (at_tmp 16 _) (add_I64 (x1.2.1 : Int) (x2.2.1 : Int)) rfl) (sS (sA (sT1 rfl) (sT1 rfl)) sB0 sF0) ?_
      obtain ⟨hg1166, hr⟩ := guard_some hr
      refine AL_cons (LR_makeSlice Hfaa.underlying49 el65 (at_tmp 17 _) (dand hg1166) rfl) (sS (sT1 rfl) sB0 (sF1 rfl)) ?_
      refine AL_cons (LR_assign (at_tmp 18 _) rfl) (sS (sT1 rfl) sB0 sF0) ?_
      refine AL_nil ?_
      exact thenN (cutLeaf (v := fun _ => 0#32) hr (weak0 ((sT rfl (sT rfl (sT rfl sT0)))) (sub_keep sub_nil)))
    · rintro x3 hr
      show AW Hfaa.prog _ _ _ ⟨[(0, .inl (ns U32 x1)), (1, .inl (ns U32 x2)), (5, .inr (.inr (.inl (18, 0, (w64 ((x1.2.1 : Int) + (x2.2.1 : Int))).toNat, (w64 ((x1.2.1 : Int) + (x2.2.1 : Int))).toNat))))], [(18, pb 65 (ar U32 ((w64 ((x1.2.1 : Int) + (x2.2.1 : Int))).toNat) x3 ++ []))]⟩
      have hr : some r = F22_2 N x1 x2 x3 := hr
      refine AW_cut (σ := (Nat → BitVec 32)) (fun v => ⟨[(5, .inr (.inr (.inl (18, 0, (w64 ((x1.2.1 : Int) + (x2.2.1 : Int))).toNat, (w64 ((x1.2.1 : Int) + (x2.2.1 : Int))).toNat))))], [(18, pb 65 (ar U32 ((w64 ((x1.2.1 : Int) + (x2.2.1 : Int))).toNat) v ++ []))]⟩) (fun v => some r = F22_3 N x1 x2 v) ?_ ?_
      · skip
        refine AW_cut (σ := Int) (fun v => ⟨[(0, .inl (ns U32 x1)), (1, .inl (ns U32 x2)), (5, .inr (.inr (.inl (18, 0, (w64 ((x1.2.1 : Int) + (x2.2.1 : Int))).toNat, (w64 ((x1.2.1 : Int) + (x2.2.1 : Int))).toNat)))), (20, .inl (is (I64 v))), (21, .inl (is (I64 0)))], [(18, pb 65 (ar U32 ((w64 ((x1.2.1 : Int) + (x2.2.1 : Int))).toNat) x3 ++ []))]⟩) (fun v => some r = F22_4 N x1 x2 x3 v) ?_ ?_
        · skip
          refine AW_region ?_
          refine AL_cons (LR_move (at_tmp 0 _) rfl) (sS (sT1 rfl) sB0 sF0) ?_
          refine AL_cons (LR_bi1 (at_tmp 19 _) (len_ns Hfaa.underlying49 x1) rfl) (sS (sT1 rfl) sB0 sF0) ?_
          refine AL_cons (LR_move (at_c (v' := I64 0) rfl) rfl) (sS sT0 sB0 sF0) ?_
          refine AL_nil ?_
          exact thenN (cutLeaf (v := (x1.2.1 : Int)) hr (weak0 ((sT rfl (sT rfl (sT rfl (sT rfl (sT rfl sT0)))))) (sub_keep sub_nil)))
        · rintro x5 hr
          show AW Hfaa.prog _ _ _ ⟨[(0, .inl (ns U32 x1)), (1, .inl (ns U32 x2)), (5, .inr (.inr (.inl (18, 0, (w64 ((x1.2.1 : Int) + (x2.2.1 : Int))).toNat, (w64 ((x1.2.1 : Int) + (x2.2.1 : Int))).toNat)))), (20, .inl (is (I64 x5))), (21, .inl (is (I64 0)))], [(18, pb 65 (ar U32 ((w64 ((x1.2.1 : Int) + (x2.2.1 : Int))).toNat) x3 ++ []))]⟩
          have hr : some r = F22_4 N x1 x2 x3 x5 := hr
          refine AW_block ?_
          refine AW_iterR (σ := Int × (Nat → BitVec 32)) (r := r) (x0 := (0, x3)) (emb := fun v => ⟨[(0, .inl (ns U32 x1)), (1, .inl (ns U32 x2)), (5, .inr (.inr (.inl (18, 0, (w64 ((x1.2.1 : Int) + (x2.2.1 : Int))).toNat, (w64 ((x1.2.1 : Int) + (x2.2.1 : Int))).toNat)))), (20, .inl (is (I64 x5))), (21, .inl (is (I64 v.1)))], [(18, pb 65 (ar U32 ((w64 ((x1.2.1 : Int) + (x2.2.1 : Int))).toNat) v.2 ++ []))]⟩) ?_ hr ?_
          · exact weak0 ((sT rfl (sT rfl (sT rfl (sT rfl (sT rfl sT0)))))) (sub_keep sub_nil)
          rintro ⟨x6, x7⟩ out22 hr
          show AW Hfaa.prog _ _ _ ⟨[(0, .inl (ns U32 x1)), (1, .inl (ns U32 x2)), (5, .inr (.inr (.inl (18, 0, (w64 ((x1.2.1 : Int) + (x2.2.1 : Int))).toNat, (w64 ((x1.2.1 : Int) + (x2.2.1 : Int))).toNat)))), (20, .inl (is (I64 x5))), (21, .inl (is (I64 x6)))], [(18, pb 65 (ar U32 ((w64 ((x1.2.1 : Int) + (x2.2.1 : Int))).toNat) x7 ++ []))]⟩
          have hr : some out22 = F22_L5b N x1 x2 x5 x6 x7 := hr
          refine AW_cut (σ := Bool) (fun v => ⟨[(0, .inl (ns U32 x1)), (1, .inl (ns U32 x2)), (5, .inr (.inr (.inl (18, 0, (w64 ((x1.2.1 : Int) + (x2.2.1 : Int))).toNat, (w64 ((x1.2.1 : Int) + (x2.2.1 : Int))).toNat)))), (20, .inl (is (I64 x5))), (21, .inl (is (I64 x6))), (22, .inl (is (Bl v)))], [(18, pb 65 (ar U32 ((w64 ((x1.2.1 : Int) + (x2.2.1 : Int))).toNat) x7 ++ []))]⟩) (fun v => some out22 = F22_6 N x1 x2 x5 x6 x7 v) ?_ ?_
          · skip
            refine AW_region ?_
            refine AL_cons (LR_bin (at_tmp 21 _) (at_tmp 20 _) (lss_I64 x6 x5) rfl) (sS (sA (sT1 rfl) (sT1 rfl)) sB0 sF0) ?_
            refine AL_nil ?_
            exact thenN (cutLeaf (v := decide (x6 < x5)) hr (weak0 ((sT rfl (sT rfl (sT rfl (sT rfl (sT rfl (sT rfl sT0))))))) (sub_keep sub_nil)))
          · rintro x8 hr
            show AW Hfaa.prog _ _ _ ⟨[(0, .inl (ns U32 x1)), (1, .inl (ns U32 x2)), (5, .inr (.inr (.inl (18, 0, (w64 ((x1.2.1 : Int) + (x2.2.1 : Int))).toNat, (w64 ((x1.2.1 : Int) + (x2.2.1 : Int))).toNat)))), (20, .inl (is (I64 x5))), (21, .inl (is (I64 x6))), (22, .inl (is (Bl x8)))], [(18, pb 65 (ar U32 ((w64 ((x1.2.1 : Int) + (x2.2.1 : Int))).toNat) x7 ++ []))]⟩
            have hr : some out22 = F22_6 N x1 x2 x5 x6 x7 x8 := hr
            refine AW_seq1 ?_
            refine AW_condT (b := x8) rfl (fun h => ?_) (fun h => ?_)
            · have hr := hr.trans (cond_t h)
              clear h
              refine AW_skip ?_
              refine thenN ?_
              refine AW_cut (σ := (Nat → BitVec 32)) (fun v => ⟨[(0, .inl (ns U32 x1)), (1, .inl (ns U32 x2)), (5, .inr (.inr (.inl (18, 0, (w64 ((x1.2.1 : Int) + (x2.2.1 : Int))).toNat, (w64 ((x1.2.1 : Int) + (x2.2.1 : Int))).toNat)))), (20, .inl (is (I64 x5))), (21, .inl (is (I64 x6)))], [(18, pb 65 (ar U32 ((w64 ((x1.2.1 : Int) + (x2.2.1 : Int))).toNat) v ++ []))]⟩) (fun v => some out22 = F22_7 N x1 x2 x5 x6 v) ?_ ?_
              · skip
                refine AW_block ?_
                refine AW_seq1 ?_
                refine AW_region ?_
                refine AL_cons (LR_move (at_tmp 21 _) rfl) (sS (sT1 rfl) sB0 sF0) ?_
                refine AL_cons (LR_assign (at_tmp 23 _) rfl) (sS (sT1 rfl) sB0 sF0) ?_
                refine AL_nil ?_
                refine thenN ?_
                refine AW_seq1 ?_
                refine AW_region ?_
                refine AL_cons (LR_assign (at_c (v' := U64 (0#64)) rfl) rfl) (sS sT0 sB0 sF0) ?_
                refine AL_nil ?_
                refine thenN ?_
                refine AW_cut (σ := BitVec 64 × (Nat → BitVec 32)) (fun v => ⟨[(0, .inl (ns U32 x1)), (1, .inl (ns U32 x2)), (5, .inr (.inr (.inl (18, 0, (w64 ((x1.2.1 : Int) + (x2.2.1 : Int))).toNat, (w64 ((x1.2.1 : Int) + (x2.2.1 : Int))).toNat)))), (20, .inl (is (I64 x5))), (21, .inl (is (I64 x6))), (6, .inl (is (I64 x6))), (7, .inl (is (U64 v.1)))], [(18, pb 65 (ar U32 ((w64 ((x1.2.1 : Int) + (x2.2.1 : Int))).toNat) v.2 ++ []))]⟩) (fun v => some out22 = F22_8 N x1 x2 x5 x6 v.1 v.2) ?_ ?_
                · skip
                  refine AW_cut (σ := Int) (fun v => ⟨[(0, .inl (ns U32 x1)), (1, .inl (ns U32 x2)), (5, .inr (.inr (.inl (18, 0, (w64 ((x1.2.1 : Int) + (x2.2.1 : Int))).toNat, (w64 ((x1.2.1 : Int) + (x2.2.1 : Int))).toNat)))), (20, .inl (is (I64 x5))), (21, .inl (is (I64 x6))), (6, .inl (is (I64 x6))), (7, .inl (is (U64 (0#64)))), (25, .inl (is (I64 v))), (26, .inl (is (I64 0)))], [(18, pb 65 (ar U32 ((w64 ((x1.2.1 : Int) + (x2.2.1 : Int))).toNat) x7 ++ []))]⟩) (fun v => some out22 = F22_9 N x1 x2 x5 x6 x7 v) ?_ ?_
                  · skip
                    refine AW_region ?_
                    refine AL_cons (LR_move (at_tmp 1 _) rfl) (sS (sT1 rfl) sB0 sF0) ?_
                    refine AL_cons (LR_bi1 (at_tmp 24 _) (len_ns Hfaa.underlying49 x2) rfl) (sS (sT1 rfl) sB0 sF0) ?_
                    refine AL_cons (LR_move (at_c (v' := I64 0) rfl) rfl) (sS sT0 sB0 sF0) ?_
                    refine AL_nil ?_
                    exact thenN (cutLeaf (v := (x2.2.1 : Int)) hr (weak0 ((sT rfl (sT rfl (sT rfl (sT rfl (sT rfl (sT rfl (sT rfl (sT rfl (sT rfl sT0)))))))))) (sub_keep sub_nil)))
                  · rintro x12 hr
                    show AW Hfaa.prog _ _ _ ⟨[(0, .inl (ns U32 x1)), (1, .inl (ns U32 x2)), (5, .inr (.inr (.inl (18, 0, (w64 ((x1.2.1 : Int) + (x2.2.1 : Int))).toNat, (w64 ((x1.2.1 : Int) + (x2.2.1 : Int))).toNat)))), (20, .inl (is (I64 x5))), (21, .inl (is (I64 x6))), (6, .inl (is (I64 x6))), (7, .inl (is (U64 (0#64)))), (25, .inl (is (I64 x12))), (26, .inl (is (I64 0)))], [(18, pb 65 (ar U32 ((w64 ((x1.2.1 : Int) + (x2.2.1 : Int))).toNat) x7 ++ []))]⟩
                    have hr : some out22 = F22_9 N x1 x2 x5 x6 x7 x12 := hr
                    refine AW_block ?_
                    refine AW_iterR (σ := BitVec 64 × Int × (Nat → BitVec 32)) (r := out22) (x0 := (0#64, 0, x7)) (emb := fun v => ⟨[(0, .inl (ns U32 x1)), (1, .inl (ns U32 x2)), (5, .inr (.inr (.inl (18, 0, (w64 ((x1.2.1 : Int) + (x2.2.1 : Int))).toNat, (w64 ((x1.2.1 : Int) + (x2.2.1 : Int))).toNat)))), (20, .inl (is (I64 x5))), (21, .inl (is (I64 x6))), (6, .inl (is (I64 x6))), (7, .inl (is (U64 v.1))), (25, .inl (is (I64 x12))), (26, .inl (is (I64 v.2.1)))], [(18, pb 65 (ar U32 ((w64 ((x1.2.1 : Int) + (x2.2.1 : Int))).toNat) v.2.2 ++ []))]⟩) ?_ hr ?_
                    · exact weak0 ((sT rfl (sT rfl (sT rfl (sT rfl (sT rfl (sT rfl (sT rfl (sT rfl (sT rfl sT0)))))))))) (sub_keep sub_nil)
                    rintro ⟨x13, x14, x15⟩ out26 hr
                    show AW Hfaa.prog _ _ _ ⟨[(0, .inl (ns U32 x1)), (1, .inl (ns U32 x2)), (5, .inr (.inr (.inl (18, 0, (w64 ((x1.2.1 : Int) + (x2.2.1 : Int))).toNat, (w64 ((x1.2.1 : Int) + (x2.2.1 : Int))).toNat)))), (20, .inl (is (I64 x5))), (21, .inl (is (I64 x6))), (6, .inl (is (I64 x6))), (7, .inl (is (U64 x13))), (25, .inl (is (I64 x12))), (26, .inl (is (I64 x14)))], [(18, pb 65 (ar U32 ((w64 ((x1.2.1 : Int) + (x2.2.1 : Int))).toNat) x15 ++ []))]⟩
                    have hr : some out26 = F22_L10b N x1 x2 x5 x6 x12 x13 x14 x15 := hr
                    refine AW_cut (σ := Bool) (fun v => ⟨[(0, .inl (ns U32 x1)), (1, .inl (ns U32 x2)), (5, .inr (.inr (.inl (18, 0, (w64 ((x1.2.1 : Int) + (x2.2.1 : Int))).toNat, (w64 ((x1.2.1 : Int) + (x2.2.1 : Int))).toNat)))), (20, .inl (is (I64 x5))), (21, .inl (is (I64 x6))), (6, .inl (is (I64 x6))), (7, .inl (is (U64 x13))), (25, .inl (is (I64 x12))), (26, .inl (is (I64 x14))), (27, .inl (is (Bl v)))], [(18, pb 65 (ar U32 ((w64 ((x1.2.1 : Int) + (x2.2.1 : Int))).toNat) x15 ++ []))]⟩) (fun v => some out26 = F22_11 N x1 x2 x5 x6 x12 x13 x14 x15 v) ?_ ?_
                    · skip
                      refine AW_region ?_
                      refine AL_cons (LR_bin (at_tmp 26 _) (at_tmp 25 _) (lss_I64 x14 x12) rfl) (sS (sA (sT1 rfl) (sT1 rfl)) sB0 sF0) ?_
                      refine AL_nil ?_
                      exact thenN (cutLeaf (v := decide (x14 < x12)) hr (weak0 ((sT rfl (sT rfl (sT rfl (sT rfl (sT rfl (sT rfl (sT rfl (sT rfl (sT rfl (sT rfl sT0))))))))))) (sub_keep sub_nil)))
                    · rintro x16 hr
                      show AW Hfaa.prog _ _ _ ⟨[(0, .inl (ns U32 x1)), (1, .inl (ns U32 x2)), (5, .inr (.inr (.inl (18, 0, (w64 ((x1.2.1 : Int) + (x2.2.1 : Int))).toNat, (w64 ((x1.2.1 : Int) + (x2.2.1 : Int))).toNat)))), (20, .inl (is (I64 x5))), (21, .inl (is (I64 x6))), (6, .inl (is (I64 x6))), (7, .inl (is (U64 x13))), (25, .inl (is (I64 x12))), (26, .inl (is (I64 x14))), (27, .inl (is (Bl x16)))], [(18, pb 65 (ar U32 ((w64 ((x1.2.1 : Int) + (x2.2.1 : Int))).toNat) x15 ++ []))]⟩
                      have hr : some out26 = F22_11 N x1 x2 x5 x6 x12 x13 x14 x15 x16 := hr
                      refine AW_seq1 ?_
                      refine AW_condT (b := x16) rfl (fun h => ?_) (fun h => ?_)
                      · have hr := hr.trans (cond_t h)
                        clear h
                        refine AW_skip ?_
                        refine thenN ?_
                        refine AW_cut (σ := BitVec 64 × (Nat → BitVec 32)) (fun v => ⟨[(0, .inl (ns U32 x1)), (1, .inl (ns U32 x2)), (5, .inr (.inr (.inl (18, 0, (w64 ((x1.2.1 : Int) + (x2.2.1 : Int))).toNat, (w64 ((x1.2.1 : Int) + (x2.2.1 : Int))).toNat)))), (20, .inl (is (I64 x5))), (21, .inl (is (I64 x6))), (6, .inl (is (I64 x6))), (7, .inl (is (U64 v.1))), (25, .inl (is (I64 x12))), (26, .inl (is (I64 x14)))], [(18, pb 65 (ar U32 ((w64 ((x1.2.1 : Int) + (x2.2.1 : Int))).toNat) v.2 ++ []))]⟩) (fun v => some out26 = F22_12 N x1 x2 x5 x6 x12 x14 v.1 v.2) ?_ ?_
                        · skip
                          refine AW_block ?_
                          refine AW_seq1 ?_
                          refine AW_region ?_
                          refine AL_cons (LR_move (at_tmp 26 _) rfl) (sS (sT1 rfl) sB0 sF0) ?_
                          refine AL_cons (LR_assign (at_tmp 28 _) rfl) (sS (sT1 rfl) sB0 sF0) ?_
                          refine AL_nil ?_
                          refine thenN ?_
                          refine AW_cut (σ := BitVec 64) (fun v => ⟨[(0, .inl (ns U32 x1)), (1, .inl (ns U32 x2)), (5, .inr (.inr (.inl (18, 0, (w64 ((x1.2.1 : Int) + (x2.2.1 : Int))).toNat, (w64 ((x1.2.1 : Int) + (x2.2.1 : Int))).toNat)))), (20, .inl (is (I64 x5))), (21, .inl (is (I64 x6))), (6, .inl (is (I64 x6))), (7, .inl (is (U64 v))), (25, .inl (is (I64 x12))), (26, .inl (is (I64 x14))), (8, .inl (is (I64 x14)))], [(18, pb 65 (ar U32 ((w64 ((x1.2.1 : Int) + (x2.2.1 : Int))).toNat) x15 ++ []))]⟩) (fun v => some out26 = F22_13 N x1 x2 x5 x6 x12 x14 x15 v) ?_ ?_
                          · skip
                            obtain ⟨hg1163, hr⟩ := guard_some hr
                            obtain ⟨hg1164, hr⟩ := guard_some hr
                            obtain ⟨hg1165, hr⟩ := guard_some hr
                            refine AW_draw mixed
                              (lrC (LR_move (at_tmp 7 _) rfl)
                              (lrC (LR_move (at_tmp 0 _) rfl)
                              (lrC (LR_move (at_tmp 6 _) rfl)
                              (lrC (LR_indexAddrQ Hfaa.underlying49 sz65 (at_tmp 30 _) (at_tmp 31 _) (dand hg1163) rfl)
                              (lrC (LR_loadQ (at_tmp 32 _) na65 rfl)
                              (lrC (LR_conv (vx := U32 (x1.2.2 x6.toNat)) (at_tmp 33 _) (conv_U64 Hfaa.underlying65 Hfaa.underlying30 ((x1.2.2 x6.toNat).toNat : Int)) rfl)
                              (lrC (LR_move (at_tmp 1 _) rfl)
                              (lrC (LR_move (at_tmp 8 _) rfl)
                              (lrC (LR_indexAddrQ Hfaa.underlying49 sz65 (at_tmp 35 _) (at_tmp 36 _) (dand hg1164) rfl)
                              (lrC (LR_loadQ (at_tmp 37 _) na65 rfl)
                              (lrC (LR_conv (vx := U32 (x2.2.2 x14.toNat)) (at_tmp 38 _) (conv_U64 Hfaa.underlying65 Hfaa.underlying30 ((x2.2.2 x14.toNat).toNat : Int)) rfl)
                              (lrC (LR_bin (at_tmp 34 _) (at_tmp 39 _) (mul_U64 (BitVec.ofInt 64 ((x1.2.2 x6.toNat).toNat : Int)) (BitVec.ofInt 64 ((x2.2.2 x14.toNat).toNat : Int))) rfl)
                              (lrC (LR_move (at_tmp 5 _) rfl)
                              (lrC (LR_move (at_tmp 6 _) rfl)
                              (lrC (LR_move (at_tmp 8 _) rfl)
                              (lrC (LR_bin (at_tmp 42 _) (at_tmp 43 _) (add_I64 x6 x14) rfl)
                              (lrC (LR_indexAddrS (o := (w64 (x6 + x14)).toNat) Hfaa.underlying49 sz65 (at_tmp 41 _) (at_tmp 44 _) (dand hg1165) (by first | rfl | omega) rfl)
                              (lrC (LR_load (at_tmp 45 _) na65 (gA (ltn (dand hg1165))) rfl)
                              (lrC (LR_conv (vx := U32 (x15 ((w64 (x6 + x14)).toNat))) (at_tmp 46 _) (conv_U64 Hfaa.underlying65 Hfaa.underlying30 ((x15 ((w64 (x6 + x14)).toNat)).toNat : Int)) rfl)
                              (lrC (LR_bin (at_tmp 40 _) (at_tmp 47 _) (add_U64 ((BitVec.ofInt 64 ((x1.2.2 x6.toNat).toNat : Int)) * (BitVec.ofInt 64 ((x2.2.2 x14.toNat).toNat : Int))) (BitVec.ofInt 64 ((x15 ((w64 (x6 + x14)).toNat)).toNat : Int))) rfl)
                              (lrC (LR_bin (at_tmp 29 _) (at_tmp 48 _) (add_U64 x13 (((BitVec.ofInt 64 ((x1.2.2 x6.toNat).toNat : Int)) * (BitVec.ofInt 64 ((x2.2.2 x14.toNat).toNat : Int))) + (BitVec.ofInt 64 ((x15 ((w64 (x6 + x14)).toNat)).toNat : Int)))) rfl)
                              (lrC (LR_assign (at_tmp 49 _) rfl)
                              lrN))))))))))))))))))))))
                              (by kernel_rfl)
                              (saC (sS (sT1 rfl) sB0 sF0) (saC (sS (sT1 rfl) sB0 sF0) (saC (sS (sT1 rfl) sB0 sF0) (saC (sS (sA (sT1 rfl) (sT1 rfl)) sB0 sF0) (saC (sS (sT1 rfl) sB0 sF0) (saC (sS (sT1 rfl) sB0 sF0) (saC (sS (sT1 rfl) sB0 sF0) (saC (sS (sT1 rfl) sB0 sF0) (saC (sS (sA (sT1 rfl) (sT1 rfl)) sB0 sF0) (saC (sS (sT1 rfl) sB0 sF0) (saC (sS (sT1 rfl) sB0 sF0) (saC (sS (sA (sT1 rfl) (sT1 rfl)) sB0 sF0) (saC (sS (sT1 rfl) sB0 sF0) (saC (sS (sT1 rfl) sB0 sF0) (saC (sS (sT1 rfl) sB0 sF0) (saC (sS (sA (sT1 rfl) (sT1 rfl)) sB0 sF0) (saC (sS (sA (sT1 rfl) (sT1 rfl)) sB0 sF0) (saC (sS (sT1 rfl) (sB1 rfl) sF0) (saC (sS (sT1 rfl) sB0 sF0) (saC (sS (sA (sT1 rfl) (sT1 rfl)) sB0 sF0) (saC (sS (sA (sT1 rfl) (sT1 rfl)) sB0 sF0) (saC (sS (sT1 rfl) sB0 sF0) saN)))))))))))))))))))))) ?_
                            exact thenN (cutLeaf (v := x13 + (((BitVec.ofInt 64 ((x1.2.2 x6.toNat).toNat : Int)) * (BitVec.ofInt 64 ((x2.2.2 x14.toNat).toNat : Int))) + (BitVec.ofInt 64 ((x15 ((w64 (x6 + x14)).toNat)).toNat : Int)))) hr (weak0 ((sT rfl (sT rfl (sT rfl (sT rfl (sT rfl (sT rfl (sT rfl (sT rfl (sT rfl (sT rfl sT0))))))))))) (sub_keep sub_nil)))
                          · rintro x19 hr
                            show AW Hfaa.prog _ _ _ ⟨[(0, .inl (ns U32 x1)), (1, .inl (ns U32 x2)), (5, .inr (.inr (.inl (18, 0, (w64 ((x1.2.1 : Int) + (x2.2.1 : Int))).toNat, (w64 ((x1.2.1 : Int) + (x2.2.1 : Int))).toNat)))), (20, .inl (is (I64 x5))), (21, .inl (is (I64 x6))), (6, .inl (is (I64 x6))), (7, .inl (is (U64 x19))), (25, .inl (is (I64 x12))), (26, .inl (is (I64 x14))), (8, .inl (is (I64 x14)))], [(18, pb 65 (ar U32 ((w64 ((x1.2.1 : Int) + (x2.2.1 : Int))).toNat) x15 ++ []))]⟩
                            have hr : some out26 = F22_13 N x1 x2 x5 x6 x12 x14 x15 x19 := hr
                            refine AW_cut (σ := (Nat → BitVec 32)) (fun v => ⟨[(0, .inl (ns U32 x1)), (1, .inl (ns U32 x2)), (5, .inr (.inr (.inl (18, 0, (w64 ((x1.2.1 : Int) + (x2.2.1 : Int))).toNat, (w64 ((x1.2.1 : Int) + (x2.2.1 : Int))).toNat)))), (20, .inl (is (I64 x5))), (21, .inl (is (I64 x6))), (6, .inl (is (I64 x6))), (7, .inl (is (U64 x19))), (25, .inl (is (I64 x12))), (26, .inl (is (I64 x14)))], [(18, pb 65 (ar U32 ((w64 ((x1.2.1 : Int) + (x2.2.1 : Int))).toNat) v ++ []))]⟩) (fun v => some out26 = F22_14 N x1 x2 x5 x6 x12 x14 x19 v) ?_ ?_
                            · skip
                              refine AW_region ?_
                              refine AL_cons (LR_move (at_tmp 5 _) rfl) (sS (sT1 rfl) sB0 sF0) ?_
                              refine AL_cons (LR_move (at_tmp 6 _) rfl) (sS (sT1 rfl) sB0 sF0) ?_
                              refine AL_cons (LR_move (at_tmp 8 _) rfl) (sS (sT1 rfl) sB0 sF0) ?_
                              refine AL_cons (LR_bin (at_tmp 51 _) (at_tmp 52 _) (add_I64 x6 x14) rfl) (sS (sA (sT1 rfl) (sT1 rfl)) sB0 sF0) ?_
                              refine AL_cons (LR_move (at_tmp 7 _) rfl) (sS (sT1 rfl) sB0 sF0) ?_
                              refine AL_cons (LR_conv (vx := U64 x19) (at_tmp 54 _) (conv_U32 Hfaa.underlying30 Hfaa.underlying65 (x19.toNat : Int)) rfl) (sS (sT1 rfl) sB0 sF0) ?_
                              obtain ⟨hg1162, hr⟩ := guard_some hr
                              refine AL_cons (LR_indexAddrS (o := (w64 (x6 + x14)).toNat) Hfaa.underlying49 sz65 (at_tmp 50 _) (at_tmp 53 _) (dand hg1162) (by first | rfl | omega) rfl) (sS (sA (sT1 rfl) (sT1 rfl)) sB0 sF0) ?_
                              refine AL_cons (LR_storeA (at_tmp 56 _) (at_tmp 55 _) (cells_one (one_is rfl)) (onC (one_is rfl) onN) sz65 rfl (ble_dyn (lnA ln0) (by have := (ltn (dand hg1162)); omega)) (stA (ltn (dand hg1162)))) (sS (sA (sT1 rfl) (sT1 rfl)) (sB1 rfl) sF0) ?_
                              refine AL_nil ?_
                              exact thenN (cutLeaf (v := upd x15 ((w64 (x6 + x14)).toNat) (BitVec.ofInt 32 (x19.toNat : Int))) hr (weak0 ((sT rfl (sT rfl (sT rfl (sT rfl (sT rfl (sT rfl (sT rfl (sT rfl (sT rfl sT0)))))))))) (sub_keep sub_nil)))
                            · rintro x20 hr
                              show AW Hfaa.prog _ _ _ ⟨[(0, .inl (ns U32 x1)), (1, .inl (ns U32 x2)), (5, .inr (.inr (.inl (18, 0, (w64 ((x1.2.1 : Int) + (x2.2.1 : Int))).toNat, (w64 ((x1.2.1 : Int) + (x2.2.1 : Int))).toNat)))), (20, .inl (is (I64 x5))), (21, .inl (is (I64 x6))), (6, .inl (is (I64 x6))), (7, .inl (is (U64 x19))), (25, .inl (is (I64 x12))), (26, .inl (is (I64 x14)))], [(18, pb 65 (ar U32 ((w64 ((x1.2.1 : Int) + (x2.2.1 : Int))).toNat) x20 ++ []))]⟩
                              have hr : some out26 = F22_14 N x1 x2 x5 x6 x12 x14 x19 x20 := hr
                              refine AW_region ?_
                              refine AL_cons (LR_move (at_tmp 7 _) rfl) (sS (sT1 rfl) sB0 sF0) ?_
                              refine AL_cons (LR_bin (at_tmp 57 _) (at_c (v' := U64 (32#64)) rfl) (shr_U64 x19 ((32#64).toNat : Int) (Int.natCast_nonneg _)) rfl) (sS (sA (sT1 rfl) sT0) sB0 sF0) ?_
                              refine AL_cons (LR_assign (at_tmp 58 _) rfl) (sS (sT1 rfl) sB0 sF0) ?_
                              refine AL_nil ?_
                              refine blN ?_
                              exact thenN (cutLeaf (v := (x19 >>> 32, x20)) hr (weak0 ((sT rfl (sT rfl (sT rfl (sT rfl (sT rfl (sT rfl (sT rfl (sT rfl (sT rfl sT0)))))))))) (sub_keep sub_nil)))
                        · rintro ⟨x17, x18⟩ hr
                          show AW Hfaa.prog _ _ _ ⟨[(0, .inl (ns U32 x1)), (1, .inl (ns U32 x2)), (5, .inr (.inr (.inl (18, 0, (w64 ((x1.2.1 : Int) + (x2.2.1 : Int))).toNat, (w64 ((x1.2.1 : Int) + (x2.2.1 : Int))).toNat)))), (20, .inl (is (I64 x5))), (21, .inl (is (I64 x6))), (6, .inl (is (I64 x6))), (7, .inl (is (U64 x17))), (25, .inl (is (I64 x12))), (26, .inl (is (I64 x14)))], [(18, pb 65 (ar U32 ((w64 ((x1.2.1 : Int) + (x2.2.1 : Int))).toNat) x18 ++ []))]⟩
                          have hr : some out26 = F22_12 N x1 x2 x5 x6 x12 x14 x17 x18 := hr
                          refine AW_region ?_
                          refine AL_cons (LR_bin (at_tmp 26 _) (at_c (v' := I64 1) rfl) (add_I64 x14 1) rfl) (sS (sA (sT1 rfl) sT0) sB0 sF0) ?_
                          refine AL_cons (LR_move (at_tmp 59 _) rfl) (sS (sT1 rfl) sB0 sF0) ?_
                          refine AL_nil ?_
                          exact thenN (loopNext (x' := (x17, w64 (x14 + 1), x18)) hr (weak0 ((sT rfl (sT rfl (sT rfl (sT rfl (sT rfl (sT rfl (sT rfl (sT rfl (sT rfl sT0)))))))))) (sub_keep sub_nil)))
                      · have hr := hr.trans (cond_f h)
                        clear h
                        refine AW_exit ?_
                        refine thenX ?_
                        obtain ⟨r', hro, hr⟩ := map_inr hr
                        refine thenX (loopOut hro (fun he => ?_))
                        rw [he] at hr
                        refine blH ?_
                        exact thenN (cutLeaf (v := (x13, x15)) hr (weak0 ((sT rfl (sT rfl (sT rfl (sT rfl (sT rfl (sT rfl (sT rfl sT0)))))))) (sub_keep sub_nil)))
                · rintro ⟨x10, x11⟩ hr
                  show AW Hfaa.prog _ _ _ ⟨[(0, .inl (ns U32 x1)), (1, .inl (ns U32 x2)), (5, .inr (.inr (.inl (18, 0, (w64 ((x1.2.1 : Int) + (x2.2.1 : Int))).toNat, (w64 ((x1.2.1 : Int) + (x2.2.1 : Int))).toNat)))), (20, .inl (is (I64 x5))), (21, .inl (is (I64 x6))), (6, .inl (is (I64 x6))), (7, .inl (is (U64 x10)))], [(18, pb 65 (ar U32 ((w64 ((x1.2.1 : Int) + (x2.2.1 : Int))).toNat) x11 ++ []))]⟩
                  have hr : some out22 = F22_8 N x1 x2 x5 x6 x10 x11 := hr
                  refine AW_region ?_
                  refine AL_cons (LR_move (at_tmp 5 _) rfl) (sS (sT1 rfl) sB0 sF0) ?_
                  refine AL_cons (LR_move (at_tmp 6 _) rfl) (sS (sT1 rfl) sB0 sF0) ?_
                  refine AL_cons (LR_move (at_tmp 1 _) rfl) (sS (sT1 rfl) sB0 sF0) ?_
                  refine AL_cons (LR_bi1 (at_tmp 62 _) (len_ns Hfaa.underlying49 x2) rfl) (sS (sT1 rfl) sB0 sF0) ?_
                  refine AL_cons (LR_bin (at_tmp 61 _) (at_tmp 63 _) (add_I64 x6 (x2.2.1 : Int)) rfl) (sS (sA (sT1 rfl) (sT1 rfl)) sB0 sF0) ?_
                  refine AL_cons (LR_move (at_tmp 7 _) rfl) (sS (sT1 rfl) sB0 sF0) ?_
                  refine AL_cons (LR_conv (vx := U64 x10) (at_tmp 65 _) (conv_U32 Hfaa.underlying30 Hfaa.underlying65 (x10.toNat : Int)) rfl) (sS (sT1 rfl) sB0 sF0) ?_
                  obtain ⟨hg1117, hr⟩ := guard_some hr
                  refine AL_cons (LR_indexAddrS (o := (w64 (x6 + (x2.2.1 : Int))).toNat) Hfaa.underlying49 sz65 (at_tmp 60 _) (at_tmp 64 _) (dand hg1117) (by first | rfl | omega) rfl) (sS (sA (sT1 rfl) (sT1 rfl)) sB0 sF0) ?_
                  refine AL_cons (LR_storeA (at_tmp 67 _) (at_tmp 66 _) (cells_one (one_is rfl)) (onC (one_is rfl) onN) sz65 rfl (ble_dyn (lnA ln0) (by have := (ltn (dand hg1117)); omega)) (stA (ltn (dand hg1117)))) (sS (sA (sT1 rfl) (sT1 rfl)) (sB1 rfl) sF0) ?_
                  refine AL_nil ?_
                  refine blN ?_
                  exact thenN (cutLeaf (v := upd x11 ((w64 (x6 + (x2.2.1 : Int))).toNat) (BitVec.ofInt 32 (x10.toNat : Int))) hr (weak0 ((sT rfl (sT rfl (sT rfl (sT rfl (sT rfl sT0)))))) (sub_keep sub_nil)))
              · rintro x9 hr
                show AW Hfaa.prog _ _ _ ⟨[(0, .inl (ns U32 x1)), (1, .inl (ns U32 x2)), (5, .inr (.inr (.inl (18, 0, (w64 ((x1.2.1 : Int) + (x2.2.1 : Int))).toNat, (w64 ((x1.2.1 : Int) + (x2.2.1 : Int))).toNat)))), (20, .inl (is (I64 x5))), (21, .inl (is (I64 x6)))], [(18, pb 65 (ar U32 ((w64 ((x1.2.1 : Int) + (x2.2.1 : Int))).toNat) x9 ++ []))]⟩
                have hr : some out22 = F22_7 N x1 x2 x5 x6 x9 := hr
                refine AW_region ?_
                refine AL_cons (LR_bin (at_tmp 21 _) (at_c (v' := I64 1) rfl) (add_I64 x6 1) rfl) (sS (sA (sT1 rfl) sT0) sB0 sF0) ?_
                refine AL_cons (LR_move (at_tmp 68 _) rfl) (sS (sT1 rfl) sB0 sF0) ?_
                refine AL_nil ?_
                exact thenN (loopNext (x' := (w64 (x6 + 1), x9)) hr (weak0 ((sT rfl (sT rfl (sT rfl (sT rfl (sT rfl sT0)))))) (sub_keep sub_nil)))
            · have hr := hr.trans (cond_f h)
              clear h
              refine AW_exit ?_
              refine thenX ?_
              obtain ⟨r', hro, hr⟩ := map_inr hr
              refine thenX (loopOut hro (fun he => ?_))
              rw [he] at hr
              refine blH ?_
              exact thenN (cutLeaf (v := x7) hr (weak0 ((sT rfl sT0)) (sub_keep sub_nil)))
      · rintro x4 hr
        show AW Hfaa.prog _ _ _ ⟨[(5, .inr (.inr (.inl (18, 0, (w64 ((x1.2.1 : Int) + (x2.2.1 : Int))).toNat, (w64 ((x1.2.1 : Int) + (x2.2.1 : Int))).toNat))))], [(18, pb 65 (ar U32 ((w64 ((x1.2.1 : Int) + (x2.2.1 : Int))).toNat) x4 ++ []))]⟩
        have hr : some r = F22_3 N x1 x2 x4 := hr
        refine AW_seq1 ?_
        refine AW_region ?_
        refine AL_cons (LR_move (at_tmp 5 _) rfl) (sS (sT1 rfl) sB0 sF0) ?_
        refine AL_frz U32 18 ⟨[(5, .inl (ns U32 ((false, (w64 ((x1.2.1 : Int) + (x2.2.1 : Int))).toNat, x4)))), (69, .inl (ns U32 ((false, (w64 ((x1.2.1 : Int) + (x2.2.1 : Int))).toNat, x4))))], []⟩ rfl (sub_drop sub_nil) rfl (fzC rfl (Nat.le_refl _) (Nat.le_refl _) (fzC rfl (Nat.le_refl _) (Nat.le_refl _) fz0)) ?_
        obtain ⟨y4, hy4, hr⟩ := bind_some hr
        refine AL_cons (LR_call Hfaa.func33 rfl rfl (C33 N ((false, (w64 ((x1.2.1 : Int) + (x2.2.1 : Int))).toNat, x4)) y4 hy4) (all_cons (at_tmp 69 _) all_nil) rfl) (sS (sA (sT1 rfl) sT0) sB0 sF0) ?_
        refine AL_cons (LR_assign (at_tmp 70 _) rfl) (sS (sT1 rfl) sB0 sF0) ?_
        refine AL_nil ?_
        refine thenN ?_
        refine AW_ret ?_
        obtain rfl := Option.some.inj hr
        exact res1 rfl (rvT rfl)
/-- nat.Pow5 -/
def F55_2 (N : Nat) (x2 : NS (BitVec 32)) : Option (NS (BitVec 32)) := some x2
def F55_5 (N : Nat) (a0 : BitVec 16) (x4 : Int) (x6 : NS (BitVec 32)) : Option ((NS (BitVec 32) × Int) ⊕ (NS (BitVec 32))) := some (.inl ((x6, w64 (x4 - 1))))
def F55_7 (N : Nat) (a0 : BitVec 16) (x4 : Int) (x7 : NS (BitVec 32)) (x8 : Bool) : Option ((NS (BitVec 32) × Int) ⊕ (NS (BitVec 32))) := bif x8 then (F22 N x7 (false, 1, fun _ => 5#32)).bind fun y23 => F55_5 N a0 x4 y23 else F55_5 N a0 x4 x7
def F55_6 (N : Nat) (a0 : BitVec 16) (x4 : Int) (x7 : NS (BitVec 32)) : Option ((NS (BitVec 32) × Int) ⊕ (NS (BitVec 32))) := bif decide (0 ≤ x4) then F55_7 N a0 x4 x7 (((a0 >>> x4.toNat) &&& (1#16)) == (1#16)) else none
def F55_8 (N : Nat) (a0 : BitVec 16) (x3 : NS (BitVec 32)) (x4 : Int) (x9 : Bool) : Option ((NS (BitVec 32) × Int) ⊕ (NS (BitVec 32))) := bif x9 then (F22 N x3 x3).bind fun y24 => F55_6 N a0 x4 y24 else F55_6 N a0 x4 x3
def F55_4 (N : Nat) (a0 : BitVec 16) (x3 : NS (BitVec 32)) (x4 : Int) (x5 : Bool) : Option ((NS (BitVec 32) × Int) ⊕ (NS (BitVec 32))) := bif x5 then bif decide (0 ≤ x4) then F55_8 N a0 x3 x4 ((a0 >>> x4.toNat) != (0#16)) else none else (F55_2 N x3).map Sum.inr
def F55_L3b (N : Nat) (a0 : BitVec 16) (x3 : NS (BitVec 32)) (x4 : Int) : Option ((NS (BitVec 32) × Int) ⊕ (NS (BitVec 32))) := F55_4 N a0 x3 x4 (decide (x4 ≥ 0))
def F55_L3 (N : Nat) (a0 : BitVec 16) : (NS (BitVec 32) × Int) → Option ((NS (BitVec 32) × Int) ⊕ (NS (BitVec 32))) := fun v => F55_L3b N a0 v.1 v.2
def F55_1 (N : Nat) (a0 : BitVec 16) (x1 : NS (BitVec 32)) : Option (NS (BitVec 32)) := iterL (F55_L3 N a0) N (x1, 15)
def F55 (N : Nat) (a0 : BitVec 16) : Option (NS (BitVec 32)) := F55_1 N a0 (false, 1, fun _ => 1#32)
theorem C55 (N : Nat) (a0 : BitVec 16) (r : NS (BitVec 32)) (hr : some r = F55 N a0) : Aw.Fn Hfaa.prog 55 [is (U16 a0)] (ns U32 r) := by
  refine fn_intro Hfaa.func55 rfl rfl rfl ?_
  intro bn0 w0 H0
  refine AW_seq1 ?_
  refine AW_region ?_
  refine AL_cons (LR_assign (at_ns0 (K := U32) (fun _ => 0#32)) rfl) (sS sT0 sB0 sF0) ?_
  refine AL_nil ?_
  refine thenN ?_
  refine AW_cut (σ := NS (BitVec 32)) (fun v => ⟨[(0, .inl (is (U16 a0))), (3, .inl (ns U32 v))], []⟩) (fun v => some r = F55_1 N a0 v) ?_ ?_
  · skip
    refine AW_region ?_
    refine AL_cons (LR_bs1 Hfaa.underlying49 el65 (fun _ => rfl) (at_c (v' := U32 (1#32)) rfl) rfl) (sS sT0 sB0 sF0) ?_
    refine AL_cons (LR_assign (at_tmp 5 _) rfl) (sS (sT1 rfl) sB0 sF0) ?_
    refine AL_nil ?_
    exact thenN (cutLeaf (v := (false, 1, fun _ => 1#32)) hr (weak0 ((sT rfl (sT rfl sT0))) sub_nil))
  · rintro x1 hr
    show AW Hfaa.prog _ _ _ ⟨[(0, .inl (is (U16 a0))), (3, .inl (ns U32 x1))], []⟩
    have hr : some r = F55_1 N a0 x1 := hr
    refine AW_cut (σ := NS (BitVec 32)) (fun v => ⟨[(3, .inl (ns U32 v))], []⟩) (fun v => some r = F55_2 N v) ?_ ?_
    · skip
      refine AW_seq1 ?_
      refine AW_region ?_
      refine AL_cons (LR_assign (at_c (v' := I64 15) rfl) rfl) (sS sT0 sB0 sF0) ?_
      refine AL_nil ?_
      refine thenN ?_
      refine AW_block ?_
      refine AW_iterR (σ := NS (BitVec 32) × Int) (r := r) (x0 := (x1, 15)) (emb := fun v => ⟨[(0, .inl (is (U16 a0))), (3, .inl (ns U32 v.1)), (4, .inl (is (I64 v.2)))], []⟩) ?_ hr ?_
      · exact weak0 ((sT rfl (sT rfl (sT rfl sT0)))) sub_nil
      rintro ⟨x3, x4⟩ out2 hr
      show AW Hfaa.prog _ _ _ ⟨[(0, .inl (is (U16 a0))), (3, .inl (ns U32 x3)), (4, .inl (is (I64 x4)))], []⟩
      have hr : some out2 = F55_L3b N a0 x3 x4 := hr
      refine AW_seq1 ?_
      refine AW_cut (σ := Bool) (fun v => ⟨[(0, .inl (is (U16 a0))), (3, .inl (ns U32 x3)), (4, .inl (is (I64 x4))), (7, .inl (is (Bl v)))], []⟩) (fun v => some out2 = F55_4 N a0 x3 x4 v) ?_ ?_
      · skip
        refine AW_region ?_
        refine AL_cons (LR_move (at_tmp 4 _) rfl) (sS (sT1 rfl) sB0 sF0) ?_
        refine AL_cons (LR_bin (at_tmp 6 _) (at_c (v' := I64 0) rfl) (geq_I64 x4 0) rfl) (sS (sA (sT1 rfl) sT0) sB0 sF0) ?_
        refine AL_nil ?_
        exact thenN (cutLeaf (v := decide (x4 ≥ 0)) hr (weak0 ((sT rfl (sT rfl (sT rfl (sT rfl sT0))))) sub_nil))
      · rintro x5 hr
        show AW Hfaa.prog _ _ _ ⟨[(0, .inl (is (U16 a0))), (3, .inl (ns U32 x3)), (4, .inl (is (I64 x4))), (7, .inl (is (Bl x5)))], []⟩
        have hr : some out2 = F55_4 N a0 x3 x4 x5 := hr
        refine AW_condT (b := x5) rfl (fun h => ?_) (fun h => ?_)
        · have hr := hr.trans (cond_t h)
          clear h
          refine AW_skip ?_
          refine thenN ?_
          refine AW_cut (σ := NS (BitVec 32)) (fun v => ⟨[(0, .inl (is (U16 a0))), (3, .inl (ns U32 v)), (4, .inl (is (I64 x4)))], []⟩) (fun v => some out2 = F55_5 N a0 x4 v) ?_ ?_
          · skip
            refine AW_block ?_
            refine AW_cut (σ := NS (BitVec 32)) (fun v => ⟨[(0, .inl (is (U16 a0))), (3, .inl (ns U32 v)), (4, .inl (is (I64 x4)))], []⟩) (fun v => some out2 = F55_6 N a0 x4 v) ?_ ?_
            · skip
              refine AW_cut (σ := Bool) (fun v => ⟨[(0, .inl (is (U16 a0))), (3, .inl (ns U32 x3)), (4, .inl (is (I64 x4))), (13, .inl (is (Bl v)))], []⟩) (fun v => some out2 = F55_8 N a0 x3 x4 v) ?_ ?_
              · skip
                refine AW_region ?_
                refine AL_cons (LR_move (at_tmp 0 _) rfl) (sS (sT1 rfl) sB0 sF0) ?_
                refine AL_cons (LR_move (at_tmp 4 _) rfl) (sS (sT1 rfl) sB0 sF0) ?_
                obtain ⟨hg48, hr⟩ := guard_some hr
                refine AL_cons (LR_bin (at_tmp 10 _) (at_tmp 11 _) (shr_U16 a0 x4 (of_decide_eq_true hg48)) rfl) (sS (sA (sT1 rfl) (sT1 rfl)) sB0 sF0) ?_
                refine AL_cons (LR_bin (at_tmp 12 _) (at_c (v' := U16 (0#16)) rfl) (neq_U16 (a0 >>> x4.toNat) (0#16)) rfl) (sS (sA (sT1 rfl) sT0) sB0 sF0) ?_
                refine AL_nil ?_
                exact thenN (cutLeaf (v := (a0 >>> x4.toNat) != (0#16)) hr (weak0 ((sT rfl (sT rfl (sT rfl (sT rfl sT0))))) sub_nil))
              · rintro x9 hr
                show AW Hfaa.prog _ _ _ ⟨[(0, .inl (is (U16 a0))), (3, .inl (ns U32 x3)), (4, .inl (is (I64 x4))), (13, .inl (is (Bl x9)))], []⟩
                have hr : some out2 = F55_8 N a0 x3 x4 x9 := hr
                refine AW_condT (b := x9) rfl (fun h => ?_) (fun h => ?_)
                · have hr := hr.trans (cond_t h)
                  clear h
                  refine AW_region ?_
                  refine AL_cons (LR_move (at_tmp 3 _) rfl) (sS (sT1 rfl) sB0 sF0) ?_
                  refine AL_cons (LR_move (at_tmp 3 _) rfl) (sS (sT1 rfl) sB0 sF0) ?_
                  obtain ⟨y24, hy24, hr⟩ := bind_some hr
                  refine AL_cons (LR_call Hfaa.func22 rfl rfl (C22 N x3 x3 y24 hy24) (all_cons (at_tmp 14 _) (all_cons (at_tmp 15 _) all_nil)) rfl) (sS (sA (sT1 rfl) (sA (sT1 rfl) sT0)) sB0 sF0) ?_
                  refine AL_cons (LR_assign (at_tmp 16 _) rfl) (sS (sT1 rfl) sB0 sF0) ?_
                  refine AL_nil ?_
                  exact thenN (cutLeaf (v := y24) hr (weak0 ((sT rfl (sT rfl (sT rfl sT0)))) sub_nil))
                · have hr := hr.trans (cond_f h)
                  clear h
                  refine AW_skip ?_
                  exact thenN (cutLeaf (v := x3) hr (weak0 ((sT rfl (sT rfl (sT rfl sT0)))) sub_nil))
            · rintro x7 hr
              show AW Hfaa.prog _ _ _ ⟨[(0, .inl (is (U16 a0))), (3, .inl (ns U32 x7)), (4, .inl (is (I64 x4)))], []⟩
              have hr : some out2 = F55_6 N a0 x4 x7 := hr
              refine AW_cut (σ := Bool) (fun v => ⟨[(0, .inl (is (U16 a0))), (3, .inl (ns U32 x7)), (4, .inl (is (I64 x4))), (21, .inl (is (Bl v)))], []⟩) (fun v => some out2 = F55_7 N a0 x4 x7 v) ?_ ?_
              · skip
                refine AW_region ?_
                refine AL_cons (LR_move (at_tmp 0 _) rfl) (sS (sT1 rfl) sB0 sF0) ?_
                refine AL_cons (LR_move (at_tmp 4 _) rfl) (sS (sT1 rfl) sB0 sF0) ?_
                obtain ⟨hg46, hr⟩ := guard_some hr
                refine AL_cons (LR_bin (at_tmp 17 _) (at_tmp 18 _) (shr_U16 a0 x4 (of_decide_eq_true hg46)) rfl) (sS (sA (sT1 rfl) (sT1 rfl)) sB0 sF0) ?_
                refine AL_cons (LR_bin (at_tmp 19 _) (at_c (v' := U16 (1#16)) rfl) (and_U16 (a0 >>> x4.toNat) (1#16)) rfl) (sS (sA (sT1 rfl) sT0) sB0 sF0) ?_
                refine AL_cons (LR_bin (at_tmp 20 _) (at_c (v' := U16 (1#16)) rfl) (eql_U16 ((a0 >>> x4.toNat) &&& (1#16)) (1#16)) rfl) (sS (sA (sT1 rfl) sT0) sB0 sF0) ?_
                refine AL_nil ?_
                exact thenN (cutLeaf (v := ((a0 >>> x4.toNat) &&& (1#16)) == (1#16)) hr (weak0 ((sT rfl (sT rfl (sT rfl (sT rfl sT0))))) sub_nil))
              · rintro x8 hr
                show AW Hfaa.prog _ _ _ ⟨[(0, .inl (is (U16 a0))), (3, .inl (ns U32 x7)), (4, .inl (is (I64 x4))), (21, .inl (is (Bl x8)))], []⟩
                have hr : some out2 = F55_7 N a0 x4 x7 x8 := hr
                refine AW_condT (b := x8) rfl (fun h => ?_) (fun h => ?_)
                · have hr := hr.trans (cond_t h)
                  clear h
                  refine AW_region ?_
                  refine AL_cons (LR_move (at_tmp 3 _) rfl) (sS (sT1 rfl) sB0 sF0) ?_
                  refine AL_cons (LR_bs1 Hfaa.underlying49 el65 (fun _ => rfl) (at_c (v' := U32 (5#32)) rfl) rfl) (sS sT0 sB0 sF0) ?_
                  obtain ⟨y23, hy23, hr⟩ := bind_some hr
                  refine AL_cons (LR_call Hfaa.func22 rfl rfl (C22 N x7 (false, 1, fun _ => 5#32) y23 hy23) (all_cons (at_tmp 22 _) (all_cons (at_tmp 23 _) all_nil)) rfl) (sS (sA (sT1 rfl) (sA (sT1 rfl) sT0)) sB0 sF0) ?_
                  refine AL_cons (LR_assign (at_tmp 24 _) rfl) (sS (sT1 rfl) sB0 sF0) ?_
                  refine AL_nil ?_
                  refine blN ?_
                  exact thenN (cutLeaf (v := y23) hr (weak0 ((sT rfl (sT rfl (sT rfl sT0)))) sub_nil))
                · have hr := hr.trans (cond_f h)
                  clear h
                  refine AW_skip ?_
                  refine blN ?_
                  exact thenN (cutLeaf (v := x7) hr (weak0 ((sT rfl (sT rfl (sT rfl sT0)))) sub_nil))
          · rintro x6 hr
            show AW Hfaa.prog _ _ _ ⟨[(0, .inl (is (U16 a0))), (3, .inl (ns U32 x6)), (4, .inl (is (I64 x4)))], []⟩
            have hr : some out2 = F55_5 N a0 x4 x6 := hr
            refine AW_region ?_
            refine AL_cons (LR_move (at_tmp 4 _) rfl) (sS (sT1 rfl) sB0 sF0) ?_
            refine AL_cons (LR_bin (at_tmp 8 _) (at_c (v' := I64 1) rfl) (sub_I64 x4 1) rfl) (sS (sA (sT1 rfl) sT0) sB0 sF0) ?_
            refine AL_cons (LR_assign (at_tmp 9 _) rfl) (sS (sT1 rfl) sB0 sF0) ?_
            refine AL_nil ?_
            exact thenN (loopNext (x' := (x6, w64 (x4 - 1))) hr (weak0 ((sT rfl (sT rfl (sT rfl sT0)))) sub_nil))
        · have hr := hr.trans (cond_f h)
          clear h
          refine AW_exit ?_
          refine thenX ?_
          obtain ⟨r', hro, hr⟩ := map_inr hr
          refine thenX (loopOut hro (fun he => ?_))
          rw [he] at hr
          refine blH ?_
          exact thenN (cutLeaf (v := x3) hr (weak0 ((sT rfl sT0)) sub_nil))
    · rintro x2 hr
      show AW Hfaa.prog _ _ _ ⟨[(3, .inl (ns U32 x2))], []⟩
      have hr : some r = F55_2 N x2 := hr
      refine AW_seq1 ?_
      refine AW_region ?_
      refine AL_cons (LR_move (at_tmp 3 _) rfl) (sS (sT1 rfl) sB0 sF0) ?_
      refine AL_cons (LR_assign (at_tmp 25 _) rfl) (sS (sT1 rfl) sB0 sF0) ?_
      refine AL_nil ?_
      refine thenN ?_
      refine AW_ret ?_
      obtain rfl := Option.some.inj hr
      exact res1 rfl (rvT rfl)
/-- nat.Add -/
def F253_5 (N : Nat) (x3 : NS (BitVec 32)) (x8 : Nat → BitVec 32) : Option (NS (BitVec 32)) := (F33 N ((false, (w64 ((x3.2.1 : Int) + 1)).toNat, x8))).bind fun y4 => some y4
def F253_4 (N : Nat) (x3 : NS (BitVec 32)) (x6 : BitVec 64) (x7 : Nat → BitVec 32) : Option (NS (BitVec 32)) := bif (decide (0 ≤ (x3.2.1 : Int)) && decide ((x3.2.1 : Int) < ((w64 ((x3.2.1 : Int) + 1)).toNat : Int))) then F253_5 N x3 (upd x7 ((x3.2.1 : Int).toNat) (BitVec.ofInt 32 (x6.toNat : Int))) else none
def F253_9 (N : Nat) (x3 : NS (BitVec 32)) (x4 : NS (BitVec 32)) (x9 : Int) (x11 : Int) (x14 : BitVec 64) (x15 : Nat → BitVec 32) : Option ((BitVec 64 × Int × (Nat → BitVec 32)) ⊕ (NS (BitVec 32))) := some (.inl ((x14, w64 (x11 + 1), x15)))
def F253_12 (N : Nat) (x3 : NS (BitVec 32)) (x4 : NS (BitVec 32)) (x9 : Int) (x11 : Int) (x17 : BitVec 64) (x18 : Nat → BitVec 32) : Option ((BitVec 64 × Int × (Nat → BitVec 32)) ⊕ (NS (BitVec 32))) := F253_9 N x3 x4 x9 x11 (x17 >>> 32) x18
def F253_11 (N : Nat) (x3 : NS (BitVec 32)) (x4 : NS (BitVec 32)) (x9 : Int) (x11 : Int) (x12 : Nat → BitVec 32) (x17 : BitVec 64) : Option ((BitVec 64 × Int × (Nat → BitVec 32)) ⊕ (NS (BitVec 32))) := bif (decide (0 ≤ x11) && decide (x11 < ((w64 ((x3.2.1 : Int) + 1)).toNat : Int))) then F253_12 N x3 x4 x9 x11 x17 (upd x12 x11.toNat (BitVec.ofInt 32 (x17.toNat : Int))) else none
def F253_13 (N : Nat) (x3 : NS (BitVec 32)) (x4 : NS (BitVec 32)) (x9 : Int) (x11 : Int) (x12 : Nat → BitVec 32) (x16 : BitVec 64) (x19 : Bool) : Option ((BitVec 64 × Int × (Nat → BitVec 32)) ⊕ (NS (BitVec 32))) := bif x19 then bif (decide (0 ≤ x11) && decide (x11 < (x4.2.1 : Int))) then F253_11 N x3 x4 x9 x11 x12 (x16 + (BitVec.ofInt 64 ((x4.2.2 x11.toNat).toNat : Int))) else none else F253_11 N x3 x4 x9 x11 x12 x16
def F253_10 (N : Nat) (x3 : NS (BitVec 32)) (x4 : NS (BitVec 32)) (x9 : Int) (x11 : Int) (x12 : Nat → BitVec 32) (x16 : BitVec 64) : Option ((BitVec 64 × Int × (Nat → BitVec 32)) ⊕ (NS (BitVec 32))) := F253_13 N x3 x4 x9 x11 x12 x16 (decide (x11 < (x4.2.1 : Int)))
def F253_8 (N : Nat) (x3 : NS (BitVec 32)) (x4 : NS (BitVec 32)) (x9 : Int) (x10 : BitVec 64) (x11 : Int) (x12 : Nat → BitVec 32) (x13 : Bool) : Option ((BitVec 64 × Int × (Nat → BitVec 32)) ⊕ (NS (BitVec 32))) := bif x13 then bif (decide (0 ≤ x11) && decide (x11 < (x3.2.1 : Int))) then F253_10 N x3 x4 x9 x11 x12 (x10 + (BitVec.ofInt 64 ((x3.2.2 x11.toNat).toNat : Int))) else none else (F253_4 N x3 x10 x12).map Sum.inr
def F253_L7b (N : Nat) (x3 : NS (BitVec 32)) (x4 : NS (BitVec 32)) (x9 : Int) (x10 : BitVec 64) (x11 : Int) (x12 : Nat → BitVec 32) : Option ((BitVec 64 × Int × (Nat → BitVec 32)) ⊕ (NS (BitVec 32))) := F253_8 N x3 x4 x9 x10 x11 x12 (decide (x11 < x9))
def F253_L7 (N : Nat) (x3 : NS (BitVec 32)) (x4 : NS (BitVec 32)) (x9 : Int) : (BitVec 64 × Int × (Nat → BitVec 32)) → Option ((BitVec 64 × Int × (Nat → BitVec 32)) ⊕ (NS (BitVec 32))) := fun v => F253_L7b N x3 x4 x9 v.1 v.2.1 v.2.2
def F253_6 (N : Nat) (x3 : NS (BitVec 32)) (x4 : NS (BitVec 32)) (x5 : Nat → BitVec 32) (x9 : Int) : Option (NS (BitVec 32)) := iterL (F253_L7 N x3 x4 x9) N (0#64, 0, x5)
def F253_3 (N : Nat) (x3 : NS (BitVec 32)) (x4 : NS (BitVec 32)) (x5 : Nat → BitVec 32) : Option (NS (BitVec 32)) := F253_6 N x3 x4 x5 (x3.2.1 : Int)
def F253_2 (N : Nat) (x3 : NS (BitVec 32)) (x4 : NS (BitVec 32)) : Option (NS (BitVec 32)) := bif (decide (0 ≤ w64 ((x3.2.1 : Int) + 1)) && decide (w64 ((x3.2.1 : Int) + 1) ≤ 1099511627776)) then F253_3 N x3 x4 (fun _ => 0#32) else none
def F253_14 (N : Nat) (x1 : NS (BitVec 32)) (x2 : NS (BitVec 32)) (x20 : Bool) : Option (NS (BitVec 32)) := bif x20 then F253_2 N x2 x1 else F253_2 N x1 x2
def F253_1 (N : Nat) (x1 : NS (BitVec 32)) (x2 : NS (BitVec 32)) : Option (NS (BitVec 32)) := F253_14 N x1 x2 (decide ((x1.2.1 : Int) < (x2.2.1 : Int)))
def F253 (N : Nat) (a0 : NS (BitVec 32)) (a1 : NS (BitVec 32)) : Option (NS (BitVec 32)) := (F33 N a0).bind fun y5 => (F33 N a1).bind fun y6 => F253_1 N y5 y6
theorem C253 (N : Nat) (a0 : NS (BitVec 32)) (a1 : NS (BitVec 32)) (r : NS (BitVec 32)) (hr : some r = F253 N a0 a1) : Aw.Fn Hfaa.prog 253 [ns U32 a0, ns U32 a1] (ns U32 r) := by
  refine fn_intro Hfaa.func253 rfl rfl rfl ?_
  intro bn0 w0 H0
  refine AW_seq1 ?_
  refine AW_region ?_
  refine AL_cons (LR_assign (at_ns0 (K := U32) (fun _ => 0#32)) rfl) (sS sT0 sB0 sF0) ?_
  refine AL_nil ?_
  refine thenN ?_
  refine AW_cut (σ := NS (BitVec 32) × NS (BitVec 32)) (fun v => ⟨[(0, .inl (ns U32 v.1)), (1, .inl (ns U32 v.2))], []⟩) (fun v => some r = F253_1 N v.1 v.2) ?_ ?_
  · skip
    refine AW_region ?_
    refine AL_cons (LR_move (at_tmp 0 _) rfl) (sS (sT1 rfl) sB0 sF0) ?_
    obtain ⟨y5, hy5, hr⟩ := bind_some hr
    refine AL_cons (LR_call Hfaa.func33 rfl rfl (C33 N a0 y5 hy5) (all_cons (at_tmp 8 _) all_nil) rfl) (sS (sA (sT1 rfl) sT0) sB0 sF0) ?_
    refine AL_cons (LR_move (at_tmp 1 _) rfl) (sS (sT1 rfl) sB0 sF0) ?_
    obtain ⟨y6, hy6, hr⟩ := bind_some hr
    refine AL_cons (LR_call Hfaa.func33 rfl rfl (C33 N a1 y6 hy6) (all_cons (at_tmp 10 _) all_nil) rfl) (sS (sA (sT1 rfl) sT0) sB0 sF0) ?_
    refine AL_cons (LR_assign (at_tmp 9 _) rfl) (sS (sT1 rfl) sB0 sF0) ?_
    refine AL_cons (LR_assign (at_tmp 11 _) rfl) (sS (sT1 rfl) sB0 sF0) ?_
    refine AL_nil ?_
    exact thenN (cutLeaf (v := (y5, y6)) hr (weak0 ((sT rfl (sT rfl sT0))) sub_nil))
  · rintro ⟨x1, x2⟩ hr
    show AW Hfaa.prog _ _ _ ⟨[(0, .inl (ns U32 x1)), (1, .inl (ns U32 x2))], []⟩
    have hr : some r = F253_1 N x1 x2 := hr
    refine AW_cut (σ := NS (BitVec 32) × NS (BitVec 32)) (fun v => ⟨[(0, .inl (ns U32 v.1)), (1, .inl (ns U32 v.2))], []⟩) (fun v => some r = F253_2 N v.1 v.2) ?_ ?_
    · skip
      refine AW_cut (σ := Bool) (fun v => ⟨[(0, .inl (ns U32 x1)), (1, .inl (ns U32 x2)), (16, .inl (is (Bl v)))], []⟩) (fun v => some r = F253_14 N x1 x2 v) ?_ ?_
      · skip
        refine AW_region ?_
        refine AL_cons (LR_move (at_tmp 0 _) rfl) (sS (sT1 rfl) sB0 sF0) ?_
        refine AL_cons (LR_bi1 (at_tmp 12 _) (len_ns Hfaa.underlying49 x1) rfl) (sS (sT1 rfl) sB0 sF0) ?_
        refine AL_cons (LR_move (at_tmp 1 _) rfl) (sS (sT1 rfl) sB0 sF0) ?_
        refine AL_cons (LR_bi1 (at_tmp 14 _) (len_ns Hfaa.underlying49 x2) rfl) (sS (sT1 rfl) sB0 sF0) ?_
        refine AL_cons (LR_bin (at_tmp 13 _) (at_tmp 15 _) (lss_I64 (x1.2.1 : Int) (x2.2.1 : Int)) rfl) (sS (sA (sT1 rfl) (sT1 rfl)) sB0 sF0) ?_
        refine AL_nil ?_
        exact thenN (cutLeaf (v := decide ((x1.2.1 : Int) < (x2.2.1 : Int))) hr (weak0 ((sT rfl (sT rfl (sT rfl sT0)))) sub_nil))
      · rintro x20 hr
        show AW Hfaa.prog _ _ _ ⟨[(0, .inl (ns U32 x1)), (1, .inl (ns U32 x2)), (16, .inl (is (Bl x20)))], []⟩
        have hr : some r = F253_14 N x1 x2 x20 := hr
        refine AW_condT (b := x20) rfl (fun h => ?_) (fun h => ?_)
        · have hr := hr.trans (cond_t h)
          clear h
          refine AW_region ?_
          refine AL_cons (LR_move (at_tmp 1 _) rfl) (sS (sT1 rfl) sB0 sF0) ?_
          refine AL_cons (LR_move (at_tmp 0 _) rfl) (sS (sT1 rfl) sB0 sF0) ?_
          refine AL_cons (LR_assign (at_tmp 17 _) rfl) (sS (sT1 rfl) sB0 sF0) ?_
          refine AL_cons (LR_assign (at_tmp 18 _) rfl) (sS (sT1 rfl) sB0 sF0) ?_
          refine AL_nil ?_
          exact thenN (cutLeaf (v := (x2, x1)) hr (weak0 ((sT rfl (sT rfl sT0))) sub_nil))
        · have hr := hr.trans (cond_f h)
          clear h
          refine AW_skip ?_
          exact thenN (cutLeaf (v := (x1, x2)) hr (weak0 ((sT rfl (sT rfl sT0))) sub_nil))
    · rintro ⟨x3, x4⟩ hr
      show AW Hfaa.prog _ _ _ ⟨[(0, .inl (ns U32 x3)), (1, .inl (ns U32 x4))], []⟩
      have hr : some r = F253_2 N x3 x4 := hr
      refine AW_cut (σ := (Nat → BitVec 32)) (fun v => ⟨[(0, .inl (ns U32 x3)), (1, .inl (ns U32 x4)), (5, .inr (.inr (.inl (22, 0, (w64 ((x3.2.1 : Int) + 1)).toNat, (w64 ((x3.2.1 : Int) + 1)).toNat))))], [(22, pb 65 (ar U32 ((w64 ((x3.2.1 : Int) + 1)).toNat) v ++ []))]⟩) (fun v => some r = F253_3 N x3 x4 v) ?_ ?_
      · skip
        refine AW_region ?_
        refine AL_cons (LR_move (at_tmp 0 _) rfl) (sS (sT1 rfl) sB0 sF0) ?_
        refine AL_cons (LR_bi1 (at_tmp 19 _) (len_ns Hfaa.underlying49 x3) rfl) (sS (sT1 rfl) sB0 sF0) ?_
        refine AL_cons (LR_bin (at_tmp 20 _) (at_c (v' := I64 1) rfl) (add_I64 (x3.2.1 : Int) 1) rfl) (sS (sA (sT1 rfl) sT0) sB0 sF0) ?_
        obtain ⟨hg76, hr⟩ := guard_some hr
        refine AL_cons (LR_makeSlice Hfaa.underlying49 el65 (at_tmp 21 _) (dand hg76) rfl) (sS (sT1 rfl) sB0 (sF1 rfl)) ?_
        refine AL_cons (LR_assign (at_tmp 22 _) rfl) (sS (sT1 rfl) sB0 sF0) ?_
        refine AL_nil ?_
        exact thenN (cutLeaf (v := fun _ => 0#32) hr (weak0 ((sT rfl (sT rfl (sT rfl sT0)))) (sub_keep sub_nil)))
      · rintro x5 hr
        show AW Hfaa.prog _ _ _ ⟨[(0, .inl (ns U32 x3)), (1, .inl (ns U32 x4)), (5, .inr (.inr (.inl (22, 0, (w64 ((x3.2.1 : Int) + 1)).toNat, (w64 ((x3.2.1 : Int) + 1)).toNat))))], [(22, pb 65 (ar U32 ((w64 ((x3.2.1 : Int) + 1)).toNat) x5 ++ []))]⟩
        have hr : some r = F253_3 N x3 x4 x5 := hr
        refine AW_seq1 ?_
        refine AW_region ?_
        refine AL_cons (LR_assign (at_c (v' := U64 (0#64)) rfl) rfl) (sS sT0 sB0 sF0) ?_
        refine AL_nil ?_
        refine thenN ?_
        refine AW_cut (σ := BitVec 64 × (Nat → BitVec 32)) (fun v => ⟨[(0, .inl (ns U32 x3)), (5, .inr (.inr (.inl (22, 0, (w64 ((x3.2.1 : Int) + 1)).toNat, (w64 ((x3.2.1 : Int) + 1)).toNat)))), (6, .inl (is (U64 v.1)))], [(22, pb 65 (ar U32 ((w64 ((x3.2.1 : Int) + 1)).toNat) v.2 ++ []))]⟩) (fun v => some r = F253_4 N x3 v.1 v.2) ?_ ?_
        · skip
          refine AW_cut (σ := Int) (fun v => ⟨[(0, .inl (ns U32 x3)), (1, .inl (ns U32 x4)), (5, .inr (.inr (.inl (22, 0, (w64 ((x3.2.1 : Int) + 1)).toNat, (w64 ((x3.2.1 : Int) + 1)).toNat)))), (6, .inl (is (U64 (0#64)))), (24, .inl (is (I64 v))), (25, .inl (is (I64 0)))], [(22, pb 65 (ar U32 ((w64 ((x3.2.1 : Int) + 1)).toNat) x5 ++ []))]⟩) (fun v => some r = F253_6 N x3 x4 x5 v) ?_ ?_
          · skip
            refine AW_region ?_
            refine AL_cons (LR_move (at_tmp 0 _) rfl) (sS (sT1 rfl) sB0 sF0) ?_
            refine AL_cons (LR_bi1 (at_tmp 23 _) (len_ns Hfaa.underlying49 x3) rfl) (sS (sT1 rfl) sB0 sF0) ?_
            refine AL_cons (LR_move (at_c (v' := I64 0) rfl) rfl) (sS sT0 sB0 sF0) ?_
            refine AL_nil ?_
            exact thenN (cutLeaf (v := (x3.2.1 : Int)) hr (weak0 ((sT rfl (sT rfl (sT rfl (sT rfl (sT rfl (sT rfl sT0))))))) (sub_keep sub_nil)))
          · rintro x9 hr
            show AW Hfaa.prog _ _ _ ⟨[(0, .inl (ns U32 x3)), (1, .inl (ns U32 x4)), (5, .inr (.inr (.inl (22, 0, (w64 ((x3.2.1 : Int) + 1)).toNat, (w64 ((x3.2.1 : Int) + 1)).toNat)))), (6, .inl (is (U64 (0#64)))), (24, .inl (is (I64 x9))), (25, .inl (is (I64 0)))], [(22, pb 65 (ar U32 ((w64 ((x3.2.1 : Int) + 1)).toNat) x5 ++ []))]⟩
            have hr : some r = F253_6 N x3 x4 x5 x9 := hr
            refine AW_block ?_
            refine AW_iterR (σ := BitVec 64 × Int × (Nat → BitVec 32)) (r := r) (x0 := (0#64, 0, x5)) (emb := fun v => ⟨[(0, .inl (ns U32 x3)), (1, .inl (ns U32 x4)), (5, .inr (.inr (.inl (22, 0, (w64 ((x3.2.1 : Int) + 1)).toNat, (w64 ((x3.2.1 : Int) + 1)).toNat)))), (6, .inl (is (U64 v.1))), (24, .inl (is (I64 x9))), (25, .inl (is (I64 v.2.1)))], [(22, pb 65 (ar U32 ((w64 ((x3.2.1 : Int) + 1)).toNat) v.2.2 ++ []))]⟩) ?_ hr ?_
            · exact weak0 ((sT rfl (sT rfl (sT rfl (sT rfl (sT rfl (sT rfl sT0))))))) (sub_keep sub_nil)
            rintro ⟨x10, x11, x12⟩ out2 hr
            show AW Hfaa.prog _ _ _ ⟨[(0, .inl (ns U32 x3)), (1, .inl (ns U32 x4)), (5, .inr (.inr (.inl (22, 0, (w64 ((x3.2.1 : Int) + 1)).toNat, (w64 ((x3.2.1 : Int) + 1)).toNat)))), (6, .inl (is (U64 x10))), (24, .inl (is (I64 x9))), (25, .inl (is (I64 x11)))], [(22, pb 65 (ar U32 ((w64 ((x3.2.1 : Int) + 1)).toNat) x12 ++ []))]⟩
            have hr : some out2 = F253_L7b N x3 x4 x9 x10 x11 x12 := hr
            refine AW_cut (σ := Bool) (fun v => ⟨[(0, .inl (ns U32 x3)), (1, .inl (ns U32 x4)), (5, .inr (.inr (.inl (22, 0, (w64 ((x3.2.1 : Int) + 1)).toNat, (w64 ((x3.2.1 : Int) + 1)).toNat)))), (6, .inl (is (U64 x10))), (24, .inl (is (I64 x9))), (25, .inl (is (I64 x11))), (26, .inl (is (Bl v)))], [(22, pb 65 (ar U32 ((w64 ((x3.2.1 : Int) + 1)).toNat) x12 ++ []))]⟩) (fun v => some out2 = F253_8 N x3 x4 x9 x10 x11 x12 v) ?_ ?_
            · skip
              refine AW_region ?_
              refine AL_cons (LR_bin (at_tmp 25 _) (at_tmp 24 _) (lss_I64 x11 x9) rfl) (sS (sA (sT1 rfl) (sT1 rfl)) sB0 sF0) ?_
              refine AL_nil ?_
              exact thenN (cutLeaf (v := decide (x11 < x9)) hr (weak0 ((sT rfl (sT rfl (sT rfl (sT rfl (sT rfl (sT rfl (sT rfl sT0)))))))) (sub_keep sub_nil)))
            · rintro x13 hr
              show AW Hfaa.prog _ _ _ ⟨[(0, .inl (ns U32 x3)), (1, .inl (ns U32 x4)), (5, .inr (.inr (.inl (22, 0, (w64 ((x3.2.1 : Int) + 1)).toNat, (w64 ((x3.2.1 : Int) + 1)).toNat)))), (6, .inl (is (U64 x10))), (24, .inl (is (I64 x9))), (25, .inl (is (I64 x11))), (26, .inl (is (Bl x13)))], [(22, pb 65 (ar U32 ((w64 ((x3.2.1 : Int) + 1)).toNat) x12 ++ []))]⟩
              have hr : some out2 = F253_8 N x3 x4 x9 x10 x11 x12 x13 := hr
              refine AW_seq1 ?_
              refine AW_condT (b := x13) rfl (fun h => ?_) (fun h => ?_)
              · have hr := hr.trans (cond_t h)
                clear h
                refine AW_skip ?_
                refine thenN ?_
                refine AW_cut (σ := BitVec 64 × (Nat → BitVec 32)) (fun v => ⟨[(0, .inl (ns U32 x3)), (1, .inl (ns U32 x4)), (5, .inr (.inr (.inl (22, 0, (w64 ((x3.2.1 : Int) + 1)).toNat, (w64 ((x3.2.1 : Int) + 1)).toNat)))), (6, .inl (is (U64 v.1))), (24, .inl (is (I64 x9))), (25, .inl (is (I64 x11)))], [(22, pb 65 (ar U32 ((w64 ((x3.2.1 : Int) + 1)).toNat) v.2 ++ []))]⟩) (fun v => some out2 = F253_9 N x3 x4 x9 x11 v.1 v.2) ?_ ?_
                · skip
                  refine AW_block ?_
                  refine AW_seq1 ?_
                  refine AW_region ?_
                  refine AL_cons (LR_move (at_tmp 25 _) rfl) (sS (sT1 rfl) sB0 sF0) ?_
                  refine AL_cons (LR_assign (at_tmp 27 _) rfl) (sS (sT1 rfl) sB0 sF0) ?_
                  refine AL_nil ?_
                  refine thenN ?_
                  refine AW_cut (σ := BitVec 64) (fun v => ⟨[(0, .inl (ns U32 x3)), (1, .inl (ns U32 x4)), (5, .inr (.inr (.inl (22, 0, (w64 ((x3.2.1 : Int) + 1)).toNat, (w64 ((x3.2.1 : Int) + 1)).toNat)))), (6, .inl (is (U64 v))), (24, .inl (is (I64 x9))), (25, .inl (is (I64 x11))), (7, .inl (is (I64 x11)))], [(22, pb 65 (ar U32 ((w64 ((x3.2.1 : Int) + 1)).toNat) x12 ++ []))]⟩) (fun v => some out2 = F253_10 N x3 x4 x9 x11 x12 v) ?_ ?_
                  · skip
                    refine AW_region ?_
                    refine AL_cons (LR_move (at_tmp 6 _) rfl) (sS (sT1 rfl) sB0 sF0) ?_
                    refine AL_cons (LR_move (at_tmp 0 _) rfl) (sS (sT1 rfl) sB0 sF0) ?_
                    refine AL_cons (LR_move (at_tmp 7 _) rfl) (sS (sT1 rfl) sB0 sF0) ?_
                    obtain ⟨hg75, hr⟩ := guard_some hr
                    refine AL_cons (LR_indexAddrQ Hfaa.underlying49 sz65 (at_tmp 29 _) (at_tmp 30 _) (dand hg75) rfl) (sS (sA (sT1 rfl) (sT1 rfl)) sB0 sF0) ?_
                    refine AL_cons (LR_loadQ (at_tmp 31 _) na65 rfl) (sS (sT1 rfl) sB0 sF0) ?_
                    refine AL_cons (LR_conv (vx := U32 (x3.2.2 x11.toNat)) (at_tmp 32 _) (conv_U64 Hfaa.underlying65 Hfaa.underlying30 ((x3.2.2 x11.toNat).toNat : Int)) rfl) (sS (sT1 rfl) sB0 sF0) ?_
                    refine AL_cons (LR_bin (at_tmp 28 _) (at_tmp 33 _) (add_U64 x10 (BitVec.ofInt 64 ((x3.2.2 x11.toNat).toNat : Int))) rfl) (sS (sA (sT1 rfl) (sT1 rfl)) sB0 sF0) ?_
                    refine AL_cons (LR_assign (at_tmp 34 _) rfl) (sS (sT1 rfl) sB0 sF0) ?_
                    refine AL_nil ?_
                    exact thenN (cutLeaf (v := x10 + (BitVec.ofInt 64 ((x3.2.2 x11.toNat).toNat : Int))) hr (weak0 ((sT rfl (sT rfl (sT rfl (sT rfl (sT rfl (sT rfl (sT rfl sT0)))))))) (sub_keep sub_nil)))
                  · rintro x16 hr
                    show AW Hfaa.prog _ _ _ ⟨[(0, .inl (ns U32 x3)), (1, .inl (ns U32 x4)), (5, .inr (.inr (.inl (22, 0, (w64 ((x3.2.1 : Int) + 1)).toNat, (w64 ((x3.2.1 : Int) + 1)).toNat)))), (6, .inl (is (U64 x16))), (24, .inl (is (I64 x9))), (25, .inl (is (I64 x11))), (7, .inl (is (I64 x11)))], [(22, pb 65 (ar U32 ((w64 ((x3.2.1 : Int) + 1)).toNat) x12 ++ []))]⟩
                    have hr : some out2 = F253_10 N x3 x4 x9 x11 x12 x16 := hr
                    refine AW_cut (σ := BitVec 64) (fun v => ⟨[(0, .inl (ns U32 x3)), (1, .inl (ns U32 x4)), (5, .inr (.inr (.inl (22, 0, (w64 ((x3.2.1 : Int) + 1)).toNat, (w64 ((x3.2.1 : Int) + 1)).toNat)))), (6, .inl (is (U64 v))), (24, .inl (is (I64 x9))), (25, .inl (is (I64 x11))), (7, .inl (is (I64 x11)))], [(22, pb 65 (ar U32 ((w64 ((x3.2.1 : Int) + 1)).toNat) x12 ++ []))]⟩) (fun v => some out2 = F253_11 N x3 x4 x9 x11 x12 v) ?_ ?_
                    · skip
                      refine AW_cut (σ := Bool) (fun v => ⟨[(0, .inl (ns U32 x3)), (1, .inl (ns U32 x4)), (5, .inr (.inr (.inl (22, 0, (w64 ((x3.2.1 : Int) + 1)).toNat, (w64 ((x3.2.1 : Int) + 1)).toNat)))), (6, .inl (is (U64 x16))), (24, .inl (is (I64 x9))), (25, .inl (is (I64 x11))), (7, .inl (is (I64 x11))), (38, .inl (is (Bl v)))], [(22, pb 65 (ar U32 ((w64 ((x3.2.1 : Int) + 1)).toNat) x12 ++ []))]⟩) (fun v => some out2 = F253_13 N x3 x4 x9 x11 x12 x16 v) ?_ ?_
                      · skip
                        refine AW_region ?_
                        refine AL_cons (LR_move (at_tmp 7 _) rfl) (sS (sT1 rfl) sB0 sF0) ?_
                        refine AL_cons (LR_move (at_tmp 1 _) rfl) (sS (sT1 rfl) sB0 sF0) ?_
                        refine AL_cons (LR_bi1 (at_tmp 36 _) (len_ns Hfaa.underlying49 x4) rfl) (sS (sT1 rfl) sB0 sF0) ?_
                        refine AL_cons (LR_bin (at_tmp 35 _) (at_tmp 37 _) (lss_I64 x11 (x4.2.1 : Int)) rfl) (sS (sA (sT1 rfl) (sT1 rfl)) sB0 sF0) ?_
                        refine AL_nil ?_
                        exact thenN (cutLeaf (v := decide (x11 < (x4.2.1 : Int))) hr (weak0 ((sT rfl (sT rfl (sT rfl (sT rfl (sT rfl (sT rfl (sT rfl (sT rfl sT0))))))))) (sub_keep sub_nil)))
                      · rintro x19 hr
                        show AW Hfaa.prog _ _ _ ⟨[(0, .inl (ns U32 x3)), (1, .inl (ns U32 x4)), (5, .inr (.inr (.inl (22, 0, (w64 ((x3.2.1 : Int) + 1)).toNat, (w64 ((x3.2.1 : Int) + 1)).toNat)))), (6, .inl (is (U64 x16))), (24, .inl (is (I64 x9))), (25, .inl (is (I64 x11))), (7, .inl (is (I64 x11))), (38, .inl (is (Bl x19)))], [(22, pb 65 (ar U32 ((w64 ((x3.2.1 : Int) + 1)).toNat) x12 ++ []))]⟩
                        have hr : some out2 = F253_13 N x3 x4 x9 x11 x12 x16 x19 := hr
                        refine AW_condT (b := x19) rfl (fun h => ?_) (fun h => ?_)
                        · have hr := hr.trans (cond_t h)
                          clear h
                          refine AW_region ?_
                          refine AL_cons (LR_move (at_tmp 6 _) rfl) (sS (sT1 rfl) sB0 sF0) ?_
                          refine AL_cons (LR_move (at_tmp 1 _) rfl) (sS (sT1 rfl) sB0 sF0) ?_
                          refine AL_cons (LR_move (at_tmp 7 _) rfl) (sS (sT1 rfl) sB0 sF0) ?_
                          obtain ⟨hg74, hr⟩ := guard_some hr
                          refine AL_cons (LR_indexAddrQ Hfaa.underlying49 sz65 (at_tmp 40 _) (at_tmp 41 _) (dand hg74) rfl) (sS (sA (sT1 rfl) (sT1 rfl)) sB0 sF0) ?_
                          refine AL_cons (LR_loadQ (at_tmp 42 _) na65 rfl) (sS (sT1 rfl) sB0 sF0) ?_
                          refine AL_cons (LR_conv (vx := U32 (x4.2.2 x11.toNat)) (at_tmp 43 _) (conv_U64 Hfaa.underlying65 Hfaa.underlying30 ((x4.2.2 x11.toNat).toNat : Int)) rfl) (sS (sT1 rfl) sB0 sF0) ?_
                          refine AL_cons (LR_bin (at_tmp 39 _) (at_tmp 44 _) (add_U64 x16 (BitVec.ofInt 64 ((x4.2.2 x11.toNat).toNat : Int))) rfl) (sS (sA (sT1 rfl) (sT1 rfl)) sB0 sF0) ?_
                          refine AL_cons (LR_assign (at_tmp 45 _) rfl) (sS (sT1 rfl) sB0 sF0) ?_
                          refine AL_nil ?_
                          exact thenN (cutLeaf (v := x16 + (BitVec.ofInt 64 ((x4.2.2 x11.toNat).toNat : Int))) hr (weak0 ((sT rfl (sT rfl (sT rfl (sT rfl (sT rfl (sT rfl (sT rfl sT0)))))))) (sub_keep sub_nil)))
                        · have hr := hr.trans (cond_f h)
                          clear h
                          refine AW_skip ?_
                          exact thenN (cutLeaf (v := x16) hr (weak0 ((sT rfl (sT rfl (sT rfl (sT rfl (sT rfl (sT rfl (sT rfl sT0)))))))) (sub_keep sub_nil)))
                    · rintro x17 hr
                      show AW Hfaa.prog _ _ _ ⟨[(0, .inl (ns U32 x3)), (1, .inl (ns U32 x4)), (5, .inr (.inr (.inl (22, 0, (w64 ((x3.2.1 : Int) + 1)).toNat, (w64 ((x3.2.1 : Int) + 1)).toNat)))), (6, .inl (is (U64 x17))), (24, .inl (is (I64 x9))), (25, .inl (is (I64 x11))), (7, .inl (is (I64 x11)))], [(22, pb 65 (ar U32 ((w64 ((x3.2.1 : Int) + 1)).toNat) x12 ++ []))]⟩
                      have hr : some out2 = F253_11 N x3 x4 x9 x11 x12 x17 := hr
                      refine AW_cut (σ := (Nat → BitVec 32)) (fun v => ⟨[(0, .inl (ns U32 x3)), (1, .inl (ns U32 x4)), (5, .inr (.inr (.inl (22, 0, (w64 ((x3.2.1 : Int) + 1)).toNat, (w64 ((x3.2.1 : Int) + 1)).toNat)))), (6, .inl (is (U64 x17))), (24, .inl (is (I64 x9))), (25, .inl (is (I64 x11)))], [(22, pb 65 (ar U32 ((w64 ((x3.2.1 : Int) + 1)).toNat) v ++ []))]⟩) (fun v => some out2 = F253_12 N x3 x4 x9 x11 x17 v) ?_ ?_
                      · skip
                        refine AW_region ?_
                        refine AL_cons (LR_move (at_tmp 5 _) rfl) (sS (sT1 rfl) sB0 sF0) ?_
                        refine AL_cons (LR_move (at_tmp 7 _) rfl) (sS (sT1 rfl) sB0 sF0) ?_
                        refine AL_cons (LR_move (at_tmp 6 _) rfl) (sS (sT1 rfl) sB0 sF0) ?_
                        refine AL_cons (LR_conv (vx := U64 x17) (at_tmp 48 _) (conv_U32 Hfaa.underlying30 Hfaa.underlying65 (x17.toNat : Int)) rfl) (sS (sT1 rfl) sB0 sF0) ?_
                        obtain ⟨hg73, hr⟩ := guard_some hr
                        refine AL_cons (LR_indexAddrS (o := x11.toNat) Hfaa.underlying49 sz65 (at_tmp 46 _) (at_tmp 47 _) (dand hg73) (by first | rfl | omega) rfl) (sS (sA (sT1 rfl) (sT1 rfl)) sB0 sF0) ?_
                        refine AL_cons (LR_storeA (at_tmp 50 _) (at_tmp 49 _) (cells_one (one_is rfl)) (onC (one_is rfl) onN) sz65 rfl (ble_dyn (lnA ln0) (by have := (ltn (dand hg73)); omega)) (stA (ltn (dand hg73)))) (sS (sA (sT1 rfl) (sT1 rfl)) (sB1 rfl) sF0) ?_
                        refine AL_nil ?_
                        exact thenN (cutLeaf (v := upd x12 x11.toNat (BitVec.ofInt 32 (x17.toNat : Int))) hr (weak0 ((sT rfl (sT rfl (sT rfl (sT rfl (sT rfl (sT rfl sT0))))))) (sub_keep sub_nil)))
                      · rintro x18 hr
                        show AW Hfaa.prog _ _ _ ⟨[(0, .inl (ns U32 x3)), (1, .inl (ns U32 x4)), (5, .inr (.inr (.inl (22, 0, (w64 ((x3.2.1 : Int) + 1)).toNat, (w64 ((x3.2.1 : Int) + 1)).toNat)))), (6, .inl (is (U64 x17))), (24, .inl (is (I64 x9))), (25, .inl (is (I64 x11)))], [(22, pb 65 (ar U32 ((w64 ((x3.2.1 : Int) + 1)).toNat) x18 ++ []))]⟩
                        have hr : some out2 = F253_12 N x3 x4 x9 x11 x17 x18 := hr
                        refine AW_region ?_
                        refine AL_cons (LR_move (at_tmp 6 _) rfl) (sS (sT1 rfl) sB0 sF0) ?_
                        refine AL_cons (LR_bin (at_tmp 51 _) (at_c (v' := U64 (32#64)) rfl) (shr_U64 x17 ((32#64).toNat : Int) (Int.natCast_nonneg _)) rfl) (sS (sA (sT1 rfl) sT0) sB0 sF0) ?_
                        refine AL_cons (LR_assign (at_tmp 52 _) rfl) (sS (sT1 rfl) sB0 sF0) ?_
                        refine AL_nil ?_
                        refine blN ?_
                        exact thenN (cutLeaf (v := (x17 >>> 32, x18)) hr (weak0 ((sT rfl (sT rfl (sT rfl (sT rfl (sT rfl (sT rfl sT0))))))) (sub_keep sub_nil)))
                · rintro ⟨x14, x15⟩ hr
                  show AW Hfaa.prog _ _ _ ⟨[(0, .inl (ns U32 x3)), (1, .inl (ns U32 x4)), (5, .inr (.inr (.inl (22, 0, (w64 ((x3.2.1 : Int) + 1)).toNat, (w64 ((x3.2.1 : Int) + 1)).toNat)))), (6, .inl (is (U64 x14))), (24, .inl (is (I64 x9))), (25, .inl (is (I64 x11)))], [(22, pb 65 (ar U32 ((w64 ((x3.2.1 : Int) + 1)).toNat) x15 ++ []))]⟩
                  have hr : some out2 = F253_9 N x3 x4 x9 x11 x14 x15 := hr
                  refine AW_region ?_
                  refine AL_cons (LR_bin (at_tmp 25 _) (at_c (v' := I64 1) rfl) (add_I64 x11 1) rfl) (sS (sA (sT1 rfl) sT0) sB0 sF0) ?_
                  refine AL_cons (LR_move (at_tmp 53 _) rfl) (sS (sT1 rfl) sB0 sF0) ?_
                  refine AL_nil ?_
                  exact thenN (loopNext (x' := (x14, w64 (x11 + 1), x15)) hr (weak0 ((sT rfl (sT rfl (sT rfl (sT rfl (sT rfl (sT rfl sT0))))))) (sub_keep sub_nil)))
              · have hr := hr.trans (cond_f h)
                clear h
                refine AW_exit ?_
                refine thenX ?_
                obtain ⟨r', hro, hr⟩ := map_inr hr
                refine thenX (loopOut hro (fun he => ?_))
                rw [he] at hr
                refine blH ?_
                exact thenN (cutLeaf (v := (x10, x12)) hr (weak0 ((sT rfl (sT rfl (sT rfl sT0)))) (sub_keep sub_nil)))
        · rintro ⟨x6, x7⟩ hr
          show AW Hfaa.prog _ _ _ ⟨[(0, .inl (ns U32 x3)), (5, .inr (.inr (.inl (22, 0, (w64 ((x3.2.1 : Int) + 1)).toNat, (w64 ((x3.2.1 : Int) + 1)).toNat)))), (6, .inl (is (U64 x6)))], [(22, pb 65 (ar U32 ((w64 ((x3.2.1 : Int) + 1)).toNat) x7 ++ []))]⟩
          have hr : some r = F253_4 N x3 x6 x7 := hr
          refine AW_cut (σ := (Nat → BitVec 32)) (fun v => ⟨[(5, .inr (.inr (.inl (22, 0, (w64 ((x3.2.1 : Int) + 1)).toNat, (w64 ((x3.2.1 : Int) + 1)).toNat))))], [(22, pb 65 (ar U32 ((w64 ((x3.2.1 : Int) + 1)).toNat) v ++ []))]⟩) (fun v => some r = F253_5 N x3 v) ?_ ?_
          · skip
            refine AW_region ?_
            refine AL_cons (LR_move (at_tmp 5 _) rfl) (sS (sT1 rfl) sB0 sF0) ?_
            refine AL_cons (LR_move (at_tmp 0 _) rfl) (sS (sT1 rfl) sB0 sF0) ?_
            refine AL_cons (LR_bi1 (at_tmp 55 _) (len_ns Hfaa.underlying49 x3) rfl) (sS (sT1 rfl) sB0 sF0) ?_
            refine AL_cons (LR_move (at_tmp 6 _) rfl) (sS (sT1 rfl) sB0 sF0) ?_
            refine AL_cons (LR_conv (vx := U64 x6) (at_tmp 57 _) (conv_U32 Hfaa.underlying30 Hfaa.underlying65 (x6.toNat : Int)) rfl) (sS (sT1 rfl) sB0 sF0) ?_
            obtain ⟨hg39, hr⟩ := guard_some hr
            refine AL_cons (LR_indexAddrS (o := (x3.2.1 : Int).toNat) Hfaa.underlying49 sz65 (at_tmp 54 _) (at_tmp 56 _) (dand hg39) (by first | rfl | omega) rfl) (sS (sA (sT1 rfl) (sT1 rfl)) sB0 sF0) ?_
            refine AL_cons (LR_storeA (at_tmp 59 _) (at_tmp 58 _) (cells_one (one_is rfl)) (onC (one_is rfl) onN) sz65 rfl (ble_dyn (lnA ln0) (by have := (ltn (dand hg39)); omega)) (stA (ltn (dand hg39)))) (sS (sA (sT1 rfl) (sT1 rfl)) (sB1 rfl) sF0) ?_
            refine AL_nil ?_
            exact thenN (cutLeaf (v := upd x7 ((x3.2.1 : Int).toNat) (BitVec.ofInt 32 (x6.toNat : Int))) hr (weak0 ((sT rfl sT0)) (sub_keep sub_nil)))
          · rintro x8 hr
            show AW Hfaa.prog _ _ _ ⟨[(5, .inr (.inr (.inl (22, 0, (w64 ((x3.2.1 : Int) + 1)).toNat, (w64 ((x3.2.1 : Int) + 1)).toNat))))], [(22, pb 65 (ar U32 ((w64 ((x3.2.1 : Int) + 1)).toNat) x8 ++ []))]⟩
            have hr : some r = F253_5 N x3 x8 := hr
            refine AW_seq1 ?_
            refine AW_region ?_
            refine AL_cons (LR_move (at_tmp 5 _) rfl) (sS (sT1 rfl) sB0 sF0) ?_
            refine AL_frz U32 22 ⟨[(5, .inl (ns U32 ((false, (w64 ((x3.2.1 : Int) + 1)).toNat, x8)))), (60, .inl (ns U32 ((false, (w64 ((x3.2.1 : Int) + 1)).toNat, x8))))], []⟩ rfl (sub_drop sub_nil) rfl (fzC rfl (Nat.le_refl _) (Nat.le_refl _) (fzC rfl (Nat.le_refl _) (Nat.le_refl _) fz0)) ?_
            obtain ⟨y4, hy4, hr⟩ := bind_some hr
            refine AL_cons (LR_call Hfaa.func33 rfl rfl (C33 N ((false, (w64 ((x3.2.1 : Int) + 1)).toNat, x8)) y4 hy4) (all_cons (at_tmp 60 _) all_nil) rfl) (sS (sA (sT1 rfl) sT0) sB0 sF0) ?_
            refine AL_cons (LR_assign (at_tmp 61 _) rfl) (sS (sT1 rfl) sB0 sF0) ?_
            refine AL_nil ?_
            refine thenN ?_
            refine AW_ret ?_
            obtain rfl := Option.some.inj hr
            exact res1 rfl (rvT rfl)
/-- nat.Sub -/
def F254_4 (N : Nat) (x1 : NS (BitVec 32)) (x5 : Nat → BitVec 32) : Option (NS (BitVec 32) × Bool) := (F33 N ((false, (x1.2.1 : Int).toNat, x5))).bind fun y7 => some (y7, true)
def F254_8 (N : Nat) (x1 : NS (BitVec 32)) (x2 : NS (BitVec 32)) (x6 : Int) (x8 : Int) (x11 : BitVec 64) (x12 : Nat → BitVec 32) : Option ((BitVec 64 × Int × (Nat → BitVec 32)) ⊕ (NS (BitVec 32) × Bool)) := some (.inl ((x11, w64 (x8 + 1), x12)))
def F254_11 (N : Nat) (x1 : NS (BitVec 32)) (x2 : NS (BitVec 32)) (x6 : Int) (x8 : Int) (x14 : BitVec 64) (x15 : Nat → BitVec 32) : Option ((BitVec 64 × Int × (Nat → BitVec 32)) ⊕ (NS (BitVec 32) × Bool)) := F254_8 N x1 x2 x6 x8 (x14 >>> 63) x15
def F254_10 (N : Nat) (x1 : NS (BitVec 32)) (x2 : NS (BitVec 32)) (x6 : Int) (x8 : Int) (x9 : Nat → BitVec 32) (x14 : BitVec 64) : Option ((BitVec 64 × Int × (Nat → BitVec 32)) ⊕ (NS (BitVec 32) × Bool)) := bif (decide (0 ≤ x8) && decide (x8 < ((x1.2.1 : Int).toNat : Int))) then F254_11 N x1 x2 x6 x8 x14 (upd x9 x8.toNat (BitVec.ofInt 32 (x14.toNat : Int))) else none
def F254_12 (N : Nat) (x1 : NS (BitVec 32)) (x2 : NS (BitVec 32)) (x6 : Int) (x8 : Int) (x9 : Nat → BitVec 32) (x13 : BitVec 64) (x16 : Bool) : Option ((BitVec 64 × Int × (Nat → BitVec 32)) ⊕ (NS (BitVec 32) × Bool)) := bif x16 then bif (decide (0 ≤ x8) && decide (x8 < (x2.2.1 : Int))) then F254_10 N x1 x2 x6 x8 x9 (x13 - (BitVec.ofInt 64 ((x2.2.2 x8.toNat).toNat : Int))) else none else F254_10 N x1 x2 x6 x8 x9 x13
def F254_9 (N : Nat) (x1 : NS (BitVec 32)) (x2 : NS (BitVec 32)) (x6 : Int) (x8 : Int) (x9 : Nat → BitVec 32) (x13 : BitVec 64) : Option ((BitVec 64 × Int × (Nat → BitVec 32)) ⊕ (NS (BitVec 32) × Bool)) := F254_12 N x1 x2 x6 x8 x9 x13 (decide (x8 < (x2.2.1 : Int)))
def F254_7 (N : Nat) (x1 : NS (BitVec 32)) (x2 : NS (BitVec 32)) (x6 : Int) (x7 : BitVec 64) (x8 : Int) (x9 : Nat → BitVec 32) (x10 : Bool) : Option ((BitVec 64 × Int × (Nat → BitVec 32)) ⊕ (NS (BitVec 32) × Bool)) := bif x10 then bif (decide (0 ≤ x8) && decide (x8 < (x1.2.1 : Int))) then F254_9 N x1 x2 x6 x8 x9 ((BitVec.ofInt 64 ((x1.2.2 x8.toNat).toNat : Int)) - x7) else none else (F254_4 N x1 x9).map Sum.inr
def F254_L6b (N : Nat) (x1 : NS (BitVec 32)) (x2 : NS (BitVec 32)) (x6 : Int) (x7 : BitVec 64) (x8 : Int) (x9 : Nat → BitVec 32) : Option ((BitVec 64 × Int × (Nat → BitVec 32)) ⊕ (NS (BitVec 32) × Bool)) := F254_7 N x1 x2 x6 x7 x8 x9 (decide (x8 < x6))
def F254_L6 (N : Nat) (x1 : NS (BitVec 32)) (x2 : NS (BitVec 32)) (x6 : Int) : (BitVec 64 × Int × (Nat → BitVec 32)) → Option ((BitVec 64 × Int × (Nat → BitVec 32)) ⊕ (NS (BitVec 32) × Bool)) := fun v => F254_L6b N x1 x2 x6 v.1 v.2.1 v.2.2
def F254_5 (N : Nat) (x1 : NS (BitVec 32)) (x2 : NS (BitVec 32)) (x4 : Nat → BitVec 32) (x6 : Int) : Option (NS (BitVec 32) × Bool) := iterL (F254_L6 N x1 x2 x6) N (0#64, 0, x4)
def F254_3 (N : Nat) (x1 : NS (BitVec 32)) (x2 : NS (BitVec 32)) (x4 : Nat → BitVec 32) : Option (NS (BitVec 32) × Bool) := F254_5 N x1 x2 x4 (x1.2.1 : Int)
def F254_2 (N : Nat) (x1 : NS (BitVec 32)) (x2 : NS (BitVec 32)) (x3 : Bool) : Option (NS (BitVec 32) × Bool) := bif x3 then some (((true, 0, fun _ => 0#32), false)) else bif (decide (0 ≤ (x1.2.1 : Int)) && decide ((x1.2.1 : Int) ≤ 1099511627776)) then F254_3 N x1 x2 (fun _ => 0#32) else none
def F254_1 (N : Nat) (x1 : NS (BitVec 32)) (x2 : NS (BitVec 32)) : Option (NS (BitVec 32) × Bool) := (F60 N x1 x2).bind fun y8 => F254_2 N x1 x2 (decide (y8 < 0))
def F254 (N : Nat) (a0 : NS (BitVec 32)) (a1 : NS (BitVec 32)) : Option (NS (BitVec 32) × Bool) := (F33 N a0).bind fun y9 => (F33 N a1).bind fun y10 => F254_1 N y9 y10
theorem C254 (N : Nat) (a0 : NS (BitVec 32)) (a1 : NS (BitVec 32)) (r : NS (BitVec 32) × Bool) (hr : some r = F254 N a0 a1) : Aw.Fn Hfaa.prog 254 [ns U32 a0, ns U32 a1] (tup [ns U32 r.1, is (Bl r.2)]) := by
  refine fn_intro Hfaa.func254 rfl rfl rfl ?_
  intro bn0 w0 H0
  refine AW_seq1 ?_
  refine AW_region ?_
  refine AL_cons (LR_assign (at_ns0 (K := U32) (fun _ => 0#32)) rfl) (sS sT0 sB0 sF0) ?_
  refine AL_cons (LR_assign (at_c (v' := Bl false) rfl) rfl) (sS sT0 sB0 sF0) ?_
  refine AL_nil ?_
  refine thenN ?_
  refine AW_cut (σ := NS (BitVec 32) × NS (BitVec 32)) (fun v => ⟨[(0, .inl (ns U32 v.1)), (1, .inl (ns U32 v.2))], []⟩) (fun v => some r = F254_1 N v.1 v.2) ?_ ?_
  · skip
    refine AW_region ?_
    refine AL_cons (LR_move (at_tmp 0 _) rfl) (sS (sT1 rfl) sB0 sF0) ?_
    obtain ⟨y9, hy9, hr⟩ := bind_some hr
    refine AL_cons (LR_call Hfaa.func33 rfl rfl (C33 N a0 y9 hy9) (all_cons (at_tmp 10 _) all_nil) rfl) (sS (sA (sT1 rfl) sT0) sB0 sF0) ?_
    refine AL_cons (LR_move (at_tmp 1 _) rfl) (sS (sT1 rfl) sB0 sF0) ?_
    obtain ⟨y10, hy10, hr⟩ := bind_some hr
    refine AL_cons (LR_call Hfaa.func33 rfl rfl (C33 N a1 y10 hy10) (all_cons (at_tmp 12 _) all_nil) rfl) (sS (sA (sT1 rfl) sT0) sB0 sF0) ?_
    refine AL_cons (LR_assign (at_tmp 11 _) rfl) (sS (sT1 rfl) sB0 sF0) ?_
    refine AL_cons (LR_assign (at_tmp 13 _) rfl) (sS (sT1 rfl) sB0 sF0) ?_
    refine AL_nil ?_
    exact thenN (cutLeaf (v := (y9, y10)) hr (weak0 ((sT rfl (sT rfl sT0))) sub_nil))
  · rintro ⟨x1, x2⟩ hr
    show AW Hfaa.prog _ _ _ ⟨[(0, .inl (ns U32 x1)), (1, .inl (ns U32 x2))], []⟩
    have hr : some r = F254_1 N x1 x2 := hr
    refine AW_seq1 ?_
    refine AW_cut (σ := Bool) (fun v => ⟨[(0, .inl (ns U32 x1)), (1, .inl (ns U32 x2)), (17, .inl (is (Bl v)))], []⟩) (fun v => some r = F254_2 N x1 x2 v) ?_ ?_
    · skip
      refine AW_region ?_
      refine AL_cons (LR_move (at_tmp 0 _) rfl) (sS (sT1 rfl) sB0 sF0) ?_
      refine AL_cons (LR_move (at_tmp 1 _) rfl) (sS (sT1 rfl) sB0 sF0) ?_
      obtain ⟨y8, hy8, hr⟩ := bind_some hr
      refine AL_cons (LR_call Hfaa.func60 rfl rfl (C60 N x1 x2 y8 hy8) (all_cons (at_tmp 14 _) (all_cons (at_tmp 15 _) all_nil)) rfl) (sS (sA (sT1 rfl) (sA (sT1 rfl) sT0)) sB0 sF0) ?_
      refine AL_cons (LR_bin (at_tmp 16 _) (at_c (v' := I8 0) rfl) (lss_I8 y8 0) rfl) (sS (sA (sT1 rfl) sT0) sB0 sF0) ?_
      refine AL_nil ?_
      exact thenN (cutLeaf (v := decide (y8 < 0)) hr (weak0 ((sT rfl (sT rfl (sT rfl sT0)))) sub_nil))
    · rintro x3 hr
      show AW Hfaa.prog _ _ _ ⟨[(0, .inl (ns U32 x1)), (1, .inl (ns U32 x2)), (17, .inl (is (Bl x3)))], []⟩
      have hr : some r = F254_2 N x1 x2 x3 := hr
      refine AW_condT (b := x3) rfl (fun h => ?_) (fun h => ?_)
      · have hr := hr.trans (cond_t h)
        clear h
        refine AW_seq1 ?_
        refine AW_region ?_
        refine AL_cons (LR_assign (at_ns0 (K := U32) (fun _ => 0#32)) rfl) (sS sT0 sB0 sF0) ?_
        refine AL_cons (LR_assign (at_c (v' := Bl false) rfl) rfl) (sS sT0 sB0 sF0) ?_
        refine AL_nil ?_
        refine thenN ?_
        refine AW_ret ?_
        refine thenR ?_
        obtain rfl := Option.some.inj hr
        exact res2 rfl (rvT rfl) (rvT rfl)
      · have hr := hr.trans (cond_f h)
        clear h
        refine AW_skip ?_
        refine thenN ?_
        refine AW_cut (σ := (Nat → BitVec 32)) (fun v => ⟨[(0, .inl (ns U32 x1)), (1, .inl (ns U32 x2)), (6, .inr (.inr (.inl (20, 0, (x1.2.1 : Int).toNat, (x1.2.1 : Int).toNat))))], [(20, pb 65 (ar U32 ((x1.2.1 : Int).toNat) v ++ []))]⟩) (fun v => some r = F254_3 N x1 x2 v) ?_ ?_
        · skip
          refine AW_region ?_
          refine AL_cons (LR_move (at_tmp 0 _) rfl) (sS (sT1 rfl) sB0 sF0) ?_
          refine AL_cons (LR_bi1 (at_tmp 18 _) (len_ns Hfaa.underlying49 x1) rfl) (sS (sT1 rfl) sB0 sF0) ?_
          obtain ⟨hg74, hr⟩ := guard_some hr
          refine AL_cons (LR_makeSlice Hfaa.underlying49 el65 (at_tmp 19 _) (dand hg74) rfl) (sS (sT1 rfl) sB0 (sF1 rfl)) ?_
          refine AL_cons (LR_assign (at_tmp 20 _) rfl) (sS (sT1 rfl) sB0 sF0) ?_
          refine AL_nil ?_
          exact thenN (cutLeaf (v := fun _ => 0#32) hr (weak0 ((sT rfl (sT rfl (sT rfl sT0)))) (sub_keep sub_nil)))
        · rintro x4 hr
          show AW Hfaa.prog _ _ _ ⟨[(0, .inl (ns U32 x1)), (1, .inl (ns U32 x2)), (6, .inr (.inr (.inl (20, 0, (x1.2.1 : Int).toNat, (x1.2.1 : Int).toNat))))], [(20, pb 65 (ar U32 ((x1.2.1 : Int).toNat) x4 ++ []))]⟩
          have hr : some r = F254_3 N x1 x2 x4 := hr
          refine AW_seq1 ?_
          refine AW_region ?_
          refine AL_cons (LR_assign (at_c (v' := U64 (0#64)) rfl) rfl) (sS sT0 sB0 sF0) ?_
          refine AL_nil ?_
          refine thenN ?_
          refine AW_cut (σ := (Nat → BitVec 32)) (fun v => ⟨[(6, .inr (.inr (.inl (20, 0, (x1.2.1 : Int).toNat, (x1.2.1 : Int).toNat))))], [(20, pb 65 (ar U32 ((x1.2.1 : Int).toNat) v ++ []))]⟩) (fun v => some r = F254_4 N x1 v) ?_ ?_
          · skip
            refine AW_cut (σ := Int) (fun v => ⟨[(0, .inl (ns U32 x1)), (1, .inl (ns U32 x2)), (6, .inr (.inr (.inl (20, 0, (x1.2.1 : Int).toNat, (x1.2.1 : Int).toNat)))), (7, .inl (is (U64 (0#64)))), (22, .inl (is (I64 v))), (23, .inl (is (I64 0)))], [(20, pb 65 (ar U32 ((x1.2.1 : Int).toNat) x4 ++ []))]⟩) (fun v => some r = F254_5 N x1 x2 x4 v) ?_ ?_
            · skip
              refine AW_region ?_
              refine AL_cons (LR_move (at_tmp 0 _) rfl) (sS (sT1 rfl) sB0 sF0) ?_
              refine AL_cons (LR_bi1 (at_tmp 21 _) (len_ns Hfaa.underlying49 x1) rfl) (sS (sT1 rfl) sB0 sF0) ?_
              refine AL_cons (LR_move (at_c (v' := I64 0) rfl) rfl) (sS sT0 sB0 sF0) ?_
              refine AL_nil ?_
              exact thenN (cutLeaf (v := (x1.2.1 : Int)) hr (weak0 ((sT rfl (sT rfl (sT rfl (sT rfl (sT rfl (sT rfl sT0))))))) (sub_keep sub_nil)))
            · rintro x6 hr
              show AW Hfaa.prog _ _ _ ⟨[(0, .inl (ns U32 x1)), (1, .inl (ns U32 x2)), (6, .inr (.inr (.inl (20, 0, (x1.2.1 : Int).toNat, (x1.2.1 : Int).toNat)))), (7, .inl (is (U64 (0#64)))), (22, .inl (is (I64 x6))), (23, .inl (is (I64 0)))], [(20, pb 65 (ar U32 ((x1.2.1 : Int).toNat) x4 ++ []))]⟩
              have hr : some r = F254_5 N x1 x2 x4 x6 := hr
              refine AW_block ?_
              refine AW_iterR (σ := BitVec 64 × Int × (Nat → BitVec 32)) (r := r) (x0 := (0#64, 0, x4)) (emb := fun v => ⟨[(0, .inl (ns U32 x1)), (1, .inl (ns U32 x2)), (6, .inr (.inr (.inl (20, 0, (x1.2.1 : Int).toNat, (x1.2.1 : Int).toNat)))), (7, .inl (is (U64 v.1))), (22, .inl (is (I64 x6))), (23, .inl (is (I64 v.2.1)))], [(20, pb 65 (ar U32 ((x1.2.1 : Int).toNat) v.2.2 ++ []))]⟩) ?_ hr ?_
              · exact weak0 ((sT rfl (sT rfl (sT rfl (sT rfl (sT rfl (sT rfl sT0))))))) (sub_keep sub_nil)
              rintro ⟨x7, x8, x9⟩ out2 hr
              show AW Hfaa.prog _ _ _ ⟨[(0, .inl (ns U32 x1)), (1, .inl (ns U32 x2)), (6, .inr (.inr (.inl (20, 0, (x1.2.1 : Int).toNat, (x1.2.1 : Int).toNat)))), (7, .inl (is (U64 x7))), (22, .inl (is (I64 x6))), (23, .inl (is (I64 x8)))], [(20, pb 65 (ar U32 ((x1.2.1 : Int).toNat) x9 ++ []))]⟩
              have hr : some out2 = F254_L6b N x1 x2 x6 x7 x8 x9 := hr
              refine AW_cut (σ := Bool) (fun v => ⟨[(0, .inl (ns U32 x1)), (1, .inl (ns U32 x2)), (6, .inr (.inr (.inl (20, 0, (x1.2.1 : Int).toNat, (x1.2.1 : Int).toNat)))), (7, .inl (is (U64 x7))), (22, .inl (is (I64 x6))), (23, .inl (is (I64 x8))), (24, .inl (is (Bl v)))], [(20, pb 65 (ar U32 ((x1.2.1 : Int).toNat) x9 ++ []))]⟩) (fun v => some out2 = F254_7 N x1 x2 x6 x7 x8 x9 v) ?_ ?_
              · skip
                refine AW_region ?_
                refine AL_cons (LR_bin (at_tmp 23 _) (at_tmp 22 _) (lss_I64 x8 x6) rfl) (sS (sA (sT1 rfl) (sT1 rfl)) sB0 sF0) ?_
                refine AL_nil ?_
                exact thenN (cutLeaf (v := decide (x8 < x6)) hr (weak0 ((sT rfl (sT rfl (sT rfl (sT rfl (sT rfl (sT rfl (sT rfl sT0)))))))) (sub_keep sub_nil)))
              · rintro x10 hr
                show AW Hfaa.prog _ _ _ ⟨[(0, .inl (ns U32 x1)), (1, .inl (ns U32 x2)), (6, .inr (.inr (.inl (20, 0, (x1.2.1 : Int).toNat, (x1.2.1 : Int).toNat)))), (7, .inl (is (U64 x7))), (22, .inl (is (I64 x6))), (23, .inl (is (I64 x8))), (24, .inl (is (Bl x10)))], [(20, pb 65 (ar U32 ((x1.2.1 : Int).toNat) x9 ++ []))]⟩
                have hr : some out2 = F254_7 N x1 x2 x6 x7 x8 x9 x10 := hr
                refine AW_seq1 ?_
                refine AW_condT (b := x10) rfl (fun h => ?_) (fun h => ?_)
                · have hr := hr.trans (cond_t h)
                  clear h
                  refine AW_skip ?_
                  refine thenN ?_
                  refine AW_cut (σ := BitVec 64 × (Nat → BitVec 32)) (fun v => ⟨[(0, .inl (ns U32 x1)), (1, .inl (ns U32 x2)), (6, .inr (.inr (.inl (20, 0, (x1.2.1 : Int).toNat, (x1.2.1 : Int).toNat)))), (22, .inl (is (I64 x6))), (23, .inl (is (I64 x8))), (7, .inl (is (U64 v.1)))], [(20, pb 65 (ar U32 ((x1.2.1 : Int).toNat) v.2 ++ []))]⟩) (fun v => some out2 = F254_8 N x1 x2 x6 x8 v.1 v.2) ?_ ?_
                  · skip
                    refine AW_block ?_
                    refine AW_seq1 ?_
                    refine AW_region ?_
                    refine AL_cons (LR_move (at_tmp 23 _) rfl) (sS (sT1 rfl) sB0 sF0) ?_
                    refine AL_cons (LR_assign (at_tmp 25 _) rfl) (sS (sT1 rfl) sB0 sF0) ?_
                    refine AL_nil ?_
                    refine thenN ?_
                    refine AW_cut (σ := BitVec 64) (fun v => ⟨[(0, .inl (ns U32 x1)), (1, .inl (ns U32 x2)), (6, .inr (.inr (.inl (20, 0, (x1.2.1 : Int).toNat, (x1.2.1 : Int).toNat)))), (22, .inl (is (I64 x6))), (23, .inl (is (I64 x8))), (8, .inl (is (I64 x8))), (9, .inl (is (U64 v)))], [(20, pb 65 (ar U32 ((x1.2.1 : Int).toNat) x9 ++ []))]⟩) (fun v => some out2 = F254_9 N x1 x2 x6 x8 x9 v) ?_ ?_
                    · skip
                      refine AW_region ?_
                      refine AL_cons (LR_move (at_tmp 0 _) rfl) (sS (sT1 rfl) sB0 sF0) ?_
                      refine AL_cons (LR_move (at_tmp 8 _) rfl) (sS (sT1 rfl) sB0 sF0) ?_
                      obtain ⟨hg73, hr⟩ := guard_some hr
                      refine AL_cons (LR_indexAddrQ Hfaa.underlying49 sz65 (at_tmp 26 _) (at_tmp 27 _) (dand hg73) rfl) (sS (sA (sT1 rfl) (sT1 rfl)) sB0 sF0) ?_
                      refine AL_cons (LR_loadQ (at_tmp 28 _) na65 rfl) (sS (sT1 rfl) sB0 sF0) ?_
                      refine AL_cons (LR_conv (vx := U32 (x1.2.2 x8.toNat)) (at_tmp 29 _) (conv_U64 Hfaa.underlying65 Hfaa.underlying30 ((x1.2.2 x8.toNat).toNat : Int)) rfl) (sS (sT1 rfl) sB0 sF0) ?_
                      refine AL_cons (LR_move (at_tmp 7 _) rfl) (sS (sT1 rfl) sB0 sF0) ?_
                      refine AL_cons (LR_bin (at_tmp 30 _) (at_tmp 31 _) (sub_U64 (BitVec.ofInt 64 ((x1.2.2 x8.toNat).toNat : Int)) x7) rfl) (sS (sA (sT1 rfl) (sT1 rfl)) sB0 sF0) ?_
                      refine AL_cons (LR_assign (at_tmp 32 _) rfl) (sS (sT1 rfl) sB0 sF0) ?_
                      refine AL_nil ?_
                      exact thenN (cutLeaf (v := (BitVec.ofInt 64 ((x1.2.2 x8.toNat).toNat : Int)) - x7) hr (weak0 ((sT rfl (sT rfl (sT rfl (sT rfl (sT rfl (sT rfl (sT rfl sT0)))))))) (sub_keep sub_nil)))
                    · rintro x13 hr
                      show AW Hfaa.prog _ _ _ ⟨[(0, .inl (ns U32 x1)), (1, .inl (ns U32 x2)), (6, .inr (.inr (.inl (20, 0, (x1.2.1 : Int).toNat, (x1.2.1 : Int).toNat)))), (22, .inl (is (I64 x6))), (23, .inl (is (I64 x8))), (8, .inl (is (I64 x8))), (9, .inl (is (U64 x13)))], [(20, pb 65 (ar U32 ((x1.2.1 : Int).toNat) x9 ++ []))]⟩
                      have hr : some out2 = F254_9 N x1 x2 x6 x8 x9 x13 := hr
                      refine AW_cut (σ := BitVec 64) (fun v => ⟨[(0, .inl (ns U32 x1)), (1, .inl (ns U32 x2)), (6, .inr (.inr (.inl (20, 0, (x1.2.1 : Int).toNat, (x1.2.1 : Int).toNat)))), (22, .inl (is (I64 x6))), (23, .inl (is (I64 x8))), (8, .inl (is (I64 x8))), (9, .inl (is (U64 v)))], [(20, pb 65 (ar U32 ((x1.2.1 : Int).toNat) x9 ++ []))]⟩) (fun v => some out2 = F254_10 N x1 x2 x6 x8 x9 v) ?_ ?_
                      · skip
                        refine AW_cut (σ := Bool) (fun v => ⟨[(0, .inl (ns U32 x1)), (1, .inl (ns U32 x2)), (6, .inr (.inr (.inl (20, 0, (x1.2.1 : Int).toNat, (x1.2.1 : Int).toNat)))), (22, .inl (is (I64 x6))), (23, .inl (is (I64 x8))), (8, .inl (is (I64 x8))), (9, .inl (is (U64 x13))), (36, .inl (is (Bl v)))], [(20, pb 65 (ar U32 ((x1.2.1 : Int).toNat) x9 ++ []))]⟩) (fun v => some out2 = F254_12 N x1 x2 x6 x8 x9 x13 v) ?_ ?_
                        · skip
                          refine AW_region ?_
                          refine AL_cons (LR_move (at_tmp 8 _) rfl) (sS (sT1 rfl) sB0 sF0) ?_
                          refine AL_cons (LR_move (at_tmp 1 _) rfl) (sS (sT1 rfl) sB0 sF0) ?_
                          refine AL_cons (LR_bi1 (at_tmp 34 _) (len_ns Hfaa.underlying49 x2) rfl) (sS (sT1 rfl) sB0 sF0) ?_
                          refine AL_cons (LR_bin (at_tmp 33 _) (at_tmp 35 _) (lss_I64 x8 (x2.2.1 : Int)) rfl) (sS (sA (sT1 rfl) (sT1 rfl)) sB0 sF0) ?_
                          refine AL_nil ?_
                          exact thenN (cutLeaf (v := decide (x8 < (x2.2.1 : Int))) hr (weak0 ((sT rfl (sT rfl (sT rfl (sT rfl (sT rfl (sT rfl (sT rfl (sT rfl sT0))))))))) (sub_keep sub_nil)))
                        · rintro x16 hr
                          show AW Hfaa.prog _ _ _ ⟨[(0, .inl (ns U32 x1)), (1, .inl (ns U32 x2)), (6, .inr (.inr (.inl (20, 0, (x1.2.1 : Int).toNat, (x1.2.1 : Int).toNat)))), (22, .inl (is (I64 x6))), (23, .inl (is (I64 x8))), (8, .inl (is (I64 x8))), (9, .inl (is (U64 x13))), (36, .inl (is (Bl x16)))], [(20, pb 65 (ar U32 ((x1.2.1 : Int).toNat) x9 ++ []))]⟩
                          have hr : some out2 = F254_12 N x1 x2 x6 x8 x9 x13 x16 := hr
                          refine AW_condT (b := x16) rfl (fun h => ?_) (fun h => ?_)
                          · have hr := hr.trans (cond_t h)
                            clear h
                            refine AW_region ?_
                            refine AL_cons (LR_move (at_tmp 9 _) rfl) (sS (sT1 rfl) sB0 sF0) ?_
                            refine AL_cons (LR_move (at_tmp 1 _) rfl) (sS (sT1 rfl) sB0 sF0) ?_
                            refine AL_cons (LR_move (at_tmp 8 _) rfl) (sS (sT1 rfl) sB0 sF0) ?_
                            obtain ⟨hg72, hr⟩ := guard_some hr
                            refine AL_cons (LR_indexAddrQ Hfaa.underlying49 sz65 (at_tmp 38 _) (at_tmp 39 _) (dand hg72) rfl) (sS (sA (sT1 rfl) (sT1 rfl)) sB0 sF0) ?_
                            refine AL_cons (LR_loadQ (at_tmp 40 _) na65 rfl) (sS (sT1 rfl) sB0 sF0) ?_
                            refine AL_cons (LR_conv (vx := U32 (x2.2.2 x8.toNat)) (at_tmp 41 _) (conv_U64 Hfaa.underlying65 Hfaa.underlying30 ((x2.2.2 x8.toNat).toNat : Int)) rfl) (sS (sT1 rfl) sB0 sF0) ?_
                            refine AL_cons (LR_bin (at_tmp 37 _) (at_tmp 42 _) (sub_U64 x13 (BitVec.ofInt 64 ((x2.2.2 x8.toNat).toNat : Int))) rfl) (sS (sA (sT1 rfl) (sT1 rfl)) sB0 sF0) ?_
                            refine AL_cons (LR_assign (at_tmp 43 _) rfl) (sS (sT1 rfl) sB0 sF0) ?_
                            refine AL_nil ?_
                            exact thenN (cutLeaf (v := x13 - (BitVec.ofInt 64 ((x2.2.2 x8.toNat).toNat : Int))) hr (weak0 ((sT rfl (sT rfl (sT rfl (sT rfl (sT rfl (sT rfl (sT rfl sT0)))))))) (sub_keep sub_nil)))
                          · have hr := hr.trans (cond_f h)
                            clear h
                            refine AW_skip ?_
                            exact thenN (cutLeaf (v := x13) hr (weak0 ((sT rfl (sT rfl (sT rfl (sT rfl (sT rfl (sT rfl (sT rfl sT0)))))))) (sub_keep sub_nil)))
                      · rintro x14 hr
                        show AW Hfaa.prog _ _ _ ⟨[(0, .inl (ns U32 x1)), (1, .inl (ns U32 x2)), (6, .inr (.inr (.inl (20, 0, (x1.2.1 : Int).toNat, (x1.2.1 : Int).toNat)))), (22, .inl (is (I64 x6))), (23, .inl (is (I64 x8))), (8, .inl (is (I64 x8))), (9, .inl (is (U64 x14)))], [(20, pb 65 (ar U32 ((x1.2.1 : Int).toNat) x9 ++ []))]⟩
                        have hr : some out2 = F254_10 N x1 x2 x6 x8 x9 x14 := hr
                        refine AW_cut (σ := (Nat → BitVec 32)) (fun v => ⟨[(0, .inl (ns U32 x1)), (1, .inl (ns U32 x2)), (6, .inr (.inr (.inl (20, 0, (x1.2.1 : Int).toNat, (x1.2.1 : Int).toNat)))), (22, .inl (is (I64 x6))), (23, .inl (is (I64 x8))), (9, .inl (is (U64 x14)))], [(20, pb 65 (ar U32 ((x1.2.1 : Int).toNat) v ++ []))]⟩) (fun v => some out2 = F254_11 N x1 x2 x6 x8 x14 v) ?_ ?_
                        · skip
                          refine AW_region ?_
                          refine AL_cons (LR_move (at_tmp 6 _) rfl) (sS (sT1 rfl) sB0 sF0) ?_
                          refine AL_cons (LR_move (at_tmp 8 _) rfl) (sS (sT1 rfl) sB0 sF0) ?_
                          refine AL_cons (LR_move (at_tmp 9 _) rfl) (sS (sT1 rfl) sB0 sF0) ?_
                          refine AL_cons (LR_conv (vx := U64 x14) (at_tmp 46 _) (conv_U32 Hfaa.underlying30 Hfaa.underlying65 (x14.toNat : Int)) rfl) (sS (sT1 rfl) sB0 sF0) ?_
                          obtain ⟨hg71, hr⟩ := guard_some hr
                          refine AL_cons (LR_indexAddrS (o := x8.toNat) Hfaa.underlying49 sz65 (at_tmp 44 _) (at_tmp 45 _) (dand hg71) (by first | rfl | omega) rfl) (sS (sA (sT1 rfl) (sT1 rfl)) sB0 sF0) ?_
                          refine AL_cons (LR_storeA (at_tmp 48 _) (at_tmp 47 _) (cells_one (one_is rfl)) (onC (one_is rfl) onN) sz65 rfl (ble_dyn (lnA ln0) (by have := (ltn (dand hg71)); omega)) (stA (ltn (dand hg71)))) (sS (sA (sT1 rfl) (sT1 rfl)) (sB1 rfl) sF0) ?_
                          refine AL_nil ?_
                          exact thenN (cutLeaf (v := upd x9 x8.toNat (BitVec.ofInt 32 (x14.toNat : Int))) hr (weak0 ((sT rfl (sT rfl (sT rfl (sT rfl (sT rfl (sT rfl sT0))))))) (sub_keep sub_nil)))
                        · rintro x15 hr
                          show AW Hfaa.prog _ _ _ ⟨[(0, .inl (ns U32 x1)), (1, .inl (ns U32 x2)), (6, .inr (.inr (.inl (20, 0, (x1.2.1 : Int).toNat, (x1.2.1 : Int).toNat)))), (22, .inl (is (I64 x6))), (23, .inl (is (I64 x8))), (9, .inl (is (U64 x14)))], [(20, pb 65 (ar U32 ((x1.2.1 : Int).toNat) x15 ++ []))]⟩
                          have hr : some out2 = F254_11 N x1 x2 x6 x8 x14 x15 := hr
                          refine AW_region ?_
                          refine AL_cons (LR_move (at_tmp 9 _) rfl) (sS (sT1 rfl) sB0 sF0) ?_
                          refine AL_cons (LR_bin (at_tmp 49 _) (at_c (v' := U64 (63#64)) rfl) (shr_U64 x14 ((63#64).toNat : Int) (Int.natCast_nonneg _)) rfl) (sS (sA (sT1 rfl) sT0) sB0 sF0) ?_
                          refine AL_cons (LR_assign (at_tmp 50 _) rfl) (sS (sT1 rfl) sB0 sF0) ?_
                          refine AL_nil ?_
                          refine blN ?_
                          exact thenN (cutLeaf (v := (x14 >>> 63, x15)) hr (weak0 ((sT rfl (sT rfl (sT rfl (sT rfl (sT rfl (sT rfl sT0))))))) (sub_keep sub_nil)))
                  · rintro ⟨x11, x12⟩ hr
                    show AW Hfaa.prog _ _ _ ⟨[(0, .inl (ns U32 x1)), (1, .inl (ns U32 x2)), (6, .inr (.inr (.inl (20, 0, (x1.2.1 : Int).toNat, (x1.2.1 : Int).toNat)))), (22, .inl (is (I64 x6))), (23, .inl (is (I64 x8))), (7, .inl (is (U64 x11)))], [(20, pb 65 (ar U32 ((x1.2.1 : Int).toNat) x12 ++ []))]⟩
                    have hr : some out2 = F254_8 N x1 x2 x6 x8 x11 x12 := hr
                    refine AW_region ?_
                    refine AL_cons (LR_bin (at_tmp 23 _) (at_c (v' := I64 1) rfl) (add_I64 x8 1) rfl) (sS (sA (sT1 rfl) sT0) sB0 sF0) ?_
                    refine AL_cons (LR_move (at_tmp 51 _) rfl) (sS (sT1 rfl) sB0 sF0) ?_
                    refine AL_nil ?_
                    exact thenN (loopNext (x' := (x11, w64 (x8 + 1), x12)) hr (weak0 ((sT rfl (sT rfl (sT rfl (sT rfl (sT rfl (sT rfl sT0))))))) (sub_keep sub_nil)))
                · have hr := hr.trans (cond_f h)
                  clear h
                  refine AW_exit ?_
                  refine thenX ?_
                  obtain ⟨r', hro, hr⟩ := map_inr hr
                  refine thenX (loopOut hro (fun he => ?_))
                  rw [he] at hr
                  refine blH ?_
                  exact thenN (cutLeaf (v := x9) hr (weak0 ((sT rfl sT0)) (sub_keep sub_nil)))
          · rintro x5 hr
            show AW Hfaa.prog _ _ _ ⟨[(6, .inr (.inr (.inl (20, 0, (x1.2.1 : Int).toNat, (x1.2.1 : Int).toNat))))], [(20, pb 65 (ar U32 ((x1.2.1 : Int).toNat) x5 ++ []))]⟩
            have hr : some r = F254_4 N x1 x5 := hr
            refine AW_seq1 ?_
            refine AW_region ?_
            refine AL_cons (LR_move (at_tmp 6 _) rfl) (sS (sT1 rfl) sB0 sF0) ?_
            refine AL_frz U32 20 ⟨[(6, .inl (ns U32 ((false, (x1.2.1 : Int).toNat, x5)))), (52, .inl (ns U32 ((false, (x1.2.1 : Int).toNat, x5))))], []⟩ rfl (sub_drop sub_nil) rfl (fzC rfl (Nat.le_refl _) (Nat.le_refl _) (fzC rfl (Nat.le_refl _) (Nat.le_refl _) fz0)) ?_
            obtain ⟨y7, hy7, hr⟩ := bind_some hr
            refine AL_cons (LR_call Hfaa.func33 rfl rfl (C33 N ((false, (x1.2.1 : Int).toNat, x5)) y7 hy7) (all_cons (at_tmp 52 _) all_nil) rfl) (sS (sA (sT1 rfl) sT0) sB0 sF0) ?_
            refine AL_cons (LR_assign (at_tmp 53 _) rfl) (sS (sT1 rfl) sB0 sF0) ?_
            refine AL_cons (LR_assign (at_c (v' := Bl true) rfl) rfl) (sS sT0 sB0 sF0) ?_
            refine AL_nil ?_
            refine thenN ?_
            refine AW_ret ?_
            obtain rfl := Option.some.inj hr
            exact res2 rfl (rvT rfl) (rvT rfl)
/-- nat.Bit -/
def F278_1 (N : Nat) (a0 : NS (BitVec 32)) (a1 : Int) (x1 : Bool) : Option (Bool) := bif x1 then some false else bif (decide (0 ≤ w64 (a1.tdiv 32)) && decide (w64 (a1.tdiv 32) < (a0.2.1 : Int))) then bif decide (0 ≤ (a1.tmod 32)) then some ((((a0.2.2 ((w64 (a1.tdiv 32)).toNat)) >>> (a1.tmod 32).toNat) &&& (1#32)) == (1#32)) else none else none
def F278 (N : Nat) (a0 : NS (BitVec 32)) (a1 : Int) : Option (Bool) := F278_1 N a0 a1 ((decide (a1 < 0)) || (decide ((w64 (a1.tdiv 32)) ≥ (a0.2.1 : Int))))
theorem C278 (N : Nat) (a0 : NS (BitVec 32)) (a1 : Int) (r : Bool) (hr : some r = F278 N a0 a1) : Aw.Fn Hfaa.prog 278 [ns U32 a0, is (I64 a1)] (is (Bl r)) := by
  refine fn_intro Hfaa.func278 rfl rfl rfl ?_
  intro bn0 w0 H0
  refine AW_seq1 ?_
  refine AW_region ?_
  refine AL_cons (LR_assign (at_c (v' := Bl false) rfl) rfl) (sS sT0 sB0 sF0) ?_
  refine AL_nil ?_
  refine thenN ?_
  refine AW_seq1 ?_
  refine AW_cut (σ := Bool) (fun v => ⟨[(0, .inl (ns U32 a0)), (1, .inl (is (I64 a1))), (13, .inl (is (Bl v)))], []⟩) (fun v => some r = F278_1 N a0 a1 v) ?_ ?_
  · skip
    refine AW_region ?_
    refine AL_cons (LR_move (at_tmp 1 _) rfl) (sS (sT1 rfl) sB0 sF0) ?_
    refine AL_cons (LR_bin (at_tmp 5 _) (at_c (v' := I64 0) rfl) (lss_I64 a1 0) rfl) (sS (sA (sT1 rfl) sT0) sB0 sF0) ?_
    refine AL_cons (LR_move (at_tmp 6 _) rfl) (sS (sT1 rfl) sB0 sF0) ?_
    refine AL_cutAt 6 ⟨[(0, .inl (ns U32 a0)), (1, .inl (is (I64 a1))), (4, .inl (is (Bl false))), (5, .inl (is (I64 a1))), (6, .inl (is (Bl (decide (a1 < 0))))), (7, .inl (is (Bl (decide (a1 < 0))))), (13, .inl (is (Bl ((decide (a1 < 0)) || (decide ((w64 (a1.tdiv 32)) ≥ (a0.2.1 : Int)))))))], []⟩ ?_ ?_
    · cases hb : decide (a1 < 0)
      · skip
        refine AL_cons (LR_on rfl rfl rfl (LR_move (at_tmp 1 _) rfl)) (sS (sT rfl (sT1 rfl)) sB0 sF0) ?_
        refine AL_cons (LR_on rfl rfl rfl (LR_bin (at_tmp 8 _) (at_c (v' := I64 32) rfl) (quo_I64 a1 32 (by decide)) rfl)) (sS (sT rfl (sA (sT1 rfl) sT0)) sB0 sF0) ?_
        refine AL_cons (LR_on rfl rfl rfl (LR_move (at_tmp 0 _) rfl)) (sS (sT rfl (sT1 rfl)) sB0 sF0) ?_
        refine AL_cons (LR_on rfl rfl rfl (LR_bi1 (at_tmp 10 _) (len_ns Hfaa.underlying49 a0) rfl)) (sS (sT rfl (sT1 rfl)) sB0 sF0) ?_
        refine AL_cons (LR_on rfl rfl rfl (LR_bin (at_tmp 9 _) (at_tmp 11 _) (geq_I64 (w64 (a1.tdiv 32)) (a0.2.1 : Int)) rfl)) (sS (sT rfl (sA (sT1 rfl) (sT1 rfl))) sB0 sF0) ?_
        refine AL_cons (LR_pick (b := false) (at_tmp 7 _) (at_c (v' := Bl true) rfl) (at_tmp 12 _) rfl) (sS (sA (sT1 rfl) (sA sT0 (sT1 rfl))) sB0 sF0) ?_
        exact AL_nil ⟨rfl, weak0 ((sT rfl (sT rfl (sT rfl (sT rfl (sT rfl (sT rfl (sT rfl sT0)))))))) sub_nil⟩
      · skip
        refine AL_cons (LR_off (b := true) rfl rfl rfl rfl) (sS (sT1 rfl) sB0 sF0) ?_
        refine AL_cons (LR_off (b := true) rfl rfl rfl rfl) (sS (sT1 rfl) sB0 sF0) ?_
        refine AL_cons (LR_off (b := true) rfl rfl rfl rfl) (sS (sT1 rfl) sB0 sF0) ?_
        refine AL_cons (LR_off (b := true) rfl rfl rfl rfl) (sS (sT1 rfl) sB0 sF0) ?_
        refine AL_cons (LR_off (b := true) rfl rfl rfl rfl) (sS (sT1 rfl) sB0 sF0) ?_
        refine AL_cons (LR_pick (b := true) (at_tmp 7 _) (at_c (v' := Bl true) rfl) (at_tmp 12 _) rfl) (sS (sA (sT1 rfl) (sA sT0 (sT1 rfl))) sB0 sF0) ?_
        exact AL_nil ⟨rfl, weak0 ((sT rfl (sT rfl (sT rfl (sT rfl (sT rfl (sT rfl (sT rfl sT0)))))))) sub_nil⟩
    refine AL_nil ?_
    exact thenN (cutLeaf (v := (decide (a1 < 0)) || (decide ((w64 (a1.tdiv 32)) ≥ (a0.2.1 : Int)))) hr (weak0 ((sT rfl (sT rfl (sT rfl sT0)))) sub_nil))
  · rintro x1 hr
    show AW Hfaa.prog _ _ _ ⟨[(0, .inl (ns U32 a0)), (1, .inl (is (I64 a1))), (13, .inl (is (Bl x1)))], []⟩
    have hr : some r = F278_1 N a0 a1 x1 := hr
    refine AW_condT (b := x1) rfl (fun h => ?_) (fun h => ?_)
    · have hr := hr.trans (cond_t h)
      clear h
      refine AW_seq1 ?_
      refine AW_region ?_
      refine AL_cons (LR_assign (at_c (v' := Bl false) rfl) rfl) (sS sT0 sB0 sF0) ?_
      refine AL_nil ?_
      refine thenN ?_
      refine AW_ret ?_
      refine thenR ?_
      obtain rfl := Option.some.inj hr
      exact res1 rfl (rvT rfl)
    · have hr := hr.trans (cond_f h)
      clear h
      refine AW_skip ?_
      refine thenN ?_
      refine AW_seq1 ?_
      refine AW_region ?_
      refine AL_cons (LR_move (at_tmp 0 _) rfl) (sS (sT1 rfl) sB0 sF0) ?_
      refine AL_cons (LR_move (at_tmp 1 _) rfl) (sS (sT1 rfl) sB0 sF0) ?_
      refine AL_cons (LR_bin (at_tmp 15 _) (at_c (v' := I64 32) rfl) (quo_I64 a1 32 (by decide)) rfl) (sS (sA (sT1 rfl) sT0) sB0 sF0) ?_
      obtain ⟨hg3, hr⟩ := guard_some hr
      refine AL_cons (LR_indexAddrQ Hfaa.underlying49 sz65 (at_tmp 14 _) (at_tmp 16 _) (dand hg3) rfl) (sS (sA (sT1 rfl) (sT1 rfl)) sB0 sF0) ?_
      refine AL_cons (LR_loadQ (at_tmp 17 _) na65 rfl) (sS (sT1 rfl) sB0 sF0) ?_
      refine AL_cons (LR_move (at_tmp 1 _) rfl) (sS (sT1 rfl) sB0 sF0) ?_
      refine AL_cons (LR_bin (at_tmp 19 _) (at_c (v' := I64 32) rfl) (rem_I64 a1 32 (by decide)) rfl) (sS (sA (sT1 rfl) sT0) sB0 sF0) ?_
      obtain ⟨hg4, hr⟩ := guard_some hr
      refine AL_cons (LR_bin (at_tmp 18 _) (at_tmp 20 _) (shr_U32 (a0.2.2 ((w64 (a1.tdiv 32)).toNat)) (a1.tmod 32) (of_decide_eq_true hg4)) rfl) (sS (sA (sT1 rfl) (sT1 rfl)) sB0 sF0) ?_
      refine AL_cons (LR_bin (at_tmp 21 _) (at_c (v' := U32 (1#32)) rfl) (and_U32 ((a0.2.2 ((w64 (a1.tdiv 32)).toNat)) >>> (a1.tmod 32).toNat) (1#32)) rfl) (sS (sA (sT1 rfl) sT0) sB0 sF0) ?_
      refine AL_cons (LR_bin (at_tmp 22 _) (at_c (v' := U32 (1#32)) rfl) (eql_U32 (((a0.2.2 ((w64 (a1.tdiv 32)).toNat)) >>> (a1.tmod 32).toNat) &&& (1#32)) (1#32)) rfl) (sS (sA (sT1 rfl) sT0) sB0 sF0) ?_
      refine AL_cons (LR_assign (at_tmp 23 _) rfl) (sS (sT1 rfl) sB0 sF0) ?_
      refine AL_nil ?_
      refine thenN ?_
      refine AW_ret ?_
      obtain rfl := Option.some.inj hr
      exact res1 rfl (rvT rfl)
/-- nat.Succ -/
def F359_4 (N : Nat) (x1 : NS (BitVec 32)) (x4 : Nat → BitVec 32) : Option (NS (BitVec 32)) := (F33 N ((false, (w64 ((x1.2.1 : Int) + 1)).toNat, x4))).bind fun y3 => some y3
def F359_8 (N : Nat) (x1 : NS (BitVec 32)) (x5 : Int) (x6 : Int) (x9 : Nat → BitVec 32) : Option ((Int × (Nat → BitVec 32)) ⊕ (NS (BitVec 32))) := some (.inl ((w64 (x6 + 1), x9)))
def F359_10 (N : Nat) (x1 : NS (BitVec 32)) (x5 : Int) (x6 : Int) (x10 : Nat → BitVec 32) (x11 : Bool) : Option ((Int × (Nat → BitVec 32)) ⊕ (NS (BitVec 32))) := bif x11 then (F359_4 N x1 x10).map Sum.inr else F359_8 N x1 x5 x6 x10
def F359_9 (N : Nat) (x1 : NS (BitVec 32)) (x5 : Int) (x6 : Int) (x10 : Nat → BitVec 32) : Option ((Int × (Nat → BitVec 32)) ⊕ (NS (BitVec 32))) := bif (decide (0 ≤ x6) && decide (x6 < ((w64 ((x1.2.1 : Int) + 1)).toNat : Int))) then F359_10 N x1 x5 x6 x10 ((x10 x6.toNat) != (0#32)) else none
def F359_7 (N : Nat) (x1 : NS (BitVec 32)) (x5 : Int) (x6 : Int) (x7 : Nat → BitVec 32) (x8 : Bool) : Option ((Int × (Nat → BitVec 32)) ⊕ (NS (BitVec 32))) := bif x8 then bif (decide (0 ≤ x6) && decide (x6 < ((w64 ((x1.2.1 : Int) + 1)).toNat : Int))) then bif (decide (0 ≤ x6) && decide (x6 < ((w64 ((x1.2.1 : Int) + 1)).toNat : Int))) then F359_9 N x1 x5 x6 (upd x7 x6.toNat ((x7 x6.toNat) + (1#32))) else none else none else (F359_4 N x1 x7).map Sum.inr
def F359_L6b (N : Nat) (x1 : NS (BitVec 32)) (x5 : Int) (x6 : Int) (x7 : Nat → BitVec 32) : Option ((Int × (Nat → BitVec 32)) ⊕ (NS (BitVec 32))) := F359_7 N x1 x5 x6 x7 (decide (x6 < x5))
def F359_L6 (N : Nat) (x1 : NS (BitVec 32)) (x5 : Int) : (Int × (Nat → BitVec 32)) → Option ((Int × (Nat → BitVec 32)) ⊕ (NS (BitVec 32))) := fun v => F359_L6b N x1 x5 v.1 v.2
def F359_5 (N : Nat) (x1 : NS (BitVec 32)) (x3 : Nat → BitVec 32) (x5 : Int) : Option (NS (BitVec 32)) := iterL (F359_L6 N x1 x5) N (0, x3)
def F359_3 (N : Nat) (x1 : NS (BitVec 32)) (x3 : Nat → BitVec 32) : Option (NS (BitVec 32)) := F359_5 N x1 x3 (((w64 ((x1.2.1 : Int) + 1)).toNat : Int))
def F359_2 (N : Nat) (x1 : NS (BitVec 32)) (x2 : Nat → BitVec 32) : Option (NS (BitVec 32)) := bif decide (x1.2.1 ≤ (w64 ((x1.2.1 : Int) + 1)).toNat) then F359_3 N x1 (cpy x2 x1.2.1 x1.2.2) else none
def F359_1 (N : Nat) (x1 : NS (BitVec 32)) : Option (NS (BitVec 32)) := bif (decide (0 ≤ w64 ((x1.2.1 : Int) + 1)) && decide (w64 ((x1.2.1 : Int) + 1) ≤ 1099511627776)) then F359_2 N x1 (fun _ => 0#32) else none
def F359 (N : Nat) (a0 : NS (BitVec 32)) : Option (NS (BitVec 32)) := (F33 N a0).bind fun y4 => F359_1 N y4
theorem C359 (N : Nat) (a0 : NS (BitVec 32)) (r : NS (BitVec 32)) (hr : some r = F359 N a0) : Aw.Fn Hfaa.prog 359 [ns U32 a0] (ns U32 r) := by
  refine fn_intro Hfaa.func359 rfl rfl rfl ?_
  intro bn0 w0 H0
  refine AW_seq1 ?_
  refine AW_region ?_
  refine AL_cons (LR_assign (at_ns0 (K := U32) (fun _ => 0#32)) rfl) (sS sT0 sB0 sF0) ?_
  refine AL_nil ?_
  refine thenN ?_
  refine AW_cut (σ := NS (BitVec 32)) (fun v => ⟨[(0, .inl (ns U32 v))], []⟩) (fun v => some r = F359_1 N v) ?_ ?_
  · skip
    refine AW_region ?_
    refine AL_cons (LR_move (at_tmp 0 _) rfl) (sS (sT1 rfl) sB0 sF0) ?_
    obtain ⟨y4, hy4, hr⟩ := bind_some hr
    refine AL_cons (LR_call Hfaa.func33 rfl rfl (C33 N a0 y4 hy4) (all_cons (at_tmp 5 _) all_nil) rfl) (sS (sA (sT1 rfl) sT0) sB0 sF0) ?_
    refine AL_cons (LR_assign (at_tmp 6 _) rfl) (sS (sT1 rfl) sB0 sF0) ?_
    refine AL_nil ?_
    exact thenN (cutLeaf (v := y4) hr (weak0 ((sT rfl sT0)) sub_nil))
  · rintro x1 hr
    show AW Hfaa.prog _ _ _ ⟨[(0, .inl (ns U32 x1))], []⟩
    have hr : some r = F359_1 N x1 := hr
    refine AW_cut (σ := (Nat → BitVec 32)) (fun v => ⟨[(0, .inl (ns U32 x1)), (3, .inr (.inr (.inl (10, 0, (w64 ((x1.2.1 : Int) + 1)).toNat, (w64 ((x1.2.1 : Int) + 1)).toNat))))], [(10, pb 65 (ar U32 ((w64 ((x1.2.1 : Int) + 1)).toNat) v ++ []))]⟩) (fun v => some r = F359_2 N x1 v) ?_ ?_
    · skip
      refine AW_region ?_
      refine AL_cons (LR_move (at_tmp 0 _) rfl) (sS (sT1 rfl) sB0 sF0) ?_
      refine AL_cons (LR_bi1 (at_tmp 7 _) (len_ns Hfaa.underlying49 x1) rfl) (sS (sT1 rfl) sB0 sF0) ?_
      refine AL_cons (LR_bin (at_tmp 8 _) (at_c (v' := I64 1) rfl) (add_I64 (x1.2.1 : Int) 1) rfl) (sS (sA (sT1 rfl) sT0) sB0 sF0) ?_
      obtain ⟨hg76, hr⟩ := guard_some hr
      refine AL_cons (LR_makeSlice Hfaa.underlying49 el65 (at_tmp 9 _) (dand hg76) rfl) (sS (sT1 rfl) sB0 (sF1 rfl)) ?_
      refine AL_cons (LR_assign (at_tmp 10 _) rfl) (sS (sT1 rfl) sB0 sF0) ?_
      refine AL_nil ?_
      exact thenN (cutLeaf (v := fun _ => 0#32) hr (weak0 ((sT rfl (sT rfl sT0))) (sub_keep sub_nil)))
    · rintro x2 hr
      show AW Hfaa.prog _ _ _ ⟨[(0, .inl (ns U32 x1)), (3, .inr (.inr (.inl (10, 0, (w64 ((x1.2.1 : Int) + 1)).toNat, (w64 ((x1.2.1 : Int) + 1)).toNat))))], [(10, pb 65 (ar U32 ((w64 ((x1.2.1 : Int) + 1)).toNat) x2 ++ []))]⟩
      have hr : some r = F359_2 N x1 x2 := hr
      refine AW_cut (σ := (Nat → BitVec 32)) (fun v => ⟨[(3, .inr (.inr (.inl (10, 0, (w64 ((x1.2.1 : Int) + 1)).toNat, (w64 ((x1.2.1 : Int) + 1)).toNat))))], [(10, pb 65 (ar U32 ((w64 ((x1.2.1 : Int) + 1)).toNat) v ++ []))]⟩) (fun v => some r = F359_3 N x1 v) ?_ ?_
      · skip
        refine AW_region ?_
        refine AL_cons (LR_move (at_tmp 3 _) rfl) (sS (sT1 rfl) sB0 sF0) ?_
        refine AL_cons (LR_move (at_tmp 0 _) rfl) (sS (sT1 rfl) sB0 sF0) ?_
        obtain ⟨hg75, hr⟩ := guard_some hr
        refine AL_cons (LR_copyQ Hfaa.underlying49 sz65 (fun _ => rfl) (at_tmp 11 _) (at_tmp 12 _) (of_decide_eq_true hg75) rfl) (sS (sA (sT1 rfl) (sT1 rfl)) (sB1 rfl) sF0) ?_
        refine AL_nil ?_
        exact thenN (cutLeaf (v := cpy x2 x1.2.1 x1.2.2) hr (weak0 ((sT rfl sT0)) (sub_keep sub_nil)))
      · rintro x3 hr
        show AW Hfaa.prog _ _ _ ⟨[(3, .inr (.inr (.inl (10, 0, (w64 ((x1.2.1 : Int) + 1)).toNat, (w64 ((x1.2.1 : Int) + 1)).toNat))))], [(10, pb 65 (ar U32 ((w64 ((x1.2.1 : Int) + 1)).toNat) x3 ++ []))]⟩
        have hr : some r = F359_3 N x1 x3 := hr
        refine AW_cut (σ := (Nat → BitVec 32)) (fun v => ⟨[(3, .inr (.inr (.inl (10, 0, (w64 ((x1.2.1 : Int) + 1)).toNat, (w64 ((x1.2.1 : Int) + 1)).toNat))))], [(10, pb 65 (ar U32 ((w64 ((x1.2.1 : Int) + 1)).toNat) v ++ []))]⟩) (fun v => some r = F359_4 N x1 v) ?_ ?_
        · skip
          refine AW_cut (σ := Int) (fun v => ⟨[(3, .inr (.inr (.inl (10, 0, (w64 ((x1.2.1 : Int) + 1)).toNat, (w64 ((x1.2.1 : Int) + 1)).toNat)))), (15, .inl (is (I64 v))), (16, .inl (is (I64 0)))], [(10, pb 65 (ar U32 ((w64 ((x1.2.1 : Int) + 1)).toNat) x3 ++ []))]⟩) (fun v => some r = F359_5 N x1 x3 v) ?_ ?_
          · skip
            refine AW_region ?_
            refine AL_cons (LR_move (at_tmp 3 _) rfl) (sS (sT1 rfl) sB0 sF0) ?_
            refine AL_cons (LR_lenT (at_tmp 14 _) Hfaa.underlying49 rfl) (sS (sT1 rfl) sB0 sF0) ?_
            refine AL_cons (LR_move (at_c (v' := I64 0) rfl) rfl) (sS sT0 sB0 sF0) ?_
            refine AL_nil ?_
            exact thenN (cutLeaf (v := ((w64 ((x1.2.1 : Int) + 1)).toNat : Int)) hr (weak0 ((sT rfl (sT rfl (sT rfl sT0)))) (sub_keep sub_nil)))
          · rintro x5 hr
            show AW Hfaa.prog _ _ _ ⟨[(3, .inr (.inr (.inl (10, 0, (w64 ((x1.2.1 : Int) + 1)).toNat, (w64 ((x1.2.1 : Int) + 1)).toNat)))), (15, .inl (is (I64 x5))), (16, .inl (is (I64 0)))], [(10, pb 65 (ar U32 ((w64 ((x1.2.1 : Int) + 1)).toNat) x3 ++ []))]⟩
            have hr : some r = F359_5 N x1 x3 x5 := hr
            refine AW_block ?_
            refine AW_iterR (σ := Int × (Nat → BitVec 32)) (r := r) (x0 := (0, x3)) (emb := fun v => ⟨[(3, .inr (.inr (.inl (10, 0, (w64 ((x1.2.1 : Int) + 1)).toNat, (w64 ((x1.2.1 : Int) + 1)).toNat)))), (15, .inl (is (I64 x5))), (16, .inl (is (I64 v.1)))], [(10, pb 65 (ar U32 ((w64 ((x1.2.1 : Int) + 1)).toNat) v.2 ++ []))]⟩) ?_ hr ?_
            · exact weak0 ((sT rfl (sT rfl (sT rfl sT0)))) (sub_keep sub_nil)
            rintro ⟨x6, x7⟩ out2 hr
            show AW Hfaa.prog _ _ _ ⟨[(3, .inr (.inr (.inl (10, 0, (w64 ((x1.2.1 : Int) + 1)).toNat, (w64 ((x1.2.1 : Int) + 1)).toNat)))), (15, .inl (is (I64 x5))), (16, .inl (is (I64 x6)))], [(10, pb 65 (ar U32 ((w64 ((x1.2.1 : Int) + 1)).toNat) x7 ++ []))]⟩
            have hr : some out2 = F359_L6b N x1 x5 x6 x7 := hr
            refine AW_cut (σ := Bool) (fun v => ⟨[(3, .inr (.inr (.inl (10, 0, (w64 ((x1.2.1 : Int) + 1)).toNat, (w64 ((x1.2.1 : Int) + 1)).toNat)))), (15, .inl (is (I64 x5))), (16, .inl (is (I64 x6))), (17, .inl (is (Bl v)))], [(10, pb 65 (ar U32 ((w64 ((x1.2.1 : Int) + 1)).toNat) x7 ++ []))]⟩) (fun v => some out2 = F359_7 N x1 x5 x6 x7 v) ?_ ?_
            · skip
              refine AW_region ?_
              refine AL_cons (LR_bin (at_tmp 16 _) (at_tmp 15 _) (lss_I64 x6 x5) rfl) (sS (sA (sT1 rfl) (sT1 rfl)) sB0 sF0) ?_
              refine AL_nil ?_
              exact thenN (cutLeaf (v := decide (x6 < x5)) hr (weak0 ((sT rfl (sT rfl (sT rfl (sT rfl sT0))))) (sub_keep sub_nil)))
            · rintro x8 hr
              show AW Hfaa.prog _ _ _ ⟨[(3, .inr (.inr (.inl (10, 0, (w64 ((x1.2.1 : Int) + 1)).toNat, (w64 ((x1.2.1 : Int) + 1)).toNat)))), (15, .inl (is (I64 x5))), (16, .inl (is (I64 x6))), (17, .inl (is (Bl x8)))], [(10, pb 65 (ar U32 ((w64 ((x1.2.1 : Int) + 1)).toNat) x7 ++ []))]⟩
              have hr : some out2 = F359_7 N x1 x5 x6 x7 x8 := hr
              refine AW_seq1 ?_
              refine AW_condT (b := x8) rfl (fun h => ?_) (fun h => ?_)
              · have hr := hr.trans (cond_t h)
                clear h
                refine AW_skip ?_
                refine thenN ?_
                refine AW_cut (σ := (Nat → BitVec 32)) (fun v => ⟨[(3, .inr (.inr (.inl (10, 0, (w64 ((x1.2.1 : Int) + 1)).toNat, (w64 ((x1.2.1 : Int) + 1)).toNat)))), (15, .inl (is (I64 x5))), (16, .inl (is (I64 x6)))], [(10, pb 65 (ar U32 ((w64 ((x1.2.1 : Int) + 1)).toNat) v ++ []))]⟩) (fun v => some out2 = F359_8 N x1 x5 x6 v) ?_ ?_
                · skip
                  refine AW_block ?_
                  refine AW_seq1 ?_
                  refine AW_region ?_
                  refine AL_cons (LR_move (at_tmp 16 _) rfl) (sS (sT1 rfl) sB0 sF0) ?_
                  refine AL_cons (LR_assign (at_tmp 18 _) rfl) (sS (sT1 rfl) sB0 sF0) ?_
                  refine AL_nil ?_
                  refine thenN ?_
                  refine AW_cut (σ := (Nat → BitVec 32)) (fun v => ⟨[(3, .inr (.inr (.inl (10, 0, (w64 ((x1.2.1 : Int) + 1)).toNat, (w64 ((x1.2.1 : Int) + 1)).toNat)))), (15, .inl (is (I64 x5))), (16, .inl (is (I64 x6))), (4, .inl (is (I64 x6)))], [(10, pb 65 (ar U32 ((w64 ((x1.2.1 : Int) + 1)).toNat) v ++ []))]⟩) (fun v => some out2 = F359_9 N x1 x5 x6 v) ?_ ?_
                  · skip
                    refine AW_region ?_
                    refine AL_cons (LR_move (at_tmp 3 _) rfl) (sS (sT1 rfl) sB0 sF0) ?_
                    refine AL_cons (LR_move (at_tmp 4 _) rfl) (sS (sT1 rfl) sB0 sF0) ?_
                    obtain ⟨hg73, hr⟩ := guard_some hr
                    refine AL_cons (LR_indexAddrS (o := x6.toNat) Hfaa.underlying49 sz65 (at_tmp 19 _) (at_tmp 20 _) (dand hg73) (by first | rfl | omega) rfl) (sS (sA (sT1 rfl) (sT1 rfl)) sB0 sF0) ?_
                    refine AL_cons (LR_load (at_tmp 21 _) na65 (gA (ltn (dand hg73))) rfl) (sS (sT1 rfl) (sB1 rfl) sF0) ?_
                    refine AL_cons (LR_bin (at_tmp 22 _) (at_c (v' := U32 (1#32)) rfl) (add_U32 (x7 x6.toNat) (1#32)) rfl) (sS (sA (sT1 rfl) sT0) sB0 sF0) ?_
                    obtain ⟨hg74, hr⟩ := guard_some hr
                    refine AL_cons (LR_indexAddrS (o := x6.toNat) Hfaa.underlying49 sz65 (at_tmp 19 _) (at_tmp 20 _) (dand hg74) (by first | rfl | omega) rfl) (sS (sA (sT1 rfl) (sT1 rfl)) sB0 sF0) ?_
                    refine AL_cons (LR_storeA (at_tmp 24 _) (at_tmp 23 _) (cells_one (one_is rfl)) (onC (one_is rfl) onN) sz65 rfl (ble_dyn (lnA ln0) (by have := (ltn (dand hg74)); omega)) (stA (ltn (dand hg74)))) (sS (sA (sT1 rfl) (sT1 rfl)) (sB1 rfl) sF0) ?_
                    refine AL_nil ?_
                    exact thenN (cutLeaf (v := upd x7 x6.toNat ((x7 x6.toNat) + (1#32))) hr (weak0 ((sT rfl (sT rfl (sT rfl (sT rfl sT0))))) (sub_keep sub_nil)))
                  · rintro x10 hr
                    show AW Hfaa.prog _ _ _ ⟨[(3, .inr (.inr (.inl (10, 0, (w64 ((x1.2.1 : Int) + 1)).toNat, (w64 ((x1.2.1 : Int) + 1)).toNat)))), (15, .inl (is (I64 x5))), (16, .inl (is (I64 x6))), (4, .inl (is (I64 x6)))], [(10, pb 65 (ar U32 ((w64 ((x1.2.1 : Int) + 1)).toNat) x10 ++ []))]⟩
                    have hr : some out2 = F359_9 N x1 x5 x6 x10 := hr
                    refine AW_cut (σ := Bool) (fun v => ⟨[(3, .inr (.inr (.inl (10, 0, (w64 ((x1.2.1 : Int) + 1)).toNat, (w64 ((x1.2.1 : Int) + 1)).toNat)))), (15, .inl (is (I64 x5))), (16, .inl (is (I64 x6))), (29, .inl (is (Bl v)))], [(10, pb 65 (ar U32 ((w64 ((x1.2.1 : Int) + 1)).toNat) x10 ++ []))]⟩) (fun v => some out2 = F359_10 N x1 x5 x6 x10 v) ?_ ?_
                    · skip
                      refine AW_region ?_
                      refine AL_cons (LR_move (at_tmp 3 _) rfl) (sS (sT1 rfl) sB0 sF0) ?_
                      refine AL_cons (LR_move (at_tmp 4 _) rfl) (sS (sT1 rfl) sB0 sF0) ?_
                      obtain ⟨hg72, hr⟩ := guard_some hr
                      refine AL_cons (LR_indexAddrS (o := x6.toNat) Hfaa.underlying49 sz65 (at_tmp 25 _) (at_tmp 26 _) (dand hg72) (by first | rfl | omega) rfl) (sS (sA (sT1 rfl) (sT1 rfl)) sB0 sF0) ?_
                      refine AL_cons (LR_load (at_tmp 27 _) na65 (gA (ltn (dand hg72))) rfl) (sS (sT1 rfl) (sB1 rfl) sF0) ?_
                      refine AL_cons (LR_bin (at_tmp 28 _) (at_c (v' := U32 (0#32)) rfl) (neq_U32 (x10 x6.toNat) (0#32)) rfl) (sS (sA (sT1 rfl) sT0) sB0 sF0) ?_
                      refine AL_nil ?_
                      exact thenN (cutLeaf (v := (x10 x6.toNat) != (0#32)) hr (weak0 ((sT rfl (sT rfl (sT rfl (sT rfl sT0))))) (sub_keep sub_nil)))
                    · rintro x11 hr
                      show AW Hfaa.prog _ _ _ ⟨[(3, .inr (.inr (.inl (10, 0, (w64 ((x1.2.1 : Int) + 1)).toNat, (w64 ((x1.2.1 : Int) + 1)).toNat)))), (15, .inl (is (I64 x5))), (16, .inl (is (I64 x6))), (29, .inl (is (Bl x11)))], [(10, pb 65 (ar U32 ((w64 ((x1.2.1 : Int) + 1)).toNat) x10 ++ []))]⟩
                      have hr : some out2 = F359_10 N x1 x5 x6 x10 x11 := hr
                      refine AW_condT (b := x11) rfl (fun h => ?_) (fun h => ?_)
                      · have hr := hr.trans (cond_t h)
                        clear h
                        refine AW_exit ?_
                        refine blO (by decide) ?_
                        refine thenX ?_
                        obtain ⟨r', hro, hr⟩ := map_inr hr
                        refine thenX (loopOut hro (fun he => ?_))
                        rw [he] at hr
                        refine blH ?_
                        exact thenN (cutLeaf (v := x10) hr (weak0 ((sT rfl sT0)) (sub_keep sub_nil)))
                      · have hr := hr.trans (cond_f h)
                        clear h
                        refine AW_skip ?_
                        refine blN ?_
                        exact thenN (cutLeaf (v := x10) hr (weak0 ((sT rfl (sT rfl (sT rfl sT0)))) (sub_keep sub_nil)))
                · rintro x9 hr
                  show AW Hfaa.prog _ _ _ ⟨[(3, .inr (.inr (.inl (10, 0, (w64 ((x1.2.1 : Int) + 1)).toNat, (w64 ((x1.2.1 : Int) + 1)).toNat)))), (15, .inl (is (I64 x5))), (16, .inl (is (I64 x6)))], [(10, pb 65 (ar U32 ((w64 ((x1.2.1 : Int) + 1)).toNat) x9 ++ []))]⟩
                  have hr : some out2 = F359_8 N x1 x5 x6 x9 := hr
                  refine AW_region ?_
                  refine AL_cons (LR_bin (at_tmp 16 _) (at_c (v' := I64 1) rfl) (add_I64 x6 1) rfl) (sS (sA (sT1 rfl) sT0) sB0 sF0) ?_
                  refine AL_cons (LR_move (at_tmp 30 _) rfl) (sS (sT1 rfl) sB0 sF0) ?_
                  refine AL_nil ?_
                  exact thenN (loopNext (x' := (w64 (x6 + 1), x9)) hr (weak0 ((sT rfl (sT rfl (sT rfl sT0)))) (sub_keep sub_nil)))
              · have hr := hr.trans (cond_f h)
                clear h
                refine AW_exit ?_
                refine thenX ?_
                obtain ⟨r', hro, hr⟩ := map_inr hr
                refine thenX (loopOut hro (fun he => ?_))
                rw [he] at hr
                refine blH ?_
                exact thenN (cutLeaf (v := x7) hr (weak0 ((sT rfl sT0)) (sub_keep sub_nil)))
        · rintro x4 hr
          show AW Hfaa.prog _ _ _ ⟨[(3, .inr (.inr (.inl (10, 0, (w64 ((x1.2.1 : Int) + 1)).toNat, (w64 ((x1.2.1 : Int) + 1)).toNat))))], [(10, pb 65 (ar U32 ((w64 ((x1.2.1 : Int) + 1)).toNat) x4 ++ []))]⟩
          have hr : some r = F359_4 N x1 x4 := hr
          refine AW_seq1 ?_
          refine AW_region ?_
          refine AL_cons (LR_move (at_tmp 3 _) rfl) (sS (sT1 rfl) sB0 sF0) ?_
          refine AL_frz U32 10 ⟨[(3, .inl (ns U32 ((false, (w64 ((x1.2.1 : Int) + 1)).toNat, x4)))), (31, .inl (ns U32 ((false, (w64 ((x1.2.1 : Int) + 1)).toNat, x4))))], []⟩ rfl (sub_drop sub_nil) rfl (fzC rfl (Nat.le_refl _) (Nat.le_refl _) (fzC rfl (Nat.le_refl _) (Nat.le_refl _) fz0)) ?_
          obtain ⟨y3, hy3, hr⟩ := bind_some hr
          refine AL_cons (LR_call Hfaa.func33 rfl rfl (C33 N ((false, (w64 ((x1.2.1 : Int) + 1)).toNat, x4)) y3 hy3) (all_cons (at_tmp 31 _) all_nil) rfl) (sS (sA (sT1 rfl) sT0) sB0 sF0) ?_
          refine AL_cons (LR_assign (at_tmp 32 _) rfl) (sS (sT1 rfl) sB0 sF0) ?_
          refine AL_nil ?_
          refine thenN ?_
          refine AW_ret ?_
          obtain rfl := Option.some.inj hr
          exact res1 rfl (rvT rfl)
/-- exact.toU64 -/
def F210_2 (N : Nat) (x2 : BitVec 64) : Option (BitVec 64) := some x2
def F210_3 (N : Nat) (a0 : NS (BitVec 32)) (x1 : BitVec 64) (x3 : Bool) : Option (BitVec 64) := bif x3 then bif decide (0 < a0.2.1) then F210_2 N (x1 ||| (BitVec.ofInt 64 ((a0.2.2 0).toNat : Int))) else none else F210_2 N x1
def F210_1 (N : Nat) (a0 : NS (BitVec 32)) (x1 : BitVec 64) : Option (BitVec 64) := F210_3 N a0 x1 (decide ((a0.2.1 : Int) > 0))
def F210_4 (N : Nat) (a0 : NS (BitVec 32)) (x4 : Bool) : Option (BitVec 64) := bif x4 then bif decide (1 < a0.2.1) then F210_1 N a0 ((BitVec.ofInt 64 ((a0.2.2 1).toNat : Int)) <<< 32) else none else F210_1 N a0 (0#64)
def F210 (N : Nat) (a0 : NS (BitVec 32)) : Option (BitVec 64) := F210_4 N a0 (decide ((a0.2.1 : Int) > 1))
theorem C210 (N : Nat) (a0 : NS (BitVec 32)) (r : BitVec 64) (hr : some r = F210 N a0) : Aw.Fn Hfaa.prog 210 [ns U32 a0] (is (U64 r)) := by
  refine fn_intro Hfaa.func210 rfl rfl rfl ?_
  intro bn0 w0 H0
  refine AW_seq1 ?_
  refine AW_region ?_
  refine AL_cons (LR_assign (at_c (v' := U64 (0#64)) rfl) rfl) (sS sT0 sB0 sF0) ?_
  refine AL_nil ?_
  refine thenN ?_
  refine AW_seq1 ?_
  refine AW_region ?_
  refine AL_cons (LR_assign (at_c (v' := U64 (0#64)) rfl) rfl) (sS sT0 sB0 sF0) ?_
  refine AL_nil ?_
  refine thenN ?_
  refine AW_cut (σ := BitVec 64) (fun v => ⟨[(0, .inl (ns U32 a0)), (3, .inl (is (U64 v)))], []⟩) (fun v => some r = F210_1 N a0 v) ?_ ?_
  · skip
    refine AW_cut (σ := Bool) (fun v => ⟨[(0, .inl (ns U32 a0)), (3, .inl (is (U64 (0#64)))), (6, .inl (is (Bl v)))], []⟩) (fun v => some r = F210_4 N a0 v) ?_ ?_
    · skip
      refine AW_region ?_
      refine AL_cons (LR_move (at_tmp 0 _) rfl) (sS (sT1 rfl) sB0 sF0) ?_
      refine AL_cons (LR_bi1 (at_tmp 4 _) (len_ns Hfaa.underlying49 a0) rfl) (sS (sT1 rfl) sB0 sF0) ?_
      refine AL_cons (LR_bin (at_tmp 5 _) (at_c (v' := I64 1) rfl) (gtr_I64 (a0.2.1 : Int) 1) rfl) (sS (sA (sT1 rfl) sT0) sB0 sF0) ?_
      refine AL_nil ?_
      exact thenN (cutLeaf (v := decide ((a0.2.1 : Int) > 1)) hr (weak0 ((sT rfl (sT rfl (sT rfl sT0)))) sub_nil))
    · rintro x4 hr
      show AW Hfaa.prog _ _ _ ⟨[(0, .inl (ns U32 a0)), (3, .inl (is (U64 (0#64)))), (6, .inl (is (Bl x4)))], []⟩
      have hr : some r = F210_4 N a0 x4 := hr
      refine AW_condT (b := x4) rfl (fun h => ?_) (fun h => ?_)
      · have hr := hr.trans (cond_t h)
        clear h
        refine AW_region ?_
        refine AL_cons (LR_move (at_tmp 0 _) rfl) (sS (sT1 rfl) sB0 sF0) ?_
        obtain ⟨hg4, hr⟩ := guard_some hr
        refine AL_cons (LR_indexAddrQ Hfaa.underlying49 sz65 (at_tmp 7 _) (at_c (v' := I64 1) rfl) (natIx (a := 1) (of_decide_eq_true hg4)) rfl) (sS (sA (sT1 rfl) sT0) sB0 sF0) ?_
        refine AL_cons (LR_loadQ (at_tmp 8 _) na65 rfl) (sS (sT1 rfl) sB0 sF0) ?_
        refine AL_cons (LR_conv (vx := U32 (a0.2.2 1)) (at_tmp 9 _) (conv_U64 Hfaa.underlying65 Hfaa.underlying30 ((a0.2.2 1).toNat : Int)) rfl) (sS (sT1 rfl) sB0 sF0) ?_
        refine AL_cons (LR_bin (at_tmp 10 _) (at_c (v' := U64 (32#64)) rfl) (shl_U64 (BitVec.ofInt 64 ((a0.2.2 1).toNat : Int)) ((32#64).toNat : Int) (Int.natCast_nonneg _)) rfl) (sS (sA (sT1 rfl) sT0) sB0 sF0) ?_
        refine AL_cons (LR_assign (at_tmp 11 _) rfl) (sS (sT1 rfl) sB0 sF0) ?_
        refine AL_nil ?_
        exact thenN (cutLeaf (v := (BitVec.ofInt 64 ((a0.2.2 1).toNat : Int)) <<< 32) hr (weak0 ((sT rfl (sT rfl sT0))) sub_nil))
      · have hr := hr.trans (cond_f h)
        clear h
        refine AW_skip ?_
        exact thenN (cutLeaf (v := 0#64) hr (weak0 ((sT rfl (sT rfl sT0))) sub_nil))
  · rintro x1 hr
    show AW Hfaa.prog _ _ _ ⟨[(0, .inl (ns U32 a0)), (3, .inl (is (U64 x1)))], []⟩
    have hr : some r = F210_1 N a0 x1 := hr
    refine AW_cut (σ := BitVec 64) (fun v => ⟨[(3, .inl (is (U64 v)))], []⟩) (fun v => some r = F210_2 N v) ?_ ?_
    · skip
      refine AW_cut (σ := Bool) (fun v => ⟨[(0, .inl (ns U32 a0)), (3, .inl (is (U64 x1))), (14, .inl (is (Bl v)))], []⟩) (fun v => some r = F210_3 N a0 x1 v) ?_ ?_
      · skip
        refine AW_region ?_
        refine AL_cons (LR_move (at_tmp 0 _) rfl) (sS (sT1 rfl) sB0 sF0) ?_
        refine AL_cons (LR_bi1 (at_tmp 12 _) (len_ns Hfaa.underlying49 a0) rfl) (sS (sT1 rfl) sB0 sF0) ?_
        refine AL_cons (LR_bin (at_tmp 13 _) (at_c (v' := I64 0) rfl) (gtr_I64 (a0.2.1 : Int) 0) rfl) (sS (sA (sT1 rfl) sT0) sB0 sF0) ?_
        refine AL_nil ?_
        exact thenN (cutLeaf (v := decide ((a0.2.1 : Int) > 0)) hr (weak0 ((sT rfl (sT rfl (sT rfl sT0)))) sub_nil))
      · rintro x3 hr
        show AW Hfaa.prog _ _ _ ⟨[(0, .inl (ns U32 a0)), (3, .inl (is (U64 x1))), (14, .inl (is (Bl x3)))], []⟩
        have hr : some r = F210_3 N a0 x1 x3 := hr
        refine AW_condT (b := x3) rfl (fun h => ?_) (fun h => ?_)
        · have hr := hr.trans (cond_t h)
          clear h
          refine AW_region ?_
          refine AL_cons (LR_move (at_tmp 3 _) rfl) (sS (sT1 rfl) sB0 sF0) ?_
          refine AL_cons (LR_move (at_tmp 0 _) rfl) (sS (sT1 rfl) sB0 sF0) ?_
          obtain ⟨hg3, hr⟩ := guard_some hr
          refine AL_cons (LR_indexAddrQ Hfaa.underlying49 sz65 (at_tmp 16 _) (at_c (v' := I64 0) rfl) (natIx (a := 0) (of_decide_eq_true hg3)) rfl) (sS (sA (sT1 rfl) sT0) sB0 sF0) ?_
          refine AL_cons (LR_loadQ (at_tmp 17 _) na65 rfl) (sS (sT1 rfl) sB0 sF0) ?_
          refine AL_cons (LR_conv (vx := U32 (a0.2.2 0)) (at_tmp 18 _) (conv_U64 Hfaa.underlying65 Hfaa.underlying30 ((a0.2.2 0).toNat : Int)) rfl) (sS (sT1 rfl) sB0 sF0) ?_
          refine AL_cons (LR_bin (at_tmp 15 _) (at_tmp 19 _) (or_U64 x1 (BitVec.ofInt 64 ((a0.2.2 0).toNat : Int))) rfl) (sS (sA (sT1 rfl) (sT1 rfl)) sB0 sF0) ?_
          refine AL_cons (LR_assign (at_tmp 20 _) rfl) (sS (sT1 rfl) sB0 sF0) ?_
          refine AL_nil ?_
          exact thenN (cutLeaf (v := x1 ||| (BitVec.ofInt 64 ((a0.2.2 0).toNat : Int))) hr (weak0 ((sT rfl sT0)) sub_nil))
        · have hr := hr.trans (cond_f h)
          clear h
          refine AW_skip ?_
          exact thenN (cutLeaf (v := x1) hr (weak0 ((sT rfl sT0)) sub_nil))
    · rintro x2 hr
      show AW Hfaa.prog _ _ _ ⟨[(3, .inl (is (U64 x2)))], []⟩
      have hr : some r = F210_2 N x2 := hr
      refine AW_seq1 ?_
      refine AW_region ?_
      refine AL_cons (LR_move (at_tmp 3 _) rfl) (sS (sT1 rfl) sB0 sF0) ?_
      refine AL_cons (LR_assign (at_tmp 21 _) rfl) (sS (sT1 rfl) sB0 sF0) ?_
      refine AL_nil ?_
      refine thenN ?_
      refine AW_ret ?_
      obtain rfl := Option.some.inj hr
      exact res1 rfl (rvT rfl)
/-- nat.Sqrt -/
def F360_4 (N : Nat) (x1 : NS (BitVec 32)) (x4 : NS (BitVec 32)) : Option (NS (BitVec 32) × Bool) := (F22 N x4 x4).bind fun y26 => (F60 N y26 x1).bind fun y27 => some (x4, y27 == 0)
def F360_8 (N : Nat) (x1 : NS (BitVec 32)) (x5 : NS (BitVec 32)) (x7 : NS (BitVec 32)) (x8 : Bool) : Option ((NS (BitVec 32)) ⊕ (NS (BitVec 32) × Bool)) := bif x8 then (F360_4 N x1 x5).map Sum.inr else some (.inl x7)
def F360_7 (N : Nat) (x1 : NS (BitVec 32)) (x5 : NS (BitVec 32)) (x7 : NS (BitVec 32)) : Option ((NS (BitVec 32)) ⊕ (NS (BitVec 32) × Bool)) := (F60 N x7 x5).bind fun y44 => F360_8 N x1 x5 x7 (decide (y44 ≥ 0))
def F360_6 (N : Nat) (x1 : NS (BitVec 32)) (x5 : NS (BitVec 32)) (x6 : NS (BitVec 32)) : Option ((NS (BitVec 32)) ⊕ (NS (BitVec 32) × Bool)) := (F253 N x5 x6).bind fun y45 => (F38 N y45 (1#16)).bind fun y46 => F360_7 N x1 x5 y46.1
def F360_L5b (N : Nat) (x1 : NS (BitVec 32)) (x5 : NS (BitVec 32)) : Option ((NS (BitVec 32)) ⊕ (NS (BitVec 32) × Bool)) := (F35 N x1 x5).bind fun y47 => F360_6 N x1 x5 y47.1
def F360_L5 (N : Nat) (x1 : NS (BitVec 32)) : (NS (BitVec 32)) → Option ((NS (BitVec 32)) ⊕ (NS (BitVec 32) × Bool)) := fun v => F360_L5b N x1 v
def F360_3 (N : Nat) (x1 : NS (BitVec 32)) (x3 : NS (BitVec 32)) : Option (NS (BitVec 32) × Bool) := iterL (F360_L5 N x1) N x3
def F360_2 (N : Nat) (x1 : NS (BitVec 32)) (x2 : Bool) : Option (NS (BitVec 32) × Bool) := bif x2 then some (((true, 0, fun _ => 0#32), true)) else (F34 N x1).bind fun y48 => (F64 N (false, 1, fun _ => 1#32) (w64 ((w64 (y48 + 1)).tdiv 2))).bind fun y49 => F360_3 N x1 y49
def F360_1 (N : Nat) (x1 : NS (BitVec 32)) : Option (NS (BitVec 32) × Bool) := F360_2 N x1 x1.1
def F360 (N : Nat) (a0 : NS (BitVec 32)) : Option (NS (BitVec 32) × Bool) := (F33 N a0).bind fun y50 => F360_1 N y50
theorem C360 (N : Nat) (a0 : NS (BitVec 32)) (r : NS (BitVec 32) × Bool) (hr : some r = F360 N a0) : Aw.Fn Hfaa.prog 360 [ns U32 a0] (tup [ns U32 r.1, is (Bl r.2)]) := by
  refine fn_intro Hfaa.func360 rfl rfl rfl ?_
  intro bn0 w0 H0
  refine AW_seq1 ?_
  refine AW_region ?_
  refine AL_cons (LR_assign (at_ns0 (K := U32) (fun _ => 0#32)) rfl) (sS sT0 sB0 sF0) ?_
  refine AL_cons (LR_assign (at_c (v' := Bl false) rfl) rfl) (sS sT0 sB0 sF0) ?_
  refine AL_nil ?_
  refine thenN ?_
  refine AW_cut (σ := NS (BitVec 32)) (fun v => ⟨[(0, .inl (ns U32 v))], []⟩) (fun v => some r = F360_1 N v) ?_ ?_
  · skip
    refine AW_region ?_
    refine AL_cons (LR_move (at_tmp 0 _) rfl) (sS (sT1 rfl) sB0 sF0) ?_
    obtain ⟨y50, hy50, hr⟩ := bind_some hr
    refine AL_cons (LR_call Hfaa.func33 rfl rfl (C33 N a0 y50 hy50) (all_cons (at_tmp 9 _) all_nil) rfl) (sS (sA (sT1 rfl) sT0) sB0 sF0) ?_
    refine AL_cons (LR_assign (at_tmp 10 _) rfl) (sS (sT1 rfl) sB0 sF0) ?_
    refine AL_nil ?_
    exact thenN (cutLeaf (v := y50) hr (weak0 ((sT rfl sT0)) sub_nil))
  · rintro x1 hr
    show AW Hfaa.prog _ _ _ ⟨[(0, .inl (ns U32 x1))], []⟩
    have hr : some r = F360_1 N x1 := hr
    refine AW_seq1 ?_
    refine AW_cut (σ := Bool) (fun v => ⟨[(0, .inl (ns U32 x1)), (12, .inl (is (Bl v)))], []⟩) (fun v => some r = F360_2 N x1 v) ?_ ?_
    · skip
      refine AW_region ?_
      refine AL_cons (LR_move (at_tmp 0 _) rfl) (sS (sT1 rfl) sB0 sF0) ?_
      refine AL_cons (LR_binA (at_tmp 11 _) (at_ns0 (K := U32) (fun _ => 0#32)) (eqNs Hfaa.underlying49 x1 _) rfl) (sS (sA (sT1 rfl) sT0) sB0 sF0) ?_
      refine AL_nil ?_
      exact thenN (cutLeaf (v := x1.1) hr (weak0 ((sT rfl (sT rfl sT0))) sub_nil))
    · rintro x2 hr
      show AW Hfaa.prog _ _ _ ⟨[(0, .inl (ns U32 x1)), (12, .inl (is (Bl x2)))], []⟩
      have hr : some r = F360_2 N x1 x2 := hr
      refine AW_condT (b := x2) rfl (fun h => ?_) (fun h => ?_)
      · have hr := hr.trans (cond_t h)
        clear h
        refine AW_seq1 ?_
        refine AW_region ?_
        refine AL_cons (LR_assign (at_ns0 (K := U32) (fun _ => 0#32)) rfl) (sS sT0 sB0 sF0) ?_
        refine AL_cons (LR_assign (at_c (v' := Bl true) rfl) rfl) (sS sT0 sB0 sF0) ?_
        refine AL_nil ?_
        refine thenN ?_
        refine AW_ret ?_
        refine thenR ?_
        obtain rfl := Option.some.inj hr
        exact res2 rfl (rvT rfl) (rvT rfl)
      · have hr := hr.trans (cond_f h)
        clear h
        refine AW_skip ?_
        refine thenN ?_
        refine AW_cut (σ := NS (BitVec 32)) (fun v => ⟨[(0, .inl (ns U32 x1)), (2, .inl (ns U32 v))], []⟩) (fun v => some r = F360_3 N x1 v) ?_ ?_
        · skip
          refine AW_region ?_
          refine AL_cons (LR_bs1 Hfaa.underlying49 el65 (fun _ => rfl) (at_c (v' := U32 (1#32)) rfl) rfl) (sS sT0 sB0 sF0) ?_
          refine AL_cons (LR_move (at_tmp 0 _) rfl) (sS (sT1 rfl) sB0 sF0) ?_
          obtain ⟨y48, hy48, hr⟩ := bind_some hr
          refine AL_cons (LR_call Hfaa.func34 rfl rfl (C34 N x1 y48 hy48) (all_cons (at_tmp 14 _) all_nil) rfl) (sS (sA (sT1 rfl) sT0) sB0 sF0) ?_
          refine AL_cons (LR_bin (at_tmp 15 _) (at_c (v' := I64 1) rfl) (add_I64 y48 1) rfl) (sS (sA (sT1 rfl) sT0) sB0 sF0) ?_
          refine AL_cons (LR_bin (at_tmp 16 _) (at_c (v' := I64 2) rfl) (quo_I64 (w64 (y48 + 1)) 2 (by decide)) rfl) (sS (sA (sT1 rfl) sT0) sB0 sF0) ?_
          obtain ⟨y49, hy49, hr⟩ := bind_some hr
          refine AL_cons (LR_call Hfaa.func64 rfl rfl (C64 N (false, 1, fun _ => 1#32) (w64 ((w64 (y48 + 1)).tdiv 2)) y49 hy49) (all_cons (at_tmp 13 _) (all_cons (at_tmp 17 _) all_nil)) rfl) (sS (sA (sT1 rfl) (sA (sT1 rfl) sT0)) sB0 sF0) ?_
          refine AL_cons (LR_assign (at_tmp 18 _) rfl) (sS (sT1 rfl) sB0 sF0) ?_
          refine AL_nil ?_
          exact thenN (cutLeaf (v := y49) hr (weak0 ((sT rfl (sT rfl sT0))) sub_nil))
        · rintro x3 hr
          show AW Hfaa.prog _ _ _ ⟨[(0, .inl (ns U32 x1)), (2, .inl (ns U32 x3))], []⟩
          have hr : some r = F360_3 N x1 x3 := hr
          refine AW_cut (σ := NS (BitVec 32)) (fun v => ⟨[(0, .inl (ns U32 x1)), (2, .inl (ns U32 v))], []⟩) (fun v => some r = F360_4 N x1 v) ?_ ?_
          · skip
            refine AW_block ?_
            refine AW_iterR (σ := NS (BitVec 32)) (r := r) (x0 := x3) (emb := fun v => ⟨[(0, .inl (ns U32 x1)), (2, .inl (ns U32 v))], []⟩) ?_ hr ?_
            · exact weak0 ((sT rfl (sT rfl sT0))) sub_nil
            rintro x5 out2 hr
            show AW Hfaa.prog _ _ _ ⟨[(0, .inl (ns U32 x1)), (2, .inl (ns U32 x5))], []⟩
            have hr : some out2 = F360_L5b N x1 x5 := hr
            refine AW_block ?_
            refine AW_cut (σ := NS (BitVec 32)) (fun v => ⟨[(0, .inl (ns U32 x1)), (2, .inl (ns U32 x5)), (4, .inl (ns U32 v))], []⟩) (fun v => some out2 = F360_6 N x1 x5 v) ?_ ?_
            · skip
              refine AW_region ?_
              refine AL_cons (LR_move (at_tmp 0 _) rfl) (sS (sT1 rfl) sB0 sF0) ?_
              refine AL_cons (LR_move (at_tmp 2 _) rfl) (sS (sT1 rfl) sB0 sF0) ?_
              obtain ⟨y47, hy47, hr⟩ := bind_some hr
              refine AL_cons (LR_call Hfaa.func35 rfl rfl (C35 N x1 x5 y47 hy47) (all_cons (at_tmp 20 _) (all_cons (at_tmp 21 _) all_nil)) rfl) (sS (sA (sT1 rfl) (sA (sT1 rfl) sT0)) sB0 sF0) ?_
              refine AL_cons (LR_move (at_tmp 22 _) rfl) (sS (sT1 rfl) sB0 sF0) ?_
              refine AL_cons (LR_extract (at_tmp 19 _) rfl rfl) (sS (sT1 rfl) sB0 sF0) ?_
              refine AL_cons (LR_extract (at_tmp 19 _) rfl rfl) (sS (sT1 rfl) sB0 sF0) ?_
              refine AL_cons (LR_extract (at_tmp 19 _) rfl rfl) (sS (sT1 rfl) sB0 sF0) ?_
              refine AL_cons (LR_assign (at_tmp 23 _) rfl) (sS (sT1 rfl) sB0 sF0) ?_
              refine AL_cons (LR_assign (at_tmp 24 _) rfl) (sS (sT1 rfl) sB0 sF0) ?_
              refine AL_cons (LR_assign (at_tmp 25 _) rfl) (sS (sT1 rfl) sB0 sF0) ?_
              refine AL_nil ?_
              exact thenN (cutLeaf (v := y47.1) hr (weak0 ((sT rfl (sT rfl (sT rfl sT0)))) sub_nil))
            · rintro x6 hr
              show AW Hfaa.prog _ _ _ ⟨[(0, .inl (ns U32 x1)), (2, .inl (ns U32 x5)), (4, .inl (ns U32 x6))], []⟩
              have hr : some out2 = F360_6 N x1 x5 x6 := hr
              refine AW_cut (σ := NS (BitVec 32)) (fun v => ⟨[(0, .inl (ns U32 x1)), (2, .inl (ns U32 x5)), (7, .inl (ns U32 v))], []⟩) (fun v => some out2 = F360_7 N x1 x5 v) ?_ ?_
              · skip
                refine AW_region ?_
                refine AL_cons (LR_move (at_tmp 2 _) rfl) (sS (sT1 rfl) sB0 sF0) ?_
                refine AL_cons (LR_move (at_tmp 4 _) rfl) (sS (sT1 rfl) sB0 sF0) ?_
                obtain ⟨y45, hy45, hr⟩ := bind_some hr
                refine AL_cons (LR_call Hfaa.func253 rfl rfl (C253 N x5 x6 y45 hy45) (all_cons (at_tmp 27 _) (all_cons (at_tmp 28 _) all_nil)) rfl) (sS (sA (sT1 rfl) (sA (sT1 rfl) sT0)) sB0 sF0) ?_
                obtain ⟨y46, hy46, hr⟩ := bind_some hr
                refine AL_cons (LR_call Hfaa.func38 rfl rfl (C38 N y45 (1#16) y46 hy46) (all_cons (at_tmp 29 _) (all_cons (at_c (v' := U16 (1#16)) rfl) all_nil)) rfl) (sS (sA (sT1 rfl) (sA sT0 sT0)) sB0 sF0) ?_
                refine AL_cons (LR_move (at_tmp 30 _) rfl) (sS (sT1 rfl) sB0 sF0) ?_
                refine AL_cons (LR_extract (at_tmp 26 _) rfl rfl) (sS (sT1 rfl) sB0 sF0) ?_
                refine AL_cons (LR_extract (at_tmp 26 _) rfl rfl) (sS (sT1 rfl) sB0 sF0) ?_
                refine AL_cons (LR_assign (at_tmp 31 _) rfl) (sS (sT1 rfl) sB0 sF0) ?_
                refine AL_cons (LR_assign (at_tmp 32 _) rfl) (sS (sT1 rfl) sB0 sF0) ?_
                refine AL_nil ?_
                exact thenN (cutLeaf (v := y46.1) hr (weak0 ((sT rfl (sT rfl (sT rfl sT0)))) sub_nil))
              · rintro x7 hr
                show AW Hfaa.prog _ _ _ ⟨[(0, .inl (ns U32 x1)), (2, .inl (ns U32 x5)), (7, .inl (ns U32 x7))], []⟩
                have hr : some out2 = F360_7 N x1 x5 x7 := hr
                refine AW_seq1 ?_
                refine AW_cut (σ := Bool) (fun v => ⟨[(0, .inl (ns U32 x1)), (2, .inl (ns U32 x5)), (7, .inl (ns U32 x7)), (36, .inl (is (Bl v)))], []⟩) (fun v => some out2 = F360_8 N x1 x5 x7 v) ?_ ?_
                · skip
                  refine AW_region ?_
                  refine AL_cons (LR_move (at_tmp 7 _) rfl) (sS (sT1 rfl) sB0 sF0) ?_
                  refine AL_cons (LR_move (at_tmp 2 _) rfl) (sS (sT1 rfl) sB0 sF0) ?_
                  obtain ⟨y44, hy44, hr⟩ := bind_some hr
                  refine AL_cons (LR_call Hfaa.func60 rfl rfl (C60 N x7 x5 y44 hy44) (all_cons (at_tmp 33 _) (all_cons (at_tmp 34 _) all_nil)) rfl) (sS (sA (sT1 rfl) (sA (sT1 rfl) sT0)) sB0 sF0) ?_
                  refine AL_cons (LR_bin (at_tmp 35 _) (at_c (v' := I8 0) rfl) (geq_I8 y44 0) rfl) (sS (sA (sT1 rfl) sT0) sB0 sF0) ?_
                  refine AL_nil ?_
                  exact thenN (cutLeaf (v := decide (y44 ≥ 0)) hr (weak0 ((sT rfl (sT rfl (sT rfl (sT rfl sT0))))) sub_nil))
                · rintro x8 hr
                  show AW Hfaa.prog _ _ _ ⟨[(0, .inl (ns U32 x1)), (2, .inl (ns U32 x5)), (7, .inl (ns U32 x7)), (36, .inl (is (Bl x8)))], []⟩
                  have hr : some out2 = F360_8 N x1 x5 x7 x8 := hr
                  refine AW_condT (b := x8) rfl (fun h => ?_) (fun h => ?_)
                  · have hr := hr.trans (cond_t h)
                    clear h
                    refine AW_exit ?_
                    refine thenX ?_
                    refine blO (by decide) ?_
                    obtain ⟨r', hro, hr⟩ := map_inr hr
                    refine thenX (loopOut hro (fun he => ?_))
                    rw [he] at hr
                    refine blH ?_
                    exact thenN (cutLeaf (v := x5) hr (weak0 ((sT rfl (sT rfl sT0))) sub_nil))
                  · have hr := hr.trans (cond_f h)
                    clear h
                    refine AW_skip ?_
                    refine thenN ?_
                    refine AW_region ?_
                    refine AL_cons (LR_move (at_tmp 7 _) rfl) (sS (sT1 rfl) sB0 sF0) ?_
                    refine AL_cons (LR_assign (at_tmp 37 _) rfl) (sS (sT1 rfl) sB0 sF0) ?_
                    refine AL_nil ?_
                    refine blN ?_
                    exact thenN (loopNext (x' := x7) hr (weak0 ((sT rfl (sT rfl sT0))) sub_nil))
          · rintro x4 hr
            show AW Hfaa.prog _ _ _ ⟨[(0, .inl (ns U32 x1)), (2, .inl (ns U32 x4))], []⟩
            have hr : some r = F360_4 N x1 x4 := hr
            refine AW_seq1 ?_
            refine AW_region ?_
            refine AL_cons (LR_move (at_tmp 2 _) rfl) (sS (sT1 rfl) sB0 sF0) ?_
            refine AL_cons (LR_move (at_tmp 2 _) rfl) (sS (sT1 rfl) sB0 sF0) ?_
            refine AL_cons (LR_move (at_tmp 2 _) rfl) (sS (sT1 rfl) sB0 sF0) ?_
            obtain ⟨y26, hy26, hr⟩ := bind_some hr
            refine AL_cons (LR_call Hfaa.func22 rfl rfl (C22 N x4 x4 y26 hy26) (all_cons (at_tmp 39 _) (all_cons (at_tmp 40 _) all_nil)) rfl) (sS (sA (sT1 rfl) (sA (sT1 rfl) sT0)) sB0 sF0) ?_
            refine AL_cons (LR_move (at_tmp 0 _) rfl) (sS (sT1 rfl) sB0 sF0) ?_
            obtain ⟨y27, hy27, hr⟩ := bind_some hr
            refine AL_cons (LR_call Hfaa.func60 rfl rfl (C60 N y26 x1 y27 hy27) (all_cons (at_tmp 41 _) (all_cons (at_tmp 42 _) all_nil)) rfl) (sS (sA (sT1 rfl) (sA (sT1 rfl) sT0)) sB0 sF0) ?_
            refine AL_cons (LR_bin (at_tmp 43 _) (at_c (v' := I8 0) rfl) (eql_I8 y27 0) rfl) (sS (sA (sT1 rfl) sT0) sB0 sF0) ?_
            refine AL_cons (LR_assign (at_tmp 38 _) rfl) (sS (sT1 rfl) sB0 sF0) ?_
            refine AL_cons (LR_assign (at_tmp 44 _) rfl) (sS (sT1 rfl) sB0 sF0) ?_
            refine AL_nil ?_
            refine thenN ?_
            refine AW_ret ?_
            obtain rfl := Option.some.inj hr
            exact res2 rfl (rvT rfl) (rvT rfl)
end Go.Proofs.YfwaawGreat
