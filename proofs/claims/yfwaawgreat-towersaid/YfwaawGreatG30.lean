import Derived.Test.YfwaawGreatG1
import Derived.Test.YfwaawGreatG2
import Derived.Test.YfwaawGreatG25
import Derived.Test.YfwaawGreatG26
import Derived.Test.YfwaawGreatG28
import Derived.Test.YfwaawGreatG29
namespace Go.Proofs.YfwaawGreat
open Go.Aw
set_option linter.unusedVariables false
set_option maxRecDepth 100000
set_option maxHeartbeats 1000000
/-- soft.Div -/
def F158_1 (N : Nat) (x1 : BitVec 64) : Option (BitVec 64) := some x1
def F158 (N : Nat) (a0_0 : BitVec 8) (a0_1 : BitVec 8) (a1 : BitVec 8) (a2 : BitVec 64) (a3 : BitVec 64) : Option (BitVec 64) := (F191 N a0_0 a0_1 a1 a2 a3).bind fun y2 => F158_1 N y2.1
theorem C158 (N : Nat) (a0_0 : BitVec 8) (a0_1 : BitVec 8) (a1 : BitVec 8) (a2 : BitVec 64) (a3 : BitVec 64) (r : BitVec 64) (hr : some r = F158 N a0_0 a0_1 a1 a2 a3) : Aw.Fn Hfaa.prog 158 [agg [is (U8 a0_0), is (U8 a0_1)], is (U8 a1), is (U64 a2), is (U64 a3)] (is (U64 r)) := by
  refine fn_intro Hfaa.func158 rfl rfl rfl ?_
  intro bn0 w0 H0
  refine AW_seq1 ?_
  refine AW_region ?_
  refine AL_cons (LR_box (at_tmp 0 _) (cells_agg _) rfl) (sS (sT1 rfl) sB0 (sF1 rfl)) ?_
  refine AL_cons (LR_assign (at_c (v' := U64 (0#64)) rfl) rfl) (sS sT0 sB0 sF0) ?_
  refine AL_nil ?_
  refine thenN ?_
  refine AW_cut (σ := BitVec 64) (fun v => ⟨[(9, .inl (is (U64 v)))], []⟩) (fun v => some r = F158_1 N v) ?_ ?_
  · skip
    refine AW_region ?_
    refine AL_cons (LR_loads (at_tmp 4 _) ag23 sz23 rfl rfl rfl) (sS (sT1 rfl) (sB1 rfl) sF0) ?_
    refine AL_cons (LR_move (at_tmp 1 _) rfl) (sS (sT1 rfl) sB0 sF0) ?_
    refine AL_cons (LR_move (at_tmp 2 _) rfl) (sS (sT1 rfl) sB0 sF0) ?_
    refine AL_cons (LR_move (at_tmp 3 _) rfl) (sS (sT1 rfl) sB0 sF0) ?_
    obtain ⟨y2, hy2, hr⟩ := bind_some hr
    refine AL_cons (LR_call Hfaa.func191 rfl rfl (C191 N a0_0 a0_1 a1 a2 a3 y2 hy2) (all_cons (at_tmp 12 _) (all_cons (at_tmp 13 _) (all_cons (at_tmp 14 _) (all_cons (at_tmp 15 _) all_nil)))) rfl) (sS (sA (sT1 rfl) (sA (sT1 rfl) (sA (sT1 rfl) (sA (sT1 rfl) sT0)))) sB0 sF0) ?_
    refine AL_cons (LR_move (at_tmp 16 _) rfl) (sS (sT1 rfl) sB0 sF0) ?_
    refine AL_cons (LR_extract (at_tmp 11 _) rfl rfl) (sS (sT1 rfl) sB0 sF0) ?_
    refine AL_cons (LR_extract (at_tmp 11 _) rfl rfl) (sS (sT1 rfl) sB0 sF0) ?_
    refine AL_cons (LR_assign (at_tmp 17 _) rfl) (sS (sT1 rfl) sB0 sF0) ?_
    refine AL_cons (LR_assign (at_tmp 18 _) rfl) (sS (sT1 rfl) sB0 sF0) ?_
    refine AL_nil ?_
    exact thenN (cutLeaf (v := y2.1) hr (weak0 ((sT rfl sT0)) (sub_drop sub_nil)))
  · rintro x1 hr
    show AW Hfaa.prog _ _ _ ⟨[(9, .inl (is (U64 x1)))], []⟩
    have hr : some r = F158_1 N x1 := hr
    refine AW_seq1 ?_
    refine AW_region ?_
    refine AL_cons (LR_move (at_tmp 9 _) rfl) (sS (sT1 rfl) sB0 sF0) ?_
    refine AL_cons (LR_assign (at_tmp 19 _) rfl) (sS (sT1 rfl) sB0 sF0) ?_
    refine AL_nil ?_
    refine thenN ?_
    refine AW_ret ?_
    obtain rfl := Option.some.inj hr
    exact res1 rfl (rvT rfl)
/-- wide.root -/
def F361_5 (N : Nat) (a0 : BitVec 64) (x6 : BitVec 64) : Option (BitVec 64 × BitVec 64) := some ((x6, a0 - (x6 * x6)))
def F361_6 (N : Nat) (a0 : BitVec 64) (x5 : BitVec 64) (x7 : Bool) : Option (BitVec 64 × BitVec 64) := bif x7 then F361_5 N a0 (x5 - (1#64)) else F361_5 N a0 x5
def F361_4 (N : Nat) (a0 : BitVec 64) (x5 : BitVec 64) : Option (BitVec 64 × BitVec 64) := F361_6 N a0 x5 (decide (a0.toNat < (x5 * x5).toNat))
def F361_3 (N : Nat) (a0 : BitVec 64) (x2 : BitVec 64) (x4 : BitVec 64) : Option (BitVec 64 × BitVec 64) := F361_4 N a0 ((x2 <<< 16) ||| (umin x4 (65535#64)))
def F361_2 (N : Nat) (a0 : BitVec 64) (x2 : BitVec 64) (x3 : BitVec 64) : Option (BitVec 64 × BitVec 64) := bif ((2#64) * x2) != 0#64 then F361_3 N a0 x2 (((x3 <<< 16) ||| ((a0 >>> 16) &&& (65535#64))) / ((2#64) * x2)) else none
def F361_9 (N : Nat) (a0 : BitVec 64) (x10 : BitVec 64) (x12 : BitVec 64) (x13 : BitVec 64) : Option ((BitVec 64 × BitVec 64 × BitVec 64) ⊕ (BitVec 64 × BitVec 64)) := some (.inl (x12, x13, x10 >>> 1))
def F361_12 (N : Nat) (a0 : BitVec 64) (x8 : BitVec 64) (x10 : BitVec 64) (x16 : BitVec 64) : Option ((BitVec 64 × BitVec 64 × BitVec 64) ⊕ (BitVec 64 × BitVec 64)) := F361_9 N a0 x10 (x8 ||| x10) x16
def F361_11 (N : Nat) (a0 : BitVec 64) (x8 : BitVec 64) (x9 : BitVec 64) (x10 : BitVec 64) (x14 : BitVec 64) (x15 : Bool) : Option ((BitVec 64 × BitVec 64 × BitVec 64) ⊕ (BitVec 64 × BitVec 64)) := bif x15 then F361_12 N a0 x8 x10 (x9 - x14) else F361_9 N a0 x10 x8 x9
def F361_10 (N : Nat) (a0 : BitVec 64) (x8 : BitVec 64) (x9 : BitVec 64) (x10 : BitVec 64) (x14 : BitVec 64) : Option ((BitVec 64 × BitVec 64 × BitVec 64) ⊕ (BitVec 64 × BitVec 64)) := F361_11 N a0 x8 x9 x10 x14 (decide (x14.toNat ≤ x9.toNat))
def F361_8 (N : Nat) (a0 : BitVec 64) (x8 : BitVec 64) (x9 : BitVec 64) (x10 : BitVec 64) (x11 : Bool) : Option ((BitVec 64 × BitVec 64 × BitVec 64) ⊕ (BitVec 64 × BitVec 64)) := bif x11 then F361_10 N a0 x8 x9 x10 ((((2#64) * x8) + x10) * x10) else (F361_2 N a0 x8 x9).map Sum.inr
def F361_L7b (N : Nat) (a0 : BitVec 64) (x8 : BitVec 64) (x9 : BitVec 64) (x10 : BitVec 64) : Option ((BitVec 64 × BitVec 64 × BitVec 64) ⊕ (BitVec 64 × BitVec 64)) := F361_8 N a0 x8 x9 x10 (decide ((0#64).toNat < x10.toNat))
def F361_L7 (N : Nat) (a0 : BitVec 64) : (BitVec 64 × BitVec 64 × BitVec 64) → Option ((BitVec 64 × BitVec 64 × BitVec 64) ⊕ (BitVec 64 × BitVec 64)) := fun v => F361_L7b N a0 v.1 v.2.1 v.2.2
def F361_1 (N : Nat) (a0 : BitVec 64) (x1 : BitVec 64) : Option (BitVec 64 × BitVec 64) := iterL (F361_L7 N a0) N (0#64, x1, 32768#64)
def F361 (N : Nat) (a0 : BitVec 64) : Option (BitVec 64 × BitVec 64) := F361_1 N a0 (a0 >>> 32)
theorem C361 (N : Nat) (a0 : BitVec 64) (r : BitVec 64 × BitVec 64) (hr : some r = F361 N a0) : Aw.Fn Hfaa.prog 361 [is (U64 a0)] (tup [is (U64 r.1), is (U64 r.2)]) := by
  refine fn_intro Hfaa.func361 rfl rfl rfl ?_
  intro bn0 w0 H0
  refine AW_seq1 ?_
  refine AW_region ?_
  refine AL_cons (LR_assign (at_c (v' := U64 (0#64)) rfl) rfl) (sS sT0 sB0 sF0) ?_
  refine AL_cons (LR_assign (at_c (v' := U64 (0#64)) rfl) rfl) (sS sT0 sB0 sF0) ?_
  refine AL_nil ?_
  refine thenN ?_
  refine AW_cut (σ := BitVec 64) (fun v => ⟨[(0, .inl (is (U64 a0))), (2, .inl (is (U64 (0#64)))), (4, .inl (is (U64 v)))], []⟩) (fun v => some r = F361_1 N a0 v) ?_ ?_
  · skip
    refine AW_region ?_
    refine AL_cons (LR_move (at_tmp 0 _) rfl) (sS (sT1 rfl) sB0 sF0) ?_
    refine AL_cons (LR_bin (at_tmp 9 _) (at_c (v' := U64 (32#64)) rfl) (shr_U64 a0 ((32#64).toNat : Int) (Int.natCast_nonneg _)) rfl) (sS (sA (sT1 rfl) sT0) sB0 sF0) ?_
    refine AL_cons (LR_assign (at_tmp 10 _) rfl) (sS (sT1 rfl) sB0 sF0) ?_
    refine AL_nil ?_
    exact thenN (cutLeaf (v := a0 >>> 32) hr (weak0 ((sT rfl (sT rfl (sT rfl sT0)))) sub_nil))
  · rintro x1 hr
    show AW Hfaa.prog _ _ _ ⟨[(0, .inl (is (U64 a0))), (2, .inl (is (U64 (0#64)))), (4, .inl (is (U64 x1)))], []⟩
    have hr : some r = F361_1 N a0 x1 := hr
    refine AW_seq1 ?_
    refine AW_region ?_
    refine AL_cons (LR_move (at_tmp 4 _) rfl) (sS (sT1 rfl) sB0 sF0) ?_
    refine AL_cons (LR_assign (at_tmp 11 _) rfl) (sS (sT1 rfl) sB0 sF0) ?_
    refine AL_nil ?_
    refine thenN ?_
    refine AW_cut (σ := BitVec 64 × BitVec 64) (fun v => ⟨[(0, .inl (is (U64 a0))), (2, .inl (is (U64 v.1))), (5, .inl (is (U64 v.2)))], []⟩) (fun v => some r = F361_2 N a0 v.1 v.2) ?_ ?_
    · skip
      refine AW_seq1 ?_
      refine AW_region ?_
      refine AL_cons (LR_assign (at_c (v' := U64 (32768#64)) rfl) rfl) (sS sT0 sB0 sF0) ?_
      refine AL_nil ?_
      refine thenN ?_
      refine AW_block ?_
      refine AW_iterR (σ := BitVec 64 × BitVec 64 × BitVec 64) (r := r) (x0 := (0#64, x1, 32768#64)) (emb := fun v => ⟨[(0, .inl (is (U64 a0))), (2, .inl (is (U64 v.1))), (5, .inl (is (U64 v.2.1))), (6, .inl (is (U64 v.2.2)))], []⟩) ?_ hr ?_
      · exact weak0 ((sT rfl (sT rfl (sT rfl (sT rfl sT0))))) sub_nil
      rintro ⟨x8, x9, x10⟩ out2 hr
      show AW Hfaa.prog _ _ _ ⟨[(0, .inl (is (U64 a0))), (2, .inl (is (U64 x8))), (5, .inl (is (U64 x9))), (6, .inl (is (U64 x10)))], []⟩
      have hr : some out2 = F361_L7b N a0 x8 x9 x10 := hr
      refine AW_seq1 ?_
      refine AW_cut (σ := Bool) (fun v => ⟨[(0, .inl (is (U64 a0))), (2, .inl (is (U64 x8))), (5, .inl (is (U64 x9))), (6, .inl (is (U64 x10))), (13, .inl (is (Bl v)))], []⟩) (fun v => some out2 = F361_8 N a0 x8 x9 x10 v) ?_ ?_
      · skip
        refine AW_region ?_
        refine AL_cons (LR_move (at_tmp 6 _) rfl) (sS (sT1 rfl) sB0 sF0) ?_
        refine AL_cons (LR_bin (at_tmp 12 _) (at_c (v' := U64 (0#64)) rfl) (gtr_U64 x10 (0#64)) rfl) (sS (sA (sT1 rfl) sT0) sB0 sF0) ?_
        refine AL_nil ?_
        exact thenN (cutLeaf (v := decide ((0#64).toNat < x10.toNat)) hr (weak0 ((sT rfl (sT rfl (sT rfl (sT rfl (sT rfl sT0)))))) sub_nil))
      · rintro x11 hr
        show AW Hfaa.prog _ _ _ ⟨[(0, .inl (is (U64 a0))), (2, .inl (is (U64 x8))), (5, .inl (is (U64 x9))), (6, .inl (is (U64 x10))), (13, .inl (is (Bl x11)))], []⟩
        have hr : some out2 = F361_8 N a0 x8 x9 x10 x11 := hr
        refine AW_condT (b := x11) rfl (fun h => ?_) (fun h => ?_)
        · have hr := hr.trans (cond_t h)
          clear h
          refine AW_skip ?_
          refine thenN ?_
          refine AW_cut (σ := BitVec 64 × BitVec 64) (fun v => ⟨[(0, .inl (is (U64 a0))), (2, .inl (is (U64 v.1))), (5, .inl (is (U64 v.2))), (6, .inl (is (U64 x10)))], []⟩) (fun v => some out2 = F361_9 N a0 x10 v.1 v.2) ?_ ?_
          · skip
            refine AW_block ?_
            refine AW_cut (σ := BitVec 64) (fun v => ⟨[(0, .inl (is (U64 a0))), (2, .inl (is (U64 x8))), (5, .inl (is (U64 x9))), (6, .inl (is (U64 x10))), (7, .inl (is (U64 v)))], []⟩) (fun v => some out2 = F361_10 N a0 x8 x9 x10 v) ?_ ?_
            · skip
              refine AW_region ?_
              refine AL_cons (LR_move (at_tmp 2 _) rfl) (sS (sT1 rfl) sB0 sF0) ?_
              refine AL_cons (LR_bin (at_c (v' := U64 (2#64)) rfl) (at_tmp 16 _) (mul_U64 (2#64) x8) rfl) (sS (sA sT0 (sT1 rfl)) sB0 sF0) ?_
              refine AL_cons (LR_move (at_tmp 6 _) rfl) (sS (sT1 rfl) sB0 sF0) ?_
              refine AL_cons (LR_bin (at_tmp 17 _) (at_tmp 18 _) (add_U64 ((2#64) * x8) x10) rfl) (sS (sA (sT1 rfl) (sT1 rfl)) sB0 sF0) ?_
              refine AL_cons (LR_move (at_tmp 6 _) rfl) (sS (sT1 rfl) sB0 sF0) ?_
              refine AL_cons (LR_bin (at_tmp 19 _) (at_tmp 20 _) (mul_U64 (((2#64) * x8) + x10) x10) rfl) (sS (sA (sT1 rfl) (sT1 rfl)) sB0 sF0) ?_
              refine AL_cons (LR_assign (at_tmp 21 _) rfl) (sS (sT1 rfl) sB0 sF0) ?_
              refine AL_nil ?_
              exact thenN (cutLeaf (v := (((2#64) * x8) + x10) * x10) hr (weak0 ((sT rfl (sT rfl (sT rfl (sT rfl (sT rfl sT0)))))) sub_nil))
            · rintro x14 hr
              show AW Hfaa.prog _ _ _ ⟨[(0, .inl (is (U64 a0))), (2, .inl (is (U64 x8))), (5, .inl (is (U64 x9))), (6, .inl (is (U64 x10))), (7, .inl (is (U64 x14)))], []⟩
              have hr : some out2 = F361_10 N a0 x8 x9 x10 x14 := hr
              refine AW_cut (σ := Bool) (fun v => ⟨[(0, .inl (is (U64 a0))), (2, .inl (is (U64 x8))), (5, .inl (is (U64 x9))), (6, .inl (is (U64 x10))), (7, .inl (is (U64 x14))), (24, .inl (is (Bl v)))], []⟩) (fun v => some out2 = F361_11 N a0 x8 x9 x10 x14 v) ?_ ?_
              · skip
                refine AW_region ?_
                refine AL_cons (LR_move (at_tmp 7 _) rfl) (sS (sT1 rfl) sB0 sF0) ?_
                refine AL_cons (LR_move (at_tmp 5 _) rfl) (sS (sT1 rfl) sB0 sF0) ?_
                refine AL_cons (LR_bin (at_tmp 22 _) (at_tmp 23 _) (leq_U64 x14 x9) rfl) (sS (sA (sT1 rfl) (sT1 rfl)) sB0 sF0) ?_
                refine AL_nil ?_
                exact thenN (cutLeaf (v := decide (x14.toNat ≤ x9.toNat)) hr (weak0 ((sT rfl (sT rfl (sT rfl (sT rfl (sT rfl (sT rfl sT0))))))) sub_nil))
              · rintro x15 hr
                show AW Hfaa.prog _ _ _ ⟨[(0, .inl (is (U64 a0))), (2, .inl (is (U64 x8))), (5, .inl (is (U64 x9))), (6, .inl (is (U64 x10))), (7, .inl (is (U64 x14))), (24, .inl (is (Bl x15)))], []⟩
                have hr : some out2 = F361_11 N a0 x8 x9 x10 x14 x15 := hr
                refine AW_condT (b := x15) rfl (fun h => ?_) (fun h => ?_)
                · have hr := hr.trans (cond_t h)
                  clear h
                  refine AW_cut (σ := BitVec 64) (fun v => ⟨[(0, .inl (is (U64 a0))), (2, .inl (is (U64 x8))), (5, .inl (is (U64 v))), (6, .inl (is (U64 x10)))], []⟩) (fun v => some out2 = F361_12 N a0 x8 x10 v) ?_ ?_
                  · skip
                    refine AW_region ?_
                    refine AL_cons (LR_move (at_tmp 5 _) rfl) (sS (sT1 rfl) sB0 sF0) ?_
                    refine AL_cons (LR_move (at_tmp 7 _) rfl) (sS (sT1 rfl) sB0 sF0) ?_
                    refine AL_cons (LR_bin (at_tmp 25 _) (at_tmp 26 _) (sub_U64 x9 x14) rfl) (sS (sA (sT1 rfl) (sT1 rfl)) sB0 sF0) ?_
                    refine AL_cons (LR_assign (at_tmp 27 _) rfl) (sS (sT1 rfl) sB0 sF0) ?_
                    refine AL_nil ?_
                    exact thenN (cutLeaf (v := x9 - x14) hr (weak0 ((sT rfl (sT rfl (sT rfl (sT rfl sT0))))) sub_nil))
                  · rintro x16 hr
                    show AW Hfaa.prog _ _ _ ⟨[(0, .inl (is (U64 a0))), (2, .inl (is (U64 x8))), (5, .inl (is (U64 x16))), (6, .inl (is (U64 x10)))], []⟩
                    have hr : some out2 = F361_12 N a0 x8 x10 x16 := hr
                    refine AW_region ?_
                    refine AL_cons (LR_move (at_tmp 2 _) rfl) (sS (sT1 rfl) sB0 sF0) ?_
                    refine AL_cons (LR_move (at_tmp 6 _) rfl) (sS (sT1 rfl) sB0 sF0) ?_
                    refine AL_cons (LR_bin (at_tmp 28 _) (at_tmp 29 _) (or_U64 x8 x10) rfl) (sS (sA (sT1 rfl) (sT1 rfl)) sB0 sF0) ?_
                    refine AL_cons (LR_assign (at_tmp 30 _) rfl) (sS (sT1 rfl) sB0 sF0) ?_
                    refine AL_nil ?_
                    refine blN ?_
                    exact thenN (cutLeaf (v := (x8 ||| x10, x16)) hr (weak0 ((sT rfl (sT rfl (sT rfl (sT rfl sT0))))) sub_nil))
                · have hr := hr.trans (cond_f h)
                  clear h
                  refine AW_skip ?_
                  refine blN ?_
                  exact thenN (cutLeaf (v := (x8, x9)) hr (weak0 ((sT rfl (sT rfl (sT rfl (sT rfl sT0))))) sub_nil))
          · rintro ⟨x12, x13⟩ hr
            show AW Hfaa.prog _ _ _ ⟨[(0, .inl (is (U64 a0))), (2, .inl (is (U64 x12))), (5, .inl (is (U64 x13))), (6, .inl (is (U64 x10)))], []⟩
            have hr : some out2 = F361_9 N a0 x10 x12 x13 := hr
            refine AW_region ?_
            refine AL_cons (LR_move (at_tmp 6 _) rfl) (sS (sT1 rfl) sB0 sF0) ?_
            refine AL_cons (LR_bin (at_tmp 14 _) (at_c (v' := U64 (1#64)) rfl) (shr_U64 x10 ((1#64).toNat : Int) (Int.natCast_nonneg _)) rfl) (sS (sA (sT1 rfl) sT0) sB0 sF0) ?_
            refine AL_cons (LR_assign (at_tmp 15 _) rfl) (sS (sT1 rfl) sB0 sF0) ?_
            refine AL_nil ?_
            exact thenN (loopNext (x' := (x12, x13, x10 >>> 1)) hr (weak0 ((sT rfl (sT rfl (sT rfl (sT rfl sT0))))) sub_nil))
        · have hr := hr.trans (cond_f h)
          clear h
          refine AW_exit ?_
          refine thenX ?_
          obtain ⟨r', hro, hr⟩ := map_inr hr
          refine thenX (loopOut hro (fun he => ?_))
          rw [he] at hr
          refine blH ?_
          exact thenN (cutLeaf (v := (x8, x9)) hr (weak0 ((sT rfl (sT rfl (sT rfl sT0)))) sub_nil))
    · rintro ⟨x2, x3⟩ hr
      show AW Hfaa.prog _ _ _ ⟨[(0, .inl (is (U64 a0))), (2, .inl (is (U64 x2))), (5, .inl (is (U64 x3)))], []⟩
      have hr : some r = F361_2 N a0 x2 x3 := hr
      refine AW_cut (σ := BitVec 64) (fun v => ⟨[(0, .inl (is (U64 a0))), (2, .inl (is (U64 x2))), (8, .inl (is (U64 v)))], []⟩) (fun v => some r = F361_3 N a0 x2 v) ?_ ?_
      · skip
        refine AW_region ?_
        refine AL_cons (LR_move (at_tmp 5 _) rfl) (sS (sT1 rfl) sB0 sF0) ?_
        refine AL_cons (LR_bin (at_tmp 31 _) (at_c (v' := U64 (16#64)) rfl) (shl_U64 x3 ((16#64).toNat : Int) (Int.natCast_nonneg _)) rfl) (sS (sA (sT1 rfl) sT0) sB0 sF0) ?_
        refine AL_cons (LR_move (at_tmp 0 _) rfl) (sS (sT1 rfl) sB0 sF0) ?_
        refine AL_cons (LR_bin (at_tmp 33 _) (at_c (v' := U64 (16#64)) rfl) (shr_U64 a0 ((16#64).toNat : Int) (Int.natCast_nonneg _)) rfl) (sS (sA (sT1 rfl) sT0) sB0 sF0) ?_
        refine AL_cons (LR_bin (at_tmp 34 _) (at_c (v' := U64 (65535#64)) rfl) (and_U64 (a0 >>> 16) (65535#64)) rfl) (sS (sA (sT1 rfl) sT0) sB0 sF0) ?_
        refine AL_cons (LR_bin (at_tmp 32 _) (at_tmp 35 _) (or_U64 (x3 <<< 16) ((a0 >>> 16) &&& (65535#64))) rfl) (sS (sA (sT1 rfl) (sT1 rfl)) sB0 sF0) ?_
        refine AL_cons (LR_move (at_tmp 2 _) rfl) (sS (sT1 rfl) sB0 sF0) ?_
        refine AL_cons (LR_bin (at_c (v' := U64 (2#64)) rfl) (at_tmp 37 _) (mul_U64 (2#64) x2) rfl) (sS (sA sT0 (sT1 rfl)) sB0 sF0) ?_
        obtain ⟨hg2, hr⟩ := guard_some hr
        refine AL_cons (LR_bin (at_tmp 36 _) (at_tmp 38 _) (quo_U64 ((x3 <<< 16) ||| ((a0 >>> 16) &&& (65535#64))) ((2#64) * x2) (dne hg2)) rfl) (sS (sA (sT1 rfl) (sT1 rfl)) sB0 sF0) ?_
        refine AL_cons (LR_assign (at_tmp 39 _) rfl) (sS (sT1 rfl) sB0 sF0) ?_
        refine AL_nil ?_
        exact thenN (cutLeaf (v := ((x3 <<< 16) ||| ((a0 >>> 16) &&& (65535#64))) / ((2#64) * x2)) hr (weak0 ((sT rfl (sT rfl (sT rfl sT0)))) sub_nil))
      · rintro x4 hr
        show AW Hfaa.prog _ _ _ ⟨[(0, .inl (is (U64 a0))), (2, .inl (is (U64 x2))), (8, .inl (is (U64 x4)))], []⟩
        have hr : some r = F361_3 N a0 x2 x4 := hr
        refine AW_cut (σ := BitVec 64) (fun v => ⟨[(0, .inl (is (U64 a0))), (2, .inl (is (U64 v)))], []⟩) (fun v => some r = F361_4 N a0 v) ?_ ?_
        · skip
          refine AW_region ?_
          refine AL_cons (LR_move (at_tmp 2 _) rfl) (sS (sT1 rfl) sB0 sF0) ?_
          refine AL_cons (LR_bin (at_tmp 40 _) (at_c (v' := U64 (16#64)) rfl) (shl_U64 x2 ((16#64).toNat : Int) (Int.natCast_nonneg _)) rfl) (sS (sA (sT1 rfl) sT0) sB0 sF0) ?_
          refine AL_cons (LR_move (at_tmp 8 _) rfl) (sS (sT1 rfl) sB0 sF0) ?_
          refine AL_cons (LR_bi2 (vx := U64 x4) (vy := U64 (65535#64)) (v := U64 (umin x4 (65535#64))) (at_tmp 42 _) (at_c (v' := U64 (65535#64)) rfl) (fun cs w => min_U64 x4 (65535#64) cs w) rfl) (sS (sA (sT1 rfl) sT0) sB0 sF0) ?_
          refine AL_cons (LR_bin (at_tmp 41 _) (at_tmp 43 _) (or_U64 (x2 <<< 16) (umin x4 (65535#64))) rfl) (sS (sA (sT1 rfl) (sT1 rfl)) sB0 sF0) ?_
          refine AL_cons (LR_assign (at_tmp 44 _) rfl) (sS (sT1 rfl) sB0 sF0) ?_
          refine AL_nil ?_
          exact thenN (cutLeaf (v := (x2 <<< 16) ||| (umin x4 (65535#64))) hr (weak0 ((sT rfl (sT rfl sT0))) sub_nil))
        · rintro x5 hr
          show AW Hfaa.prog _ _ _ ⟨[(0, .inl (is (U64 a0))), (2, .inl (is (U64 x5)))], []⟩
          have hr : some r = F361_4 N a0 x5 := hr
          refine AW_cut (σ := BitVec 64) (fun v => ⟨[(0, .inl (is (U64 a0))), (2, .inl (is (U64 v)))], []⟩) (fun v => some r = F361_5 N a0 v) ?_ ?_
          · skip
            refine AW_cut (σ := Bool) (fun v => ⟨[(0, .inl (is (U64 a0))), (2, .inl (is (U64 x5))), (49, .inl (is (Bl v)))], []⟩) (fun v => some r = F361_6 N a0 x5 v) ?_ ?_
            · skip
              refine AW_region ?_
              refine AL_cons (LR_move (at_tmp 2 _) rfl) (sS (sT1 rfl) sB0 sF0) ?_
              refine AL_cons (LR_move (at_tmp 2 _) rfl) (sS (sT1 rfl) sB0 sF0) ?_
              refine AL_cons (LR_bin (at_tmp 45 _) (at_tmp 46 _) (mul_U64 x5 x5) rfl) (sS (sA (sT1 rfl) (sT1 rfl)) sB0 sF0) ?_
              refine AL_cons (LR_move (at_tmp 0 _) rfl) (sS (sT1 rfl) sB0 sF0) ?_
              refine AL_cons (LR_bin (at_tmp 47 _) (at_tmp 48 _) (gtr_U64 (x5 * x5) a0) rfl) (sS (sA (sT1 rfl) (sT1 rfl)) sB0 sF0) ?_
              refine AL_nil ?_
              exact thenN (cutLeaf (v := decide (a0.toNat < (x5 * x5).toNat)) hr (weak0 ((sT rfl (sT rfl (sT rfl sT0)))) sub_nil))
            · rintro x7 hr
              show AW Hfaa.prog _ _ _ ⟨[(0, .inl (is (U64 a0))), (2, .inl (is (U64 x5))), (49, .inl (is (Bl x7)))], []⟩
              have hr : some r = F361_6 N a0 x5 x7 := hr
              refine AW_condT (b := x7) rfl (fun h => ?_) (fun h => ?_)
              · have hr := hr.trans (cond_t h)
                clear h
                refine AW_region ?_
                refine AL_cons (LR_move (at_tmp 2 _) rfl) (sS (sT1 rfl) sB0 sF0) ?_
                refine AL_cons (LR_bin (at_tmp 50 _) (at_c (v' := U64 (1#64)) rfl) (sub_U64 x5 (1#64)) rfl) (sS (sA (sT1 rfl) sT0) sB0 sF0) ?_
                refine AL_cons (LR_assign (at_tmp 51 _) rfl) (sS (sT1 rfl) sB0 sF0) ?_
                refine AL_nil ?_
                exact thenN (cutLeaf (v := x5 - (1#64)) hr (weak0 ((sT rfl (sT rfl sT0))) sub_nil))
              · have hr := hr.trans (cond_f h)
                clear h
                refine AW_skip ?_
                exact thenN (cutLeaf (v := x5) hr (weak0 ((sT rfl (sT rfl sT0))) sub_nil))
          · rintro x6 hr
            show AW Hfaa.prog _ _ _ ⟨[(0, .inl (is (U64 a0))), (2, .inl (is (U64 x6)))], []⟩
            have hr : some r = F361_5 N a0 x6 := hr
            refine AW_seq1 ?_
            refine AW_region ?_
            refine AL_cons (LR_move (at_tmp 2 _) rfl) (sS (sT1 rfl) sB0 sF0) ?_
            refine AL_cons (LR_move (at_tmp 0 _) rfl) (sS (sT1 rfl) sB0 sF0) ?_
            refine AL_cons (LR_move (at_tmp 2 _) rfl) (sS (sT1 rfl) sB0 sF0) ?_
            refine AL_cons (LR_move (at_tmp 2 _) rfl) (sS (sT1 rfl) sB0 sF0) ?_
            refine AL_cons (LR_bin (at_tmp 54 _) (at_tmp 55 _) (mul_U64 x6 x6) rfl) (sS (sA (sT1 rfl) (sT1 rfl)) sB0 sF0) ?_
            refine AL_cons (LR_bin (at_tmp 53 _) (at_tmp 56 _) (sub_U64 a0 (x6 * x6)) rfl) (sS (sA (sT1 rfl) (sT1 rfl)) sB0 sF0) ?_
            refine AL_cons (LR_assign (at_tmp 52 _) rfl) (sS (sT1 rfl) sB0 sF0) ?_
            refine AL_cons (LR_assign (at_tmp 57 _) rfl) (sS (sT1 rfl) sB0 sF0) ?_
            refine AL_nil ?_
            refine thenN ?_
            refine AW_ret ?_
            obtain rfl := Option.some.inj hr
            exact res2 rfl (rvT rfl) (rvT rfl)
/-- wide.Sqrt -/
def F261_5 (N : Nat) (a0_0 : BitVec 64) (a0_1 : BitVec 64) (x5 : BitVec 64) : Option (BitVec 64 × Bool) := some ((x5, (x5 * x5) == a0_1))
def F261_4 (N : Nat) (a0_0 : BitVec 64) (a0_1 : BitVec 64) (x3 : BitVec 8) (x4 : BitVec 64) : Option (BitVec 64 × Bool) := F261_5 N a0_0 a0_1 (x4 >>> (x3 / (2#8)).toNat)
def F261_3 (N : Nat) (a0_0 : BitVec 64) (a0_1 : BitVec 64) (x3 : BitVec 8) : Option (BitVec 64 × Bool) := (F361 N (a0_1 <<< x3.toNat)).bind fun y7 => F261_4 N a0_0 a0_1 x3 y7.1
def F261_2 (N : Nat) (a0_0 : BitVec 64) (a0_1 : BitVec 64) (x2 : Bool) : Option (BitVec 64 × Bool) := bif x2 then some (0#64, true) else (F164 N a0_1).bind fun y8 => F261_3 N a0_0 a0_1 (y8 &&& ~~~(1#8))
def F261_12 (N : Nat) (a0_0 : BitVec 64) (a0_1 : BitVec 64) (x14 : BitVec 64) : Option (BitVec 64 × Bool) := lt (F165 x14 x14) fun y18 => some ((x14, (y18.1 == a0_0) && (y18.2 == a0_1)))
def F261_11 (N : Nat) (a0_0 : BitVec 64) (a0_1 : BitVec 64) (x6 : BitVec 8) (x13 : BitVec 64) : Option (BitVec 64 × Bool) := F261_12 N a0_0 a0_1 (x13 >>> (x6 / (2#8)).toNat)
def F261_13 (N : Nat) (a0_0 : BitVec 64) (a0_1 : BitVec 64) (x6 : BitVec 8) (x12 : BitVec 64) (x15 : Bool) : Option (BitVec 64 × Bool) := bif x15 then F261_11 N a0_0 a0_1 x6 (x12 - (1#64)) else F261_11 N a0_0 a0_1 x6 x12
def F261_10 (N : Nat) (a0_0 : BitVec 64) (a0_1 : BitVec 64) (x6 : BitVec 8) (x7 : BitVec 64) (x8 : BitVec 64) (x12 : BitVec 64) : Option (BitVec 64 × Bool) := lt (F165 x12 x12) fun y21 => lt (F362 y21.1 y21.2 x7 x8) fun y22 => F261_13 N a0_0 a0_1 x6 x12 (decide (y22 > 0))
def F261_9 (N : Nat) (a0_0 : BitVec 64) (a0_1 : BitVec 64) (x6 : BitVec 8) (x7 : BitVec 64) (x8 : BitVec 64) (x9 : BitVec 64) (x11 : BitVec 64) : Option (BitVec 64 × Bool) := F261_10 N a0_0 a0_1 x6 x7 x8 ((x9 <<< 32) ||| (umin x11 (4294967295#64)))
def F261_8 (N : Nat) (a0_0 : BitVec 64) (a0_1 : BitVec 64) (x6 : BitVec 8) (x7 : BitVec 64) (x8 : BitVec 64) (x9 : BitVec 64) (x10 : BitVec 64) : Option (BitVec 64 × Bool) := (F280 N (x10 >>> 32) ((x10 <<< 32) ||| (x8 >>> 32)) ((2#64) * x9)).bind fun y23 => F261_9 N a0_0 a0_1 x6 x7 x8 x9 y23.1
def F261_7 (N : Nat) (a0_0 : BitVec 64) (a0_1 : BitVec 64) (x6 : BitVec 8) (x7 : BitVec 64) (x8 : BitVec 64) : Option (BitVec 64 × Bool) := (F361 N x7).bind fun y24 => F261_8 N a0_0 a0_1 x6 x7 x8 y24.1 y24.2
def F261_6 (N : Nat) (a0_0 : BitVec 64) (a0_1 : BitVec 64) (x6 : BitVec 8) : Option (BitVec 64 × Bool) := lt (F206 a0_0 a0_1 x6) fun y25 => F261_7 N a0_0 a0_1 x6 y25.1 y25.2
def F261_1 (N : Nat) (a0_0 : BitVec 64) (a0_1 : BitVec 64) (x1 : Bool) : Option (BitVec 64 × Bool) := bif x1 then F261_2 N a0_0 a0_1 (a0_1 == (0#64)) else (F164 N a0_0).bind fun y26 => F261_6 N a0_0 a0_1 (y26 &&& ~~~(1#8))
def F261 (N : Nat) (a0_0 : BitVec 64) (a0_1 : BitVec 64) : Option (BitVec 64 × Bool) := F261_1 N a0_0 a0_1 (a0_0 == (0#64))
theorem C261 (N : Nat) (a0_0 : BitVec 64) (a0_1 : BitVec 64) (r : BitVec 64 × Bool) (hr : some r = F261 N a0_0 a0_1) : Aw.Fn Hfaa.prog 261 [agg [is (U64 a0_0), is (U64 a0_1)]] (tup [is (U64 r.1), is (Bl r.2)]) := by
  refine fn_intro Hfaa.func261 rfl rfl rfl ?_
  intro bn0 w0 H0
  refine AW_seq1 ?_
  refine AW_region ?_
  refine AL_cons (LR_box (at_tmp 0 _) (cells_agg _) rfl) (sS (sT1 rfl) sB0 (sF1 rfl)) ?_
  refine AL_cons (LR_assign (at_c (v' := U64 (0#64)) rfl) rfl) (sS sT0 sB0 sF0) ?_
  refine AL_cons (LR_assign (at_c (v' := Bl false) rfl) rfl) (sS sT0 sB0 sF0) ?_
  refine AL_nil ?_
  refine thenN ?_
  refine AW_seq1 ?_
  refine AW_cut (σ := Bool) (fun v => ⟨[(1, .inr (.inl (1, 0))), (14, .inl (is (Bl v)))], [(1, pb 42 [is (U64 a0_0), is (U64 a0_1)])]⟩) (fun v => some r = F261_1 N a0_0 a0_1 v) ?_ ?_
  · skip
    refine AW_region ?_
    refine AL_cons (LR_fieldAddr (off := 0) (o := 0) (at_tmp 1 _) (fun b w => fa42_0 b 0 w) rfl) (sS (sT1 rfl) sB0 sF0) ?_
    refine AL_cons (LR_load (at_tmp 12 _) na30 rfl rfl) (sS (sT1 rfl) (sB1 rfl) sF0) ?_
    refine AL_cons (LR_bin (at_tmp 13 _) (at_c (v' := U64 (0#64)) rfl) (eql_U64 a0_0 (0#64)) rfl) (sS (sA (sT1 rfl) sT0) sB0 sF0) ?_
    refine AL_nil ?_
    exact thenN (cutLeaf (v := a0_0 == (0#64)) hr (weak0 ((sT rfl (sT rfl sT0))) (sub_keep sub_nil)))
  · rintro x1 hr
    show AW Hfaa.prog _ _ _ ⟨[(1, .inr (.inl (1, 0))), (14, .inl (is (Bl x1)))], [(1, pb 42 [is (U64 a0_0), is (U64 a0_1)])]⟩
    have hr : some r = F261_1 N a0_0 a0_1 x1 := hr
    refine AW_condT (b := x1) rfl (fun h => ?_) (fun h => ?_)
    · have hr := hr.trans (cond_t h)
      clear h
      refine AW_seq1 ?_
      refine AW_cut (σ := Bool) (fun v => ⟨[(1, .inr (.inl (1, 0))), (17, .inl (is (Bl v)))], [(1, pb 42 [is (U64 a0_0), is (U64 a0_1)])]⟩) (fun v => some r = F261_2 N a0_0 a0_1 v) ?_ ?_
      · skip
        refine AW_region ?_
        refine AL_cons (LR_fieldAddr (off := 0) (o := 1) (at_tmp 1 _) (fun b w => fa42_1 b 0 w) rfl) (sS (sT1 rfl) sB0 sF0) ?_
        refine AL_cons (LR_load (at_tmp 15 _) na30 rfl rfl) (sS (sT1 rfl) (sB1 rfl) sF0) ?_
        refine AL_cons (LR_bin (at_tmp 16 _) (at_c (v' := U64 (0#64)) rfl) (eql_U64 a0_1 (0#64)) rfl) (sS (sA (sT1 rfl) sT0) sB0 sF0) ?_
        refine AL_nil ?_
        exact thenN (cutLeaf (v := a0_1 == (0#64)) hr (weak0 ((sT rfl (sT rfl sT0))) (sub_keep sub_nil)))
      · rintro x2 hr
        show AW Hfaa.prog _ _ _ ⟨[(1, .inr (.inl (1, 0))), (17, .inl (is (Bl x2)))], [(1, pb 42 [is (U64 a0_0), is (U64 a0_1)])]⟩
        have hr : some r = F261_2 N a0_0 a0_1 x2 := hr
        refine AW_condT (b := x2) rfl (fun h => ?_) (fun h => ?_)
        · have hr := hr.trans (cond_t h)
          clear h
          refine AW_seq1 ?_
          refine AW_region ?_
          refine AL_cons (LR_assign (at_c (v' := U64 (0#64)) rfl) rfl) (sS sT0 sB0 sF0) ?_
          refine AL_cons (LR_assign (at_c (v' := Bl true) rfl) rfl) (sS sT0 sB0 sF0) ?_
          refine AL_nil ?_
          refine thenN ?_
          refine AW_ret ?_
          refine thenR ?_
          refine thenR ?_
          obtain rfl := Option.some.inj hr
          exact res2 rfl (rvT rfl) (rvT rfl)
        · have hr := hr.trans (cond_f h)
          clear h
          refine AW_skip ?_
          refine thenN ?_
          refine AW_cut (σ := BitVec 8) (fun v => ⟨[(1, .inr (.inl (1, 0))), (4, .inl (is (U8 v)))], [(1, pb 42 [is (U64 a0_0), is (U64 a0_1)])]⟩) (fun v => some r = F261_3 N a0_0 a0_1 v) ?_ ?_
          · skip
            refine AW_region ?_
            refine AL_cons (LR_fieldAddr (off := 0) (o := 1) (at_tmp 1 _) (fun b w => fa42_1 b 0 w) rfl) (sS (sT1 rfl) sB0 sF0) ?_
            refine AL_cons (LR_load (at_tmp 18 _) na30 rfl rfl) (sS (sT1 rfl) (sB1 rfl) sF0) ?_
            obtain ⟨y8, hy8, hr⟩ := bind_some hr
            refine AL_cons (LR_call Hfaa.func164 rfl rfl (C164 N a0_1 y8 hy8) (all_cons (at_tmp 19 _) all_nil) rfl) (sS (sA (sT1 rfl) sT0) sB0 sF0) ?_
            refine AL_cons (LR_bin (at_tmp 20 _) (at_c (v' := U8 (1#8)) rfl) (andNot_U8 y8 (1#8)) rfl) (sS (sA (sT1 rfl) sT0) sB0 sF0) ?_
            refine AL_cons (LR_assign (at_tmp 21 _) rfl) (sS (sT1 rfl) sB0 sF0) ?_
            refine AL_nil ?_
            exact thenN (cutLeaf (v := y8 &&& ~~~(1#8)) hr (weak0 ((sT rfl (sT rfl sT0))) (sub_keep sub_nil)))
          · rintro x3 hr
            show AW Hfaa.prog _ _ _ ⟨[(1, .inr (.inl (1, 0))), (4, .inl (is (U8 x3)))], [(1, pb 42 [is (U64 a0_0), is (U64 a0_1)])]⟩
            have hr : some r = F261_3 N a0_0 a0_1 x3 := hr
            refine AW_cut (σ := BitVec 64) (fun v => ⟨[(1, .inr (.inl (1, 0))), (4, .inl (is (U8 x3))), (2, .inl (is (U64 v)))], [(1, pb 42 [is (U64 a0_0), is (U64 a0_1)])]⟩) (fun v => some r = F261_4 N a0_0 a0_1 x3 v) ?_ ?_
            · skip
              refine AW_region ?_
              refine AL_cons (LR_fieldAddr (off := 0) (o := 1) (at_tmp 1 _) (fun b w => fa42_1 b 0 w) rfl) (sS (sT1 rfl) sB0 sF0) ?_
              refine AL_cons (LR_load (at_tmp 23 _) na30 rfl rfl) (sS (sT1 rfl) (sB1 rfl) sF0) ?_
              refine AL_cons (LR_move (at_tmp 4 _) rfl) (sS (sT1 rfl) sB0 sF0) ?_
              refine AL_cons (LR_bin (at_tmp 24 _) (at_tmp 25 _) (shl_U64 a0_1 (x3.toNat : Int) (Int.natCast_nonneg _)) rfl) (sS (sA (sT1 rfl) (sT1 rfl)) sB0 sF0) ?_
              obtain ⟨y7, hy7, hr⟩ := bind_some hr
              refine AL_cons (LR_call Hfaa.func361 rfl rfl (C361 N (a0_1 <<< x3.toNat) y7 hy7) (all_cons (at_tmp 26 _) all_nil) rfl) (sS (sA (sT1 rfl) sT0) sB0 sF0) ?_
              refine AL_cons (LR_move (at_tmp 27 _) rfl) (sS (sT1 rfl) sB0 sF0) ?_
              refine AL_cons (LR_extract (at_tmp 22 _) rfl rfl) (sS (sT1 rfl) sB0 sF0) ?_
              refine AL_cons (LR_extract (at_tmp 22 _) rfl rfl) (sS (sT1 rfl) sB0 sF0) ?_
              refine AL_cons (LR_assign (at_tmp 28 _) rfl) (sS (sT1 rfl) sB0 sF0) ?_
              refine AL_nil ?_
              exact thenN (cutLeaf (v := y7.1) hr (weak0 ((sT rfl (sT rfl (sT rfl sT0)))) (sub_keep sub_nil)))
            · rintro x4 hr
              show AW Hfaa.prog _ _ _ ⟨[(1, .inr (.inl (1, 0))), (4, .inl (is (U8 x3))), (2, .inl (is (U64 x4)))], [(1, pb 42 [is (U64 a0_0), is (U64 a0_1)])]⟩
              have hr : some r = F261_4 N a0_0 a0_1 x3 x4 := hr
              refine AW_cut (σ := BitVec 64) (fun v => ⟨[(1, .inr (.inl (1, 0))), (2, .inl (is (U64 v)))], [(1, pb 42 [is (U64 a0_0), is (U64 a0_1)])]⟩) (fun v => some r = F261_5 N a0_0 a0_1 v) ?_ ?_
              · skip
                refine AW_region ?_
                refine AL_cons (LR_move (at_tmp 2 _) rfl) (sS (sT1 rfl) sB0 sF0) ?_
                refine AL_cons (LR_move (at_tmp 4 _) rfl) (sS (sT1 rfl) sB0 sF0) ?_
                refine AL_cons (LR_bin (at_tmp 31 _) (at_c (v' := U8 (2#8)) rfl) (quo_U8 x3 (2#8) (by decide)) rfl) (sS (sA (sT1 rfl) sT0) sB0 sF0) ?_
                refine AL_cons (LR_bin (at_tmp 30 _) (at_tmp 32 _) (shr_U64 x4 ((x3 / (2#8)).toNat : Int) (Int.natCast_nonneg _)) rfl) (sS (sA (sT1 rfl) (sT1 rfl)) sB0 sF0) ?_
                refine AL_cons (LR_assign (at_tmp 33 _) rfl) (sS (sT1 rfl) sB0 sF0) ?_
                refine AL_nil ?_
                exact thenN (cutLeaf (v := x4 >>> (x3 / (2#8)).toNat) hr (weak0 ((sT rfl (sT rfl sT0))) (sub_keep sub_nil)))
              · rintro x5 hr
                show AW Hfaa.prog _ _ _ ⟨[(1, .inr (.inl (1, 0))), (2, .inl (is (U64 x5)))], [(1, pb 42 [is (U64 a0_0), is (U64 a0_1)])]⟩
                have hr : some r = F261_5 N a0_0 a0_1 x5 := hr
                refine AW_seq1 ?_
                refine AW_draw mixed
                  (lrC (LR_move (at_tmp 2 _) rfl)
                  (lrC (LR_move (at_tmp 2 _) rfl)
                  (lrC (LR_move (at_tmp 2 _) rfl)
                  (lrC (LR_bin (at_tmp 35 _) (at_tmp 36 _) (mul_U64 x5 x5) rfl)
                  (lrC (LR_fieldAddr (off := 0) (o := 1) (at_tmp 1 _) (fun b w => fa42_1 b 0 w) rfl)
                  (lrC (LR_load (at_tmp 38 _) na30 rfl rfl)
                  (lrC (LR_bin (at_tmp 37 _) (at_tmp 39 _) (eql_U64 (x5 * x5) a0_1) rfl)
                  (lrC (LR_assign (at_tmp 34 _) rfl)
                  (lrC (LR_assign (at_tmp 40 _) rfl)
                  lrN)))))))))
                  (by kernel_rfl)
                  (saC (sS (sT1 rfl) sB0 sF0) (saC (sS (sT1 rfl) sB0 sF0) (saC (sS (sT1 rfl) sB0 sF0) (saC (sS (sA (sT1 rfl) (sT1 rfl)) sB0 sF0) (saC (sS (sT1 rfl) sB0 sF0) (saC (sS (sT1 rfl) (sB1 rfl) sF0) (saC (sS (sA (sT1 rfl) (sT1 rfl)) sB0 sF0) (saC (sS (sT1 rfl) sB0 sF0) (saC (sS (sT1 rfl) sB0 sF0) saN))))))))) ?_
                refine thenN ?_
                refine AW_ret ?_
                refine thenR ?_
                obtain rfl := Option.some.inj hr
                exact res2 rfl (rvT rfl) (rvT rfl)
    · have hr := hr.trans (cond_f h)
      clear h
      refine AW_skip ?_
      refine thenN ?_
      refine AW_cut (σ := BitVec 8) (fun v => ⟨[(1, .inr (.inl (1, 0))), (5, .inl (is (U8 v)))], [(1, pb 42 [is (U64 a0_0), is (U64 a0_1)])]⟩) (fun v => some r = F261_6 N a0_0 a0_1 v) ?_ ?_
      · skip
        refine AW_region ?_
        refine AL_cons (LR_fieldAddr (off := 0) (o := 0) (at_tmp 1 _) (fun b w => fa42_0 b 0 w) rfl) (sS (sT1 rfl) sB0 sF0) ?_
        refine AL_cons (LR_load (at_tmp 41 _) na30 rfl rfl) (sS (sT1 rfl) (sB1 rfl) sF0) ?_
        obtain ⟨y26, hy26, hr⟩ := bind_some hr
        refine AL_cons (LR_call Hfaa.func164 rfl rfl (C164 N a0_0 y26 hy26) (all_cons (at_tmp 42 _) all_nil) rfl) (sS (sA (sT1 rfl) sT0) sB0 sF0) ?_
        refine AL_cons (LR_bin (at_tmp 43 _) (at_c (v' := U8 (1#8)) rfl) (andNot_U8 y26 (1#8)) rfl) (sS (sA (sT1 rfl) sT0) sB0 sF0) ?_
        refine AL_cons (LR_assign (at_tmp 44 _) rfl) (sS (sT1 rfl) sB0 sF0) ?_
        refine AL_nil ?_
        exact thenN (cutLeaf (v := y26 &&& ~~~(1#8)) hr (weak0 ((sT rfl (sT rfl sT0))) (sub_keep sub_nil)))
      · rintro x6 hr
        show AW Hfaa.prog _ _ _ ⟨[(1, .inr (.inl (1, 0))), (5, .inl (is (U8 x6)))], [(1, pb 42 [is (U64 a0_0), is (U64 a0_1)])]⟩
        have hr : some r = F261_6 N a0_0 a0_1 x6 := hr
        refine AW_cut (σ := BitVec 64 × BitVec 64) (fun v => ⟨[(1, .inr (.inl (1, 0))), (5, .inl (is (U8 x6))), (6, .inr (.inl (6, 0)))], [(1, pb 42 [is (U64 a0_0), is (U64 a0_1)]), (6, pb 42 [is (U64 v.1), is (U64 v.2)])]⟩) (fun v => some r = F261_7 N a0_0 a0_1 x6 v.1 v.2) ?_ ?_
        · skip
          refine AW_region ?_
          refine AL_cons (LR_loads (at_tmp 1 _) ag42 sz42 rfl rfl rfl) (sS (sT1 rfl) (sB1 rfl) sF0) ?_
          refine AL_cons (LR_move (at_tmp 5 _) rfl) (sS (sT1 rfl) sB0 sF0) ?_
          obtain ⟨y25, hy25, hr⟩ := lt_some hr
          refine AL_cons (LR_call Hfaa.func206 rfl rfl (C206 a0_0 a0_1 x6 y25 hy25) (all_cons (at_tmp 45 _) (all_cons (at_tmp 46 _) all_nil)) rfl) (sS (sA (sT1 rfl) (sA (sT1 rfl) sT0)) sB0 sF0) ?_
          refine AL_cons (zl42 rfl) (sS sT0 sB0 (sF1 rfl)) ?_
          refine AL_cons (LR_store (at_tmp 6 _) (at_tmp 47 _) (cells_agg _) (onC (one_is rfl) (onC (one_is rfl) onN)) sz42 rfl rfl) (sS (sA (sT1 rfl) (sT1 rfl)) (sB1 rfl) sF0) ?_
          refine AL_nil ?_
          exact thenN (cutLeaf (v := (y25.1, y25.2)) hr (weak0 ((sT rfl (sT rfl (sT rfl sT0)))) (sub_keep (sub_keep sub_nil))))
        · rintro ⟨x7, x8⟩ hr
          show AW Hfaa.prog _ _ _ ⟨[(1, .inr (.inl (1, 0))), (5, .inl (is (U8 x6))), (6, .inr (.inl (6, 0)))], [(1, pb 42 [is (U64 a0_0), is (U64 a0_1)]), (6, pb 42 [is (U64 x7), is (U64 x8)])]⟩
          have hr : some r = F261_7 N a0_0 a0_1 x6 x7 x8 := hr
          refine AW_cut (σ := BitVec 64 × BitVec 64) (fun v => ⟨[(1, .inr (.inl (1, 0))), (5, .inl (is (U8 x6))), (6, .inr (.inl (6, 0))), (7, .inl (is (U64 v.1))), (8, .inl (is (U64 v.2)))], [(1, pb 42 [is (U64 a0_0), is (U64 a0_1)]), (6, pb 42 [is (U64 x7), is (U64 x8)])]⟩) (fun v => some r = F261_8 N a0_0 a0_1 x6 x7 x8 v.1 v.2) ?_ ?_
          · skip
            refine AW_region ?_
            refine AL_cons (LR_fieldAddr (off := 0) (o := 0) (at_tmp 6 _) (fun b w => fa42_0 b 0 w) rfl) (sS (sT1 rfl) sB0 sF0) ?_
            refine AL_cons (LR_load (at_tmp 49 _) na30 rfl rfl) (sS (sT1 rfl) (sB1 rfl) sF0) ?_
            obtain ⟨y24, hy24, hr⟩ := bind_some hr
            refine AL_cons (LR_call Hfaa.func361 rfl rfl (C361 N x7 y24 hy24) (all_cons (at_tmp 50 _) all_nil) rfl) (sS (sA (sT1 rfl) sT0) sB0 sF0) ?_
            refine AL_cons (LR_move (at_tmp 51 _) rfl) (sS (sT1 rfl) sB0 sF0) ?_
            refine AL_cons (LR_extract (at_tmp 48 _) rfl rfl) (sS (sT1 rfl) sB0 sF0) ?_
            refine AL_cons (LR_extract (at_tmp 48 _) rfl rfl) (sS (sT1 rfl) sB0 sF0) ?_
            refine AL_cons (LR_assign (at_tmp 52 _) rfl) (sS (sT1 rfl) sB0 sF0) ?_
            refine AL_cons (LR_assign (at_tmp 53 _) rfl) (sS (sT1 rfl) sB0 sF0) ?_
            refine AL_nil ?_
            exact thenN (cutLeaf (v := (y24.1, y24.2)) hr (weak0 ((sT rfl (sT rfl (sT rfl (sT rfl (sT rfl sT0)))))) (sub_keep (sub_keep sub_nil))))
          · rintro ⟨x9, x10⟩ hr
            show AW Hfaa.prog _ _ _ ⟨[(1, .inr (.inl (1, 0))), (5, .inl (is (U8 x6))), (6, .inr (.inl (6, 0))), (7, .inl (is (U64 x9))), (8, .inl (is (U64 x10)))], [(1, pb 42 [is (U64 a0_0), is (U64 a0_1)]), (6, pb 42 [is (U64 x7), is (U64 x8)])]⟩
            have hr : some r = F261_8 N a0_0 a0_1 x6 x7 x8 x9 x10 := hr
            refine AW_cut (σ := BitVec 64) (fun v => ⟨[(1, .inr (.inl (1, 0))), (5, .inl (is (U8 x6))), (6, .inr (.inl (6, 0))), (7, .inl (is (U64 x9))), (9, .inl (is (U64 v)))], [(1, pb 42 [is (U64 a0_0), is (U64 a0_1)]), (6, pb 42 [is (U64 x7), is (U64 x8)])]⟩) (fun v => some r = F261_9 N a0_0 a0_1 x6 x7 x8 x9 v) ?_ ?_
            · skip
              refine AW_region ?_
              refine AL_cons (LR_move (at_tmp 8 _) rfl) (sS (sT1 rfl) sB0 sF0) ?_
              refine AL_cons (LR_bin (at_tmp 55 _) (at_c (v' := U64 (32#64)) rfl) (shr_U64 x10 ((32#64).toNat : Int) (Int.natCast_nonneg _)) rfl) (sS (sA (sT1 rfl) sT0) sB0 sF0) ?_
              refine AL_cons (LR_move (at_tmp 8 _) rfl) (sS (sT1 rfl) sB0 sF0) ?_
              refine AL_cons (LR_bin (at_tmp 57 _) (at_c (v' := U64 (32#64)) rfl) (shl_U64 x10 ((32#64).toNat : Int) (Int.natCast_nonneg _)) rfl) (sS (sA (sT1 rfl) sT0) sB0 sF0) ?_
              refine AL_cons (LR_fieldAddr (off := 0) (o := 1) (at_tmp 6 _) (fun b w => fa42_1 b 0 w) rfl) (sS (sT1 rfl) sB0 sF0) ?_
              refine AL_cons (LR_load (at_tmp 59 _) na30 rfl rfl) (sS (sT1 rfl) (sB1 rfl) sF0) ?_
              refine AL_cons (LR_bin (at_tmp 60 _) (at_c (v' := U64 (32#64)) rfl) (shr_U64 x8 ((32#64).toNat : Int) (Int.natCast_nonneg _)) rfl) (sS (sA (sT1 rfl) sT0) sB0 sF0) ?_
              refine AL_cons (LR_bin (at_tmp 58 _) (at_tmp 61 _) (or_U64 (x10 <<< 32) (x8 >>> 32)) rfl) (sS (sA (sT1 rfl) (sT1 rfl)) sB0 sF0) ?_
              refine AL_cons (bl42 (parts_cons (i := 0) (off := 0) (at_tmp 56 _) (cells_one (one_is rfl)) rfl rfl (parts_cons (i := 1) (off := 1) (at_tmp 62 _) (cells_one (one_is rfl)) rfl rfl parts_nil)) rfl rfl) (sS (sA (sT1 rfl) (sA (sT1 rfl) sT0)) sB0 sF0) ?_
              refine AL_cons (LR_move (at_tmp 7 _) rfl) (sS (sT1 rfl) sB0 sF0) ?_
              refine AL_cons (LR_bin (at_c (v' := U64 (2#64)) rfl) (at_tmp 64 _) (mul_U64 (2#64) x9) rfl) (sS (sA sT0 (sT1 rfl)) sB0 sF0) ?_
              obtain ⟨y23, hy23, hr⟩ := bind_some hr
              refine AL_cons (LR_call Hfaa.func280 rfl rfl (C280 N (x10 >>> 32) ((x10 <<< 32) ||| (x8 >>> 32)) ((2#64) * x9) y23 hy23) (all_cons (at_tmp 63 _) (all_cons (at_tmp 65 _) all_nil)) rfl) (sS (sA (sT1 rfl) (sA (sT1 rfl) sT0)) sB0 sF0) ?_
              refine AL_cons (LR_move (at_tmp 66 _) rfl) (sS (sT1 rfl) sB0 sF0) ?_
              refine AL_cons (LR_extract (at_tmp 54 _) rfl rfl) (sS (sT1 rfl) sB0 sF0) ?_
              refine AL_cons (LR_extract (at_tmp 54 _) rfl rfl) (sS (sT1 rfl) sB0 sF0) ?_
              refine AL_cons (LR_extract (at_tmp 54 _) rfl rfl) (sS (sT1 rfl) sB0 sF0) ?_
              refine AL_cons (LR_assign (at_tmp 67 _) rfl) (sS (sT1 rfl) sB0 sF0) ?_
              refine AL_cons (LR_assign (at_tmp 68 _) rfl) (sS (sT1 rfl) sB0 sF0) ?_
              refine AL_cons (LR_assign (at_tmp 69 _) rfl) (sS (sT1 rfl) sB0 sF0) ?_
              refine AL_nil ?_
              exact thenN (cutLeaf (v := y23.1) hr (weak0 ((sT rfl (sT rfl (sT rfl (sT rfl (sT rfl sT0)))))) (sub_keep (sub_keep sub_nil))))
            · rintro x11 hr
              show AW Hfaa.prog _ _ _ ⟨[(1, .inr (.inl (1, 0))), (5, .inl (is (U8 x6))), (6, .inr (.inl (6, 0))), (7, .inl (is (U64 x9))), (9, .inl (is (U64 x11)))], [(1, pb 42 [is (U64 a0_0), is (U64 a0_1)]), (6, pb 42 [is (U64 x7), is (U64 x8)])]⟩
              have hr : some r = F261_9 N a0_0 a0_1 x6 x7 x8 x9 x11 := hr
              refine AW_cut (σ := BitVec 64) (fun v => ⟨[(1, .inr (.inl (1, 0))), (5, .inl (is (U8 x6))), (6, .inr (.inl (6, 0))), (2, .inl (is (U64 v)))], [(1, pb 42 [is (U64 a0_0), is (U64 a0_1)]), (6, pb 42 [is (U64 x7), is (U64 x8)])]⟩) (fun v => some r = F261_10 N a0_0 a0_1 x6 x7 x8 v) ?_ ?_
              · skip
                refine AW_region ?_
                refine AL_cons (LR_move (at_tmp 7 _) rfl) (sS (sT1 rfl) sB0 sF0) ?_
                refine AL_cons (LR_bin (at_tmp 70 _) (at_c (v' := U64 (32#64)) rfl) (shl_U64 x9 ((32#64).toNat : Int) (Int.natCast_nonneg _)) rfl) (sS (sA (sT1 rfl) sT0) sB0 sF0) ?_
                refine AL_cons (LR_move (at_tmp 9 _) rfl) (sS (sT1 rfl) sB0 sF0) ?_
                refine AL_cons (LR_bi2 (vx := U64 x11) (vy := U64 (4294967295#64)) (v := U64 (umin x11 (4294967295#64))) (at_tmp 72 _) (at_c (v' := U64 (4294967295#64)) rfl) (fun cs w => min_U64 x11 (4294967295#64) cs w) rfl) (sS (sA (sT1 rfl) sT0) sB0 sF0) ?_
                refine AL_cons (LR_bin (at_tmp 71 _) (at_tmp 73 _) (or_U64 (x9 <<< 32) (umin x11 (4294967295#64))) rfl) (sS (sA (sT1 rfl) (sT1 rfl)) sB0 sF0) ?_
                refine AL_cons (LR_assign (at_tmp 74 _) rfl) (sS (sT1 rfl) sB0 sF0) ?_
                refine AL_nil ?_
                exact thenN (cutLeaf (v := (x9 <<< 32) ||| (umin x11 (4294967295#64))) hr (weak0 ((sT rfl (sT rfl (sT rfl (sT rfl sT0))))) (sub_keep (sub_keep sub_nil))))
              · rintro x12 hr
                show AW Hfaa.prog _ _ _ ⟨[(1, .inr (.inl (1, 0))), (5, .inl (is (U8 x6))), (6, .inr (.inl (6, 0))), (2, .inl (is (U64 x12)))], [(1, pb 42 [is (U64 a0_0), is (U64 a0_1)]), (6, pb 42 [is (U64 x7), is (U64 x8)])]⟩
                have hr : some r = F261_10 N a0_0 a0_1 x6 x7 x8 x12 := hr
                refine AW_cut (σ := BitVec 64) (fun v => ⟨[(1, .inr (.inl (1, 0))), (5, .inl (is (U8 x6))), (2, .inl (is (U64 v)))], [(1, pb 42 [is (U64 a0_0), is (U64 a0_1)])]⟩) (fun v => some r = F261_11 N a0_0 a0_1 x6 v) ?_ ?_
                · skip
                  refine AW_cut (σ := Bool) (fun v => ⟨[(1, .inr (.inl (1, 0))), (5, .inl (is (U8 x6))), (2, .inl (is (U64 x12))), (80, .inl (is (Bl v)))], [(1, pb 42 [is (U64 a0_0), is (U64 a0_1)])]⟩) (fun v => some r = F261_13 N a0_0 a0_1 x6 x12 v) ?_ ?_
                  · skip
                    obtain ⟨y21, hy21, hr⟩ := lt_some hr
                    obtain ⟨y22, hy22, hr⟩ := lt_some hr
                    refine AW_draw mixed
                      (lrC (LR_move (at_tmp 2 _) rfl)
                      (lrC (LR_move (at_tmp 2 _) rfl)
                      (lrC (LR_call Hfaa.func165 rfl rfl (C165 x12 x12 y21 hy21) (all_cons (at_tmp 75 _) (all_cons (at_tmp 76 _) all_nil)) rfl)
                      (lrC (LR_loads (at_tmp 6 _) ag42 sz42 rfl rfl rfl)
                      (lrC (LR_call Hfaa.func362 rfl rfl (C362 y21.1 y21.2 x7 x8 y22 hy22) (all_cons (at_tmp 77 _) (all_cons (at_tmp 78 _) all_nil)) rfl)
                      (lrC (LR_bin (at_tmp 79 _) (at_c (v' := I8 0) rfl) (gtr_I8 y22 0) rfl)
                      lrN))))))
                      (by kernel_rfl)
                      (saC (sS (sT1 rfl) sB0 sF0) (saC (sS (sT1 rfl) sB0 sF0) (saC (sS (sA (sT1 rfl) (sA (sT1 rfl) sT0)) sB0 sF0) (saC (sS (sT1 rfl) (sB1 rfl) sF0) (saC (sS (sA (sT1 rfl) (sA (sT1 rfl) sT0)) sB0 sF0) (saC (sS (sA (sT1 rfl) sT0) sB0 sF0) saN)))))) ?_
                    exact thenN (cutLeaf (v := decide (y22 > 0)) hr (weak0 ((sT rfl (sT rfl (sT rfl (sT rfl sT0))))) (sub_keep (sub_drop sub_nil))))
                  · rintro x15 hr
                    show AW Hfaa.prog _ _ _ ⟨[(1, .inr (.inl (1, 0))), (5, .inl (is (U8 x6))), (2, .inl (is (U64 x12))), (80, .inl (is (Bl x15)))], [(1, pb 42 [is (U64 a0_0), is (U64 a0_1)])]⟩
                    have hr : some r = F261_13 N a0_0 a0_1 x6 x12 x15 := hr
                    refine AW_condT (b := x15) rfl (fun h => ?_) (fun h => ?_)
                    · have hr := hr.trans (cond_t h)
                      clear h
                      refine AW_region ?_
                      refine AL_cons (LR_move (at_tmp 2 _) rfl) (sS (sT1 rfl) sB0 sF0) ?_
                      refine AL_cons (LR_bin (at_tmp 81 _) (at_c (v' := U64 (1#64)) rfl) (sub_U64 x12 (1#64)) rfl) (sS (sA (sT1 rfl) sT0) sB0 sF0) ?_
                      refine AL_cons (LR_assign (at_tmp 82 _) rfl) (sS (sT1 rfl) sB0 sF0) ?_
                      refine AL_nil ?_
                      exact thenN (cutLeaf (v := x12 - (1#64)) hr (weak0 ((sT rfl (sT rfl (sT rfl sT0)))) (sub_keep sub_nil)))
                    · have hr := hr.trans (cond_f h)
                      clear h
                      refine AW_skip ?_
                      exact thenN (cutLeaf (v := x12) hr (weak0 ((sT rfl (sT rfl (sT rfl sT0)))) (sub_keep sub_nil)))
                · rintro x13 hr
                  show AW Hfaa.prog _ _ _ ⟨[(1, .inr (.inl (1, 0))), (5, .inl (is (U8 x6))), (2, .inl (is (U64 x13)))], [(1, pb 42 [is (U64 a0_0), is (U64 a0_1)])]⟩
                  have hr : some r = F261_11 N a0_0 a0_1 x6 x13 := hr
                  refine AW_cut (σ := BitVec 64) (fun v => ⟨[(1, .inr (.inl (1, 0))), (2, .inl (is (U64 v)))], [(1, pb 42 [is (U64 a0_0), is (U64 a0_1)])]⟩) (fun v => some r = F261_12 N a0_0 a0_1 v) ?_ ?_
                  · skip
                    refine AW_region ?_
                    refine AL_cons (LR_move (at_tmp 2 _) rfl) (sS (sT1 rfl) sB0 sF0) ?_
                    refine AL_cons (LR_move (at_tmp 5 _) rfl) (sS (sT1 rfl) sB0 sF0) ?_
                    refine AL_cons (LR_bin (at_tmp 84 _) (at_c (v' := U8 (2#8)) rfl) (quo_U8 x6 (2#8) (by decide)) rfl) (sS (sA (sT1 rfl) sT0) sB0 sF0) ?_
                    refine AL_cons (LR_bin (at_tmp 83 _) (at_tmp 85 _) (shr_U64 x13 ((x6 / (2#8)).toNat : Int) (Int.natCast_nonneg _)) rfl) (sS (sA (sT1 rfl) (sT1 rfl)) sB0 sF0) ?_
                    refine AL_cons (LR_assign (at_tmp 86 _) rfl) (sS (sT1 rfl) sB0 sF0) ?_
                    refine AL_nil ?_
                    exact thenN (cutLeaf (v := x13 >>> (x6 / (2#8)).toNat) hr (weak0 ((sT rfl (sT rfl sT0))) (sub_keep sub_nil)))
                  · rintro x14 hr
                    show AW Hfaa.prog _ _ _ ⟨[(1, .inr (.inl (1, 0))), (2, .inl (is (U64 x14)))], [(1, pb 42 [is (U64 a0_0), is (U64 a0_1)])]⟩
                    have hr : some r = F261_12 N a0_0 a0_1 x14 := hr
                    refine AW_seq1 ?_
                    obtain ⟨y18, hy18, hr⟩ := lt_some hr
                    refine AW_draw mixed
                      (lrC (LR_move (at_tmp 2 _) rfl)
                      (lrC (LR_move (at_tmp 2 _) rfl)
                      (lrC (LR_move (at_tmp 2 _) rfl)
                      (lrC (LR_call Hfaa.func165 rfl rfl (C165 x14 x14 y18 hy18) (all_cons (at_tmp 88 _) (all_cons (at_tmp 89 _) all_nil)) rfl)
                      (lrC (LR_loads (at_tmp 1 _) ag42 sz42 rfl rfl rfl)
                      (lrC (LR_binA (at_tmp 90 _) (at_tmp 91 _) (eqlA42 y18.1 y18.2 a0_0 a0_1) rfl)
                      (lrC (LR_assign (at_tmp 87 _) rfl)
                      (lrC (LR_assign (at_tmp 92 _) rfl)
                      lrN))))))))
                      (by kernel_rfl)
                      (saC (sS (sT1 rfl) sB0 sF0) (saC (sS (sT1 rfl) sB0 sF0) (saC (sS (sT1 rfl) sB0 sF0) (saC (sS (sA (sT1 rfl) (sA (sT1 rfl) sT0)) sB0 sF0) (saC (sS (sT1 rfl) (sB1 rfl) sF0) (saC (sS (sA (sT1 rfl) (sT1 rfl)) sB0 sF0) (saC (sS (sT1 rfl) sB0 sF0) (saC (sS (sT1 rfl) sB0 sF0) saN)))))))) ?_
                    refine thenN ?_
                    refine AW_ret ?_
                    obtain rfl := Option.some.inj hr
                    exact res2 rfl (rvT rfl) (rvT rfl)
/-- soft.SqrtFlags -/
def F152_9 (N : Nat) (a0_0 : BitVec 8) (a0_1 : BitVec 8) (a1 : BitVec 8) (x11 : Int) (x16 : BitVec 64) : Option (BitVec 64 × BitVec 8) := (F215 N a0_0 a0_1 a1 false (w16 ((w16 (x11.tdiv 2)) - 32)) x16).bind fun y30 => some (y30.1, y30.2)
def F152_10 (N : Nat) (a0_0 : BitVec 8) (a0_1 : BitVec 8) (a1 : BitVec 8) (x11 : Int) (x14 : BitVec 64) (x17 : Bool) : Option (BitVec 64 × BitVec 8) := bif x17 then F152_9 N a0_0 a0_1 a1 x11 (x14 ||| (1#64)) else F152_9 N a0_0 a0_1 a1 x11 x14
def F152_8 (N : Nat) (a0_0 : BitVec 8) (a0_1 : BitVec 8) (a1 : BitVec 8) (x11 : Int) (x14 : BitVec 64) (x15 : Bool) : Option (BitVec 64 × BitVec 8) := F152_10 N a0_0 a0_1 a1 x11 x14 (!x15)
def F152_7 (N : Nat) (a0_0 : BitVec 8) (a0_1 : BitVec 8) (a1 : BitVec 8) (x11 : Int) (x12 : BitVec 64) (x13 : BitVec 64) : Option (BitVec 64 × BitVec 8) := (F261 N x12 x13).bind fun y31 => F152_8 N a0_0 a0_1 a1 x11 y31.1 y31.2
def F152_12 (N : Nat) (a0_0 : BitVec 8) (a0_1 : BitVec 8) (a1 : BitVec 8) (x10 : Int) (x19 : BitVec 64) (x20 : BitVec 64) : Option (BitVec 64 × BitVec 8) := F152_7 N a0_0 a0_1 a1 (w16 (x10 + 1)) x19 x20
def F152_11 (N : Nat) (a0_0 : BitVec 8) (a0_1 : BitVec 8) (a1 : BitVec 8) (x9 : BitVec 64) (x10 : Int) (x18 : Bool) : Option (BitVec 64 × BitVec 8) := bif x18 then lt (F217 x9 (0#64) (1#8)) fun y33 => F152_12 N a0_0 a0_1 a1 x10 y33.1 y33.2 else F152_7 N a0_0 a0_1 a1 x10 x9 (0#64)
def F152_6 (N : Nat) (a0_0 : BitVec 8) (a0_1 : BitVec 8) (a1 : BitVec 8) (x9 : BitVec 64) (x10 : Int) : Option (BitVec 64 × BitVec 8) := F152_11 N a0_0 a0_1 a1 x9 x10 ((w16 ((BitVec.ofInt 16 x10 &&& BitVec.ofInt 16 1).toNat : Int)) != 0)
def F152_5 (N : Nat) (a0_0 : BitVec 8) (a0_1 : BitVec 8) (a1 : BitVec 8) (x2 : Bool) (x3 : Int) (x4 : Int) (x5 : BitVec 64) (x8 : Bool) : Option (BitVec 64 × BitVec 8) := bif x8 then lt (F67 a0_0 a0_1 false) fun y24 => some (y24, 0#8) else lt (F260 a0_0 a0_1 x2 x3 x4 x5) fun y34 => F152_6 N a0_0 a0_1 a1 y34.1 y34.2
def F152_4 (N : Nat) (a0_0 : BitVec 8) (a0_1 : BitVec 8) (a1 : BitVec 8) (a2 : BitVec 64) (x2 : Bool) (x3 : Int) (x4 : Int) (x5 : BitVec 64) (x7 : Bool) : Option (BitVec 64 × BitVec 8) := bif x7 then lt (F66 a0_0 a0_1) fun y19 => lt (F214 a0_0 a0_1 a2 a2) fun y20 => some (y19, y20) else bif x2 then lt (F66 a0_0 a0_1) fun y22 => some (y22, 1#8) else F152_5 N a0_0 a0_1 a1 x2 x3 x4 x5 (x3 == 3)
def F152_3 (N : Nat) (a0_0 : BitVec 8) (a0_1 : BitVec 8) (a1 : BitVec 8) (a2 : BitVec 64) (x2 : Bool) (x3 : Int) (x4 : Int) (x5 : BitVec 64) (x6 : Bool) : Option (BitVec 64 × BitVec 8) := bif x6 then lt (F259 a0_0 a0_1 x2) fun y16 => some (y16, 0#8) else F152_4 N a0_0 a0_1 a1 a2 x2 x3 x4 x5 (x3 == 4)
def F152_2 (N : Nat) (a0_0 : BitVec 8) (a0_1 : BitVec 8) (a1 : BitVec 8) (a2 : BitVec 64) (x2 : Bool) (x3 : Int) (x4 : Int) (x5 : BitVec 64) : Option (BitVec 64 × BitVec 8) := F152_3 N a0_0 a0_1 a1 a2 x2 x3 x4 x5 (x3 == 0)
def F152_1 (N : Nat) (a0_0 : BitVec 8) (a0_1 : BitVec 8) (a1 : BitVec 8) (a2 : BitVec 64) (x1 : Bool) : Option (BitVec 64 × BitVec 8) := bif x1 then some (0#64, 0#8) else lt (F65 a0_0 a0_1 a2) fun y35 => F152_2 N a0_0 a0_1 a1 a2 y35.1 y35.2.1 y35.2.2.1 y35.2.2.2
def F152 (N : Nat) (a0_0 : BitVec 8) (a0_1 : BitVec 8) (a1 : BitVec 8) (a2 : BitVec 64) : Option (BitVec 64 × BitVec 8) := lt (F40 a0_0 a0_1) fun y36 => F152_1 N a0_0 a0_1 a1 a2 (!y36)
theorem C152 (N : Nat) (a0_0 : BitVec 8) (a0_1 : BitVec 8) (a1 : BitVec 8) (a2 : BitVec 64) (r : BitVec 64 × BitVec 8) (hr : some r = F152 N a0_0 a0_1 a1 a2) : Aw.Fn Hfaa.prog 152 [agg [is (U8 a0_0), is (U8 a0_1)], is (U8 a1), is (U64 a2)] (tup [is (U64 r.1), is (U8 r.2)]) := by
  refine fn_intro Hfaa.func152 rfl rfl rfl ?_
  intro bn0 w0 H0
  refine AW_seq1 ?_
  refine AW_region ?_
  refine AL_cons (LR_box (at_tmp 0 _) (cells_agg _) rfl) (sS (sT1 rfl) sB0 (sF1 rfl)) ?_
  refine AL_cons (LR_assign (at_c (v' := U64 (0#64)) rfl) rfl) (sS sT0 sB0 sF0) ?_
  refine AL_cons (LR_assign (at_c (v' := U8 (0#8)) rfl) rfl) (sS sT0 sB0 sF0) ?_
  refine AL_nil ?_
  refine thenN ?_
  refine AW_seq1 ?_
  refine AW_cut (σ := Bool) (fun v => ⟨[(1, .inl (is (U8 a1))), (2, .inl (is (U64 a2))), (3, .inr (.inl (3, 0))), (16, .inl (is (Bl v)))], [(3, pb 23 [is (U8 a0_0), is (U8 a0_1)])]⟩) (fun v => some r = F152_1 N a0_0 a0_1 a1 a2 v) ?_ ?_
  · skip
    refine AW_region ?_
    refine AL_cons (LR_loads (at_tmp 3 _) ag23 sz23 rfl rfl rfl) (sS (sT1 rfl) (sB1 rfl) sF0) ?_
    obtain ⟨y36, hy36, hr⟩ := lt_some hr
    refine AL_cons (LR_call Hfaa.func40 rfl rfl (C40 a0_0 a0_1 y36 hy36) (all_cons (at_tmp 14 _) all_nil) rfl) (sS (sA (sT1 rfl) sT0) sB0 sF0) ?_
    refine AL_cons (LR_un (at_tmp 15 _) (not_Bl y36) rfl) (sS (sT1 rfl) sB0 sF0) ?_
    refine AL_nil ?_
    exact thenN (cutLeaf (v := !y36) hr (weak0 ((sT rfl (sT rfl (sT rfl (sT rfl sT0))))) (sub_keep sub_nil)))
  · rintro x1 hr
    show AW Hfaa.prog _ _ _ ⟨[(1, .inl (is (U8 a1))), (2, .inl (is (U64 a2))), (3, .inr (.inl (3, 0))), (16, .inl (is (Bl x1)))], [(3, pb 23 [is (U8 a0_0), is (U8 a0_1)])]⟩
    have hr : some r = F152_1 N a0_0 a0_1 a1 a2 x1 := hr
    refine AW_condT (b := x1) rfl (fun h => ?_) (fun h => ?_)
    · have hr := hr.trans (cond_t h)
      clear h
      refine AW_seq1 ?_
      refine AW_region ?_
      refine AL_cons (LR_assign (at_c (v' := U64 (0#64)) rfl) rfl) (sS sT0 sB0 sF0) ?_
      refine AL_cons (LR_assign (at_c (v' := U8 (0#8)) rfl) rfl) (sS sT0 sB0 sF0) ?_
      refine AL_nil ?_
      refine thenN ?_
      refine AW_ret ?_
      refine thenR ?_
      obtain rfl := Option.some.inj hr
      exact res2 rfl (rvT rfl) (rvT rfl)
    · have hr := hr.trans (cond_f h)
      clear h
      refine AW_skip ?_
      refine thenN ?_
      refine AW_cut (σ := Bool × Int × Int × BitVec 64) (fun v => ⟨[(1, .inl (is (U8 a1))), (2, .inl (is (U64 a2))), (3, .inr (.inl (3, 0))), (8, .inr (.inl (8, 0)))], [(3, pb 23 [is (U8 a0_0), is (U8 a0_1)]), (8, pb 112 [is (Bl v.1), is (I8 v.2.1), is (I16 v.2.2.1), is (U64 v.2.2.2)])]⟩) (fun v => some r = F152_2 N a0_0 a0_1 a1 a2 v.1 v.2.1 v.2.2.1 v.2.2.2) ?_ ?_
      · skip
        refine AW_region ?_
        refine AL_cons (LR_loads (at_tmp 3 _) ag23 sz23 rfl rfl rfl) (sS (sT1 rfl) (sB1 rfl) sF0) ?_
        refine AL_cons (LR_move (at_tmp 2 _) rfl) (sS (sT1 rfl) sB0 sF0) ?_
        obtain ⟨y35, hy35, hr⟩ := lt_some hr
        refine AL_cons (LR_call Hfaa.func65 rfl rfl (C65 a0_0 a0_1 a2 y35 hy35) (all_cons (at_tmp 17 _) (all_cons (at_tmp 18 _) all_nil)) rfl) (sS (sA (sT1 rfl) (sA (sT1 rfl) sT0)) sB0 sF0) ?_
        refine AL_cons (zl112 rfl) (sS sT0 sB0 (sF1 rfl)) ?_
        refine AL_cons (LR_store (at_tmp 8 _) (at_tmp 19 _) (cells_agg _) (onC (one_is rfl) (onC (one_is rfl) (onC (one_is rfl) (onC (one_is rfl) onN)))) sz112 rfl rfl) (sS (sA (sT1 rfl) (sT1 rfl)) (sB1 rfl) sF0) ?_
        refine AL_nil ?_
        exact thenN (cutLeaf (v := (y35.1, y35.2.1, y35.2.2.1, y35.2.2.2)) hr (weak0 ((sT rfl (sT rfl (sT rfl (sT rfl sT0))))) (sub_keep (sub_keep sub_nil))))
      · rintro ⟨x2, x3, x4, x5⟩ hr
        show AW Hfaa.prog _ _ _ ⟨[(1, .inl (is (U8 a1))), (2, .inl (is (U64 a2))), (3, .inr (.inl (3, 0))), (8, .inr (.inl (8, 0)))], [(3, pb 23 [is (U8 a0_0), is (U8 a0_1)]), (8, pb 112 [is (Bl x2), is (I8 x3), is (I16 x4), is (U64 x5)])]⟩
        have hr : some r = F152_2 N a0_0 a0_1 a1 a2 x2 x3 x4 x5 := hr
        refine AW_seq1 ?_
        refine AW_block ?_
        refine AW_cut (σ := Bool) (fun v => ⟨[(1, .inl (is (U8 a1))), (2, .inl (is (U64 a2))), (3, .inr (.inl (3, 0))), (8, .inr (.inl (8, 0))), (20, .inl (is (Bl v)))], [(3, pb 23 [is (U8 a0_0), is (U8 a0_1)]), (8, pb 112 [is (Bl x2), is (I8 x3), is (I16 x4), is (U64 x5)])]⟩) (fun v => some r = F152_3 N a0_0 a0_1 a1 a2 x2 x3 x4 x5 v) ?_ ?_
        · skip
          refine AW_region ?_
          refine AL_cons (LR_fieldAddr (off := 0) (o := 1) (at_tmp 8 _) (fun b w => fa112_1 b 0 w) rfl) (sS (sT1 rfl) sB0 sF0) ?_
          refine AL_cons (LR_load (at_tmp 21 _) na110 rfl rfl) (sS (sT1 rfl) (sB1 rfl) sF0) ?_
          refine AL_cons (LR_bin (at_tmp 22 _) (at_c (v' := I8 0) rfl) (eql_I8 x3 0) rfl) (sS (sA (sT1 rfl) sT0) sB0 sF0) ?_
          refine AL_cons (LR_assign (at_tmp 23 _) rfl) (sS (sT1 rfl) sB0 sF0) ?_
          refine AL_nil ?_
          exact thenN (cutLeaf (v := x3 == 0) hr (weak0 ((sT rfl (sT rfl (sT rfl (sT rfl (sT rfl sT0)))))) (sub_keep (sub_keep sub_nil))))
        · rintro x6 hr
          show AW Hfaa.prog _ _ _ ⟨[(1, .inl (is (U8 a1))), (2, .inl (is (U64 a2))), (3, .inr (.inl (3, 0))), (8, .inr (.inl (8, 0))), (20, .inl (is (Bl x6)))], [(3, pb 23 [is (U8 a0_0), is (U8 a0_1)]), (8, pb 112 [is (Bl x2), is (I8 x3), is (I16 x4), is (U64 x5)])]⟩
          have hr : some r = F152_3 N a0_0 a0_1 a1 a2 x2 x3 x4 x5 x6 := hr
          refine AW_condT (b := x6) rfl (fun h => ?_) (fun h => ?_)
          · have hr := hr.trans (cond_t h)
            clear h
            refine AW_seq1 ?_
            refine AW_region ?_
            refine AL_cons (LR_loads (at_tmp 3 _) ag23 sz23 rfl rfl rfl) (sS (sT1 rfl) (sB1 rfl) sF0) ?_
            refine AL_cons (LR_fieldAddr (off := 0) (o := 0) (at_tmp 8 _) (fun b w => fa112_0 b 0 w) rfl) (sS (sT1 rfl) sB0 sF0) ?_
            refine AL_cons (LR_load (at_tmp 25 _) na4 rfl rfl) (sS (sT1 rfl) (sB1 rfl) sF0) ?_
            obtain ⟨y16, hy16, hr⟩ := lt_some hr
            refine AL_cons (LR_call Hfaa.func259 rfl rfl (C259 a0_0 a0_1 x2 y16 hy16) (all_cons (at_tmp 24 _) (all_cons (at_tmp 26 _) all_nil)) rfl) (sS (sA (sT1 rfl) (sA (sT1 rfl) sT0)) sB0 sF0) ?_
            refine AL_cons (LR_assign (at_tmp 27 _) rfl) (sS (sT1 rfl) sB0 sF0) ?_
            refine AL_cons (LR_assign (at_c (v' := U8 (0#8)) rfl) rfl) (sS sT0 sB0 sF0) ?_
            refine AL_nil ?_
            refine thenN ?_
            refine AW_ret ?_
            refine blR ?_
            refine thenR ?_
            obtain rfl := Option.some.inj hr
            exact res2 rfl (rvT rfl) (rvT rfl)
          · have hr := hr.trans (cond_f h)
            clear h
            refine AW_cut (σ := Bool) (fun v => ⟨[(1, .inl (is (U8 a1))), (2, .inl (is (U64 a2))), (3, .inr (.inl (3, 0))), (8, .inr (.inl (8, 0))), (28, .inl (is (Bl v)))], [(3, pb 23 [is (U8 a0_0), is (U8 a0_1)]), (8, pb 112 [is (Bl x2), is (I8 x3), is (I16 x4), is (U64 x5)])]⟩) (fun v => some r = F152_4 N a0_0 a0_1 a1 a2 x2 x3 x4 x5 v) ?_ ?_
            · skip
              refine AW_region ?_
              refine AL_cons (LR_fieldAddr (off := 0) (o := 1) (at_tmp 8 _) (fun b w => fa112_1 b 0 w) rfl) (sS (sT1 rfl) sB0 sF0) ?_
              refine AL_cons (LR_load (at_tmp 29 _) na110 rfl rfl) (sS (sT1 rfl) (sB1 rfl) sF0) ?_
              refine AL_cons (LR_bin (at_tmp 30 _) (at_c (v' := I8 4) rfl) (eql_I8 x3 4) rfl) (sS (sA (sT1 rfl) sT0) sB0 sF0) ?_
              refine AL_cons (LR_assign (at_tmp 31 _) rfl) (sS (sT1 rfl) sB0 sF0) ?_
              refine AL_nil ?_
              exact thenN (cutLeaf (v := x3 == 4) hr (weak0 ((sT rfl (sT rfl (sT rfl (sT rfl (sT rfl sT0)))))) (sub_keep (sub_keep sub_nil))))
            · rintro x7 hr
              show AW Hfaa.prog _ _ _ ⟨[(1, .inl (is (U8 a1))), (2, .inl (is (U64 a2))), (3, .inr (.inl (3, 0))), (8, .inr (.inl (8, 0))), (28, .inl (is (Bl x7)))], [(3, pb 23 [is (U8 a0_0), is (U8 a0_1)]), (8, pb 112 [is (Bl x2), is (I8 x3), is (I16 x4), is (U64 x5)])]⟩
              have hr : some r = F152_4 N a0_0 a0_1 a1 a2 x2 x3 x4 x5 x7 := hr
              refine AW_condT (b := x7) rfl (fun h => ?_) (fun h => ?_)
              · have hr := hr.trans (cond_t h)
                clear h
                refine AW_seq1 ?_
                obtain ⟨y19, hy19, hr⟩ := lt_some hr
                obtain ⟨y20, hy20, hr⟩ := lt_some hr
                refine AW_draw mixed
                  (lrC (LR_loads (at_tmp 3 _) ag23 sz23 rfl rfl rfl)
                  (lrC (LR_call Hfaa.func66 rfl rfl (C66 a0_0 a0_1 y19 hy19) (all_cons (at_tmp 32 _) all_nil) rfl)
                  (lrC (LR_loads (at_tmp 3 _) ag23 sz23 rfl rfl rfl)
                  (lrC (LR_move (at_tmp 2 _) rfl)
                  (lrC (LR_move (at_tmp 2 _) rfl)
                  (lrC (LR_call Hfaa.func214 rfl rfl (C214 a0_0 a0_1 a2 a2 y20 hy20) (all_cons (at_tmp 34 _) (all_cons (at_tmp 35 _) (all_cons (at_tmp 36 _) all_nil))) rfl)
                  (lrC (LR_assign (at_tmp 33 _) rfl)
                  (lrC (LR_assign (at_tmp 37 _) rfl)
                  lrN))))))))
                  (by kernel_rfl)
                  (saC (sS (sT1 rfl) (sB1 rfl) sF0) (saC (sS (sA (sT1 rfl) sT0) sB0 sF0) (saC (sS (sT1 rfl) (sB1 rfl) sF0) (saC (sS (sT1 rfl) sB0 sF0) (saC (sS (sT1 rfl) sB0 sF0) (saC (sS (sA (sT1 rfl) (sA (sT1 rfl) (sA (sT1 rfl) sT0))) sB0 sF0) (saC (sS (sT1 rfl) sB0 sF0) (saC (sS (sT1 rfl) sB0 sF0) saN)))))))) ?_
                refine thenN ?_
                refine AW_ret ?_
                refine blR ?_
                refine thenR ?_
                obtain rfl := Option.some.inj hr
                exact res2 rfl (rvT rfl) (rvT rfl)
              · have hr := hr.trans (cond_f h)
                clear h
                refine AW_seq1 ?_
                refine AW_region ?_
                refine AL_cons (LR_fieldAddr (off := 0) (o := 0) (at_tmp 8 _) (fun b w => fa112_0 b 0 w) rfl) (sS (sT1 rfl) sB0 sF0) ?_
                refine AL_cons (LR_load (at_tmp 39 _) na4 rfl rfl) (sS (sT1 rfl) (sB1 rfl) sF0) ?_
                refine AL_cons (LR_assign (at_tmp 40 _) rfl) (sS (sT1 rfl) sB0 sF0) ?_
                refine AL_nil ?_
                refine thenN ?_
                refine AW_condT (b := x2) rfl (fun h => ?_) (fun h => ?_)
                · have hr := hr.trans (cond_t h)
                  clear h
                  refine AW_seq1 ?_
                  refine AW_region ?_
                  refine AL_cons (LR_loads (at_tmp 3 _) ag23 sz23 rfl rfl rfl) (sS (sT1 rfl) (sB1 rfl) sF0) ?_
                  obtain ⟨y22, hy22, hr⟩ := lt_some hr
                  refine AL_cons (LR_call Hfaa.func66 rfl rfl (C66 a0_0 a0_1 y22 hy22) (all_cons (at_tmp 41 _) all_nil) rfl) (sS (sA (sT1 rfl) sT0) sB0 sF0) ?_
                  refine AL_cons (LR_assign (at_tmp 42 _) rfl) (sS (sT1 rfl) sB0 sF0) ?_
                  refine AL_cons (LR_assign (at_c (v' := U8 (1#8)) rfl) rfl) (sS sT0 sB0 sF0) ?_
                  refine AL_nil ?_
                  refine thenN ?_
                  refine AW_ret ?_
                  refine blR ?_
                  refine thenR ?_
                  obtain rfl := Option.some.inj hr
                  exact res2 rfl (rvT rfl) (rvT rfl)
                · have hr := hr.trans (cond_f h)
                  clear h
                  refine AW_cut (σ := Bool) (fun v => ⟨[(1, .inl (is (U8 a1))), (3, .inr (.inl (3, 0))), (8, .inr (.inl (8, 0))), (43, .inl (is (Bl v)))], [(3, pb 23 [is (U8 a0_0), is (U8 a0_1)]), (8, pb 112 [is (Bl x2), is (I8 x3), is (I16 x4), is (U64 x5)])]⟩) (fun v => some r = F152_5 N a0_0 a0_1 a1 x2 x3 x4 x5 v) ?_ ?_
                  · skip
                    refine AW_region ?_
                    refine AL_cons (LR_fieldAddr (off := 0) (o := 1) (at_tmp 8 _) (fun b w => fa112_1 b 0 w) rfl) (sS (sT1 rfl) sB0 sF0) ?_
                    refine AL_cons (LR_load (at_tmp 44 _) na110 rfl rfl) (sS (sT1 rfl) (sB1 rfl) sF0) ?_
                    refine AL_cons (LR_bin (at_tmp 45 _) (at_c (v' := I8 3) rfl) (eql_I8 x3 3) rfl) (sS (sA (sT1 rfl) sT0) sB0 sF0) ?_
                    refine AL_cons (LR_assign (at_tmp 46 _) rfl) (sS (sT1 rfl) sB0 sF0) ?_
                    refine AL_nil ?_
                    exact thenN (cutLeaf (v := x3 == 3) hr (weak0 ((sT rfl (sT rfl (sT rfl (sT rfl sT0))))) (sub_keep (sub_keep sub_nil))))
                  · rintro x8 hr
                    show AW Hfaa.prog _ _ _ ⟨[(1, .inl (is (U8 a1))), (3, .inr (.inl (3, 0))), (8, .inr (.inl (8, 0))), (43, .inl (is (Bl x8)))], [(3, pb 23 [is (U8 a0_0), is (U8 a0_1)]), (8, pb 112 [is (Bl x2), is (I8 x3), is (I16 x4), is (U64 x5)])]⟩
                    have hr : some r = F152_5 N a0_0 a0_1 a1 x2 x3 x4 x5 x8 := hr
                    refine AW_condT (b := x8) rfl (fun h => ?_) (fun h => ?_)
                    · have hr := hr.trans (cond_t h)
                      clear h
                      refine AW_seq1 ?_
                      refine AW_region ?_
                      refine AL_cons (LR_loads (at_tmp 3 _) ag23 sz23 rfl rfl rfl) (sS (sT1 rfl) (sB1 rfl) sF0) ?_
                      obtain ⟨y24, hy24, hr⟩ := lt_some hr
                      refine AL_cons (LR_call Hfaa.func67 rfl rfl (C67 a0_0 a0_1 false y24 hy24) (all_cons (at_tmp 47 _) (all_cons (at_c (v' := Bl false) rfl) all_nil)) rfl) (sS (sA (sT1 rfl) (sA sT0 sT0)) sB0 sF0) ?_
                      refine AL_cons (LR_assign (at_tmp 48 _) rfl) (sS (sT1 rfl) sB0 sF0) ?_
                      refine AL_cons (LR_assign (at_c (v' := U8 (0#8)) rfl) rfl) (sS sT0 sB0 sF0) ?_
                      refine AL_nil ?_
                      refine thenN ?_
                      refine AW_ret ?_
                      refine blR ?_
                      refine thenR ?_
                      obtain rfl := Option.some.inj hr
                      exact res2 rfl (rvT rfl) (rvT rfl)
                    · have hr := hr.trans (cond_f h)
                      clear h
                      refine AW_skip ?_
                      refine blN ?_
                      refine thenN ?_
                      refine AW_cut (σ := BitVec 64 × Int) (fun v => ⟨[(1, .inl (is (U8 a1))), (3, .inr (.inl (3, 0))), (9, .inl (is (U64 v.1))), (10, .inl (is (I16 v.2)))], [(3, pb 23 [is (U8 a0_0), is (U8 a0_1)])]⟩) (fun v => some r = F152_6 N a0_0 a0_1 a1 v.1 v.2) ?_ ?_
                      · skip
                        refine AW_region ?_
                        refine AL_cons (LR_loads (at_tmp 3 _) ag23 sz23 rfl rfl rfl) (sS (sT1 rfl) (sB1 rfl) sF0) ?_
                        refine AL_cons (LR_loads (at_tmp 8 _) ag112 sz112 rfl rfl rfl) (sS (sT1 rfl) (sB1 rfl) sF0) ?_
                        obtain ⟨y34, hy34, hr⟩ := lt_some hr
                        refine AL_cons (LR_call Hfaa.func260 rfl rfl (C260 a0_0 a0_1 x2 x3 x4 x5 y34 hy34) (all_cons (at_tmp 50 _) (all_cons (at_tmp 51 _) all_nil)) rfl) (sS (sA (sT1 rfl) (sA (sT1 rfl) sT0)) sB0 sF0) ?_
                        refine AL_cons (LR_move (at_tmp 52 _) rfl) (sS (sT1 rfl) sB0 sF0) ?_
                        refine AL_cons (LR_extract (at_tmp 49 _) rfl rfl) (sS (sT1 rfl) sB0 sF0) ?_
                        refine AL_cons (LR_extract (at_tmp 49 _) rfl rfl) (sS (sT1 rfl) sB0 sF0) ?_
                        refine AL_cons (LR_assign (at_tmp 53 _) rfl) (sS (sT1 rfl) sB0 sF0) ?_
                        refine AL_cons (LR_assign (at_tmp 54 _) rfl) (sS (sT1 rfl) sB0 sF0) ?_
                        refine AL_nil ?_
                        exact thenN (cutLeaf (v := (y34.1, y34.2)) hr (weak0 ((sT rfl (sT rfl (sT rfl (sT rfl sT0))))) (sub_keep (sub_drop sub_nil))))
                      · rintro ⟨x9, x10⟩ hr
                        show AW Hfaa.prog _ _ _ ⟨[(1, .inl (is (U8 a1))), (3, .inr (.inl (3, 0))), (9, .inl (is (U64 x9))), (10, .inl (is (I16 x10)))], [(3, pb 23 [is (U8 a0_0), is (U8 a0_1)])]⟩
                        have hr : some r = F152_6 N a0_0 a0_1 a1 x9 x10 := hr
                        refine AW_seq1 ?_
                        refine AW_region ?_
                        refine AL_cons (LR_move (at_tmp 9 _) rfl) (sS (sT1 rfl) sB0 sF0) ?_
                        refine AL_cons (bl42 (parts_cons (i := 0) (off := 0) (at_tmp 55 _) (cells_one (one_is rfl)) rfl rfl parts_nil) rfl rfl) (sS (sA (sT1 rfl) sT0) sB0 sF0) ?_
                        refine AL_cons (zl42 rfl) (sS sT0 sB0 (sF1 rfl)) ?_
                        refine AL_cons (LR_store (at_tmp 11 _) (at_tmp 56 _) (cells_agg _) (onC (one_is rfl) (onC (one_is rfl) onN)) sz42 rfl rfl) (sS (sA (sT1 rfl) (sT1 rfl)) (sB1 rfl) sF0) ?_
                        refine AL_nil ?_
                        refine thenN ?_
                        refine AW_cut (σ := Int × BitVec 64 × BitVec 64) (fun v => ⟨[(1, .inl (is (U8 a1))), (3, .inr (.inl (3, 0))), (10, .inl (is (I16 v.1))), (11, .inr (.inl (11, 0)))], [(3, pb 23 [is (U8 a0_0), is (U8 a0_1)]), (11, pb 42 [is (U64 v.2.1), is (U64 v.2.2)])]⟩) (fun v => some r = F152_7 N a0_0 a0_1 a1 v.1 v.2.1 v.2.2) ?_ ?_
                        · skip
                          refine AW_cut (σ := Bool) (fun v => ⟨[(1, .inl (is (U8 a1))), (3, .inr (.inl (3, 0))), (10, .inl (is (I16 x10))), (11, .inr (.inl (11, 0))), (59, .inl (is (Bl v)))], [(3, pb 23 [is (U8 a0_0), is (U8 a0_1)]), (11, pb 42 [is (U64 x9), is (U64 (0#64))])]⟩) (fun v => some r = F152_11 N a0_0 a0_1 a1 x9 x10 v) ?_ ?_
                          · skip
                            refine AW_region ?_
                            refine AL_cons (LR_move (at_tmp 10 _) rfl) (sS (sT1 rfl) sB0 sF0) ?_
                            refine AL_cons (LR_bin (at_tmp 57 _) (at_c (v' := I16 1) rfl) (and_I16 x10 1) rfl) (sS (sA (sT1 rfl) sT0) sB0 sF0) ?_
                            refine AL_cons (LR_bin (at_tmp 58 _) (at_c (v' := I16 0) rfl) (neq_I16 (w16 ((BitVec.ofInt 16 x10 &&& BitVec.ofInt 16 1).toNat : Int)) 0) rfl) (sS (sA (sT1 rfl) sT0) sB0 sF0) ?_
                            refine AL_nil ?_
                            exact thenN (cutLeaf (v := (w16 ((BitVec.ofInt 16 x10 &&& BitVec.ofInt 16 1).toNat : Int)) != 0) hr (weak0 ((sT rfl (sT rfl (sT rfl (sT rfl (sT rfl sT0)))))) (sub_keep (sub_keep sub_nil))))
                          · rintro x18 hr
                            show AW Hfaa.prog _ _ _ ⟨[(1, .inl (is (U8 a1))), (3, .inr (.inl (3, 0))), (10, .inl (is (I16 x10))), (11, .inr (.inl (11, 0))), (59, .inl (is (Bl x18)))], [(3, pb 23 [is (U8 a0_0), is (U8 a0_1)]), (11, pb 42 [is (U64 x9), is (U64 (0#64))])]⟩
                            have hr : some r = F152_11 N a0_0 a0_1 a1 x9 x10 x18 := hr
                            refine AW_condT (b := x18) rfl (fun h => ?_) (fun h => ?_)
                            · have hr := hr.trans (cond_t h)
                              clear h
                              refine AW_cut (σ := BitVec 64 × BitVec 64) (fun v => ⟨[(1, .inl (is (U8 a1))), (3, .inr (.inl (3, 0))), (10, .inl (is (I16 x10))), (11, .inr (.inl (11, 0)))], [(3, pb 23 [is (U8 a0_0), is (U8 a0_1)]), (11, pb 42 [is (U64 v.1), is (U64 v.2)])]⟩) (fun v => some r = F152_12 N a0_0 a0_1 a1 x10 v.1 v.2) ?_ ?_
                              · skip
                                refine AW_region ?_
                                refine AL_cons (LR_loads (at_tmp 11 _) ag42 sz42 rfl rfl rfl) (sS (sT1 rfl) (sB1 rfl) sF0) ?_
                                obtain ⟨y33, hy33, hr⟩ := lt_some hr
                                refine AL_cons (LR_call Hfaa.func217 rfl rfl (C217 x9 (0#64) (1#8) y33 hy33) (all_cons (at_tmp 60 _) (all_cons (at_c (v' := U8 (1#8)) rfl) all_nil)) rfl) (sS (sA (sT1 rfl) (sA sT0 sT0)) sB0 sF0) ?_
                                refine AL_cons (LR_store (at_tmp 11 _) (at_tmp 61 _) (cells_agg _) (onC (one_is rfl) (onC (one_is rfl) onN)) sz42 rfl rfl) (sS (sA (sT1 rfl) (sT1 rfl)) (sB1 rfl) sF0) ?_
                                refine AL_nil ?_
                                exact thenN (cutLeaf (v := (y33.1, y33.2)) hr (weak0 ((sT rfl (sT rfl (sT rfl (sT rfl sT0))))) (sub_keep (sub_keep sub_nil))))
                              · rintro ⟨x19, x20⟩ hr
                                show AW Hfaa.prog _ _ _ ⟨[(1, .inl (is (U8 a1))), (3, .inr (.inl (3, 0))), (10, .inl (is (I16 x10))), (11, .inr (.inl (11, 0)))], [(3, pb 23 [is (U8 a0_0), is (U8 a0_1)]), (11, pb 42 [is (U64 x19), is (U64 x20)])]⟩
                                have hr : some r = F152_12 N a0_0 a0_1 a1 x10 x19 x20 := hr
                                refine AW_region ?_
                                refine AL_cons (LR_move (at_tmp 10 _) rfl) (sS (sT1 rfl) sB0 sF0) ?_
                                refine AL_cons (LR_bin (at_tmp 62 _) (at_c (v' := I16 1) rfl) (add_I16 x10 1) rfl) (sS (sA (sT1 rfl) sT0) sB0 sF0) ?_
                                refine AL_cons (LR_assign (at_tmp 63 _) rfl) (sS (sT1 rfl) sB0 sF0) ?_
                                refine AL_nil ?_
                                exact thenN (cutLeaf (v := (w16 (x10 + 1), x19, x20)) hr (weak0 ((sT rfl (sT rfl (sT rfl (sT rfl sT0))))) (sub_keep (sub_keep sub_nil))))
                            · have hr := hr.trans (cond_f h)
                              clear h
                              refine AW_skip ?_
                              exact thenN (cutLeaf (v := (x10, x9, 0#64)) hr (weak0 ((sT rfl (sT rfl (sT rfl (sT rfl sT0))))) (sub_keep (sub_keep sub_nil))))
                        · rintro ⟨x11, x12, x13⟩ hr
                          show AW Hfaa.prog _ _ _ ⟨[(1, .inl (is (U8 a1))), (3, .inr (.inl (3, 0))), (10, .inl (is (I16 x11))), (11, .inr (.inl (11, 0)))], [(3, pb 23 [is (U8 a0_0), is (U8 a0_1)]), (11, pb 42 [is (U64 x12), is (U64 x13)])]⟩
                          have hr : some r = F152_7 N a0_0 a0_1 a1 x11 x12 x13 := hr
                          refine AW_cut (σ := BitVec 64 × Bool) (fun v => ⟨[(1, .inl (is (U8 a1))), (3, .inr (.inl (3, 0))), (10, .inl (is (I16 x11))), (12, .inl (is (U64 v.1))), (13, .inl (is (Bl v.2)))], [(3, pb 23 [is (U8 a0_0), is (U8 a0_1)])]⟩) (fun v => some r = F152_8 N a0_0 a0_1 a1 x11 v.1 v.2) ?_ ?_
                          · skip
                            refine AW_region ?_
                            refine AL_cons (LR_loads (at_tmp 11 _) ag42 sz42 rfl rfl rfl) (sS (sT1 rfl) (sB1 rfl) sF0) ?_
                            obtain ⟨y31, hy31, hr⟩ := bind_some hr
                            refine AL_cons (LR_call Hfaa.func261 rfl rfl (C261 N x12 x13 y31 hy31) (all_cons (at_tmp 65 _) all_nil) rfl) (sS (sA (sT1 rfl) sT0) sB0 sF0) ?_
                            refine AL_cons (LR_move (at_tmp 66 _) rfl) (sS (sT1 rfl) sB0 sF0) ?_
                            refine AL_cons (LR_extract (at_tmp 64 _) rfl rfl) (sS (sT1 rfl) sB0 sF0) ?_
                            refine AL_cons (LR_extract (at_tmp 64 _) rfl rfl) (sS (sT1 rfl) sB0 sF0) ?_
                            refine AL_cons (LR_assign (at_tmp 67 _) rfl) (sS (sT1 rfl) sB0 sF0) ?_
                            refine AL_cons (LR_assign (at_tmp 68 _) rfl) (sS (sT1 rfl) sB0 sF0) ?_
                            refine AL_nil ?_
                            exact thenN (cutLeaf (v := (y31.1, y31.2)) hr (weak0 ((sT rfl (sT rfl (sT rfl (sT rfl (sT rfl sT0)))))) (sub_keep (sub_drop sub_nil))))
                          · rintro ⟨x14, x15⟩ hr
                            show AW Hfaa.prog _ _ _ ⟨[(1, .inl (is (U8 a1))), (3, .inr (.inl (3, 0))), (10, .inl (is (I16 x11))), (12, .inl (is (U64 x14))), (13, .inl (is (Bl x15)))], [(3, pb 23 [is (U8 a0_0), is (U8 a0_1)])]⟩
                            have hr : some r = F152_8 N a0_0 a0_1 a1 x11 x14 x15 := hr
                            refine AW_cut (σ := BitVec 64) (fun v => ⟨[(1, .inl (is (U8 a1))), (3, .inr (.inl (3, 0))), (10, .inl (is (I16 x11))), (12, .inl (is (U64 v)))], [(3, pb 23 [is (U8 a0_0), is (U8 a0_1)])]⟩) (fun v => some r = F152_9 N a0_0 a0_1 a1 x11 v) ?_ ?_
                            · skip
                              refine AW_cut (σ := Bool) (fun v => ⟨[(1, .inl (is (U8 a1))), (3, .inr (.inl (3, 0))), (10, .inl (is (I16 x11))), (12, .inl (is (U64 x14))), (70, .inl (is (Bl v)))], [(3, pb 23 [is (U8 a0_0), is (U8 a0_1)])]⟩) (fun v => some r = F152_10 N a0_0 a0_1 a1 x11 x14 v) ?_ ?_
                              · skip
                                refine AW_region ?_
                                refine AL_cons (LR_move (at_tmp 13 _) rfl) (sS (sT1 rfl) sB0 sF0) ?_
                                refine AL_cons (LR_un (at_tmp 69 _) (not_Bl x15) rfl) (sS (sT1 rfl) sB0 sF0) ?_
                                refine AL_nil ?_
                                exact thenN (cutLeaf (v := !x15) hr (weak0 ((sT rfl (sT rfl (sT rfl (sT rfl (sT rfl sT0)))))) (sub_keep sub_nil)))
                              · rintro x17 hr
                                show AW Hfaa.prog _ _ _ ⟨[(1, .inl (is (U8 a1))), (3, .inr (.inl (3, 0))), (10, .inl (is (I16 x11))), (12, .inl (is (U64 x14))), (70, .inl (is (Bl x17)))], [(3, pb 23 [is (U8 a0_0), is (U8 a0_1)])]⟩
                                have hr : some r = F152_10 N a0_0 a0_1 a1 x11 x14 x17 := hr
                                refine AW_condT (b := x17) rfl (fun h => ?_) (fun h => ?_)
                                · have hr := hr.trans (cond_t h)
                                  clear h
                                  refine AW_region ?_
                                  refine AL_cons (LR_move (at_tmp 12 _) rfl) (sS (sT1 rfl) sB0 sF0) ?_
                                  refine AL_cons (LR_bin (at_tmp 71 _) (at_c (v' := U64 (1#64)) rfl) (or_U64 x14 (1#64)) rfl) (sS (sA (sT1 rfl) sT0) sB0 sF0) ?_
                                  refine AL_cons (LR_assign (at_tmp 72 _) rfl) (sS (sT1 rfl) sB0 sF0) ?_
                                  refine AL_nil ?_
                                  exact thenN (cutLeaf (v := x14 ||| (1#64)) hr (weak0 ((sT rfl (sT rfl (sT rfl (sT rfl sT0))))) (sub_keep sub_nil)))
                                · have hr := hr.trans (cond_f h)
                                  clear h
                                  refine AW_skip ?_
                                  exact thenN (cutLeaf (v := x14) hr (weak0 ((sT rfl (sT rfl (sT rfl (sT rfl sT0))))) (sub_keep sub_nil)))
                            · rintro x16 hr
                              show AW Hfaa.prog _ _ _ ⟨[(1, .inl (is (U8 a1))), (3, .inr (.inl (3, 0))), (10, .inl (is (I16 x11))), (12, .inl (is (U64 x16)))], [(3, pb 23 [is (U8 a0_0), is (U8 a0_1)])]⟩
                              have hr : some r = F152_9 N a0_0 a0_1 a1 x11 x16 := hr
                              refine AW_seq1 ?_
                              refine AW_region ?_
                              refine AL_cons (LR_loads (at_tmp 3 _) ag23 sz23 rfl rfl rfl) (sS (sT1 rfl) (sB1 rfl) sF0) ?_
                              refine AL_cons (LR_move (at_tmp 1 _) rfl) (sS (sT1 rfl) sB0 sF0) ?_
                              refine AL_cons (LR_move (at_tmp 10 _) rfl) (sS (sT1 rfl) sB0 sF0) ?_
                              refine AL_cons (LR_bin (at_tmp 75 _) (at_c (v' := I16 2) rfl) (quo_I16 x11 2 (by decide)) rfl) (sS (sA (sT1 rfl) sT0) sB0 sF0) ?_
                              refine AL_cons (LR_bin (at_tmp 76 _) (at_c (v' := I16 32) rfl) (sub_I16 (w16 (x11.tdiv 2)) 32) rfl) (sS (sA (sT1 rfl) sT0) sB0 sF0) ?_
                              refine AL_cons (LR_move (at_tmp 12 _) rfl) (sS (sT1 rfl) sB0 sF0) ?_
                              obtain ⟨y30, hy30, hr⟩ := bind_some hr
                              refine AL_cons (LR_call Hfaa.func215 rfl rfl (C215 N a0_0 a0_1 a1 false (w16 ((w16 (x11.tdiv 2)) - 32)) x16 y30 hy30) (all_cons (at_tmp 73 _) (all_cons (at_tmp 74 _) (all_cons (at_c (v' := Bl false) rfl) (all_cons (at_tmp 77 _) (all_cons (at_tmp 78 _) all_nil))))) rfl) (sS (sA (sT1 rfl) (sA (sT1 rfl) (sA sT0 (sA (sT1 rfl) (sA (sT1 rfl) sT0))))) sB0 sF0) ?_
                              refine AL_cons (LR_extract (at_tmp 79 _) rfl rfl) (sS (sT1 rfl) sB0 sF0) ?_
                              refine AL_cons (LR_extract (at_tmp 79 _) rfl rfl) (sS (sT1 rfl) sB0 sF0) ?_
                              refine AL_cons (LR_assign (at_tmp 80 _) rfl) (sS (sT1 rfl) sB0 sF0) ?_
                              refine AL_cons (LR_assign (at_tmp 81 _) rfl) (sS (sT1 rfl) sB0 sF0) ?_
                              refine AL_nil ?_
                              refine thenN ?_
                              refine AW_ret ?_
                              obtain rfl := Option.some.inj hr
                              exact res2 rfl (rvT rfl) (rvT rfl)
end Go.Proofs.YfwaawGreat
