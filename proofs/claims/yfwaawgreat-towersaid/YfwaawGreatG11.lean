import Derived.Test.YfwaawGreatG2
import Derived.Test.YfwaawGreatG4
import Derived.Test.YfwaawGreatG10
namespace Go.Proofs.YfwaawGreat
open Go.Aw
set_option linter.unusedVariables false
set_option maxRecDepth 100000
set_option maxHeartbeats 1000000
/-- exact.ofDigits -/
def F138_1 (N : Nat) (x1 : Nat) : Option (Nat) := some x1
def F138_4 (N : Nat) (a0 : List UInt8) (x2 : Nat) (x5 : Int) (x6 : BitVec 64) (x7 : BitVec 64) : Option ((Nat × Int) ⊕ (Nat)) := bif lim x2 && lim x7.toNat then bif lim (x2 * x7.toNat) && lim x6.toNat then some (.inl (((x2 * x7.toNat) + x6.toNat, x5))) else none else none
def F138_7 (N : Nat) (a0 : List UInt8) (x2 : Nat) (x11 : Int) (x13 : Int) (x14 : BitVec 64) (x15 : BitVec 64) : Option ((Int × BitVec 64 × BitVec 64 × Int) ⊕ ((Nat × Int) ⊕ (Nat))) := some (.inl ((x13, x14, x15, w64 (x11 + 1))))
def F138_9 (N : Nat) (a0 : List UInt8) (x2 : Nat) (x8 : Int) (x11 : Int) (x16 : BitVec 64) (x17 : BitVec 64) : Option ((Int × BitVec 64 × BitVec 64 × Int) ⊕ ((Nat × Int) ⊕ (Nat))) := F138_7 N a0 x2 x11 (w64 (x8 + 1)) x16 x17
def F138_8 (N : Nat) (a0 : List UInt8) (x2 : Nat) (x8 : Int) (x10 : BitVec 64) (x11 : Int) (x16 : BitVec 64) : Option ((Int × BitVec 64 × BitVec 64 × Int) ⊕ ((Nat × Int) ⊕ (Nat))) := F138_9 N a0 x2 x8 x11 x16 (x10 * (10#64))
def F138_6 (N : Nat) (a0 : List UInt8) (x2 : Nat) (x8 : Int) (x9 : BitVec 64) (x10 : BitVec 64) (x11 : Int) (x12 : Bool) : Option ((Int × BitVec 64 × BitVec 64 × Int) ⊕ ((Nat × Int) ⊕ (Nat))) := bif x12 then bif (decide (0 ≤ (x8 : Int)) && decide ((x8 : Int) < (a0.length : Int))) then F138_8 N a0 x2 x8 x10 x11 (((10#64) * x9) + (BitVec.ofInt 64 ((((a0.getD ((x8 : Int)).toNat 0).toBitVec) - (48#8)).toNat : Int))) else none else (F138_4 N a0 x2 x8 x9 x10).map Sum.inr
def F138_L5b (N : Nat) (a0 : List UInt8) (x2 : Nat) (x8 : Int) (x9 : BitVec 64) (x10 : BitVec 64) (x11 : Int) : Option ((Int × BitVec 64 × BitVec 64 × Int) ⊕ ((Nat × Int) ⊕ (Nat))) := F138_6 N a0 x2 x8 x9 x10 x11 ((decide (x11 < 9)) && (decide (x8 < (a0.length : Int))))
def F138_L5 (N : Nat) (a0 : List UInt8) (x2 : Nat) : (Int × BitVec 64 × BitVec 64 × Int) → Option ((Int × BitVec 64 × BitVec 64 × Int) ⊕ ((Nat × Int) ⊕ (Nat))) := fun v => F138_L5b N a0 x2 v.1 v.2.1 v.2.2.1 v.2.2.2
def F138_3 (N : Nat) (a0 : List UInt8) (x2 : Nat) (x3 : Int) (x4 : Bool) : Option ((Nat × Int) ⊕ (Nat)) := bif x4 then iterL (F138_L5 N a0 x2) N (x3, 0#64, 1#64, 0) else (F138_1 N x2).map Sum.inr
def F138_L2b (N : Nat) (a0 : List UInt8) (x2 : Nat) (x3 : Int) : Option ((Nat × Int) ⊕ (Nat)) := F138_3 N a0 x2 x3 (decide (x3 < (a0.length : Int)))
def F138_L2 (N : Nat) (a0 : List UInt8) : (Nat × Int) → Option ((Nat × Int) ⊕ (Nat)) := fun v => F138_L2b N a0 v.1 v.2
def F138 (N : Nat) (a0 : List UInt8) : Option (Nat) := iterL (F138_L2 N a0) N (0, 0)
theorem C138 (N : Nat) (a0 : List UInt8) (r : Nat) (hr : some r = F138 N a0) : Aw.Fn Hfaa.prog 138 [is (Sv a0)] (big r) := by
  refine fn_intro Hfaa.func138 rfl rfl rfl ?_
  intro bn0 w0 H0
  refine AW_seq1 ?_
  refine AW_region ?_
  refine AL_cons (LR_assign at_nil rfl) (sS sT0 sB0 sF0) ?_
  refine AL_nil ?_
  refine thenN ?_
  refine AW_seq1 ?_
  refine AW_region ?_
  refine AL_cons (LR_assign at_nil rfl) (sS sT0 sB0 sF0) ?_
  refine AL_nil ?_
  refine thenN ?_
  refine AW_cut (σ := Nat) (fun v => ⟨[(3, .inl (big v))], []⟩) (fun v => some r = F138_1 N v) ?_ ?_
  · skip
    refine AW_seq1 ?_
    refine AW_region ?_
    refine AL_cons (LR_assign (at_c (v' := I64 0) rfl) rfl) (sS sT0 sB0 sF0) ?_
    refine AL_nil ?_
    refine thenN ?_
    refine AW_block ?_
    refine AW_iterR (σ := Nat × Int) (r := r) (x0 := (0, 0)) (emb := fun v => ⟨[(0, .inl (is (Sv a0))), (3, .inl (big v.1)), (4, .inl (is (I64 v.2)))], []⟩) ?_ hr ?_
    · exact weak0 ((sT rfl (sT rfl (sT rfl sT0)))) sub_nil
    rintro ⟨x2, x3⟩ out8 hr
    show AW Hfaa.prog _ _ _ ⟨[(0, .inl (is (Sv a0))), (3, .inl (big x2)), (4, .inl (is (I64 x3)))], []⟩
    have hr : some out8 = F138_L2b N a0 x2 x3 := hr
    refine AW_seq1 ?_
    refine AW_cut (σ := Bool) (fun v => ⟨[(0, .inl (is (Sv a0))), (3, .inl (big x2)), (4, .inl (is (I64 x3))), (11, .inl (is (Bl v)))], []⟩) (fun v => some out8 = F138_3 N a0 x2 x3 v) ?_ ?_
    · skip
      refine AW_region ?_
      refine AL_cons (LR_move (at_tmp 4 _) rfl) (sS (sT1 rfl) sB0 sF0) ?_
      refine AL_cons (LR_move (at_tmp 0 _) rfl) (sS (sT1 rfl) sB0 sF0) ?_
      refine AL_cons (LR_bi1 (at_tmp 9 _) (len_S Hfaa.underlying9 a0) rfl) (sS (sT1 rfl) sB0 sF0) ?_
      refine AL_cons (LR_bin (at_tmp 8 _) (at_tmp 10 _) (lss_I64 x3 (a0.length : Int)) rfl) (sS (sA (sT1 rfl) (sT1 rfl)) sB0 sF0) ?_
      refine AL_nil ?_
      exact thenN (cutLeaf (v := decide (x3 < (a0.length : Int))) hr (weak0 ((sT rfl (sT rfl (sT rfl (sT rfl sT0))))) sub_nil))
    · rintro x4 hr
      show AW Hfaa.prog _ _ _ ⟨[(0, .inl (is (Sv a0))), (3, .inl (big x2)), (4, .inl (is (I64 x3))), (11, .inl (is (Bl x4)))], []⟩
      have hr : some out8 = F138_3 N a0 x2 x3 x4 := hr
      refine AW_condT (b := x4) rfl (fun h => ?_) (fun h => ?_)
      · have hr := hr.trans (cond_t h)
        clear h
        refine AW_skip ?_
        refine thenN ?_
        refine AW_block ?_
        refine AW_seq1 ?_
        refine AW_region ?_
        refine AL_cons (LR_assign (at_c (v' := U64 (0#64)) rfl) rfl) (sS sT0 sB0 sF0) ?_
        refine AL_cons (LR_assign (at_c (v' := U64 (1#64)) rfl) rfl) (sS sT0 sB0 sF0) ?_
        refine AL_nil ?_
        refine thenN ?_
        refine AW_cut (σ := Int × BitVec 64 × BitVec 64) (fun v => ⟨[(0, .inl (is (Sv a0))), (3, .inl (big x2)), (4, .inl (is (I64 v.1))), (5, .inl (is (U64 v.2.1))), (6, .inl (is (U64 v.2.2)))], []⟩) (fun v => some out8 = F138_4 N a0 x2 v.1 v.2.1 v.2.2) ?_ ?_
        · skip
          refine AW_seq1 ?_
          refine AW_region ?_
          refine AL_cons (LR_assign (at_c (v' := I64 0) rfl) rfl) (sS sT0 sB0 sF0) ?_
          refine AL_nil ?_
          refine thenN ?_
          refine AW_block ?_
          refine AW_iterR (σ := Int × BitVec 64 × BitVec 64 × Int) (r := out8) (x0 := (x3, 0#64, 1#64, 0)) (emb := fun v => ⟨[(0, .inl (is (Sv a0))), (3, .inl (big x2)), (4, .inl (is (I64 v.1))), (5, .inl (is (U64 v.2.1))), (6, .inl (is (U64 v.2.2.1))), (7, .inl (is (I64 v.2.2.2)))], []⟩) ?_ hr ?_
          · exact weak0 ((sT rfl (sT rfl (sT rfl (sT rfl (sT rfl (sT rfl sT0))))))) sub_nil
          rintro ⟨x8, x9, x10, x11⟩ out10 hr
          show AW Hfaa.prog _ _ _ ⟨[(0, .inl (is (Sv a0))), (3, .inl (big x2)), (4, .inl (is (I64 x8))), (5, .inl (is (U64 x9))), (6, .inl (is (U64 x10))), (7, .inl (is (I64 x11)))], []⟩
          have hr : some out10 = F138_L5b N a0 x2 x8 x9 x10 x11 := hr
          refine AW_seq1 ?_
          refine AW_cut (σ := Bool) (fun v => ⟨[(0, .inl (is (Sv a0))), (3, .inl (big x2)), (4, .inl (is (I64 x8))), (5, .inl (is (U64 x9))), (6, .inl (is (U64 x10))), (7, .inl (is (I64 x11))), (19, .inl (is (Bl v)))], []⟩) (fun v => some out10 = F138_6 N a0 x2 x8 x9 x10 x11 v) ?_ ?_
          · skip
            refine AW_region ?_
            refine AL_cons (LR_move (at_tmp 7 _) rfl) (sS (sT1 rfl) sB0 sF0) ?_
            refine AL_cons (LR_bin (at_tmp 12 _) (at_c (v' := I64 9) rfl) (lss_I64 x11 9) rfl) (sS (sA (sT1 rfl) sT0) sB0 sF0) ?_
            refine AL_cons (LR_move (at_tmp 13 _) rfl) (sS (sT1 rfl) sB0 sF0) ?_
            refine AL_cutAt 5 ⟨[(0, .inl (is (Sv a0))), (3, .inl (big x2)), (4, .inl (is (I64 x8))), (5, .inl (is (U64 x9))), (6, .inl (is (U64 x10))), (7, .inl (is (I64 x11))), (12, .inl (is (I64 x11))), (13, .inl (is (Bl (decide (x11 < 9))))), (14, .inl (is (Bl (decide (x11 < 9))))), (19, .inl (is (Bl ((decide (x11 < 9)) && (decide (x8 < (a0.length : Int)))))))], []⟩ ?_ ?_
            · cases hb : decide (x11 < 9)
              · skip
                refine AL_cons (LR_off (b := false) rfl rfl rfl rfl) (sS (sT1 rfl) sB0 sF0) ?_
                refine AL_cons (LR_off (b := false) rfl rfl rfl rfl) (sS (sT1 rfl) sB0 sF0) ?_
                refine AL_cons (LR_off (b := false) rfl rfl rfl rfl) (sS (sT1 rfl) sB0 sF0) ?_
                refine AL_cons (LR_off (b := false) rfl rfl rfl rfl) (sS (sT1 rfl) sB0 sF0) ?_
                refine AL_cons (LR_pick (b := false) (at_tmp 14 _) (at_tmp 18 _) (at_c (v' := Bl false) rfl) rfl) (sS (sA (sT1 rfl) (sA (sT1 rfl) sT0)) sB0 sF0) ?_
                exact AL_nil ⟨rfl, weak0 ((sT rfl (sT rfl (sT rfl (sT rfl (sT rfl (sT rfl (sT rfl (sT rfl (sT rfl (sT rfl sT0))))))))))) sub_nil⟩
              · skip
                refine AL_cons (LR_on rfl rfl rfl (LR_move (at_tmp 4 _) rfl)) (sS (sT rfl (sT1 rfl)) sB0 sF0) ?_
                refine AL_cons (LR_on rfl rfl rfl (LR_move (at_tmp 0 _) rfl)) (sS (sT rfl (sT1 rfl)) sB0 sF0) ?_
                refine AL_cons (LR_on rfl rfl rfl (LR_bi1 (at_tmp 16 _) (len_S Hfaa.underlying9 a0) rfl)) (sS (sT rfl (sT1 rfl)) sB0 sF0) ?_
                refine AL_cons (LR_on rfl rfl rfl (LR_bin (at_tmp 15 _) (at_tmp 17 _) (lss_I64 x8 (a0.length : Int)) rfl)) (sS (sT rfl (sA (sT1 rfl) (sT1 rfl))) sB0 sF0) ?_
                refine AL_cons (LR_pick (b := true) (at_tmp 14 _) (at_tmp 18 _) (at_c (v' := Bl false) rfl) rfl) (sS (sA (sT1 rfl) (sA (sT1 rfl) sT0)) sB0 sF0) ?_
                exact AL_nil ⟨rfl, weak0 ((sT rfl (sT rfl (sT rfl (sT rfl (sT rfl (sT rfl (sT rfl (sT rfl (sT rfl (sT rfl sT0))))))))))) sub_nil⟩
            refine AL_nil ?_
            exact thenN (cutLeaf (v := (decide (x11 < 9)) && (decide (x8 < (a0.length : Int)))) hr (weak0 ((sT rfl (sT rfl (sT rfl (sT rfl (sT rfl (sT rfl (sT rfl sT0)))))))) sub_nil))
          · rintro x12 hr
            show AW Hfaa.prog _ _ _ ⟨[(0, .inl (is (Sv a0))), (3, .inl (big x2)), (4, .inl (is (I64 x8))), (5, .inl (is (U64 x9))), (6, .inl (is (U64 x10))), (7, .inl (is (I64 x11))), (19, .inl (is (Bl x12)))], []⟩
            have hr : some out10 = F138_6 N a0 x2 x8 x9 x10 x11 x12 := hr
            refine AW_condT (b := x12) rfl (fun h => ?_) (fun h => ?_)
            · have hr := hr.trans (cond_t h)
              clear h
              refine AW_skip ?_
              refine thenN ?_
              refine AW_cut (σ := Int × BitVec 64 × BitVec 64) (fun v => ⟨[(0, .inl (is (Sv a0))), (3, .inl (big x2)), (4, .inl (is (I64 v.1))), (5, .inl (is (U64 v.2.1))), (6, .inl (is (U64 v.2.2))), (7, .inl (is (I64 x11)))], []⟩) (fun v => some out10 = F138_7 N a0 x2 x11 v.1 v.2.1 v.2.2) ?_ ?_
              · skip
                refine AW_block ?_
                refine AW_cut (σ := BitVec 64) (fun v => ⟨[(0, .inl (is (Sv a0))), (3, .inl (big x2)), (4, .inl (is (I64 x8))), (5, .inl (is (U64 v))), (6, .inl (is (U64 x10))), (7, .inl (is (I64 x11)))], []⟩) (fun v => some out10 = F138_8 N a0 x2 x8 x10 x11 v) ?_ ?_
                · skip
                  refine AW_region ?_
                  refine AL_cons (LR_move (at_tmp 5 _) rfl) (sS (sT1 rfl) sB0 sF0) ?_
                  refine AL_cons (LR_bin (at_c (v' := U64 (10#64)) rfl) (at_tmp 22 _) (mul_U64 (10#64) x9) rfl) (sS (sA sT0 (sT1 rfl)) sB0 sF0) ?_
                  refine AL_cons (LR_move (at_tmp 0 _) rfl) (sS (sT1 rfl) sB0 sF0) ?_
                  refine AL_cons (LR_move (at_tmp 4 _) rfl) (sS (sT1 rfl) sB0 sF0) ?_
                  obtain ⟨hg72, hr⟩ := guard_some hr
                  refine AL_cons (LR_indexS (i := (x8 : Int)) Hfaa.underlying9 (at_tmp 24 _) (at_tmp 25 _) (dand hg72) rfl) (sS (sA (sT1 rfl) (sT1 rfl)) sB0 sF0) ?_
                  refine AL_cons (LR_bin (at_tmp 26 _) (at_c (v' := U8 (48#8)) rfl) (sub_U8 ((a0.getD ((x8 : Int)).toNat 0).toBitVec) (48#8)) rfl) (sS (sA (sT1 rfl) sT0) sB0 sF0) ?_
                  refine AL_cons (LR_conv (vx := U8 (((a0.getD ((x8 : Int)).toNat 0).toBitVec) - (48#8))) (at_tmp 27 _) (conv_U64 Hfaa.underlying5 Hfaa.underlying30 ((((a0.getD ((x8 : Int)).toNat 0).toBitVec) - (48#8)).toNat : Int)) rfl) (sS (sT1 rfl) sB0 sF0) ?_
                  refine AL_cons (LR_bin (at_tmp 23 _) (at_tmp 28 _) (add_U64 ((10#64) * x9) (BitVec.ofInt 64 ((((a0.getD ((x8 : Int)).toNat 0).toBitVec) - (48#8)).toNat : Int))) rfl) (sS (sA (sT1 rfl) (sT1 rfl)) sB0 sF0) ?_
                  refine AL_cons (LR_assign (at_tmp 29 _) rfl) (sS (sT1 rfl) sB0 sF0) ?_
                  refine AL_nil ?_
                  exact thenN (cutLeaf (v := ((10#64) * x9) + (BitVec.ofInt 64 ((((a0.getD ((x8 : Int)).toNat 0).toBitVec) - (48#8)).toNat : Int))) hr (weak0 ((sT rfl (sT rfl (sT rfl (sT rfl (sT rfl (sT rfl sT0))))))) sub_nil))
                · rintro x16 hr
                  show AW Hfaa.prog _ _ _ ⟨[(0, .inl (is (Sv a0))), (3, .inl (big x2)), (4, .inl (is (I64 x8))), (5, .inl (is (U64 x16))), (6, .inl (is (U64 x10))), (7, .inl (is (I64 x11)))], []⟩
                  have hr : some out10 = F138_8 N a0 x2 x8 x10 x11 x16 := hr
                  refine AW_cut (σ := BitVec 64) (fun v => ⟨[(0, .inl (is (Sv a0))), (3, .inl (big x2)), (4, .inl (is (I64 x8))), (5, .inl (is (U64 x16))), (6, .inl (is (U64 v))), (7, .inl (is (I64 x11)))], []⟩) (fun v => some out10 = F138_9 N a0 x2 x8 x11 x16 v) ?_ ?_
                  · skip
                    refine AW_region ?_
                    refine AL_cons (LR_move (at_tmp 6 _) rfl) (sS (sT1 rfl) sB0 sF0) ?_
                    refine AL_cons (LR_bin (at_tmp 30 _) (at_c (v' := U64 (10#64)) rfl) (mul_U64 x10 (10#64)) rfl) (sS (sA (sT1 rfl) sT0) sB0 sF0) ?_
                    refine AL_cons (LR_assign (at_tmp 31 _) rfl) (sS (sT1 rfl) sB0 sF0) ?_
                    refine AL_nil ?_
                    exact thenN (cutLeaf (v := x10 * (10#64)) hr (weak0 ((sT rfl (sT rfl (sT rfl (sT rfl (sT rfl (sT rfl sT0))))))) sub_nil))
                  · rintro x17 hr
                    show AW Hfaa.prog _ _ _ ⟨[(0, .inl (is (Sv a0))), (3, .inl (big x2)), (4, .inl (is (I64 x8))), (5, .inl (is (U64 x16))), (6, .inl (is (U64 x17))), (7, .inl (is (I64 x11)))], []⟩
                    have hr : some out10 = F138_9 N a0 x2 x8 x11 x16 x17 := hr
                    refine AW_region ?_
                    refine AL_cons (LR_move (at_tmp 4 _) rfl) (sS (sT1 rfl) sB0 sF0) ?_
                    refine AL_cons (LR_bin (at_tmp 32 _) (at_c (v' := I64 1) rfl) (add_I64 x8 1) rfl) (sS (sA (sT1 rfl) sT0) sB0 sF0) ?_
                    refine AL_cons (LR_assign (at_tmp 33 _) rfl) (sS (sT1 rfl) sB0 sF0) ?_
                    refine AL_nil ?_
                    refine blN ?_
                    exact thenN (cutLeaf (v := (w64 (x8 + 1), x16, x17)) hr (weak0 ((sT rfl (sT rfl (sT rfl (sT rfl (sT rfl (sT rfl sT0))))))) sub_nil))
              · rintro ⟨x13, x14, x15⟩ hr
                show AW Hfaa.prog _ _ _ ⟨[(0, .inl (is (Sv a0))), (3, .inl (big x2)), (4, .inl (is (I64 x13))), (5, .inl (is (U64 x14))), (6, .inl (is (U64 x15))), (7, .inl (is (I64 x11)))], []⟩
                have hr : some out10 = F138_7 N a0 x2 x11 x13 x14 x15 := hr
                refine AW_region ?_
                refine AL_cons (LR_move (at_tmp 7 _) rfl) (sS (sT1 rfl) sB0 sF0) ?_
                refine AL_cons (LR_bin (at_tmp 20 _) (at_c (v' := I64 1) rfl) (add_I64 x11 1) rfl) (sS (sA (sT1 rfl) sT0) sB0 sF0) ?_
                refine AL_cons (LR_assign (at_tmp 21 _) rfl) (sS (sT1 rfl) sB0 sF0) ?_
                refine AL_nil ?_
                exact thenN (loopNext (x' := (x13, x14, x15, w64 (x11 + 1))) hr (weak0 ((sT rfl (sT rfl (sT rfl (sT rfl (sT rfl (sT rfl sT0))))))) sub_nil))
            · have hr := hr.trans (cond_f h)
              clear h
              refine AW_exit ?_
              refine thenX ?_
              obtain ⟨r', hro, hr⟩ := map_inr hr
              refine thenX (loopOut hro (fun he => ?_))
              rw [he] at hr
              refine blH ?_
              exact thenN (cutLeaf (v := (x8, x9, x10)) hr (weak0 ((sT rfl (sT rfl (sT rfl (sT rfl (sT rfl sT0)))))) sub_nil))
        · rintro ⟨x5, x6, x7⟩ hr
          show AW Hfaa.prog _ _ _ ⟨[(0, .inl (is (Sv a0))), (3, .inl (big x2)), (4, .inl (is (I64 x5))), (5, .inl (is (U64 x6))), (6, .inl (is (U64 x7)))], []⟩
          have hr : some out8 = F138_4 N a0 x2 x5 x6 x7 := hr
          refine AW_region ?_
          refine AL_cons (LR_move (at_tmp 3 _) rfl) (sS (sT1 rfl) sB0 sF0) ?_
          refine AL_cons (LR_move (at_tmp 6 _) rfl) (sS (sT1 rfl) sB0 sF0) ?_
          refine AL_cons (LR_call Hfaa.func20 rfl rfl (B20 x7) (all_cons (at_tmp 35 _) all_nil) rfl) (sS (sA (sT1 rfl) sT0) sB0 sF0) ?_
          obtain ⟨hg63, hr⟩ := guard_some hr
          refine AL_cons (LR_call Hfaa.func22 rfl rfl (B22 x2 x7.toNat hg63) (all_cons (at_tmp 34 _) (all_cons (at_tmp 36 _) all_nil)) rfl) (sS (sA (sT1 rfl) (sA (sT1 rfl) sT0)) sB0 sF0) ?_
          refine AL_cons (LR_move (at_tmp 5 _) rfl) (sS (sT1 rfl) sB0 sF0) ?_
          refine AL_cons (LR_call Hfaa.func20 rfl rfl (B20 x6) (all_cons (at_tmp 38 _) all_nil) rfl) (sS (sA (sT1 rfl) sT0) sB0 sF0) ?_
          obtain ⟨hg64, hr⟩ := guard_some hr
          refine AL_cons (LR_call Hfaa.func253 rfl rfl (B253 (x2 * x7.toNat) x6.toNat hg64) (all_cons (at_tmp 37 _) (all_cons (at_tmp 39 _) all_nil)) rfl) (sS (sA (sT1 rfl) (sA (sT1 rfl) sT0)) sB0 sF0) ?_
          refine AL_cons (LR_assign (at_tmp 40 _) rfl) (sS (sT1 rfl) sB0 sF0) ?_
          refine AL_nil ?_
          refine blN ?_
          exact thenN (loopNext (x' := ((x2 * x7.toNat) + x6.toNat, x5)) hr (weak0 ((sT rfl (sT rfl (sT rfl sT0)))) sub_nil))
      · have hr := hr.trans (cond_f h)
        clear h
        refine AW_exit ?_
        refine thenX ?_
        obtain ⟨r', hro, hr⟩ := map_inr hr
        refine thenX (loopOut hro (fun he => ?_))
        rw [he] at hr
        refine blH ?_
        exact thenN (cutLeaf (v := x2) hr (weak0 ((sT rfl sT0)) sub_nil))
  · rintro x1 hr
    show AW Hfaa.prog _ _ _ ⟨[(3, .inl (big x1))], []⟩
    have hr : some r = F138_1 N x1 := hr
    refine AW_seq1 ?_
    refine AW_region ?_
    refine AL_cons (LR_move (at_tmp 3 _) rfl) (sS (sT1 rfl) sB0 sF0) ?_
    refine AL_cons (LR_assign (at_tmp 41 _) rfl) (sS (sT1 rfl) sB0 sF0) ?_
    refine AL_nil ?_
    refine thenN ?_
    refine AW_ret ?_
    obtain rfl := Option.some.inj hr
    exact res1 rfl (rvT rfl)
/-- exact.pow10 -/
def F139 (N : Nat) (a0 : Int) : Option (Nat) := bif lim (5 ^ (BitVec.ofInt 16 a0).toNat) then some ((5 ^ (BitVec.ofInt 16 a0).toNat) * 2 ^ (BitVec.ofInt 16 a0).toNat) else none
theorem C139 (N : Nat) (a0 : Int) (r : Nat) (hr : some r = F139 N a0) : Aw.Fn Hfaa.prog 139 [is (I64 a0)] (big r) := by
  refine fn_intro Hfaa.func139 rfl rfl rfl ?_
  intro bn0 w0 H0
  refine AW_seq1 ?_
  refine AW_region ?_
  refine AL_cons (LR_assign at_nil rfl) (sS sT0 sB0 sF0) ?_
  refine AL_nil ?_
  refine thenN ?_
  refine AW_seq1 ?_
  refine AW_region ?_
  refine AL_cons (LR_move (at_tmp 0 _) rfl) (sS (sT1 rfl) sB0 sF0) ?_
  refine AL_cons (LR_conv (vx := I64 a0) (at_tmp 3 _) (conv_U16 Hfaa.underlying3 Hfaa.underlying71 a0) rfl) (sS (sT1 rfl) sB0 sF0) ?_
  refine AL_cons (LR_call Hfaa.func55 rfl rfl (B55 (BitVec.ofInt 16 a0)) (all_cons (at_tmp 4 _) all_nil) rfl) (sS (sA (sT1 rfl) sT0) sB0 sF0) ?_
  refine AL_cons (LR_move (at_tmp 0 _) rfl) (sS (sT1 rfl) sB0 sF0) ?_
  refine AL_cons (LR_conv (vx := I64 a0) (at_tmp 6 _) (conv_U16 Hfaa.underlying3 Hfaa.underlying71 a0) rfl) (sS (sT1 rfl) sB0 sF0) ?_
  obtain ⟨hg2, hr⟩ := guard_some hr
  refine AL_cons (LR_call Hfaa.func36 rfl rfl (B36 (5 ^ (BitVec.ofInt 16 a0).toNat) (BitVec.ofInt 16 a0) hg2) (all_cons (at_tmp 5 _) (all_cons (at_tmp 7 _) all_nil)) rfl) (sS (sA (sT1 rfl) (sA (sT1 rfl) sT0)) sB0 sF0) ?_
  refine AL_cons (LR_assign (at_tmp 8 _) rfl) (sS (sT1 rfl) sB0 sF0) ?_
  refine AL_nil ?_
  refine thenN ?_
  refine AW_ret ?_
  obtain rfl := Option.some.inj hr
  exact res1 rfl (rvT rfl)
/-- exact.OfDec -/
def F79_3 (N : Nat) (a0_0 : Bool) (a0_1 : List UInt8) (a0_2 : Int) (x2 : Nat) (x3 : Bool) : Option (Bool × Nat × Nat) := bif x3 then (F139 N (w64 (0 - (w64 a0_2)))).bind fun y12 => some (a0_0, x2, y12) else (F139 N (w64 a0_2)).bind fun y15 => bif lim x2 && lim y15 then lt (F129 a0_0 (x2 * y15)) fun y16 => some (y16.1, y16.2.1, y16.2.2) else none
def F79_2 (N : Nat) (a0_0 : Bool) (a0_1 : List UInt8) (a0_2 : Int) (x2 : Nat) : Option (Bool × Nat × Nat) := F79_3 N a0_0 a0_1 a0_2 x2 (decide (a0_2 < 0))
def F79_1 (N : Nat) (a0_0 : Bool) (a0_1 : List UInt8) (a0_2 : Int) (x1 : Bool) : Option (Bool × Nat × Nat) := bif x1 then lt (F129 false 0) fun y7 => some (y7.1, y7.2.1, y7.2.2) else (F138 N a0_1).bind fun y17 => F79_2 N a0_0 a0_1 a0_2 y17
def F79 (N : Nat) (a0_0 : Bool) (a0_1 : List UInt8) (a0_2 : Int) : Option (Bool × Nat × Nat) := (F137 N a0_0 a0_1 a0_2).bind fun y18 => F79_1 N a0_0 a0_1 a0_2 (!y18)
theorem C79 (N : Nat) (a0_0 : Bool) (a0_1 : List UInt8) (a0_2 : Int) (r : Bool × Nat × Nat) (hr : some r = F79 N a0_0 a0_1 a0_2) : Aw.Fn Hfaa.prog 79 [agg [is (Bl a0_0), is (Sv a0_1), is (I16 a0_2)]] (agg [is (Bl r.1), big r.2.1, big r.2.2]) := by
  refine fn_intro Hfaa.func79 rfl rfl rfl ?_
  intro bn0 w0 H0
  refine AW_seq1 ?_
  refine AW_region ?_
  refine AL_cons (LR_box (at_tmp 0 _) (cells_agg _) rfl) (sS (sT1 rfl) sB0 (sF1 rfl)) ?_
  refine AL_cons (zl119 rfl) (sS sT0 sB0 (sF1 rfl)) ?_
  refine AL_nil ?_
  refine thenN ?_
  refine AW_seq1 ?_
  refine AW_cut (σ := Bool) (fun v => ⟨[(1, .inr (.inl (1, 0))), (2, .inr (.inl (2, 0))), (6, .inl (is (Bl v)))], [(1, pb 76 [is (Bl a0_0), is (Sv a0_1), is (I16 a0_2)]), (2, pb 119 [is (Bl false), big 0, big 0])]⟩) (fun v => some r = F79_1 N a0_0 a0_1 a0_2 v) ?_ ?_
  · skip
    refine AW_region ?_
    refine AL_cons (LR_loads (at_tmp 1 _) ag76 sz76 rfl rfl rfl) (sS (sT1 rfl) (sB1 rfl) sF0) ?_
    obtain ⟨y18, hy18, hr⟩ := bind_some hr
    refine AL_cons (LR_call Hfaa.func137 rfl rfl (C137 N a0_0 a0_1 a0_2 y18 hy18) (all_cons (at_tmp 4 _) all_nil) rfl) (sS (sA (sT1 rfl) sT0) sB0 sF0) ?_
    refine AL_cons (LR_un (at_tmp 5 _) (not_Bl y18) rfl) (sS (sT1 rfl) sB0 sF0) ?_
    refine AL_nil ?_
    exact thenN (cutLeaf (v := !y18) hr (weak0 ((sT rfl (sT rfl (sT rfl sT0)))) (sub_keep (sub_keep sub_nil))))
  · rintro x1 hr
    show AW Hfaa.prog _ _ _ ⟨[(1, .inr (.inl (1, 0))), (2, .inr (.inl (2, 0))), (6, .inl (is (Bl x1)))], [(1, pb 76 [is (Bl a0_0), is (Sv a0_1), is (I16 a0_2)]), (2, pb 119 [is (Bl false), big 0, big 0])]⟩
    have hr : some r = F79_1 N a0_0 a0_1 a0_2 x1 := hr
    refine AW_condT (b := x1) rfl (fun h => ?_) (fun h => ?_)
    · have hr := hr.trans (cond_t h)
      clear h
      refine AW_seq1 ?_
      refine AW_region ?_
      obtain ⟨y7, hy7, hr⟩ := lt_some hr
      refine AL_cons (LR_call Hfaa.func129 rfl rfl (C129 false 0 y7 hy7) (all_cons (at_c (v' := Bl false) rfl) (all_cons at_nil all_nil)) rfl) (sS (sA sT0 (sA sT0 sT0)) sB0 sF0) ?_
      refine AL_cons (LR_store (at_tmp 2 _) (at_tmp 7 _) (cells_agg _) (onC (one_is rfl) (onC (one_big _) (onC (one_big _) onN))) sz119 rfl rfl) (sS (sA (sT1 rfl) (sT1 rfl)) (sB1 rfl) sF0) ?_
      refine AL_nil ?_
      refine thenN ?_
      refine AW_ret ?_
      refine thenR ?_
      obtain rfl := Option.some.inj hr
      exact res1 rfl (rvC rfl rfl ag119 sz119 rfl)
    · have hr := hr.trans (cond_f h)
      clear h
      refine AW_skip ?_
      refine thenN ?_
      refine AW_cut (σ := Nat) (fun v => ⟨[(1, .inr (.inl (1, 0))), (2, .inr (.inl (2, 0))), (3, .inl (big v))], [(1, pb 76 [is (Bl a0_0), is (Sv a0_1), is (I16 a0_2)]), (2, pb 119 [is (Bl false), big 0, big 0])]⟩) (fun v => some r = F79_2 N a0_0 a0_1 a0_2 v) ?_ ?_
      · skip
        refine AW_region ?_
        refine AL_cons (LR_fieldAddr (off := 0) (o := 1) (at_tmp 1 _) (fun b w => fa76_1 b 0 w) rfl) (sS (sT1 rfl) sB0 sF0) ?_
        refine AL_cons (LR_load (at_tmp 8 _) na9 rfl rfl) (sS (sT1 rfl) (sB1 rfl) sF0) ?_
        obtain ⟨y17, hy17, hr⟩ := bind_some hr
        refine AL_cons (LR_call Hfaa.func138 rfl rfl (C138 N a0_1 y17 hy17) (all_cons (at_tmp 9 _) all_nil) rfl) (sS (sA (sT1 rfl) sT0) sB0 sF0) ?_
        refine AL_cons (LR_assign (at_tmp 10 _) rfl) (sS (sT1 rfl) sB0 sF0) ?_
        refine AL_nil ?_
        exact thenN (cutLeaf (v := y17) hr (weak0 ((sT rfl (sT rfl (sT rfl sT0)))) (sub_keep (sub_keep sub_nil))))
      · rintro x2 hr
        show AW Hfaa.prog _ _ _ ⟨[(1, .inr (.inl (1, 0))), (2, .inr (.inl (2, 0))), (3, .inl (big x2))], [(1, pb 76 [is (Bl a0_0), is (Sv a0_1), is (I16 a0_2)]), (2, pb 119 [is (Bl false), big 0, big 0])]⟩
        have hr : some r = F79_2 N a0_0 a0_1 a0_2 x2 := hr
        refine AW_seq1 ?_
        refine AW_cut (σ := Bool) (fun v => ⟨[(1, .inr (.inl (1, 0))), (2, .inr (.inl (2, 0))), (3, .inl (big x2)), (13, .inl (is (Bl v)))], [(1, pb 76 [is (Bl a0_0), is (Sv a0_1), is (I16 a0_2)]), (2, pb 119 [is (Bl false), big 0, big 0])]⟩) (fun v => some r = F79_3 N a0_0 a0_1 a0_2 x2 v) ?_ ?_
        · skip
          refine AW_region ?_
          refine AL_cons (LR_fieldAddr (off := 0) (o := 2) (at_tmp 1 _) (fun b w => fa76_2 b 0 w) rfl) (sS (sT1 rfl) sB0 sF0) ?_
          refine AL_cons (LR_load (at_tmp 11 _) na44 rfl rfl) (sS (sT1 rfl) (sB1 rfl) sF0) ?_
          refine AL_cons (LR_bin (at_tmp 12 _) (at_c (v' := I16 0) rfl) (lss_I16 a0_2 0) rfl) (sS (sA (sT1 rfl) sT0) sB0 sF0) ?_
          refine AL_nil ?_
          exact thenN (cutLeaf (v := decide (a0_2 < 0)) hr (weak0 ((sT rfl (sT rfl (sT rfl (sT rfl sT0))))) (sub_keep (sub_keep sub_nil))))
        · rintro x3 hr
          show AW Hfaa.prog _ _ _ ⟨[(1, .inr (.inl (1, 0))), (2, .inr (.inl (2, 0))), (3, .inl (big x2)), (13, .inl (is (Bl x3)))], [(1, pb 76 [is (Bl a0_0), is (Sv a0_1), is (I16 a0_2)]), (2, pb 119 [is (Bl false), big 0, big 0])]⟩
          have hr : some r = F79_3 N a0_0 a0_1 a0_2 x2 x3 := hr
          refine AW_condT (b := x3) rfl (fun h => ?_) (fun h => ?_)
          · have hr := hr.trans (cond_t h)
            clear h
            refine AW_seq1 ?_
            obtain ⟨y12, hy12, hr⟩ := bind_some hr
            refine AW_draw mixed
              (lrC (LR_fieldAddr (off := 0) (o := 0) (at_tmp 1 _) (fun b w => fa76_0 b 0 w) rfl)
              (lrC (LR_load (at_tmp 14 _) na4 rfl rfl)
              (lrC (LR_move (at_tmp 3 _) rfl)
              (lrC (LR_fieldAddr (off := 0) (o := 2) (at_tmp 1 _) (fun b w => fa76_2 b 0 w) rfl)
              (lrC (LR_load (at_tmp 17 _) na44 rfl rfl)
              (lrC (LR_conv (vx := I16 a0_2) (at_tmp 18 _) (conv_I64 Hfaa.underlying44 Hfaa.underlying3 a0_2) rfl)
              (lrC (LR_un (at_tmp 19 _) (neg_I64 (w64 a0_2)) rfl)
              (lrC (LR_call Hfaa.func139 rfl rfl (C139 N (w64 (0 - (w64 a0_2))) y12 hy12) (all_cons (at_tmp 20 _) all_nil) rfl)
              (lrC (bl119 (parts_cons (i := 0) (off := 0) (at_tmp 15 _) (cells_one (one_is rfl)) rfl rfl (parts_cons (i := 1) (off := 1) (at_tmp 16 _) (cells_one (one_big _)) rfl rfl (parts_cons (i := 2) (off := 2) (at_tmp 21 _) (cells_one (one_big _)) rfl rfl parts_nil))) rfl rfl)
              (lrC (LR_store (at_tmp 2 _) (at_tmp 22 _) (cells_agg _) (onC (one_is rfl) (onC (one_big _) (onC (one_big _) onN))) sz119 rfl rfl)
              lrN))))))))))
              (by kernel_rfl)
              (saC (sS (sT1 rfl) sB0 sF0) (saC (sS (sT1 rfl) (sB1 rfl) sF0) (saC (sS (sT1 rfl) sB0 sF0) (saC (sS (sT1 rfl) sB0 sF0) (saC (sS (sT1 rfl) (sB1 rfl) sF0) (saC (sS (sT1 rfl) sB0 sF0) (saC (sS (sT1 rfl) sB0 sF0) (saC (sS (sA (sT1 rfl) sT0) sB0 sF0) (saC (sS (sA (sT1 rfl) (sA (sT1 rfl) (sA (sT1 rfl) sT0))) sB0 sF0) (saC (sS (sA (sT1 rfl) (sT1 rfl)) (sB1 rfl) sF0) saN)))))))))) ?_
            refine thenN ?_
            refine AW_ret ?_
            refine thenR ?_
            obtain rfl := Option.some.inj hr
            exact res1 rfl (rvC rfl rfl ag119 sz119 rfl)
          · have hr := hr.trans (cond_f h)
            clear h
            refine AW_skip ?_
            refine thenN ?_
            refine AW_seq1 ?_
            obtain ⟨y15, hy15, hr⟩ := bind_some hr
            obtain ⟨hg2, hr⟩ := guard_some hr
            obtain ⟨y16, hy16, hr⟩ := lt_some hr
            refine AW_draw mixed
              (lrC (LR_fieldAddr (off := 0) (o := 0) (at_tmp 1 _) (fun b w => fa76_0 b 0 w) rfl)
              (lrC (LR_load (at_tmp 23 _) na4 rfl rfl)
              (lrC (LR_move (at_tmp 3 _) rfl)
              (lrC (LR_fieldAddr (off := 0) (o := 2) (at_tmp 1 _) (fun b w => fa76_2 b 0 w) rfl)
              (lrC (LR_load (at_tmp 26 _) na44 rfl rfl)
              (lrC (LR_conv (vx := I16 a0_2) (at_tmp 27 _) (conv_I64 Hfaa.underlying44 Hfaa.underlying3 a0_2) rfl)
              (lrC (LR_call Hfaa.func139 rfl rfl (C139 N (w64 a0_2) y15 hy15) (all_cons (at_tmp 28 _) all_nil) rfl)
              (lrC (LR_call Hfaa.func22 rfl rfl (B22 x2 y15 hg2) (all_cons (at_tmp 25 _) (all_cons (at_tmp 29 _) all_nil)) rfl)
              (lrC (LR_call Hfaa.func129 rfl rfl (C129 a0_0 (x2 * y15) y16 hy16) (all_cons (at_tmp 24 _) (all_cons (at_tmp 30 _) all_nil)) rfl)
              (lrC (LR_store (at_tmp 2 _) (at_tmp 31 _) (cells_agg _) (onC (one_is rfl) (onC (one_big _) (onC (one_big _) onN))) sz119 rfl rfl)
              lrN))))))))))
              (by kernel_rfl)
              (saC (sS (sT1 rfl) sB0 sF0) (saC (sS (sT1 rfl) (sB1 rfl) sF0) (saC (sS (sT1 rfl) sB0 sF0) (saC (sS (sT1 rfl) sB0 sF0) (saC (sS (sT1 rfl) (sB1 rfl) sF0) (saC (sS (sT1 rfl) sB0 sF0) (saC (sS (sA (sT1 rfl) sT0) sB0 sF0) (saC (sS (sA (sT1 rfl) (sA (sT1 rfl) sT0)) sB0 sF0) (saC (sS (sA (sT1 rfl) (sA (sT1 rfl) sT0)) sB0 sF0) (saC (sS (sA (sT1 rfl) (sT1 rfl)) (sB1 rfl) sF0) saN)))))))))) ?_
            refine thenN ?_
            refine AW_ret ?_
            obtain rfl := Option.some.inj hr
            exact res1 rfl (rvC rfl rfl ag119 sz119 rfl)
/-- exact.RoundDecFlags -/
def F135_1 (N : Nat) (a0_0 : BitVec 8) (a0_1 : BitVec 8) (a1 : BitVec 8) (a2_0 : Bool) (a2_1 : List UInt8) (a2_2 : Int) (x1 : Bool) : Option (BitVec 64 × BitVec 8) := bif x1 then some (0#64, 0#8) else (F79 N a2_0 a2_1 a2_2).bind fun y6 => (F136 N a0_0 a0_1 a1 y6.1 y6.2.1 y6.2.2).bind fun y7 => some (y7.1, y7.2)
def F135 (N : Nat) (a0_0 : BitVec 8) (a0_1 : BitVec 8) (a1 : BitVec 8) (a2_0 : Bool) (a2_1 : List UInt8) (a2_2 : Int) : Option (BitVec 64 × BitVec 8) := (F137 N a2_0 a2_1 a2_2).bind fun y8 => F135_1 N a0_0 a0_1 a1 a2_0 a2_1 a2_2 (!y8)
theorem C135 (N : Nat) (a0_0 : BitVec 8) (a0_1 : BitVec 8) (a1 : BitVec 8) (a2_0 : Bool) (a2_1 : List UInt8) (a2_2 : Int) (r : BitVec 64 × BitVec 8) (hr : some r = F135 N a0_0 a0_1 a1 a2_0 a2_1 a2_2) : Aw.Fn Hfaa.prog 135 [agg [is (U8 a0_0), is (U8 a0_1)], is (U8 a1), agg [is (Bl a2_0), is (Sv a2_1), is (I16 a2_2)]] (tup [is (U64 r.1), is (U8 r.2)]) := by
  refine fn_intro Hfaa.func135 rfl rfl rfl ?_
  intro bn0 w0 H0
  refine AW_seq1 ?_
  refine AW_region ?_
  refine AL_cons (LR_box (at_tmp 0 _) (cells_agg _) rfl) (sS (sT1 rfl) sB0 (sF1 rfl)) ?_
  refine AL_cons (LR_box (at_tmp 2 _) (cells_agg _) rfl) (sS (sT1 rfl) sB0 (sF1 rfl)) ?_
  refine AL_cons (LR_assign (at_c (v' := U64 (0#64)) rfl) rfl) (sS sT0 sB0 sF0) ?_
  refine AL_cons (LR_assign (at_c (v' := U8 (0#8)) rfl) rfl) (sS sT0 sB0 sF0) ?_
  refine AL_nil ?_
  refine thenN ?_
  refine AW_seq1 ?_
  refine AW_cut (σ := Bool) (fun v => ⟨[(1, .inl (is (U8 a1))), (3, .inr (.inl (3, 0))), (5, .inr (.inl (5, 0))), (10, .inl (is (Bl v)))], [(3, pb 23 [is (U8 a0_0), is (U8 a0_1)]), (5, pb 76 [is (Bl a2_0), is (Sv a2_1), is (I16 a2_2)])]⟩) (fun v => some r = F135_1 N a0_0 a0_1 a1 a2_0 a2_1 a2_2 v) ?_ ?_
  · skip
    refine AW_region ?_
    refine AL_cons (LR_loads (at_tmp 5 _) ag76 sz76 rfl rfl rfl) (sS (sT1 rfl) (sB1 rfl) sF0) ?_
    obtain ⟨y8, hy8, hr⟩ := bind_some hr
    refine AL_cons (LR_call Hfaa.func137 rfl rfl (C137 N a2_0 a2_1 a2_2 y8 hy8) (all_cons (at_tmp 8 _) all_nil) rfl) (sS (sA (sT1 rfl) sT0) sB0 sF0) ?_
    refine AL_cons (LR_un (at_tmp 9 _) (not_Bl y8) rfl) (sS (sT1 rfl) sB0 sF0) ?_
    refine AL_nil ?_
    exact thenN (cutLeaf (v := !y8) hr (weak0 ((sT rfl (sT rfl (sT rfl (sT rfl sT0))))) (sub_keep (sub_keep sub_nil))))
  · rintro x1 hr
    show AW Hfaa.prog _ _ _ ⟨[(1, .inl (is (U8 a1))), (3, .inr (.inl (3, 0))), (5, .inr (.inl (5, 0))), (10, .inl (is (Bl x1)))], [(3, pb 23 [is (U8 a0_0), is (U8 a0_1)]), (5, pb 76 [is (Bl a2_0), is (Sv a2_1), is (I16 a2_2)])]⟩
    have hr : some r = F135_1 N a0_0 a0_1 a1 a2_0 a2_1 a2_2 x1 := hr
    refine AW_condT (b := x1) rfl (fun h => ?_) (fun h => ?_)
    · have hr := hr.trans (cond_t h)
      clear h
      refine AW_seq1 ?_
      refine AW_region ?_
      refine AL_cons (LR_assign (at_c (v' := U64 (0#64)) rfl) rfl) (sS sT0 sB0 sF0) ?_
      refine AL_cons (LR_assign (at_c (v' := U8 (0#8)) rfl) rfl) (sS sT0 sB0 sF0) ?_
      refine AL_nil ?_
      refine thenN ?_
      refine AW_ret ?_
      refine thenR ?_
      obtain rfl := Option.some.inj hr
      exact res2 rfl (rvT rfl) (rvT rfl)
    · have hr := hr.trans (cond_f h)
      clear h
      refine AW_skip ?_
      refine thenN ?_
      refine AW_seq1 ?_
      obtain ⟨y6, hy6, hr⟩ := bind_some hr
      obtain ⟨y7, hy7, hr⟩ := bind_some hr
      refine AW_draw mixed
        (lrC (LR_loads (at_tmp 3 _) ag23 sz23 rfl rfl rfl)
        (lrC (LR_move (at_tmp 1 _) rfl)
        (lrC (LR_loads (at_tmp 5 _) ag76 sz76 rfl rfl rfl)
        (lrC (LR_call Hfaa.func79 rfl rfl (C79 N a2_0 a2_1 a2_2 y6 hy6) (all_cons (at_tmp 13 _) all_nil) rfl)
        (lrC (LR_call Hfaa.func136 rfl rfl (C136 N a0_0 a0_1 a1 y6.1 y6.2.1 y6.2.2 y7 hy7) (all_cons (at_tmp 11 _) (all_cons (at_tmp 12 _) (all_cons (at_tmp 14 _) all_nil))) rfl)
        (lrC (LR_extract (at_tmp 15 _) rfl rfl)
        (lrC (LR_extract (at_tmp 15 _) rfl rfl)
        (lrC (LR_assign (at_tmp 16 _) rfl)
        (lrC (LR_assign (at_tmp 17 _) rfl)
        lrN)))))))))
        (by kernel_rfl)
        (saC (sS (sT1 rfl) (sB1 rfl) sF0) (saC (sS (sT1 rfl) sB0 sF0) (saC (sS (sT1 rfl) (sB1 rfl) sF0) (saC (sS (sA (sT1 rfl) sT0) sB0 sF0) (saC (sS (sA (sT1 rfl) (sA (sT1 rfl) (sA (sT1 rfl) sT0))) sB0 sF0) (saC (sS (sT1 rfl) sB0 sF0) (saC (sS (sT1 rfl) sB0 sF0) (saC (sS (sT1 rfl) sB0 sF0) (saC (sS (sT1 rfl) sB0 sF0) saN))))))))) ?_
      refine thenN ?_
      refine AW_ret ?_
      obtain rfl := Option.some.inj hr
      exact res2 rfl (rvT rfl) (rvT rfl)
/-- exact.RoundDec -/
def F77_1 (N : Nat) (x1 : BitVec 64) : Option (BitVec 64) := some x1
def F77 (N : Nat) (a0_0 : BitVec 8) (a0_1 : BitVec 8) (a1 : BitVec 8) (a2_0 : Bool) (a2_1 : List UInt8) (a2_2 : Int) : Option (BitVec 64) := (F135 N a0_0 a0_1 a1 a2_0 a2_1 a2_2).bind fun y2 => F77_1 N y2.1
theorem C77 (N : Nat) (a0_0 : BitVec 8) (a0_1 : BitVec 8) (a1 : BitVec 8) (a2_0 : Bool) (a2_1 : List UInt8) (a2_2 : Int) (r : BitVec 64) (hr : some r = F77 N a0_0 a0_1 a1 a2_0 a2_1 a2_2) : Aw.Fn Hfaa.prog 77 [agg [is (U8 a0_0), is (U8 a0_1)], is (U8 a1), agg [is (Bl a2_0), is (Sv a2_1), is (I16 a2_2)]] (is (U64 r)) := by
  refine fn_intro Hfaa.func77 rfl rfl rfl ?_
  intro bn0 w0 H0
  refine AW_seq1 ?_
  refine AW_region ?_
  refine AL_cons (LR_box (at_tmp 0 _) (cells_agg _) rfl) (sS (sT1 rfl) sB0 (sF1 rfl)) ?_
  refine AL_cons (LR_box (at_tmp 2 _) (cells_agg _) rfl) (sS (sT1 rfl) sB0 (sF1 rfl)) ?_
  refine AL_cons (LR_assign (at_c (v' := U64 (0#64)) rfl) rfl) (sS sT0 sB0 sF0) ?_
  refine AL_nil ?_
  refine thenN ?_
  refine AW_cut (σ := BitVec 64) (fun v => ⟨[(7, .inl (is (U64 v)))], []⟩) (fun v => some r = F77_1 N v) ?_ ?_
  · skip
    refine AW_region ?_
    refine AL_cons (LR_loads (at_tmp 3 _) ag23 sz23 rfl rfl rfl) (sS (sT1 rfl) (sB1 rfl) sF0) ?_
    refine AL_cons (LR_move (at_tmp 1 _) rfl) (sS (sT1 rfl) sB0 sF0) ?_
    refine AL_cons (LR_loads (at_tmp 5 _) ag76 sz76 rfl rfl rfl) (sS (sT1 rfl) (sB1 rfl) sF0) ?_
    obtain ⟨y2, hy2, hr⟩ := bind_some hr
    refine AL_cons (LR_call Hfaa.func135 rfl rfl (C135 N a0_0 a0_1 a1 a2_0 a2_1 a2_2 y2 hy2) (all_cons (at_tmp 10 _) (all_cons (at_tmp 11 _) (all_cons (at_tmp 12 _) all_nil))) rfl) (sS (sA (sT1 rfl) (sA (sT1 rfl) (sA (sT1 rfl) sT0))) sB0 sF0) ?_
    refine AL_cons (LR_move (at_tmp 13 _) rfl) (sS (sT1 rfl) sB0 sF0) ?_
    refine AL_cons (LR_extract (at_tmp 9 _) rfl rfl) (sS (sT1 rfl) sB0 sF0) ?_
    refine AL_cons (LR_extract (at_tmp 9 _) rfl rfl) (sS (sT1 rfl) sB0 sF0) ?_
    refine AL_cons (LR_assign (at_tmp 14 _) rfl) (sS (sT1 rfl) sB0 sF0) ?_
    refine AL_cons (LR_assign (at_tmp 15 _) rfl) (sS (sT1 rfl) sB0 sF0) ?_
    refine AL_nil ?_
    exact thenN (cutLeaf (v := y2.1) hr (weak0 ((sT rfl sT0)) (sub_drop (sub_drop sub_nil))))
  · rintro x1 hr
    show AW Hfaa.prog _ _ _ ⟨[(7, .inl (is (U64 x1)))], []⟩
    have hr : some r = F77_1 N x1 := hr
    refine AW_seq1 ?_
    refine AW_region ?_
    refine AL_cons (LR_move (at_tmp 7 _) rfl) (sS (sT1 rfl) sB0 sF0) ?_
    refine AL_cons (LR_assign (at_tmp 16 _) rfl) (sS (sT1 rfl) sB0 sF0) ?_
    refine AL_nil ?_
    refine thenN ?_
    refine AW_ret ?_
    obtain rfl := Option.some.inj hr
    exact res1 rfl (rvT rfl)
/-- calc/ex.read -/
def F225_6 (N : Nat) (b2_0 : Nat → BitVec 64) (b2_1 : NS (List UInt8)) (x11 : Bool) : Option ((Nat → BitVec 64) × NS (List UInt8)) := bif x11 then bif decide (b2_1.2.1 < 4294967296) then some ((b2_0, app b2_1 ([116, 111, 111, 32, 98, 105, 103] : List UInt8))) else none else some (b2_0, b2_1)
def F225_5 (N : Nat) (b2_0 : Nat → BitVec 64) (b2_1 : NS (List UInt8)) (x1 : BitVec 8) (x10 : Bool) : Option ((Nat → BitVec 64) × NS (List UInt8)) := bif x10 then bif decide (b2_1.2.1 < 4294967296) then some ((b2_0, app b2_1 ([119, 114, 111, 110, 103] : List UInt8))) else none else F225_6 N b2_0 b2_1 (x1 == (4#8))
def F225_4 (N : Nat) (a0_0 : BitVec 8) (a0_1 : BitVec 8) (b2_0 : Nat → BitVec 64) (b2_1 : NS (List UInt8)) (a3_1 : BitVec 8) (x1 : BitVec 8) (x9 : Bool) : Option ((Nat → BitVec 64) × NS (List UInt8)) := bif x9 then lt (F66 a0_0 a0_1) fun y4 => some ((upd b2_0 ((a3_1 &&& (7#8)).toNat) y4, b2_1)) else F225_5 N b2_0 b2_1 x1 (x1 == (3#8))
def F225_3 (N : Nat) (a0_0 : BitVec 8) (a0_1 : BitVec 8) (b2_0 : Nat → BitVec 64) (b2_1 : NS (List UInt8)) (a3_1 : BitVec 8) (x1 : BitVec 8) (x2 : Bool) (x3 : List UInt8) (x4 : Int) (x5 : Int) (x6 : Int) (x8 : Bool) : Option ((Nat → BitVec 64) × NS (List UInt8)) := bif x8 then lt (F67 a0_0 a0_1 x2) fun y3 => some ((upd b2_0 ((a3_1 &&& (7#8)).toNat) y3, b2_1)) else F225_4 N a0_0 a0_1 b2_0 b2_1 a3_1 x1 (x1 == (2#8))
def F225_2 (N : Nat) (a0_0 : BitVec 8) (a0_1 : BitVec 8) (a1 : BitVec 8) (b2_0 : Nat → BitVec 64) (b2_1 : NS (List UInt8)) (a3_1 : BitVec 8) (x1 : BitVec 8) (x2 : Bool) (x3 : List UInt8) (x4 : Int) (x5 : Int) (x6 : Int) (x7 : Bool) : Option ((Nat → BitVec 64) × NS (List UInt8)) := bif x7 then (F77 N a0_0 a0_1 a1 x2 x3 x4).bind fun y2 => some ((upd b2_0 ((a3_1 &&& (7#8)).toNat) y2, b2_1)) else F225_3 N a0_0 a0_1 b2_0 b2_1 a3_1 x1 x2 x3 x4 x5 x6 (x1 == (1#8))
def F225_1 (N : Nat) (a0_0 : BitVec 8) (a0_1 : BitVec 8) (a1 : BitVec 8) (b2_0 : Nat → BitVec 64) (b2_1 : NS (List UInt8)) (a3_1 : BitVec 8) (x1 : BitVec 8) (x2 : Bool) (x3 : List UInt8) (x4 : Int) (x5 : Int) (x6 : Int) : Option ((Nat → BitVec 64) × NS (List UInt8)) := F225_2 N a0_0 a0_1 a1 b2_0 b2_1 a3_1 x1 x2 x3 x4 x5 x6 (x1 == (0#8))
def F225 (N : Nat) (a0_0 : BitVec 8) (a0_1 : BitVec 8) (a1 : BitVec 8) (b2_0 : Nat → BitVec 64) (b2_1 : NS (List UInt8)) (a3_0 : BitVec 8) (a3_1 : BitVec 8) (a3_2 : BitVec 8) (a3_3 : BitVec 8) (a3_4 : BitVec 64) (a3_5 : List UInt8) : Option ((Nat → BitVec 64) × NS (List UInt8)) := (F291 N a3_5).bind fun y5 => F225_1 N a0_0 a0_1 a1 b2_0 b2_1 a3_1 y5.1 y5.2.1 y5.2.2.1 y5.2.2.2.1 y5.2.2.2.2.1 y5.2.2.2.2.2
theorem C225 (N : Nat) (a0_0 : BitVec 8) (a0_1 : BitVec 8) (a1 : BitVec 8) (b2_0 : Nat → BitVec 64) (b2_1 : NS (List UInt8)) (a3_0 : BitVec 8) (a3_1 : BitVec 8) (a3_2 : BitVec 8) (a3_3 : BitVec 8) (a3_4 : BitVec 64) (a3_5 : List UInt8) (r : (Nat → BitVec 64) × NS (List UInt8)) (hr : some r = F225 N a0_0 a0_1 a1 b2_0 b2_1 a3_0 a3_1 a3_2 a3_3 a3_4 a3_5) : FnB Hfaa.prog 225 [.inl (agg [is (U8 a0_0), is (U8 a0_1)]), .inl (is (U8 a1)), .inr (.inl (2, 0)), .inl (agg [is (U8 a3_0), is (U8 a3_1), is (U8 a3_2), is (U8 a3_3), is (U64 a3_4), is (Sv a3_5)])] [(2, gc 90 (ar U64 8 b2_0 ++ []) ([]) (k1 Sv) 1 b2_1)] (tup []) [(2, gc 90 (ar U64 8 r.1 ++ []) ([]) (k1 Sv) 1 r.2)] := by
  refine fnB_intro Hfaa.func225 rfl rfl rfl rfl rfl ⟨hf_gc _ _ _ _ _ _, trivial⟩ ?_
  intro bn0 w0 H0
  refine AW_seq1 ?_
  refine AW_region ?_
  refine AL_cons (LR_box (at_tmp 0 _) (cells_agg _) rfl) (sS (sT1 rfl) sB0 (sF1 rfl)) ?_
  refine AL_cons (LR_box (at_tmp 3 _) (cells_agg _) rfl) (sS (sT1 rfl) sB0 (sF1 rfl)) ?_
  refine AL_nil ?_
  refine thenN ?_
  refine AW_seq1 ?_
  refine AW_draw mixed
    (lrC (LR_move (at_tmp 2 _) rfl)
    (lrC (LR_fieldAddr (off := 0) (o := 1) (at_tmp 7 _) (fun b w => fa96_1 b 0 w) rfl)
    (lrC (LR_load (at_tmp 11 _) na5 rfl rfl)
    (lrC (LR_bin (at_tmp 12 _) (at_c (v' := U8 (7#8)) rfl) (and_U8 a3_1 (7#8)) rfl)
    (lrC (LR_nilCheck (at_tmp 10 _) rfl)
    (lrC (LR_fieldAddr (off := 0) (o := 0) (at_tmp 14 _) (fun b w => fa90_0 b 0 w) rfl)
    (lrC (LR_indexAddr (o := (a3_1 &&& (7#8)).toNat) Hfaa.underlying35 sz30 (at_tmp 15 _) (at_tmp 13 _) (natIx (and7 a3_1)) (by first | rfl | omega) rfl)
    (lrC (LR_assign (at_tmp 16 _) rfl)
    lrN))))))))
    (by kernel_rfl)
    (saC (sS (sT1 rfl) sB0 sF0) (saC (sS (sT1 rfl) sB0 sF0) (saC (sS (sT1 rfl) (sB1 rfl) sF0) (saC (sS (sA (sT1 rfl) sT0) sB0 sF0) (saC (sS (sT1 rfl) sB0 sF0) (saC (sS (sT1 rfl) sB0 sF0) (saC (sS (sA (sT1 rfl) (sT1 rfl)) sB0 sF0) (saC (sS (sT1 rfl) sB0 sF0) saN)))))))) ?_
  refine thenN ?_
  refine AW_cut (σ := BitVec 8 × Bool × List UInt8 × Int × Int × Int) (fun v => ⟨[(1, .inl (is (U8 a1))), (2, .inr (.inl (2, 0))), (4, .inr (.inl (4, 0))), (8, .inr (.inl (2, (a3_1 &&& (7#8)).toNat))), (9, .inr (.inl (9, 0)))], [(2, gc 90 (ar U64 8 b2_0 ++ []) ([]) (k1 Sv) 1 b2_1), (4, pb 23 [is (U8 a0_0), is (U8 a0_1)]), (9, pb 297 [is (U8 v.1), is (Bl v.2.1), is (Sv v.2.2.1), is (I16 v.2.2.2.1), is (I64 v.2.2.2.2.1), is (I32 v.2.2.2.2.2)])]⟩) (fun v => some r = F225_1 N a0_0 a0_1 a1 b2_0 b2_1 a3_1 v.1 v.2.1 v.2.2.1 v.2.2.2.1 v.2.2.2.2.1 v.2.2.2.2.2) ?_ ?_
  · skip
    refine AW_region ?_
    refine AL_cons (LR_fieldAddr (off := 0) (o := 5) (at_tmp 7 _) (fun b w => fa96_5 b 0 w) rfl) (sS (sT1 rfl) sB0 sF0) ?_
    refine AL_cons (LR_load (at_tmp 17 _) na9 rfl rfl) (sS (sT1 rfl) (sB1 rfl) sF0) ?_
    obtain ⟨y5, hy5, hr⟩ := bind_some hr
    refine AL_cons (LR_call Hfaa.func291 rfl rfl (C291 N a3_5 y5 hy5) (all_cons (at_tmp 18 _) all_nil) rfl) (sS (sA (sT1 rfl) sT0) sB0 sF0) ?_
    refine AL_cons (zl297 rfl) (sS sT0 sB0 (sF1 rfl)) ?_
    refine AL_cons (LR_store (at_tmp 9 _) (at_tmp 19 _) (cells_agg _) (onC (one_is rfl) (onC (one_is rfl) (onC (one_is rfl) (onC (one_is rfl) (onC (one_is rfl) (onC (one_is rfl) onN)))))) sz297 rfl rfl) (sS (sA (sT1 rfl) (sT1 rfl)) (sB1 rfl) sF0) ?_
    refine AL_nil ?_
    exact thenN (cutLeaf (v := (y5.1, y5.2.1, y5.2.2.1, y5.2.2.2.1, y5.2.2.2.2.1, y5.2.2.2.2.2)) hr (weakB ((sT rfl (sT rfl (sT rfl (sT rfl (sT rfl sT0)))))) (sub_keep (sub_keep (sub_drop (sub_keep sub_nil)))) rfl))
  · rintro ⟨x1, x2, x3, x4, x5, x6⟩ hr
    show AW Hfaa.prog _ _ _ ⟨[(1, .inl (is (U8 a1))), (2, .inr (.inl (2, 0))), (4, .inr (.inl (4, 0))), (8, .inr (.inl (2, (a3_1 &&& (7#8)).toNat))), (9, .inr (.inl (9, 0)))], [(2, gc 90 (ar U64 8 b2_0 ++ []) ([]) (k1 Sv) 1 b2_1), (4, pb 23 [is (U8 a0_0), is (U8 a0_1)]), (9, pb 297 [is (U8 x1), is (Bl x2), is (Sv x3), is (I16 x4), is (I64 x5), is (I32 x6)])]⟩
    have hr : some r = F225_1 N a0_0 a0_1 a1 b2_0 b2_1 a3_1 x1 x2 x3 x4 x5 x6 := hr
    refine AW_seq1 ?_
    refine AW_region ?_
    refine AL_cons (LR_fieldAddr (off := 0) (o := 0) (at_tmp 9 _) (fun b w => fa297_0 b 0 w) rfl) (sS (sT1 rfl) sB0 sF0) ?_
    refine AL_cons (LR_load (at_tmp 20 _) na295 rfl rfl) (sS (sT1 rfl) (sB1 rfl) sF0) ?_
    refine AL_nil ?_
    refine thenN ?_
    refine AW_block ?_
    refine AW_cut (σ := Bool) (fun v => ⟨[(1, .inl (is (U8 a1))), (2, .inr (.inl (2, 0))), (4, .inr (.inl (4, 0))), (8, .inr (.inl (2, (a3_1 &&& (7#8)).toNat))), (9, .inr (.inl (9, 0))), (21, .inl (is (U8 x1))), (22, .inl (is (Bl v)))], [(2, gc 90 (ar U64 8 b2_0 ++ []) ([]) (k1 Sv) 1 b2_1), (4, pb 23 [is (U8 a0_0), is (U8 a0_1)]), (9, pb 297 [is (U8 x1), is (Bl x2), is (Sv x3), is (I16 x4), is (I64 x5), is (I32 x6)])]⟩) (fun v => some r = F225_2 N a0_0 a0_1 a1 b2_0 b2_1 a3_1 x1 x2 x3 x4 x5 x6 v) ?_ ?_
    · skip
      refine AW_region ?_
      refine AL_cons (LR_bin (at_tmp 21 _) (at_c (v' := U8 (0#8)) rfl) (eql_U8 x1 (0#8)) rfl) (sS (sA (sT1 rfl) sT0) sB0 sF0) ?_
      refine AL_cons (LR_assign (at_tmp 23 _) rfl) (sS (sT1 rfl) sB0 sF0) ?_
      refine AL_nil ?_
      exact thenN (cutLeaf (v := x1 == (0#8)) hr (weakB ((sT rfl (sT rfl (sT rfl (sT rfl (sT rfl (sT rfl (sT rfl sT0)))))))) (sub_keep (sub_keep (sub_keep sub_nil))) rfl))
    · rintro x7 hr
      show AW Hfaa.prog _ _ _ ⟨[(1, .inl (is (U8 a1))), (2, .inr (.inl (2, 0))), (4, .inr (.inl (4, 0))), (8, .inr (.inl (2, (a3_1 &&& (7#8)).toNat))), (9, .inr (.inl (9, 0))), (21, .inl (is (U8 x1))), (22, .inl (is (Bl x7)))], [(2, gc 90 (ar U64 8 b2_0 ++ []) ([]) (k1 Sv) 1 b2_1), (4, pb 23 [is (U8 a0_0), is (U8 a0_1)]), (9, pb 297 [is (U8 x1), is (Bl x2), is (Sv x3), is (I16 x4), is (I64 x5), is (I32 x6)])]⟩
      have hr : some r = F225_2 N a0_0 a0_1 a1 b2_0 b2_1 a3_1 x1 x2 x3 x4 x5 x6 x7 := hr
      refine AW_condT (b := x7) rfl (fun h => ?_) (fun h => ?_)
      · have hr := hr.trans (cond_t h)
        clear h
        refine AW_region ?_
        refine AL_cons (LR_move (at_tmp 8 _) rfl) (sS (sT1 rfl) sB0 sF0) ?_
        refine AL_cons (LR_loads (at_tmp 4 _) ag23 sz23 rfl rfl rfl) (sS (sT1 rfl) (sB1 rfl) sF0) ?_
        refine AL_cons (LR_move (at_tmp 1 _) rfl) (sS (sT1 rfl) sB0 sF0) ?_
        refine AL_cons (LR_fieldAddr (off := 0) (o := 1) (at_tmp 9 _) (fun b w => fa297_1 b 0 w) rfl) (sS (sT1 rfl) sB0 sF0) ?_
        refine AL_cons (LR_loads (at_tmp 27 _) ag76 sz76 rfl rfl rfl) (sS (sT1 rfl) (sB1 rfl) sF0) ?_
        obtain ⟨y2, hy2, hr⟩ := bind_some hr
        refine AL_cons (LR_call Hfaa.func77 rfl rfl (C77 N a0_0 a0_1 a1 x2 x3 x4 y2 hy2) (all_cons (at_tmp 25 _) (all_cons (at_tmp 26 _) (all_cons (at_tmp 28 _) all_nil))) rfl) (sS (sA (sT1 rfl) (sA (sT1 rfl) (sA (sT1 rfl) sT0))) sB0 sF0) ?_
        refine AL_cons (LR_nilCheck (at_tmp 24 _) rfl) (sS (sT1 rfl) sB0 sF0) ?_
        refine AL_opn 2 1001 (fun sv => (ar U64 8 b2_0 ++ (is ( sv) :: []))) rfl rfl (fun _ => by first | rfl | simp) ?_
        intro sv1 hsv1
        refine AL_cons (LR_storeA (at_tmp 30 _) (at_tmp 29 _) (cells_one (one_is rfl)) (onC (one_is rfl) onN) sz30 rfl (ble_dyn (lnA (lnC ln0)) (by have := (and7 a3_1); omega)) (stA (and7 a3_1))) (sS (sA (sT1 rfl) (sT1 rfl)) (sB1 rfl) sF0) ?_
        refine AL_imp (imp_close (k := 2) (r := 1001) ((ar U64 8 (upd b2_0 ((a3_1 &&& (7#8)).toNat) y2) ++ [])) ([]) rfl (by first | rfl | simp) rfl rfl rfl rfl) ?_
        refine AL_nil ?_
        refine blN ?_
        obtain rfl := Option.some.inj hr
        exact ⟨res0 rfl , (sub_keep (sub_drop (sub_drop (sub_drop sub_nil))))⟩
      · have hr := hr.trans (cond_f h)
        clear h
        refine AW_cut (σ := Bool) (fun v => ⟨[(2, .inr (.inl (2, 0))), (4, .inr (.inl (4, 0))), (8, .inr (.inl (2, (a3_1 &&& (7#8)).toNat))), (9, .inr (.inl (9, 0))), (21, .inl (is (U8 x1))), (31, .inl (is (Bl v)))], [(2, gc 90 (ar U64 8 b2_0 ++ []) ([]) (k1 Sv) 1 b2_1), (4, pb 23 [is (U8 a0_0), is (U8 a0_1)]), (9, pb 297 [is (U8 x1), is (Bl x2), is (Sv x3), is (I16 x4), is (I64 x5), is (I32 x6)])]⟩) (fun v => some r = F225_3 N a0_0 a0_1 b2_0 b2_1 a3_1 x1 x2 x3 x4 x5 x6 v) ?_ ?_
        · skip
          refine AW_region ?_
          refine AL_cons (LR_bin (at_tmp 21 _) (at_c (v' := U8 (1#8)) rfl) (eql_U8 x1 (1#8)) rfl) (sS (sA (sT1 rfl) sT0) sB0 sF0) ?_
          refine AL_cons (LR_assign (at_tmp 32 _) rfl) (sS (sT1 rfl) sB0 sF0) ?_
          refine AL_nil ?_
          exact thenN (cutLeaf (v := x1 == (1#8)) hr (weakB ((sT rfl (sT rfl (sT rfl (sT rfl (sT rfl (sT rfl sT0))))))) (sub_keep (sub_keep (sub_keep sub_nil))) rfl))
        · rintro x8 hr
          show AW Hfaa.prog _ _ _ ⟨[(2, .inr (.inl (2, 0))), (4, .inr (.inl (4, 0))), (8, .inr (.inl (2, (a3_1 &&& (7#8)).toNat))), (9, .inr (.inl (9, 0))), (21, .inl (is (U8 x1))), (31, .inl (is (Bl x8)))], [(2, gc 90 (ar U64 8 b2_0 ++ []) ([]) (k1 Sv) 1 b2_1), (4, pb 23 [is (U8 a0_0), is (U8 a0_1)]), (9, pb 297 [is (U8 x1), is (Bl x2), is (Sv x3), is (I16 x4), is (I64 x5), is (I32 x6)])]⟩
          have hr : some r = F225_3 N a0_0 a0_1 b2_0 b2_1 a3_1 x1 x2 x3 x4 x5 x6 x8 := hr
          refine AW_condT (b := x8) rfl (fun h => ?_) (fun h => ?_)
          · have hr := hr.trans (cond_t h)
            clear h
            refine AW_region ?_
            refine AL_cons (LR_move (at_tmp 8 _) rfl) (sS (sT1 rfl) sB0 sF0) ?_
            refine AL_cons (LR_loads (at_tmp 4 _) ag23 sz23 rfl rfl rfl) (sS (sT1 rfl) (sB1 rfl) sF0) ?_
            refine AL_cons (LR_fieldAddr (off := 0) (o := 1) (at_tmp 9 _) (fun b w => fa297_1 b 0 w) rfl) (sS (sT1 rfl) sB0 sF0) ?_
            refine AL_cons (LR_fieldAddr (off := 1) (o := 1) (at_tmp 35 _) (fun b w => fa76_0 b 1 w) rfl) (sS (sT1 rfl) sB0 sF0) ?_
            refine AL_cons (LR_load (at_tmp 36 _) na4 rfl rfl) (sS (sT1 rfl) (sB1 rfl) sF0) ?_
            obtain ⟨y3, hy3, hr⟩ := lt_some hr
            refine AL_cons (LR_call Hfaa.func67 rfl rfl (C67 a0_0 a0_1 x2 y3 hy3) (all_cons (at_tmp 34 _) (all_cons (at_tmp 37 _) all_nil)) rfl) (sS (sA (sT1 rfl) (sA (sT1 rfl) sT0)) sB0 sF0) ?_
            refine AL_cons (LR_nilCheck (at_tmp 33 _) rfl) (sS (sT1 rfl) sB0 sF0) ?_
            refine AL_opn 2 1002 (fun sv => (ar U64 8 b2_0 ++ (is ( sv) :: []))) rfl rfl (fun _ => by first | rfl | simp) ?_
            intro sv2 hsv2
            refine AL_cons (LR_storeA (at_tmp 39 _) (at_tmp 38 _) (cells_one (one_is rfl)) (onC (one_is rfl) onN) sz30 rfl (ble_dyn (lnA (lnC ln0)) (by have := (and7 a3_1); omega)) (stA (and7 a3_1))) (sS (sA (sT1 rfl) (sT1 rfl)) (sB1 rfl) sF0) ?_
            refine AL_imp (imp_close (k := 2) (r := 1002) ((ar U64 8 (upd b2_0 ((a3_1 &&& (7#8)).toNat) y3) ++ [])) ([]) rfl (by first | rfl | simp) rfl rfl rfl rfl) ?_
            refine AL_nil ?_
            refine blN ?_
            obtain rfl := Option.some.inj hr
            exact ⟨res0 rfl , (sub_keep (sub_drop (sub_drop (sub_drop sub_nil))))⟩
          · have hr := hr.trans (cond_f h)
            clear h
            refine AW_cut (σ := Bool) (fun v => ⟨[(2, .inr (.inl (2, 0))), (4, .inr (.inl (4, 0))), (8, .inr (.inl (2, (a3_1 &&& (7#8)).toNat))), (21, .inl (is (U8 x1))), (40, .inl (is (Bl v)))], [(2, gc 90 (ar U64 8 b2_0 ++ []) ([]) (k1 Sv) 1 b2_1), (4, pb 23 [is (U8 a0_0), is (U8 a0_1)])]⟩) (fun v => some r = F225_4 N a0_0 a0_1 b2_0 b2_1 a3_1 x1 v) ?_ ?_
            · skip
              refine AW_region ?_
              refine AL_cons (LR_bin (at_tmp 21 _) (at_c (v' := U8 (2#8)) rfl) (eql_U8 x1 (2#8)) rfl) (sS (sA (sT1 rfl) sT0) sB0 sF0) ?_
              refine AL_cons (LR_assign (at_tmp 41 _) rfl) (sS (sT1 rfl) sB0 sF0) ?_
              refine AL_nil ?_
              exact thenN (cutLeaf (v := x1 == (2#8)) hr (weakB ((sT rfl (sT rfl (sT rfl (sT rfl (sT rfl sT0)))))) (sub_keep (sub_keep (sub_drop sub_nil))) rfl))
            · rintro x9 hr
              show AW Hfaa.prog _ _ _ ⟨[(2, .inr (.inl (2, 0))), (4, .inr (.inl (4, 0))), (8, .inr (.inl (2, (a3_1 &&& (7#8)).toNat))), (21, .inl (is (U8 x1))), (40, .inl (is (Bl x9)))], [(2, gc 90 (ar U64 8 b2_0 ++ []) ([]) (k1 Sv) 1 b2_1), (4, pb 23 [is (U8 a0_0), is (U8 a0_1)])]⟩
              have hr : some r = F225_4 N a0_0 a0_1 b2_0 b2_1 a3_1 x1 x9 := hr
              refine AW_condT (b := x9) rfl (fun h => ?_) (fun h => ?_)
              · have hr := hr.trans (cond_t h)
                clear h
                refine AW_region ?_
                refine AL_cons (LR_move (at_tmp 8 _) rfl) (sS (sT1 rfl) sB0 sF0) ?_
                refine AL_cons (LR_loads (at_tmp 4 _) ag23 sz23 rfl rfl rfl) (sS (sT1 rfl) (sB1 rfl) sF0) ?_
                obtain ⟨y4, hy4, hr⟩ := lt_some hr
                refine AL_cons (LR_call Hfaa.func66 rfl rfl (C66 a0_0 a0_1 y4 hy4) (all_cons (at_tmp 43 _) all_nil) rfl) (sS (sA (sT1 rfl) sT0) sB0 sF0) ?_
                refine AL_cons (LR_nilCheck (at_tmp 42 _) rfl) (sS (sT1 rfl) sB0 sF0) ?_
                refine AL_opn 2 1003 (fun sv => (ar U64 8 b2_0 ++ (is ( sv) :: []))) rfl rfl (fun _ => by first | rfl | simp) ?_
                intro sv3 hsv3
                refine AL_cons (LR_storeA (at_tmp 45 _) (at_tmp 44 _) (cells_one (one_is rfl)) (onC (one_is rfl) onN) sz30 rfl (ble_dyn (lnA (lnC ln0)) (by have := (and7 a3_1); omega)) (stA (and7 a3_1))) (sS (sA (sT1 rfl) (sT1 rfl)) (sB1 rfl) sF0) ?_
                refine AL_imp (imp_close (k := 2) (r := 1003) ((ar U64 8 (upd b2_0 ((a3_1 &&& (7#8)).toNat) y4) ++ [])) ([]) rfl (by first | rfl | simp) rfl rfl rfl rfl) ?_
                refine AL_nil ?_
                refine blN ?_
                obtain rfl := Option.some.inj hr
                exact ⟨res0 rfl , (sub_keep (sub_drop (sub_drop sub_nil)))⟩
              · have hr := hr.trans (cond_f h)
                clear h
                refine AW_cut (σ := Bool) (fun v => ⟨[(2, .inr (.inl (2, 0))), (21, .inl (is (U8 x1))), (46, .inl (is (Bl v)))], [(2, gc 90 (ar U64 8 b2_0 ++ []) ([]) (k1 Sv) 1 b2_1)]⟩) (fun v => some r = F225_5 N b2_0 b2_1 x1 v) ?_ ?_
                · skip
                  refine AW_region ?_
                  refine AL_cons (LR_bin (at_tmp 21 _) (at_c (v' := U8 (3#8)) rfl) (eql_U8 x1 (3#8)) rfl) (sS (sA (sT1 rfl) sT0) sB0 sF0) ?_
                  refine AL_cons (LR_assign (at_tmp 47 _) rfl) (sS (sT1 rfl) sB0 sF0) ?_
                  refine AL_nil ?_
                  exact thenN (cutLeaf (v := x1 == (3#8)) hr (weakB ((sT rfl (sT rfl (sT rfl sT0)))) (sub_keep (sub_drop sub_nil)) rfl))
                · rintro x10 hr
                  show AW Hfaa.prog _ _ _ ⟨[(2, .inr (.inl (2, 0))), (21, .inl (is (U8 x1))), (46, .inl (is (Bl x10)))], [(2, gc 90 (ar U64 8 b2_0 ++ []) ([]) (k1 Sv) 1 b2_1)]⟩
                  have hr : some r = F225_5 N b2_0 b2_1 x1 x10 := hr
                  refine AW_condT (b := x10) rfl (fun h => ?_) (fun h => ?_)
                  · have hr := hr.trans (cond_t h)
                    clear h
                    refine AW_region ?_
                    refine AL_cons (LR_move (at_tmp 2 _) rfl) (sS (sT1 rfl) sB0 sF0) ?_
                    refine AL_cons (LR_move (at_tmp 2 _) rfl) (sS (sT1 rfl) sB0 sF0) ?_
                    refine AL_cons (LR_nilCheck (at_tmp 49 _) rfl) (sS (sT1 rfl) sB0 sF0) ?_
                    refine AL_cons (LR_fieldAddr (off := 0) (o := 8) (at_tmp 50 _) (fun b w => fa90_1 b 0 w) rfl) (sS (sT1 rfl) sB0 sF0) ?_
                    refine AL_opn 2 1004 (fun sv => (ar U64 8 b2_0 ++ (is ( sv) :: []))) rfl rfl (fun _ => by first | rfl | simp) ?_
                    intro sv4 hsv4
                    refine AL_cons (LR_load (at_tmp 51 _) na57 (gP g0) rfl) (sS (sT1 rfl) (sB1 rfl) sF0) ?_
                    refine AL_cons (LR_bs1 Hfaa.underlying57 el9 (fun _ => rfl) (at_c (v' := Sv ([119, 114, 111, 110, 103] : List UInt8)) rfl) rfl) (sS sT0 sB0 sF0) ?_
                    obtain ⟨hg1, hr⟩ := guard_some hr
                    refine AL_consV (app_opk (K := (k1 Sv)) (r := 1004) (z := b2_1) (u := ([119, 114, 111, 110, 103] : List UInt8)) Hfaa.underlying57 eN9 k1_len (k1_cell fun _ => rfl) (at_tmp 52 _) (at_tmp 53 _) (oneAt_k1 rfl) (of_decide_eq_true hg1) rfl rfl) (sS (sA (sT1 rfl) (sT1 rfl)) (sB1 rfl) sF0) rfl ?_
                    intro sv5 hsv5
                    refine AL_cons (LR_nilCheck (at_tmp 48 _) rfl) (sS (sT1 rfl) sB0 sF0) ?_
                    refine AL_cons (LR_fieldAddr (off := 0) (o := 8) (at_tmp 55 _) (fun b w => fa90_1 b 0 w) rfl) (sS (sT1 rfl) sB0 sF0) ?_
                    refine AL_cons (LR_storeA (at_tmp 56 _) (at_tmp 54 _) (cells_one (one_is hsv5)) (onC (one_is hsv5) onN) sz57 rfl (bleLen (lnA (lnC ln0)) rfl) (stP st0)) (sS (sA (sT1 rfl) (sT1 rfl)) (sB1 rfl) sF0) ?_
                    refine AL_imp (imp_close (k := 2) (r := 1004) (ar U64 8 b2_0 ++ []) ([]) rfl (by first | rfl | simp) rfl rfl rfl rfl) ?_
                    refine AL_nil ?_
                    refine blN ?_
                    obtain rfl := Option.some.inj hr
                    exact ⟨res0 rfl , (sub_keep (sub_drop sub_nil))⟩
                  · have hr := hr.trans (cond_f h)
                    clear h
                    refine AW_cut (σ := Bool) (fun v => ⟨[(2, .inr (.inl (2, 0))), (57, .inl (is (Bl v)))], [(2, gc 90 (ar U64 8 b2_0 ++ []) ([]) (k1 Sv) 1 b2_1)]⟩) (fun v => some r = F225_6 N b2_0 b2_1 v) ?_ ?_
                    · skip
                      refine AW_region ?_
                      refine AL_cons (LR_bin (at_tmp 21 _) (at_c (v' := U8 (4#8)) rfl) (eql_U8 x1 (4#8)) rfl) (sS (sA (sT1 rfl) sT0) sB0 sF0) ?_
                      refine AL_cons (LR_assign (at_tmp 58 _) rfl) (sS (sT1 rfl) sB0 sF0) ?_
                      refine AL_nil ?_
                      exact thenN (cutLeaf (v := x1 == (4#8)) hr (weakB ((sT rfl (sT rfl sT0))) (sub_keep sub_nil) rfl))
                    · rintro x11 hr
                      show AW Hfaa.prog _ _ _ ⟨[(2, .inr (.inl (2, 0))), (57, .inl (is (Bl x11)))], [(2, gc 90 (ar U64 8 b2_0 ++ []) ([]) (k1 Sv) 1 b2_1)]⟩
                      have hr : some r = F225_6 N b2_0 b2_1 x11 := hr
                      refine AW_condT (b := x11) rfl (fun h => ?_) (fun h => ?_)
                      · have hr := hr.trans (cond_t h)
                        clear h
                        refine AW_region ?_
                        refine AL_cons (LR_move (at_tmp 2 _) rfl) (sS (sT1 rfl) sB0 sF0) ?_
                        refine AL_cons (LR_move (at_tmp 2 _) rfl) (sS (sT1 rfl) sB0 sF0) ?_
                        refine AL_cons (LR_nilCheck (at_tmp 60 _) rfl) (sS (sT1 rfl) sB0 sF0) ?_
                        refine AL_cons (LR_fieldAddr (off := 0) (o := 8) (at_tmp 61 _) (fun b w => fa90_1 b 0 w) rfl) (sS (sT1 rfl) sB0 sF0) ?_
                        refine AL_opn 2 1005 (fun sv => (ar U64 8 b2_0 ++ (is ( sv) :: []))) rfl rfl (fun _ => by first | rfl | simp) ?_
                        intro sv6 hsv6
                        refine AL_cons (LR_load (at_tmp 62 _) na57 (gP g0) rfl) (sS (sT1 rfl) (sB1 rfl) sF0) ?_
                        refine AL_cons (LR_bs1 Hfaa.underlying57 el9 (fun _ => rfl) (at_c (v' := Sv ([116, 111, 111, 32, 98, 105, 103] : List UInt8)) rfl) rfl) (sS sT0 sB0 sF0) ?_
                        obtain ⟨hg2, hr⟩ := guard_some hr
                        refine AL_consV (app_opk (K := (k1 Sv)) (r := 1005) (z := b2_1) (u := ([116, 111, 111, 32, 98, 105, 103] : List UInt8)) Hfaa.underlying57 eN9 k1_len (k1_cell fun _ => rfl) (at_tmp 63 _) (at_tmp 64 _) (oneAt_k1 rfl) (of_decide_eq_true hg2) rfl rfl) (sS (sA (sT1 rfl) (sT1 rfl)) (sB1 rfl) sF0) rfl ?_
                        intro sv7 hsv7
                        refine AL_cons (LR_nilCheck (at_tmp 59 _) rfl) (sS (sT1 rfl) sB0 sF0) ?_
                        refine AL_cons (LR_fieldAddr (off := 0) (o := 8) (at_tmp 66 _) (fun b w => fa90_1 b 0 w) rfl) (sS (sT1 rfl) sB0 sF0) ?_
                        refine AL_cons (LR_storeA (at_tmp 67 _) (at_tmp 65 _) (cells_one (one_is hsv7)) (onC (one_is hsv7) onN) sz57 rfl (bleLen (lnA (lnC ln0)) rfl) (stP st0)) (sS (sA (sT1 rfl) (sT1 rfl)) (sB1 rfl) sF0) ?_
                        refine AL_imp (imp_close (k := 2) (r := 1005) (ar U64 8 b2_0 ++ []) ([]) rfl (by first | rfl | simp) rfl rfl rfl rfl) ?_
                        refine AL_nil ?_
                        refine blN ?_
                        obtain rfl := Option.some.inj hr
                        exact ⟨res0 rfl , (sub_keep (sub_drop sub_nil))⟩
                      · have hr := hr.trans (cond_f h)
                        clear h
                        refine AW_skip ?_
                        refine blN ?_
                        obtain rfl := Option.some.inj hr
                        exact ⟨res0 rfl , (sub_keep sub_nil)⟩
/-- exact.tenTo -/
def F256_1 (N : Nat) (a0 : Int) (x1 : Bool) : Option (Bool × Nat × Nat) := bif x1 then (F139 N (w64 (0 - a0))).bind fun y4 => some ((false, (1#64).toNat, y4)) else (F139 N a0).bind fun y7 => lt (F129 false y7) fun y8 => some (y8.1, y8.2.1, y8.2.2)
def F256 (N : Nat) (a0 : Int) : Option (Bool × Nat × Nat) := F256_1 N a0 (decide (a0 < 0))
theorem C256 (N : Nat) (a0 : Int) (r : Bool × Nat × Nat) (hr : some r = F256 N a0) : Aw.Fn Hfaa.prog 256 [is (I64 a0)] (agg [is (Bl r.1), big r.2.1, big r.2.2]) := by
  refine fn_intro Hfaa.func256 rfl rfl rfl ?_
  intro bn0 w0 H0
  refine AW_seq1 ?_
  refine AW_region ?_
  refine AL_cons (zl119 rfl) (sS sT0 sB0 (sF1 rfl)) ?_
  refine AL_nil ?_
  refine thenN ?_
  refine AW_seq1 ?_
  refine AW_cut (σ := Bool) (fun v => ⟨[(0, .inl (is (I64 a0))), (2, .inr (.inl (2, 0))), (4, .inl (is (Bl v)))], [(2, pb 119 [is (Bl false), big 0, big 0])]⟩) (fun v => some r = F256_1 N a0 v) ?_ ?_
  · skip
    refine AW_region ?_
    refine AL_cons (LR_move (at_tmp 0 _) rfl) (sS (sT1 rfl) sB0 sF0) ?_
    refine AL_cons (LR_bin (at_tmp 3 _) (at_c (v' := I64 0) rfl) (lss_I64 a0 0) rfl) (sS (sA (sT1 rfl) sT0) sB0 sF0) ?_
    refine AL_nil ?_
    exact thenN (cutLeaf (v := decide (a0 < 0)) hr (weak0 ((sT rfl (sT rfl (sT rfl sT0)))) (sub_keep sub_nil)))
  · rintro x1 hr
    show AW Hfaa.prog _ _ _ ⟨[(0, .inl (is (I64 a0))), (2, .inr (.inl (2, 0))), (4, .inl (is (Bl x1)))], [(2, pb 119 [is (Bl false), big 0, big 0])]⟩
    have hr : some r = F256_1 N a0 x1 := hr
    refine AW_condT (b := x1) rfl (fun h => ?_) (fun h => ?_)
    · have hr := hr.trans (cond_t h)
      clear h
      refine AW_seq1 ?_
      refine AW_region ?_
      refine AL_cons (LR_call Hfaa.func20 rfl rfl (B20 (1#64)) (all_cons (at_c (v' := U64 (1#64)) rfl) all_nil) rfl) (sS (sA sT0 sT0) sB0 sF0) ?_
      refine AL_cons (LR_move (at_tmp 0 _) rfl) (sS (sT1 rfl) sB0 sF0) ?_
      refine AL_cons (LR_un (at_tmp 6 _) (neg_I64 a0) rfl) (sS (sT1 rfl) sB0 sF0) ?_
      obtain ⟨y4, hy4, hr⟩ := bind_some hr
      refine AL_cons (LR_call Hfaa.func139 rfl rfl (C139 N (w64 (0 - a0)) y4 hy4) (all_cons (at_tmp 7 _) all_nil) rfl) (sS (sA (sT1 rfl) sT0) sB0 sF0) ?_
      refine AL_cons (bl119 (parts_cons (i := 0) (off := 0) (at_c (v' := Bl false) rfl) (cells_one (one_is rfl)) rfl rfl (parts_cons (i := 1) (off := 1) (at_tmp 5 _) (cells_one (one_big _)) rfl rfl (parts_cons (i := 2) (off := 2) (at_tmp 8 _) (cells_one (one_big _)) rfl rfl parts_nil))) rfl rfl) (sS (sA sT0 (sA (sT1 rfl) (sA (sT1 rfl) sT0))) sB0 sF0) ?_
      refine AL_cons (LR_store (at_tmp 2 _) (at_tmp 9 _) (cells_agg _) (onC (one_is rfl) (onC (one_big _) (onC (one_big _) onN))) sz119 rfl rfl) (sS (sA (sT1 rfl) (sT1 rfl)) (sB1 rfl) sF0) ?_
      refine AL_nil ?_
      refine thenN ?_
      refine AW_ret ?_
      refine thenR ?_
      obtain rfl := Option.some.inj hr
      exact res1 rfl (rvC rfl rfl ag119 sz119 rfl)
    · have hr := hr.trans (cond_f h)
      clear h
      refine AW_skip ?_
      refine thenN ?_
      refine AW_seq1 ?_
      refine AW_region ?_
      refine AL_cons (LR_move (at_tmp 0 _) rfl) (sS (sT1 rfl) sB0 sF0) ?_
      obtain ⟨y7, hy7, hr⟩ := bind_some hr
      refine AL_cons (LR_call Hfaa.func139 rfl rfl (C139 N a0 y7 hy7) (all_cons (at_tmp 10 _) all_nil) rfl) (sS (sA (sT1 rfl) sT0) sB0 sF0) ?_
      obtain ⟨y8, hy8, hr⟩ := lt_some hr
      refine AL_cons (LR_call Hfaa.func129 rfl rfl (C129 false y7 y8 hy8) (all_cons (at_c (v' := Bl false) rfl) (all_cons (at_tmp 11 _) all_nil)) rfl) (sS (sA sT0 (sA (sT1 rfl) sT0)) sB0 sF0) ?_
      refine AL_cons (LR_store (at_tmp 2 _) (at_tmp 12 _) (cells_agg _) (onC (one_is rfl) (onC (one_big _) (onC (one_big _) onN))) sz119 rfl rfl) (sS (sA (sT1 rfl) (sT1 rfl)) (sB1 rfl) sF0) ?_
      refine AL_nil ?_
      refine thenN ?_
      refine AW_ret ?_
      obtain rfl := Option.some.inj hr
      exact res1 rfl (rvC rfl rfl ag119 sz119 rfl)
end Go.Proofs.YfwaawGreat
