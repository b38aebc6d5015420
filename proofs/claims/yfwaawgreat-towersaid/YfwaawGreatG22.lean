import Derived.Test.YfwaawGreatG1
import Derived.Test.YfwaawGreatG2
import Derived.Test.YfwaawGreatG3
import Derived.Test.YfwaawGreatG4
import Derived.Test.YfwaawGreatG10
import Derived.Test.YfwaawGreatG11
import Derived.Test.YfwaawGreatG16
import Derived.Test.YfwaawGreatG21
namespace Go.Proofs.YfwaawGreat
open Go.Aw
set_option linter.unusedVariables false
set_option maxRecDepth 100000
set_option maxHeartbeats 1000000
/-- exact.RoundHexFlags -/
def F212_1 (N : Nat) (a0_0 : BitVec 8) (a0_1 : BitVec 8) (a1 : BitVec 8) (a2 : Bool) (a4 : Int) (x1 : Nat) : Option (BitVec 64 × BitVec 8) := (F130 N a2 x1 (w64 a4)).bind fun y3 => (F136 N a0_0 a0_1 a1 y3.1 y3.2.1 y3.2.2).bind fun y4 => some (y4.1, y4.2)
def F212_4 (N : Nat) (a0_0 : BitVec 8) (a0_1 : BitVec 8) (a1 : BitVec 8) (a2 : Bool) (a3 : List UInt8) (a4 : Int) (x3 : Int) (x5 : Nat) : Option ((Nat × Int) ⊕ (BitVec 64 × BitVec 8)) := some (.inl ((x5, w64 (x3 + 1))))
def F212_6 (N : Nat) (a0_0 : BitVec 8) (a0_1 : BitVec 8) (a1 : BitVec 8) (a2 : Bool) (a3 : List UInt8) (a4 : Int) (x2 : Nat) (x3 : Int) (x7 : BitVec 64) : Option ((Nat × Int) ⊕ (BitVec 64 × BitVec 8)) := bif lim x2 then bif lim (x2 * 2 ^ (4#16).toNat) && lim x7.toNat then F212_4 N a0_0 a0_1 a1 a2 a3 a4 x3 ((x2 * 2 ^ (4#16).toNat) + x7.toNat) else none else none
def F212_9 (N : Nat) (a0_0 : BitVec 8) (a0_1 : BitVec 8) (a1 : BitVec 8) (a2 : Bool) (a3 : List UInt8) (a4 : Int) (x2 : Nat) (x3 : Int) (x6 : BitVec 8) (x10 : Bool) : Option ((Nat × Int) ⊕ (BitVec 64 × BitVec 8)) := bif x10 then F212_6 N a0_0 a0_1 a1 a2 a3 a4 x2 x3 ((BitVec.ofInt 64 ((x6 - (65#8)).toNat : Int)) + (10#64)) else (some (0#64, 0#8)).map Sum.inr
def F212_8 (N : Nat) (a0_0 : BitVec 8) (a0_1 : BitVec 8) (a1 : BitVec 8) (a2 : Bool) (a3 : List UInt8) (a4 : Int) (x2 : Nat) (x3 : Int) (x6 : BitVec 8) (x9 : Bool) : Option ((Nat × Int) ⊕ (BitVec 64 × BitVec 8)) := bif x9 then F212_6 N a0_0 a0_1 a1 a2 a3 a4 x2 x3 ((BitVec.ofInt 64 ((x6 - (97#8)).toNat : Int)) + (10#64)) else F212_9 N a0_0 a0_1 a1 a2 a3 a4 x2 x3 x6 ((decide ((65#8).toNat ≤ x6.toNat)) && (decide (x6.toNat ≤ (70#8).toNat)))
def F212_7 (N : Nat) (a0_0 : BitVec 8) (a0_1 : BitVec 8) (a1 : BitVec 8) (a2 : Bool) (a3 : List UInt8) (a4 : Int) (x2 : Nat) (x3 : Int) (x6 : BitVec 8) (x8 : Bool) : Option ((Nat × Int) ⊕ (BitVec 64 × BitVec 8)) := bif x8 then F212_6 N a0_0 a0_1 a1 a2 a3 a4 x2 x3 (BitVec.ofInt 64 ((x6 - (48#8)).toNat : Int)) else F212_8 N a0_0 a0_1 a1 a2 a3 a4 x2 x3 x6 ((decide ((97#8).toNat ≤ x6.toNat)) && (decide (x6.toNat ≤ (102#8).toNat)))
def F212_5 (N : Nat) (a0_0 : BitVec 8) (a0_1 : BitVec 8) (a1 : BitVec 8) (a2 : Bool) (a3 : List UInt8) (a4 : Int) (x2 : Nat) (x3 : Int) (x6 : BitVec 8) : Option ((Nat × Int) ⊕ (BitVec 64 × BitVec 8)) := F212_7 N a0_0 a0_1 a1 a2 a3 a4 x2 x3 x6 ((decide ((48#8).toNat ≤ x6.toNat)) && (decide (x6.toNat ≤ (57#8).toNat)))
def F212_3 (N : Nat) (a0_0 : BitVec 8) (a0_1 : BitVec 8) (a1 : BitVec 8) (a2 : Bool) (a3 : List UInt8) (a4 : Int) (x2 : Nat) (x3 : Int) (x4 : Bool) : Option ((Nat × Int) ⊕ (BitVec 64 × BitVec 8)) := bif x4 then bif (decide (0 ≤ (x3 : Int)) && decide ((x3 : Int) < (a3.length : Int))) then F212_5 N a0_0 a0_1 a1 a2 a3 a4 x2 x3 ((a3.getD ((x3 : Int)).toNat 0).toBitVec) else none else (F212_1 N a0_0 a0_1 a1 a2 a4 x2).map Sum.inr
def F212_L2b (N : Nat) (a0_0 : BitVec 8) (a0_1 : BitVec 8) (a1 : BitVec 8) (a2 : Bool) (a3 : List UInt8) (a4 : Int) (x2 : Nat) (x3 : Int) : Option ((Nat × Int) ⊕ (BitVec 64 × BitVec 8)) := F212_3 N a0_0 a0_1 a1 a2 a3 a4 x2 x3 (decide (x3 < (a3.length : Int)))
def F212_L2 (N : Nat) (a0_0 : BitVec 8) (a0_1 : BitVec 8) (a1 : BitVec 8) (a2 : Bool) (a3 : List UInt8) (a4 : Int) : (Nat × Int) → Option ((Nat × Int) ⊕ (BitVec 64 × BitVec 8)) := fun v => F212_L2b N a0_0 a0_1 a1 a2 a3 a4 v.1 v.2
def F212 (N : Nat) (a0_0 : BitVec 8) (a0_1 : BitVec 8) (a1 : BitVec 8) (a2 : Bool) (a3 : List UInt8) (a4 : Int) : Option (BitVec 64 × BitVec 8) := iterL (F212_L2 N a0_0 a0_1 a1 a2 a3 a4) N (0, 0)
theorem C212 (N : Nat) (a0_0 : BitVec 8) (a0_1 : BitVec 8) (a1 : BitVec 8) (a2 : Bool) (a3 : List UInt8) (a4 : Int) (r : BitVec 64 × BitVec 8) (hr : some r = F212 N a0_0 a0_1 a1 a2 a3 a4) : Aw.Fn Hfaa.prog 212 [agg [is (U8 a0_0), is (U8 a0_1)], is (U8 a1), is (Bl a2), is (Sv a3), is (I16 a4)] (tup [is (U64 r.1), is (U8 r.2)]) := by
  refine fn_intro Hfaa.func212 rfl rfl rfl ?_
  intro bn0 w0 H0
  refine AW_seq1 ?_
  refine AW_region ?_
  refine AL_cons (LR_box (at_tmp 0 _) (cells_agg _) rfl) (sS (sT1 rfl) sB0 (sF1 rfl)) ?_
  refine AL_cons (LR_assign (at_c (v' := U64 (0#64)) rfl) rfl) (sS sT0 sB0 sF0) ?_
  refine AL_cons (LR_assign (at_c (v' := U8 (0#8)) rfl) rfl) (sS sT0 sB0 sF0) ?_
  refine AL_nil ?_
  refine thenN ?_
  refine AW_seq1 ?_
  refine AW_region ?_
  refine AL_cons (LR_assign at_nil rfl) (sS sT0 sB0 sF0) ?_
  refine AL_nil ?_
  refine thenN ?_
  refine AW_cut (σ := Nat) (fun v => ⟨[(1, .inl (is (U8 a1))), (2, .inl (is (Bl a2))), (4, .inl (is (I16 a4))), (5, .inr (.inl (5, 0))), (12, .inl (big v))], [(5, pb 23 [is (U8 a0_0), is (U8 a0_1)])]⟩) (fun v => some r = F212_1 N a0_0 a0_1 a1 a2 a4 v) ?_ ?_
  · skip
    refine AW_seq1 ?_
    refine AW_region ?_
    refine AL_cons (LR_assign (at_c (v' := I64 0) rfl) rfl) (sS sT0 sB0 sF0) ?_
    refine AL_nil ?_
    refine thenN ?_
    refine AW_block ?_
    refine AW_iterR (σ := Nat × Int) (r := r) (x0 := (0, 0)) (emb := fun v => ⟨[(1, .inl (is (U8 a1))), (2, .inl (is (Bl a2))), (3, .inl (is (Sv a3))), (4, .inl (is (I16 a4))), (5, .inr (.inl (5, 0))), (12, .inl (big v.1)), (13, .inl (is (I64 v.2)))], [(5, pb 23 [is (U8 a0_0), is (U8 a0_1)])]⟩) ?_ hr ?_
    · exact weak0 ((sT rfl (sT rfl (sT rfl (sT rfl (sT rfl (sT rfl (sT rfl sT0)))))))) (sub_keep sub_nil)
    rintro ⟨x2, x3⟩ out2 hr
    show AW Hfaa.prog _ _ _ ⟨[(1, .inl (is (U8 a1))), (2, .inl (is (Bl a2))), (3, .inl (is (Sv a3))), (4, .inl (is (I16 a4))), (5, .inr (.inl (5, 0))), (12, .inl (big x2)), (13, .inl (is (I64 x3)))], [(5, pb 23 [is (U8 a0_0), is (U8 a0_1)])]⟩
    have hr : some out2 = F212_L2b N a0_0 a0_1 a1 a2 a3 a4 x2 x3 := hr
    refine AW_seq1 ?_
    refine AW_cut (σ := Bool) (fun v => ⟨[(1, .inl (is (U8 a1))), (2, .inl (is (Bl a2))), (3, .inl (is (Sv a3))), (4, .inl (is (I16 a4))), (5, .inr (.inl (5, 0))), (12, .inl (big x2)), (13, .inl (is (I64 x3))), (19, .inl (is (Bl v)))], [(5, pb 23 [is (U8 a0_0), is (U8 a0_1)])]⟩) (fun v => some out2 = F212_3 N a0_0 a0_1 a1 a2 a3 a4 x2 x3 v) ?_ ?_
    · skip
      refine AW_region ?_
      refine AL_cons (LR_move (at_tmp 13 _) rfl) (sS (sT1 rfl) sB0 sF0) ?_
      refine AL_cons (LR_move (at_tmp 3 _) rfl) (sS (sT1 rfl) sB0 sF0) ?_
      refine AL_cons (LR_bi1 (at_tmp 17 _) (len_S Hfaa.underlying9 a3) rfl) (sS (sT1 rfl) sB0 sF0) ?_
      refine AL_cons (LR_bin (at_tmp 16 _) (at_tmp 18 _) (lss_I64 x3 (a3.length : Int)) rfl) (sS (sA (sT1 rfl) (sT1 rfl)) sB0 sF0) ?_
      refine AL_nil ?_
      exact thenN (cutLeaf (v := decide (x3 < (a3.length : Int))) hr (weak0 ((sT rfl (sT rfl (sT rfl (sT rfl (sT rfl (sT rfl (sT rfl (sT rfl sT0))))))))) (sub_keep sub_nil)))
    · rintro x4 hr
      show AW Hfaa.prog _ _ _ ⟨[(1, .inl (is (U8 a1))), (2, .inl (is (Bl a2))), (3, .inl (is (Sv a3))), (4, .inl (is (I16 a4))), (5, .inr (.inl (5, 0))), (12, .inl (big x2)), (13, .inl (is (I64 x3))), (19, .inl (is (Bl x4)))], [(5, pb 23 [is (U8 a0_0), is (U8 a0_1)])]⟩
      have hr : some out2 = F212_3 N a0_0 a0_1 a1 a2 a3 a4 x2 x3 x4 := hr
      refine AW_condT (b := x4) rfl (fun h => ?_) (fun h => ?_)
      · have hr := hr.trans (cond_t h)
        clear h
        refine AW_skip ?_
        refine thenN ?_
        refine AW_cut (σ := Nat) (fun v => ⟨[(1, .inl (is (U8 a1))), (2, .inl (is (Bl a2))), (3, .inl (is (Sv a3))), (4, .inl (is (I16 a4))), (5, .inr (.inl (5, 0))), (12, .inl (big v)), (13, .inl (is (I64 x3)))], [(5, pb 23 [is (U8 a0_0), is (U8 a0_1)])]⟩) (fun v => some out2 = F212_4 N a0_0 a0_1 a1 a2 a3 a4 x3 v) ?_ ?_
        · skip
          refine AW_block ?_
          refine AW_cut (σ := BitVec 8) (fun v => ⟨[(1, .inl (is (U8 a1))), (2, .inl (is (Bl a2))), (3, .inl (is (Sv a3))), (4, .inl (is (I16 a4))), (5, .inr (.inl (5, 0))), (12, .inl (big x2)), (13, .inl (is (I64 x3))), (15, .inl (is (U8 v)))], [(5, pb 23 [is (U8 a0_0), is (U8 a0_1)])]⟩) (fun v => some out2 = F212_5 N a0_0 a0_1 a1 a2 a3 a4 x2 x3 v) ?_ ?_
          · skip
            obtain ⟨hg32, hr⟩ := guard_some hr
            refine AW_draw mixed
              (lrC (LR_move (at_tmp 3 _) rfl)
              (lrC (LR_move (at_tmp 13 _) rfl)
              (lrC (LR_indexS (i := (x3 : Int)) Hfaa.underlying9 (at_tmp 22 _) (at_tmp 23 _) (dand hg32) rfl)
              (lrC (LR_assign (at_c (v' := U64 (0#64)) rfl) rfl)
              (lrC (LR_assign (at_tmp 24 _) rfl)
              lrN)))))
              (by kernel_rfl)
              (saC (sS (sT1 rfl) sB0 sF0) (saC (sS (sT1 rfl) sB0 sF0) (saC (sS (sA (sT1 rfl) (sT1 rfl)) sB0 sF0) (saC (sS sT0 sB0 sF0) (saC (sS (sT1 rfl) sB0 sF0) saN))))) ?_
            exact thenN (cutLeaf (v := (a3.getD ((x3 : Int)).toNat 0).toBitVec) hr (weak0 ((sT rfl (sT rfl (sT rfl (sT rfl (sT rfl (sT rfl (sT rfl (sT rfl sT0))))))))) (sub_keep sub_nil)))
          · rintro x6 hr
            show AW Hfaa.prog _ _ _ ⟨[(1, .inl (is (U8 a1))), (2, .inl (is (Bl a2))), (3, .inl (is (Sv a3))), (4, .inl (is (I16 a4))), (5, .inr (.inl (5, 0))), (12, .inl (big x2)), (13, .inl (is (I64 x3))), (15, .inl (is (U8 x6)))], [(5, pb 23 [is (U8 a0_0), is (U8 a0_1)])]⟩
            have hr : some out2 = F212_5 N a0_0 a0_1 a1 a2 a3 a4 x2 x3 x6 := hr
            refine AW_cut (σ := BitVec 64) (fun v => ⟨[(1, .inl (is (U8 a1))), (2, .inl (is (Bl a2))), (3, .inl (is (Sv a3))), (4, .inl (is (I16 a4))), (5, .inr (.inl (5, 0))), (12, .inl (big x2)), (13, .inl (is (I64 x3))), (14, .inl (is (U64 v)))], [(5, pb 23 [is (U8 a0_0), is (U8 a0_1)])]⟩) (fun v => some out2 = F212_6 N a0_0 a0_1 a1 a2 a3 a4 x2 x3 v) ?_ ?_
            · skip
              refine AW_block ?_
              refine AW_cut (σ := Bool) (fun v => ⟨[(1, .inl (is (U8 a1))), (2, .inl (is (Bl a2))), (3, .inl (is (Sv a3))), (4, .inl (is (I16 a4))), (5, .inr (.inl (5, 0))), (12, .inl (big x2)), (13, .inl (is (I64 x3))), (15, .inl (is (U8 x6))), (25, .inl (is (Bl v)))], [(5, pb 23 [is (U8 a0_0), is (U8 a0_1)])]⟩) (fun v => some out2 = F212_7 N a0_0 a0_1 a1 a2 a3 a4 x2 x3 x6 v) ?_ ?_
              · skip
                refine AW_region ?_
                refine AL_cons (LR_move (at_tmp 15 _) rfl) (sS (sT1 rfl) sB0 sF0) ?_
                refine AL_cons (LR_bin (at_c (v' := U8 (48#8)) rfl) (at_tmp 26 _) (leq_U8 (48#8) x6) rfl) (sS (sA sT0 (sT1 rfl)) sB0 sF0) ?_
                refine AL_cons (LR_move (at_tmp 27 _) rfl) (sS (sT1 rfl) sB0 sF0) ?_
                refine AL_cutAt 3 ⟨[(1, .inl (is (U8 a1))), (2, .inl (is (Bl a2))), (3, .inl (is (Sv a3))), (4, .inl (is (I16 a4))), (5, .inr (.inl (5, 0))), (12, .inl (big x2)), (13, .inl (is (I64 x3))), (15, .inl (is (U8 x6))), (26, .inl (is (U8 x6))), (27, .inl (is (Bl (decide ((48#8).toNat ≤ x6.toNat))))), (28, .inl (is (Bl (decide ((48#8).toNat ≤ x6.toNat))))), (31, .inl (is (Bl ((decide ((48#8).toNat ≤ x6.toNat)) && (decide (x6.toNat ≤ (57#8).toNat))))))], [(5, pb 23 [is (U8 a0_0), is (U8 a0_1)])]⟩ ?_ ?_
                · cases hb : decide ((48#8).toNat ≤ x6.toNat)
                  · skip
                    refine AL_cons (LR_off (b := false) rfl rfl rfl rfl) (sS (sT1 rfl) sB0 sF0) ?_
                    refine AL_cons (LR_off (b := false) rfl rfl rfl rfl) (sS (sT1 rfl) sB0 sF0) ?_
                    refine AL_cons (LR_pick (b := false) (at_tmp 28 _) (at_tmp 30 _) (at_c (v' := Bl false) rfl) rfl) (sS (sA (sT1 rfl) (sA (sT1 rfl) sT0)) sB0 sF0) ?_
                    exact AL_nil ⟨rfl, weak0 ((sT rfl (sT rfl (sT rfl (sT rfl (sT rfl (sT rfl (sT rfl (sT rfl (sT rfl (sT rfl (sT rfl (sT rfl sT0))))))))))))) (sub_keep sub_nil)⟩
                  · skip
                    refine AL_cons (LR_on rfl rfl rfl (LR_move (at_tmp 15 _) rfl)) (sS (sT rfl (sT1 rfl)) sB0 sF0) ?_
                    refine AL_cons (LR_on rfl rfl rfl (LR_bin (at_tmp 29 _) (at_c (v' := U8 (57#8)) rfl) (leq_U8 x6 (57#8)) rfl)) (sS (sT rfl (sA (sT1 rfl) sT0)) sB0 sF0) ?_
                    refine AL_cons (LR_pick (b := true) (at_tmp 28 _) (at_tmp 30 _) (at_c (v' := Bl false) rfl) rfl) (sS (sA (sT1 rfl) (sA (sT1 rfl) sT0)) sB0 sF0) ?_
                    exact AL_nil ⟨rfl, weak0 ((sT rfl (sT rfl (sT rfl (sT rfl (sT rfl (sT rfl (sT rfl (sT rfl (sT rfl (sT rfl (sT rfl (sT rfl sT0))))))))))))) (sub_keep sub_nil)⟩
                refine AL_cons (LR_assign (at_tmp 31 _) rfl) (sS (sT1 rfl) sB0 sF0) ?_
                refine AL_nil ?_
                exact thenN (cutLeaf (v := (decide ((48#8).toNat ≤ x6.toNat)) && (decide (x6.toNat ≤ (57#8).toNat))) hr (weak0 ((sT rfl (sT rfl (sT rfl (sT rfl (sT rfl (sT rfl (sT rfl (sT rfl (sT rfl sT0)))))))))) (sub_keep sub_nil)))
              · rintro x8 hr
                show AW Hfaa.prog _ _ _ ⟨[(1, .inl (is (U8 a1))), (2, .inl (is (Bl a2))), (3, .inl (is (Sv a3))), (4, .inl (is (I16 a4))), (5, .inr (.inl (5, 0))), (12, .inl (big x2)), (13, .inl (is (I64 x3))), (15, .inl (is (U8 x6))), (25, .inl (is (Bl x8)))], [(5, pb 23 [is (U8 a0_0), is (U8 a0_1)])]⟩
                have hr : some out2 = F212_7 N a0_0 a0_1 a1 a2 a3 a4 x2 x3 x6 x8 := hr
                refine AW_condT (b := x8) rfl (fun h => ?_) (fun h => ?_)
                · have hr := hr.trans (cond_t h)
                  clear h
                  refine AW_region ?_
                  refine AL_cons (LR_move (at_tmp 15 _) rfl) (sS (sT1 rfl) sB0 sF0) ?_
                  refine AL_cons (LR_bin (at_tmp 32 _) (at_c (v' := U8 (48#8)) rfl) (sub_U8 x6 (48#8)) rfl) (sS (sA (sT1 rfl) sT0) sB0 sF0) ?_
                  refine AL_cons (LR_conv (vx := U8 (x6 - (48#8))) (at_tmp 33 _) (conv_U64 Hfaa.underlying5 Hfaa.underlying30 ((x6 - (48#8)).toNat : Int)) rfl) (sS (sT1 rfl) sB0 sF0) ?_
                  refine AL_cons (LR_assign (at_tmp 34 _) rfl) (sS (sT1 rfl) sB0 sF0) ?_
                  refine AL_nil ?_
                  refine blN ?_
                  exact thenN (cutLeaf (v := BitVec.ofInt 64 ((x6 - (48#8)).toNat : Int)) hr (weak0 ((sT rfl (sT rfl (sT rfl (sT rfl (sT rfl (sT rfl (sT rfl (sT rfl sT0))))))))) (sub_keep sub_nil)))
                · have hr := hr.trans (cond_f h)
                  clear h
                  refine AW_cut (σ := Bool) (fun v => ⟨[(1, .inl (is (U8 a1))), (2, .inl (is (Bl a2))), (3, .inl (is (Sv a3))), (4, .inl (is (I16 a4))), (5, .inr (.inl (5, 0))), (12, .inl (big x2)), (13, .inl (is (I64 x3))), (15, .inl (is (U8 x6))), (35, .inl (is (Bl v)))], [(5, pb 23 [is (U8 a0_0), is (U8 a0_1)])]⟩) (fun v => some out2 = F212_8 N a0_0 a0_1 a1 a2 a3 a4 x2 x3 x6 v) ?_ ?_
                  · skip
                    refine AW_region ?_
                    refine AL_cons (LR_move (at_tmp 15 _) rfl) (sS (sT1 rfl) sB0 sF0) ?_
                    refine AL_cons (LR_bin (at_c (v' := U8 (97#8)) rfl) (at_tmp 36 _) (leq_U8 (97#8) x6) rfl) (sS (sA sT0 (sT1 rfl)) sB0 sF0) ?_
                    refine AL_cons (LR_move (at_tmp 37 _) rfl) (sS (sT1 rfl) sB0 sF0) ?_
                    refine AL_cutAt 3 ⟨[(1, .inl (is (U8 a1))), (2, .inl (is (Bl a2))), (3, .inl (is (Sv a3))), (4, .inl (is (I16 a4))), (5, .inr (.inl (5, 0))), (12, .inl (big x2)), (13, .inl (is (I64 x3))), (15, .inl (is (U8 x6))), (25, .inl (is (Bl x8))), (36, .inl (is (U8 x6))), (37, .inl (is (Bl (decide ((97#8).toNat ≤ x6.toNat))))), (38, .inl (is (Bl (decide ((97#8).toNat ≤ x6.toNat))))), (41, .inl (is (Bl ((decide ((97#8).toNat ≤ x6.toNat)) && (decide (x6.toNat ≤ (102#8).toNat))))))], [(5, pb 23 [is (U8 a0_0), is (U8 a0_1)])]⟩ ?_ ?_
                    · cases hb : decide ((97#8).toNat ≤ x6.toNat)
                      · skip
                        refine AL_cons (LR_off (b := false) rfl rfl rfl rfl) (sS (sT1 rfl) sB0 sF0) ?_
                        refine AL_cons (LR_off (b := false) rfl rfl rfl rfl) (sS (sT1 rfl) sB0 sF0) ?_
                        refine AL_cons (LR_pick (b := false) (at_tmp 38 _) (at_tmp 40 _) (at_c (v' := Bl false) rfl) rfl) (sS (sA (sT1 rfl) (sA (sT1 rfl) sT0)) sB0 sF0) ?_
                        exact AL_nil ⟨rfl, weak0 ((sT rfl (sT rfl (sT rfl (sT rfl (sT rfl (sT rfl (sT rfl (sT rfl (sT rfl (sT rfl (sT rfl (sT rfl (sT rfl sT0)))))))))))))) (sub_keep sub_nil)⟩
                      · skip
                        refine AL_cons (LR_on rfl rfl rfl (LR_move (at_tmp 15 _) rfl)) (sS (sT rfl (sT1 rfl)) sB0 sF0) ?_
                        refine AL_cons (LR_on rfl rfl rfl (LR_bin (at_tmp 39 _) (at_c (v' := U8 (102#8)) rfl) (leq_U8 x6 (102#8)) rfl)) (sS (sT rfl (sA (sT1 rfl) sT0)) sB0 sF0) ?_
                        refine AL_cons (LR_pick (b := true) (at_tmp 38 _) (at_tmp 40 _) (at_c (v' := Bl false) rfl) rfl) (sS (sA (sT1 rfl) (sA (sT1 rfl) sT0)) sB0 sF0) ?_
                        exact AL_nil ⟨rfl, weak0 ((sT rfl (sT rfl (sT rfl (sT rfl (sT rfl (sT rfl (sT rfl (sT rfl (sT rfl (sT rfl (sT rfl (sT rfl (sT rfl sT0)))))))))))))) (sub_keep sub_nil)⟩
                    refine AL_cons (LR_assign (at_tmp 41 _) rfl) (sS (sT1 rfl) sB0 sF0) ?_
                    refine AL_nil ?_
                    exact thenN (cutLeaf (v := (decide ((97#8).toNat ≤ x6.toNat)) && (decide (x6.toNat ≤ (102#8).toNat))) hr (weak0 ((sT rfl (sT rfl (sT rfl (sT rfl (sT rfl (sT rfl (sT rfl (sT rfl (sT rfl sT0)))))))))) (sub_keep sub_nil)))
                  · rintro x9 hr
                    show AW Hfaa.prog _ _ _ ⟨[(1, .inl (is (U8 a1))), (2, .inl (is (Bl a2))), (3, .inl (is (Sv a3))), (4, .inl (is (I16 a4))), (5, .inr (.inl (5, 0))), (12, .inl (big x2)), (13, .inl (is (I64 x3))), (15, .inl (is (U8 x6))), (35, .inl (is (Bl x9)))], [(5, pb 23 [is (U8 a0_0), is (U8 a0_1)])]⟩
                    have hr : some out2 = F212_8 N a0_0 a0_1 a1 a2 a3 a4 x2 x3 x6 x9 := hr
                    refine AW_condT (b := x9) rfl (fun h => ?_) (fun h => ?_)
                    · have hr := hr.trans (cond_t h)
                      clear h
                      refine AW_region ?_
                      refine AL_cons (LR_move (at_tmp 15 _) rfl) (sS (sT1 rfl) sB0 sF0) ?_
                      refine AL_cons (LR_bin (at_tmp 42 _) (at_c (v' := U8 (97#8)) rfl) (sub_U8 x6 (97#8)) rfl) (sS (sA (sT1 rfl) sT0) sB0 sF0) ?_
                      refine AL_cons (LR_conv (vx := U8 (x6 - (97#8))) (at_tmp 43 _) (conv_U64 Hfaa.underlying5 Hfaa.underlying30 ((x6 - (97#8)).toNat : Int)) rfl) (sS (sT1 rfl) sB0 sF0) ?_
                      refine AL_cons (LR_bin (at_tmp 44 _) (at_c (v' := U64 (10#64)) rfl) (add_U64 (BitVec.ofInt 64 ((x6 - (97#8)).toNat : Int)) (10#64)) rfl) (sS (sA (sT1 rfl) sT0) sB0 sF0) ?_
                      refine AL_cons (LR_assign (at_tmp 45 _) rfl) (sS (sT1 rfl) sB0 sF0) ?_
                      refine AL_nil ?_
                      refine blN ?_
                      exact thenN (cutLeaf (v := (BitVec.ofInt 64 ((x6 - (97#8)).toNat : Int)) + (10#64)) hr (weak0 ((sT rfl (sT rfl (sT rfl (sT rfl (sT rfl (sT rfl (sT rfl (sT rfl sT0))))))))) (sub_keep sub_nil)))
                    · have hr := hr.trans (cond_f h)
                      clear h
                      refine AW_cut (σ := Bool) (fun v => ⟨[(1, .inl (is (U8 a1))), (2, .inl (is (Bl a2))), (3, .inl (is (Sv a3))), (4, .inl (is (I16 a4))), (5, .inr (.inl (5, 0))), (12, .inl (big x2)), (13, .inl (is (I64 x3))), (15, .inl (is (U8 x6))), (46, .inl (is (Bl v)))], [(5, pb 23 [is (U8 a0_0), is (U8 a0_1)])]⟩) (fun v => some out2 = F212_9 N a0_0 a0_1 a1 a2 a3 a4 x2 x3 x6 v) ?_ ?_
                      · skip
                        refine AW_region ?_
                        refine AL_cons (LR_move (at_tmp 15 _) rfl) (sS (sT1 rfl) sB0 sF0) ?_
                        refine AL_cons (LR_bin (at_c (v' := U8 (65#8)) rfl) (at_tmp 47 _) (leq_U8 (65#8) x6) rfl) (sS (sA sT0 (sT1 rfl)) sB0 sF0) ?_
                        refine AL_cons (LR_move (at_tmp 48 _) rfl) (sS (sT1 rfl) sB0 sF0) ?_
                        refine AL_cutAt 3 ⟨[(1, .inl (is (U8 a1))), (2, .inl (is (Bl a2))), (3, .inl (is (Sv a3))), (4, .inl (is (I16 a4))), (5, .inr (.inl (5, 0))), (12, .inl (big x2)), (13, .inl (is (I64 x3))), (15, .inl (is (U8 x6))), (35, .inl (is (Bl x9))), (47, .inl (is (U8 x6))), (48, .inl (is (Bl (decide ((65#8).toNat ≤ x6.toNat))))), (49, .inl (is (Bl (decide ((65#8).toNat ≤ x6.toNat))))), (52, .inl (is (Bl ((decide ((65#8).toNat ≤ x6.toNat)) && (decide (x6.toNat ≤ (70#8).toNat))))))], [(5, pb 23 [is (U8 a0_0), is (U8 a0_1)])]⟩ ?_ ?_
                        · cases hb : decide ((65#8).toNat ≤ x6.toNat)
                          · skip
                            refine AL_cons (LR_off (b := false) rfl rfl rfl rfl) (sS (sT1 rfl) sB0 sF0) ?_
                            refine AL_cons (LR_off (b := false) rfl rfl rfl rfl) (sS (sT1 rfl) sB0 sF0) ?_
                            refine AL_cons (LR_pick (b := false) (at_tmp 49 _) (at_tmp 51 _) (at_c (v' := Bl false) rfl) rfl) (sS (sA (sT1 rfl) (sA (sT1 rfl) sT0)) sB0 sF0) ?_
                            exact AL_nil ⟨rfl, weak0 ((sT rfl (sT rfl (sT rfl (sT rfl (sT rfl (sT rfl (sT rfl (sT rfl (sT rfl (sT rfl (sT rfl (sT rfl (sT rfl sT0)))))))))))))) (sub_keep sub_nil)⟩
                          · skip
                            refine AL_cons (LR_on rfl rfl rfl (LR_move (at_tmp 15 _) rfl)) (sS (sT rfl (sT1 rfl)) sB0 sF0) ?_
                            refine AL_cons (LR_on rfl rfl rfl (LR_bin (at_tmp 50 _) (at_c (v' := U8 (70#8)) rfl) (leq_U8 x6 (70#8)) rfl)) (sS (sT rfl (sA (sT1 rfl) sT0)) sB0 sF0) ?_
                            refine AL_cons (LR_pick (b := true) (at_tmp 49 _) (at_tmp 51 _) (at_c (v' := Bl false) rfl) rfl) (sS (sA (sT1 rfl) (sA (sT1 rfl) sT0)) sB0 sF0) ?_
                            exact AL_nil ⟨rfl, weak0 ((sT rfl (sT rfl (sT rfl (sT rfl (sT rfl (sT rfl (sT rfl (sT rfl (sT rfl (sT rfl (sT rfl (sT rfl (sT rfl sT0)))))))))))))) (sub_keep sub_nil)⟩
                        refine AL_cons (LR_assign (at_tmp 52 _) rfl) (sS (sT1 rfl) sB0 sF0) ?_
                        refine AL_nil ?_
                        exact thenN (cutLeaf (v := (decide ((65#8).toNat ≤ x6.toNat)) && (decide (x6.toNat ≤ (70#8).toNat))) hr (weak0 ((sT rfl (sT rfl (sT rfl (sT rfl (sT rfl (sT rfl (sT rfl (sT rfl (sT rfl sT0)))))))))) (sub_keep sub_nil)))
                      · rintro x10 hr
                        show AW Hfaa.prog _ _ _ ⟨[(1, .inl (is (U8 a1))), (2, .inl (is (Bl a2))), (3, .inl (is (Sv a3))), (4, .inl (is (I16 a4))), (5, .inr (.inl (5, 0))), (12, .inl (big x2)), (13, .inl (is (I64 x3))), (15, .inl (is (U8 x6))), (46, .inl (is (Bl x10)))], [(5, pb 23 [is (U8 a0_0), is (U8 a0_1)])]⟩
                        have hr : some out2 = F212_9 N a0_0 a0_1 a1 a2 a3 a4 x2 x3 x6 x10 := hr
                        refine AW_condT (b := x10) rfl (fun h => ?_) (fun h => ?_)
                        · have hr := hr.trans (cond_t h)
                          clear h
                          refine AW_region ?_
                          refine AL_cons (LR_move (at_tmp 15 _) rfl) (sS (sT1 rfl) sB0 sF0) ?_
                          refine AL_cons (LR_bin (at_tmp 53 _) (at_c (v' := U8 (65#8)) rfl) (sub_U8 x6 (65#8)) rfl) (sS (sA (sT1 rfl) sT0) sB0 sF0) ?_
                          refine AL_cons (LR_conv (vx := U8 (x6 - (65#8))) (at_tmp 54 _) (conv_U64 Hfaa.underlying5 Hfaa.underlying30 ((x6 - (65#8)).toNat : Int)) rfl) (sS (sT1 rfl) sB0 sF0) ?_
                          refine AL_cons (LR_bin (at_tmp 55 _) (at_c (v' := U64 (10#64)) rfl) (add_U64 (BitVec.ofInt 64 ((x6 - (65#8)).toNat : Int)) (10#64)) rfl) (sS (sA (sT1 rfl) sT0) sB0 sF0) ?_
                          refine AL_cons (LR_assign (at_tmp 56 _) rfl) (sS (sT1 rfl) sB0 sF0) ?_
                          refine AL_nil ?_
                          refine blN ?_
                          exact thenN (cutLeaf (v := (BitVec.ofInt 64 ((x6 - (65#8)).toNat : Int)) + (10#64)) hr (weak0 ((sT rfl (sT rfl (sT rfl (sT rfl (sT rfl (sT rfl (sT rfl (sT rfl sT0))))))))) (sub_keep sub_nil)))
                        · have hr := hr.trans (cond_f h)
                          clear h
                          refine AW_seq1 ?_
                          refine AW_region ?_
                          refine AL_cons (LR_assign (at_c (v' := U64 (0#64)) rfl) rfl) (sS sT0 sB0 sF0) ?_
                          refine AL_cons (LR_assign (at_c (v' := U8 (0#8)) rfl) rfl) (sS sT0 sB0 sF0) ?_
                          refine AL_nil ?_
                          refine thenN ?_
                          refine AW_ret ?_
                          refine blR ?_
                          refine thenR ?_
                          refine blR ?_
                          refine thenR ?_
                          obtain ⟨r', hro, hr⟩ := map_inr hr
                          refine thenR (loopOut hro (fun he => ?_))
                          rw [he] at hr
                          refine blR ?_
                          refine thenR ?_
                          obtain rfl := Option.some.inj hr
                          exact res2 rfl (rvT rfl) (rvT rfl)
            · rintro x7 hr
              show AW Hfaa.prog _ _ _ ⟨[(1, .inl (is (U8 a1))), (2, .inl (is (Bl a2))), (3, .inl (is (Sv a3))), (4, .inl (is (I16 a4))), (5, .inr (.inl (5, 0))), (12, .inl (big x2)), (13, .inl (is (I64 x3))), (14, .inl (is (U64 x7)))], [(5, pb 23 [is (U8 a0_0), is (U8 a0_1)])]⟩
              have hr : some out2 = F212_6 N a0_0 a0_1 a1 a2 a3 a4 x2 x3 x7 := hr
              refine AW_region ?_
              refine AL_cons (LR_move (at_tmp 12 _) rfl) (sS (sT1 rfl) sB0 sF0) ?_
              obtain ⟨hg30, hr⟩ := guard_some hr
              refine AL_cons (LR_call Hfaa.func36 rfl rfl (B36 x2 (4#16) hg30) (all_cons (at_tmp 57 _) (all_cons (at_c (v' := U16 (4#16)) rfl) all_nil)) rfl) (sS (sA (sT1 rfl) (sA sT0 sT0)) sB0 sF0) ?_
              refine AL_cons (LR_move (at_tmp 14 _) rfl) (sS (sT1 rfl) sB0 sF0) ?_
              refine AL_cons (LR_call Hfaa.func20 rfl rfl (B20 x7) (all_cons (at_tmp 59 _) all_nil) rfl) (sS (sA (sT1 rfl) sT0) sB0 sF0) ?_
              obtain ⟨hg31, hr⟩ := guard_some hr
              refine AL_cons (LR_call Hfaa.func253 rfl rfl (B253 (x2 * 2 ^ (4#16).toNat) x7.toNat hg31) (all_cons (at_tmp 58 _) (all_cons (at_tmp 60 _) all_nil)) rfl) (sS (sA (sT1 rfl) (sA (sT1 rfl) sT0)) sB0 sF0) ?_
              refine AL_cons (LR_assign (at_tmp 61 _) rfl) (sS (sT1 rfl) sB0 sF0) ?_
              refine AL_nil ?_
              refine blN ?_
              exact thenN (cutLeaf (v := (x2 * 2 ^ (4#16).toNat) + x7.toNat) hr (weak0 ((sT rfl (sT rfl (sT rfl (sT rfl (sT rfl (sT rfl (sT rfl sT0)))))))) (sub_keep sub_nil)))
        · rintro x5 hr
          show AW Hfaa.prog _ _ _ ⟨[(1, .inl (is (U8 a1))), (2, .inl (is (Bl a2))), (3, .inl (is (Sv a3))), (4, .inl (is (I16 a4))), (5, .inr (.inl (5, 0))), (12, .inl (big x5)), (13, .inl (is (I64 x3)))], [(5, pb 23 [is (U8 a0_0), is (U8 a0_1)])]⟩
          have hr : some out2 = F212_4 N a0_0 a0_1 a1 a2 a3 a4 x3 x5 := hr
          refine AW_region ?_
          refine AL_cons (LR_move (at_tmp 13 _) rfl) (sS (sT1 rfl) sB0 sF0) ?_
          refine AL_cons (LR_bin (at_tmp 20 _) (at_c (v' := I64 1) rfl) (add_I64 x3 1) rfl) (sS (sA (sT1 rfl) sT0) sB0 sF0) ?_
          refine AL_cons (LR_assign (at_tmp 21 _) rfl) (sS (sT1 rfl) sB0 sF0) ?_
          refine AL_nil ?_
          exact thenN (loopNext (x' := (x5, w64 (x3 + 1))) hr (weak0 ((sT rfl (sT rfl (sT rfl (sT rfl (sT rfl (sT rfl (sT rfl sT0)))))))) (sub_keep sub_nil)))
      · have hr := hr.trans (cond_f h)
        clear h
        refine AW_exit ?_
        refine thenX ?_
        obtain ⟨r', hro, hr⟩ := map_inr hr
        refine thenX (loopOut hro (fun he => ?_))
        rw [he] at hr
        refine blH ?_
        exact thenN (cutLeaf (v := x2) hr (weak0 ((sT rfl (sT rfl (sT rfl (sT rfl (sT rfl sT0)))))) (sub_keep sub_nil)))
  · rintro x1 hr
    show AW Hfaa.prog _ _ _ ⟨[(1, .inl (is (U8 a1))), (2, .inl (is (Bl a2))), (4, .inl (is (I16 a4))), (5, .inr (.inl (5, 0))), (12, .inl (big x1))], [(5, pb 23 [is (U8 a0_0), is (U8 a0_1)])]⟩
    have hr : some r = F212_1 N a0_0 a0_1 a1 a2 a4 x1 := hr
    refine AW_seq1 ?_
    obtain ⟨y3, hy3, hr⟩ := bind_some hr
    obtain ⟨y4, hy4, hr⟩ := bind_some hr
    refine AW_draw mixed
      (lrC (LR_loads (at_tmp 5 _) ag23 sz23 rfl rfl rfl)
      (lrC (LR_move (at_tmp 1 _) rfl)
      (lrC (LR_move (at_tmp 2 _) rfl)
      (lrC (LR_move (at_tmp 12 _) rfl)
      (lrC (LR_move (at_tmp 4 _) rfl)
      (lrC (LR_conv (vx := I16 a4) (at_tmp 66 _) (conv_I64 Hfaa.underlying44 Hfaa.underlying3 a4) rfl)
      (lrC (LR_call Hfaa.func130 rfl rfl (C130 N a2 x1 (w64 a4) y3 hy3) (all_cons (at_tmp 64 _) (all_cons (at_tmp 65 _) (all_cons (at_tmp 67 _) all_nil))) rfl)
      (lrC (LR_call Hfaa.func136 rfl rfl (C136 N a0_0 a0_1 a1 y3.1 y3.2.1 y3.2.2 y4 hy4) (all_cons (at_tmp 62 _) (all_cons (at_tmp 63 _) (all_cons (at_tmp 68 _) all_nil))) rfl)
      (lrC (LR_extract (at_tmp 69 _) rfl rfl)
      (lrC (LR_extract (at_tmp 69 _) rfl rfl)
      (lrC (LR_assign (at_tmp 70 _) rfl)
      (lrC (LR_assign (at_tmp 71 _) rfl)
      lrN))))))))))))
      (by kernel_rfl)
      (saC (sS (sT1 rfl) (sB1 rfl) sF0) (saC (sS (sT1 rfl) sB0 sF0) (saC (sS (sT1 rfl) sB0 sF0) (saC (sS (sT1 rfl) sB0 sF0) (saC (sS (sT1 rfl) sB0 sF0) (saC (sS (sT1 rfl) sB0 sF0) (saC (sS (sA (sT1 rfl) (sA (sT1 rfl) (sA (sT1 rfl) sT0))) sB0 sF0) (saC (sS (sA (sT1 rfl) (sA (sT1 rfl) (sA (sT1 rfl) sT0))) sB0 sF0) (saC (sS (sT1 rfl) sB0 sF0) (saC (sS (sT1 rfl) sB0 sF0) (saC (sS (sT1 rfl) sB0 sF0) (saC (sS (sT1 rfl) sB0 sF0) saN)))))))))))) ?_
    refine thenN ?_
    refine AW_ret ?_
    obtain rfl := Option.some.inj hr
    exact res2 rfl (rvT rfl) (rvT rfl)
/-- exact.RoundHex -/
def F108_1 (N : Nat) (x1 : BitVec 64) : Option (BitVec 64) := some x1
def F108 (N : Nat) (a0_0 : BitVec 8) (a0_1 : BitVec 8) (a1 : BitVec 8) (a2 : Bool) (a3 : List UInt8) (a4 : Int) : Option (BitVec 64) := (F212 N a0_0 a0_1 a1 a2 a3 a4).bind fun y2 => F108_1 N y2.1
theorem C108 (N : Nat) (a0_0 : BitVec 8) (a0_1 : BitVec 8) (a1 : BitVec 8) (a2 : Bool) (a3 : List UInt8) (a4 : Int) (r : BitVec 64) (hr : some r = F108 N a0_0 a0_1 a1 a2 a3 a4) : Aw.Fn Hfaa.prog 108 [agg [is (U8 a0_0), is (U8 a0_1)], is (U8 a1), is (Bl a2), is (Sv a3), is (I16 a4)] (is (U64 r)) := by
  refine fn_intro Hfaa.func108 rfl rfl rfl ?_
  intro bn0 w0 H0
  refine AW_seq1 ?_
  refine AW_region ?_
  refine AL_cons (LR_box (at_tmp 0 _) (cells_agg _) rfl) (sS (sT1 rfl) sB0 (sF1 rfl)) ?_
  refine AL_cons (LR_assign (at_c (v' := U64 (0#64)) rfl) rfl) (sS sT0 sB0 sF0) ?_
  refine AL_nil ?_
  refine thenN ?_
  refine AW_cut (σ := BitVec 64) (fun v => ⟨[(11, .inl (is (U64 v)))], []⟩) (fun v => some r = F108_1 N v) ?_ ?_
  · skip
    refine AW_region ?_
    refine AL_cons (LR_loads (at_tmp 5 _) ag23 sz23 rfl rfl rfl) (sS (sT1 rfl) (sB1 rfl) sF0) ?_
    refine AL_cons (LR_move (at_tmp 1 _) rfl) (sS (sT1 rfl) sB0 sF0) ?_
    refine AL_cons (LR_move (at_tmp 2 _) rfl) (sS (sT1 rfl) sB0 sF0) ?_
    refine AL_cons (LR_move (at_tmp 3 _) rfl) (sS (sT1 rfl) sB0 sF0) ?_
    refine AL_cons (LR_move (at_tmp 4 _) rfl) (sS (sT1 rfl) sB0 sF0) ?_
    obtain ⟨y2, hy2, hr⟩ := bind_some hr
    refine AL_cons (LR_call Hfaa.func212 rfl rfl (C212 N a0_0 a0_1 a1 a2 a3 a4 y2 hy2) (all_cons (at_tmp 14 _) (all_cons (at_tmp 15 _) (all_cons (at_tmp 16 _) (all_cons (at_tmp 17 _) (all_cons (at_tmp 18 _) all_nil))))) rfl) (sS (sA (sT1 rfl) (sA (sT1 rfl) (sA (sT1 rfl) (sA (sT1 rfl) (sA (sT1 rfl) sT0))))) sB0 sF0) ?_
    refine AL_cons (LR_move (at_tmp 19 _) rfl) (sS (sT1 rfl) sB0 sF0) ?_
    refine AL_cons (LR_extract (at_tmp 13 _) rfl rfl) (sS (sT1 rfl) sB0 sF0) ?_
    refine AL_cons (LR_extract (at_tmp 13 _) rfl rfl) (sS (sT1 rfl) sB0 sF0) ?_
    refine AL_cons (LR_assign (at_tmp 20 _) rfl) (sS (sT1 rfl) sB0 sF0) ?_
    refine AL_cons (LR_assign (at_tmp 21 _) rfl) (sS (sT1 rfl) sB0 sF0) ?_
    refine AL_nil ?_
    exact thenN (cutLeaf (v := y2.1) hr (weak0 ((sT rfl sT0)) (sub_drop sub_nil)))
  · rintro x1 hr
    show AW Hfaa.prog _ _ _ ⟨[(11, .inl (is (U64 x1)))], []⟩
    have hr : some r = F108_1 N x1 := hr
    refine AW_seq1 ?_
    refine AW_region ?_
    refine AL_cons (LR_move (at_tmp 11 _) rfl) (sS (sT1 rfl) sB0 sF0) ?_
    refine AL_cons (LR_assign (at_tmp 22 _) rfl) (sS (sT1 rfl) sB0 sF0) ?_
    refine AL_nil ?_
    refine thenN ?_
    refine AW_ret ?_
    obtain rfl := Option.some.inj hr
    exact res1 rfl (rvT rfl)
/-- calc/ex.readFlags -/
def F305_4 (N : Nat) (x9 : BitVec 8) : Option (List UInt8) := (F301 N x9).bind fun y4 => some y4
def F305_3 (N : Nat) (a0_0 : BitVec 8) (a0_1 : BitVec 8) (a1 : BitVec 8) (x1 : BitVec 8) (x2 : Bool) (x3 : List UInt8) (x4 : Int) (x5 : Int) (x6 : Int) (x8 : Bool) : Option (List UInt8) := bif x8 then some ([116, 111, 111, 32, 98, 105, 103] : List UInt8) else (F135 N a0_0 a0_1 a1 x2 x3 x4).bind fun y5 => F305_4 N y5.2
def F305_2 (N : Nat) (a0_0 : BitVec 8) (a0_1 : BitVec 8) (a1 : BitVec 8) (x1 : BitVec 8) (x2 : Bool) (x3 : List UInt8) (x4 : Int) (x5 : Int) (x6 : Int) (x7 : Bool) : Option (List UInt8) := bif x7 then some ([119, 114, 111, 110, 103] : List UInt8) else F305_3 N a0_0 a0_1 a1 x1 x2 x3 x4 x5 x6 (x1 == (4#8))
def F305_1 (N : Nat) (a0_0 : BitVec 8) (a0_1 : BitVec 8) (a1 : BitVec 8) (x1 : BitVec 8) (x2 : Bool) (x3 : List UInt8) (x4 : Int) (x5 : Int) (x6 : Int) : Option (List UInt8) := F305_2 N a0_0 a0_1 a1 x1 x2 x3 x4 x5 x6 (x1 == (3#8))
def F305 (N : Nat) (a0_0 : BitVec 8) (a0_1 : BitVec 8) (a1 : BitVec 8) (a2 : List UInt8) : Option (List UInt8) := (F291 N a2).bind fun y6 => F305_1 N a0_0 a0_1 a1 y6.1 y6.2.1 y6.2.2.1 y6.2.2.2.1 y6.2.2.2.2.1 y6.2.2.2.2.2
theorem C305 (N : Nat) (a0_0 : BitVec 8) (a0_1 : BitVec 8) (a1 : BitVec 8) (a2 : List UInt8) (r : List UInt8) (hr : some r = F305 N a0_0 a0_1 a1 a2) : Aw.Fn Hfaa.prog 305 [agg [is (U8 a0_0), is (U8 a0_1)], is (U8 a1), is (Sv a2)] (is (Sv r)) := by
  refine fn_intro Hfaa.func305 rfl rfl rfl ?_
  intro bn0 w0 H0
  refine AW_seq1 ?_
  refine AW_region ?_
  refine AL_cons (LR_box (at_tmp 0 _) (cells_agg _) rfl) (sS (sT1 rfl) sB0 (sF1 rfl)) ?_
  refine AL_cons (LR_assign (at_c (v' := Sv ([] : List UInt8)) rfl) rfl) (sS sT0 sB0 sF0) ?_
  refine AL_nil ?_
  refine thenN ?_
  refine AW_cut (σ := BitVec 8 × Bool × List UInt8 × Int × Int × Int) (fun v => ⟨[(1, .inl (is (U8 a1))), (3, .inr (.inl (3, 0))), (7, .inr (.inl (7, 0)))], [(3, pb 23 [is (U8 a0_0), is (U8 a0_1)]), (7, pb 297 [is (U8 v.1), is (Bl v.2.1), is (Sv v.2.2.1), is (I16 v.2.2.2.1), is (I64 v.2.2.2.2.1), is (I32 v.2.2.2.2.2)])]⟩) (fun v => some r = F305_1 N a0_0 a0_1 a1 v.1 v.2.1 v.2.2.1 v.2.2.2.1 v.2.2.2.2.1 v.2.2.2.2.2) ?_ ?_
  · skip
    refine AW_region ?_
    refine AL_cons (LR_move (at_tmp 2 _) rfl) (sS (sT1 rfl) sB0 sF0) ?_
    obtain ⟨y6, hy6, hr⟩ := bind_some hr
    refine AL_cons (LR_call Hfaa.func291 rfl rfl (C291 N a2 y6 hy6) (all_cons (at_tmp 10 _) all_nil) rfl) (sS (sA (sT1 rfl) sT0) sB0 sF0) ?_
    refine AL_cons (zl297 rfl) (sS sT0 sB0 (sF1 rfl)) ?_
    refine AL_cons (LR_store (at_tmp 7 _) (at_tmp 11 _) (cells_agg _) (onC (one_is rfl) (onC (one_is rfl) (onC (one_is rfl) (onC (one_is rfl) (onC (one_is rfl) (onC (one_is rfl) onN)))))) sz297 rfl rfl) (sS (sA (sT1 rfl) (sT1 rfl)) (sB1 rfl) sF0) ?_
    refine AL_nil ?_
    exact thenN (cutLeaf (v := (y6.1, y6.2.1, y6.2.2.1, y6.2.2.2.1, y6.2.2.2.2.1, y6.2.2.2.2.2)) hr (weak0 ((sT rfl (sT rfl (sT rfl sT0)))) (sub_keep (sub_keep sub_nil))))
  · rintro ⟨x1, x2, x3, x4, x5, x6⟩ hr
    show AW Hfaa.prog _ _ _ ⟨[(1, .inl (is (U8 a1))), (3, .inr (.inl (3, 0))), (7, .inr (.inl (7, 0)))], [(3, pb 23 [is (U8 a0_0), is (U8 a0_1)]), (7, pb 297 [is (U8 x1), is (Bl x2), is (Sv x3), is (I16 x4), is (I64 x5), is (I32 x6)])]⟩
    have hr : some r = F305_1 N a0_0 a0_1 a1 x1 x2 x3 x4 x5 x6 := hr
    refine AW_seq1 ?_
    refine AW_seq1 ?_
    refine AW_region ?_
    refine AL_cons (LR_fieldAddr (off := 0) (o := 0) (at_tmp 7 _) (fun b w => fa297_0 b 0 w) rfl) (sS (sT1 rfl) sB0 sF0) ?_
    refine AL_cons (LR_load (at_tmp 12 _) na295 rfl rfl) (sS (sT1 rfl) (sB1 rfl) sF0) ?_
    refine AL_nil ?_
    refine thenN ?_
    refine AW_block ?_
    refine AW_cut (σ := Bool) (fun v => ⟨[(1, .inl (is (U8 a1))), (3, .inr (.inl (3, 0))), (7, .inr (.inl (7, 0))), (13, .inl (is (U8 x1))), (14, .inl (is (Bl v)))], [(3, pb 23 [is (U8 a0_0), is (U8 a0_1)]), (7, pb 297 [is (U8 x1), is (Bl x2), is (Sv x3), is (I16 x4), is (I64 x5), is (I32 x6)])]⟩) (fun v => some r = F305_2 N a0_0 a0_1 a1 x1 x2 x3 x4 x5 x6 v) ?_ ?_
    · skip
      refine AW_region ?_
      refine AL_cons (LR_bin (at_tmp 13 _) (at_c (v' := U8 (3#8)) rfl) (eql_U8 x1 (3#8)) rfl) (sS (sA (sT1 rfl) sT0) sB0 sF0) ?_
      refine AL_cons (LR_assign (at_tmp 15 _) rfl) (sS (sT1 rfl) sB0 sF0) ?_
      refine AL_nil ?_
      exact thenN (cutLeaf (v := x1 == (3#8)) hr (weak0 ((sT rfl (sT rfl (sT rfl (sT rfl (sT rfl sT0)))))) (sub_keep (sub_keep sub_nil))))
    · rintro x7 hr
      show AW Hfaa.prog _ _ _ ⟨[(1, .inl (is (U8 a1))), (3, .inr (.inl (3, 0))), (7, .inr (.inl (7, 0))), (13, .inl (is (U8 x1))), (14, .inl (is (Bl x7)))], [(3, pb 23 [is (U8 a0_0), is (U8 a0_1)]), (7, pb 297 [is (U8 x1), is (Bl x2), is (Sv x3), is (I16 x4), is (I64 x5), is (I32 x6)])]⟩
      have hr : some r = F305_2 N a0_0 a0_1 a1 x1 x2 x3 x4 x5 x6 x7 := hr
      refine AW_condT (b := x7) rfl (fun h => ?_) (fun h => ?_)
      · have hr := hr.trans (cond_t h)
        clear h
        refine AW_seq1 ?_
        refine AW_region ?_
        refine AL_cons (LR_assign (at_c (v' := Sv ([119, 114, 111, 110, 103] : List UInt8)) rfl) rfl) (sS sT0 sB0 sF0) ?_
        refine AL_nil ?_
        refine thenN ?_
        refine AW_ret ?_
        refine blR ?_
        refine thenR ?_
        obtain rfl := Option.some.inj hr
        exact res1 rfl (rvT rfl)
      · have hr := hr.trans (cond_f h)
        clear h
        refine AW_cut (σ := Bool) (fun v => ⟨[(1, .inl (is (U8 a1))), (3, .inr (.inl (3, 0))), (7, .inr (.inl (7, 0))), (16, .inl (is (Bl v)))], [(3, pb 23 [is (U8 a0_0), is (U8 a0_1)]), (7, pb 297 [is (U8 x1), is (Bl x2), is (Sv x3), is (I16 x4), is (I64 x5), is (I32 x6)])]⟩) (fun v => some r = F305_3 N a0_0 a0_1 a1 x1 x2 x3 x4 x5 x6 v) ?_ ?_
        · skip
          refine AW_region ?_
          refine AL_cons (LR_bin (at_tmp 13 _) (at_c (v' := U8 (4#8)) rfl) (eql_U8 x1 (4#8)) rfl) (sS (sA (sT1 rfl) sT0) sB0 sF0) ?_
          refine AL_cons (LR_assign (at_tmp 17 _) rfl) (sS (sT1 rfl) sB0 sF0) ?_
          refine AL_nil ?_
          exact thenN (cutLeaf (v := x1 == (4#8)) hr (weak0 ((sT rfl (sT rfl (sT rfl (sT rfl sT0))))) (sub_keep (sub_keep sub_nil))))
        · rintro x8 hr
          show AW Hfaa.prog _ _ _ ⟨[(1, .inl (is (U8 a1))), (3, .inr (.inl (3, 0))), (7, .inr (.inl (7, 0))), (16, .inl (is (Bl x8)))], [(3, pb 23 [is (U8 a0_0), is (U8 a0_1)]), (7, pb 297 [is (U8 x1), is (Bl x2), is (Sv x3), is (I16 x4), is (I64 x5), is (I32 x6)])]⟩
          have hr : some r = F305_3 N a0_0 a0_1 a1 x1 x2 x3 x4 x5 x6 x8 := hr
          refine AW_condT (b := x8) rfl (fun h => ?_) (fun h => ?_)
          · have hr := hr.trans (cond_t h)
            clear h
            refine AW_seq1 ?_
            refine AW_region ?_
            refine AL_cons (LR_assign (at_c (v' := Sv ([116, 111, 111, 32, 98, 105, 103] : List UInt8)) rfl) rfl) (sS sT0 sB0 sF0) ?_
            refine AL_nil ?_
            refine thenN ?_
            refine AW_ret ?_
            refine blR ?_
            refine thenR ?_
            obtain rfl := Option.some.inj hr
            exact res1 rfl (rvT rfl)
          · have hr := hr.trans (cond_f h)
            clear h
            refine AW_skip ?_
            refine blN ?_
            refine thenN ?_
            refine AW_cut (σ := BitVec 8) (fun v => ⟨[(9, .inl (is (U8 v)))], []⟩) (fun v => some r = F305_4 N v) ?_ ?_
            · skip
              refine AW_region ?_
              refine AL_cons (LR_loads (at_tmp 3 _) ag23 sz23 rfl rfl rfl) (sS (sT1 rfl) (sB1 rfl) sF0) ?_
              refine AL_cons (LR_move (at_tmp 1 _) rfl) (sS (sT1 rfl) sB0 sF0) ?_
              refine AL_cons (LR_fieldAddr (off := 0) (o := 1) (at_tmp 7 _) (fun b w => fa297_1 b 0 w) rfl) (sS (sT1 rfl) sB0 sF0) ?_
              refine AL_cons (LR_loads (at_tmp 21 _) ag76 sz76 rfl rfl rfl) (sS (sT1 rfl) (sB1 rfl) sF0) ?_
              obtain ⟨y5, hy5, hr⟩ := bind_some hr
              refine AL_cons (LR_call Hfaa.func135 rfl rfl (C135 N a0_0 a0_1 a1 x2 x3 x4 y5 hy5) (all_cons (at_tmp 19 _) (all_cons (at_tmp 20 _) (all_cons (at_tmp 22 _) all_nil))) rfl) (sS (sA (sT1 rfl) (sA (sT1 rfl) (sA (sT1 rfl) sT0))) sB0 sF0) ?_
              refine AL_cons (LR_move (at_tmp 23 _) rfl) (sS (sT1 rfl) sB0 sF0) ?_
              refine AL_cons (LR_extract (at_tmp 18 _) rfl rfl) (sS (sT1 rfl) sB0 sF0) ?_
              refine AL_cons (LR_extract (at_tmp 18 _) rfl rfl) (sS (sT1 rfl) sB0 sF0) ?_
              refine AL_cons (LR_assign (at_tmp 24 _) rfl) (sS (sT1 rfl) sB0 sF0) ?_
              refine AL_cons (LR_assign (at_tmp 25 _) rfl) (sS (sT1 rfl) sB0 sF0) ?_
              refine AL_nil ?_
              exact thenN (cutLeaf (v := y5.2) hr (weak0 ((sT rfl sT0)) (sub_drop (sub_drop sub_nil))))
            · rintro x9 hr
              show AW Hfaa.prog _ _ _ ⟨[(9, .inl (is (U8 x9)))], []⟩
              have hr : some r = F305_4 N x9 := hr
              refine AW_seq1 ?_
              refine AW_region ?_
              refine AL_cons (LR_move (at_tmp 9 _) rfl) (sS (sT1 rfl) sB0 sF0) ?_
              obtain ⟨y4, hy4, hr⟩ := bind_some hr
              refine AL_cons (LR_call Hfaa.func301 rfl rfl (C301 N x9 y4 hy4) (all_cons (at_tmp 26 _) all_nil) rfl) (sS (sA (sT1 rfl) sT0) sB0 sF0) ?_
              refine AL_cons (LR_assign (at_tmp 27 _) rfl) (sS (sT1 rfl) sB0 sF0) ?_
              refine AL_nil ?_
              refine thenN ?_
              refine AW_ret ?_
              obtain rfl := Option.some.inj hr
              exact res1 rfl (rvT rfl)
/-- calc/ex.hexFlags -/
def F306_4 (N : Nat) (x9 : BitVec 8) : Option (List UInt8) := (F301 N x9).bind fun y4 => some y4
def F306_3 (N : Nat) (a0_0 : BitVec 8) (a0_1 : BitVec 8) (a1 : BitVec 8) (x1 : BitVec 8) (x2 : Bool) (x3 : List UInt8) (x4 : Int) (x5 : Int) (x6 : Int) (x8 : Bool) : Option (List UInt8) := bif x8 then some ([116, 111, 111, 32, 98, 105, 103] : List UInt8) else (F212 N a0_0 a0_1 a1 x2 x3 x4).bind fun y5 => F306_4 N y5.2
def F306_2 (N : Nat) (a0_0 : BitVec 8) (a0_1 : BitVec 8) (a1 : BitVec 8) (x1 : BitVec 8) (x2 : Bool) (x3 : List UInt8) (x4 : Int) (x5 : Int) (x6 : Int) (x7 : Bool) : Option (List UInt8) := bif x7 then some ([119, 114, 111, 110, 103] : List UInt8) else F306_3 N a0_0 a0_1 a1 x1 x2 x3 x4 x5 x6 (x1 == (4#8))
def F306_1 (N : Nat) (a0_0 : BitVec 8) (a0_1 : BitVec 8) (a1 : BitVec 8) (x1 : BitVec 8) (x2 : Bool) (x3 : List UInt8) (x4 : Int) (x5 : Int) (x6 : Int) : Option (List UInt8) := F306_2 N a0_0 a0_1 a1 x1 x2 x3 x4 x5 x6 (x1 == (3#8))
def F306 (N : Nat) (a0_0 : BitVec 8) (a0_1 : BitVec 8) (a1 : BitVec 8) (a2 : List UInt8) : Option (List UInt8) := (F304 N a2).bind fun y6 => F306_1 N a0_0 a0_1 a1 y6.1 y6.2.1 y6.2.2.1 y6.2.2.2.1 y6.2.2.2.2.1 y6.2.2.2.2.2
theorem C306 (N : Nat) (a0_0 : BitVec 8) (a0_1 : BitVec 8) (a1 : BitVec 8) (a2 : List UInt8) (r : List UInt8) (hr : some r = F306 N a0_0 a0_1 a1 a2) : Aw.Fn Hfaa.prog 306 [agg [is (U8 a0_0), is (U8 a0_1)], is (U8 a1), is (Sv a2)] (is (Sv r)) := by
  refine fn_intro Hfaa.func306 rfl rfl rfl ?_
  intro bn0 w0 H0
  refine AW_seq1 ?_
  refine AW_region ?_
  refine AL_cons (LR_box (at_tmp 0 _) (cells_agg _) rfl) (sS (sT1 rfl) sB0 (sF1 rfl)) ?_
  refine AL_cons (LR_assign (at_c (v' := Sv ([] : List UInt8)) rfl) rfl) (sS sT0 sB0 sF0) ?_
  refine AL_nil ?_
  refine thenN ?_
  refine AW_cut (σ := BitVec 8 × Bool × List UInt8 × Int × Int × Int) (fun v => ⟨[(1, .inl (is (U8 a1))), (3, .inr (.inl (3, 0))), (7, .inr (.inl (7, 0)))], [(3, pb 23 [is (U8 a0_0), is (U8 a0_1)]), (7, pb 307 [is (U8 v.1), is (Bl v.2.1), is (Sv v.2.2.1), is (I16 v.2.2.2.1), is (I64 v.2.2.2.2.1), is (I32 v.2.2.2.2.2)])]⟩) (fun v => some r = F306_1 N a0_0 a0_1 a1 v.1 v.2.1 v.2.2.1 v.2.2.2.1 v.2.2.2.2.1 v.2.2.2.2.2) ?_ ?_
  · skip
    refine AW_region ?_
    refine AL_cons (LR_move (at_tmp 2 _) rfl) (sS (sT1 rfl) sB0 sF0) ?_
    obtain ⟨y6, hy6, hr⟩ := bind_some hr
    refine AL_cons (LR_call Hfaa.func304 rfl rfl (C304 N a2 y6 hy6) (all_cons (at_tmp 10 _) all_nil) rfl) (sS (sA (sT1 rfl) sT0) sB0 sF0) ?_
    refine AL_cons (zl307 rfl) (sS sT0 sB0 (sF1 rfl)) ?_
    refine AL_cons (LR_store (at_tmp 7 _) (at_tmp 11 _) (cells_agg _) (onC (one_is rfl) (onC (one_is rfl) (onC (one_is rfl) (onC (one_is rfl) (onC (one_is rfl) (onC (one_is rfl) onN)))))) sz307 rfl rfl) (sS (sA (sT1 rfl) (sT1 rfl)) (sB1 rfl) sF0) ?_
    refine AL_nil ?_
    exact thenN (cutLeaf (v := (y6.1, y6.2.1, y6.2.2.1, y6.2.2.2.1, y6.2.2.2.2.1, y6.2.2.2.2.2)) hr (weak0 ((sT rfl (sT rfl (sT rfl sT0)))) (sub_keep (sub_keep sub_nil))))
  · rintro ⟨x1, x2, x3, x4, x5, x6⟩ hr
    show AW Hfaa.prog _ _ _ ⟨[(1, .inl (is (U8 a1))), (3, .inr (.inl (3, 0))), (7, .inr (.inl (7, 0)))], [(3, pb 23 [is (U8 a0_0), is (U8 a0_1)]), (7, pb 307 [is (U8 x1), is (Bl x2), is (Sv x3), is (I16 x4), is (I64 x5), is (I32 x6)])]⟩
    have hr : some r = F306_1 N a0_0 a0_1 a1 x1 x2 x3 x4 x5 x6 := hr
    refine AW_seq1 ?_
    refine AW_seq1 ?_
    refine AW_region ?_
    refine AL_cons (LR_fieldAddr (off := 0) (o := 0) (at_tmp 7 _) (fun b w => fa307_0 b 0 w) rfl) (sS (sT1 rfl) sB0 sF0) ?_
    refine AL_cons (LR_load (at_tmp 12 _) na295 rfl rfl) (sS (sT1 rfl) (sB1 rfl) sF0) ?_
    refine AL_nil ?_
    refine thenN ?_
    refine AW_block ?_
    refine AW_cut (σ := Bool) (fun v => ⟨[(1, .inl (is (U8 a1))), (3, .inr (.inl (3, 0))), (7, .inr (.inl (7, 0))), (13, .inl (is (U8 x1))), (14, .inl (is (Bl v)))], [(3, pb 23 [is (U8 a0_0), is (U8 a0_1)]), (7, pb 307 [is (U8 x1), is (Bl x2), is (Sv x3), is (I16 x4), is (I64 x5), is (I32 x6)])]⟩) (fun v => some r = F306_2 N a0_0 a0_1 a1 x1 x2 x3 x4 x5 x6 v) ?_ ?_
    · skip
      refine AW_region ?_
      refine AL_cons (LR_bin (at_tmp 13 _) (at_c (v' := U8 (3#8)) rfl) (eql_U8 x1 (3#8)) rfl) (sS (sA (sT1 rfl) sT0) sB0 sF0) ?_
      refine AL_cons (LR_assign (at_tmp 15 _) rfl) (sS (sT1 rfl) sB0 sF0) ?_
      refine AL_nil ?_
      exact thenN (cutLeaf (v := x1 == (3#8)) hr (weak0 ((sT rfl (sT rfl (sT rfl (sT rfl (sT rfl sT0)))))) (sub_keep (sub_keep sub_nil))))
    · rintro x7 hr
      show AW Hfaa.prog _ _ _ ⟨[(1, .inl (is (U8 a1))), (3, .inr (.inl (3, 0))), (7, .inr (.inl (7, 0))), (13, .inl (is (U8 x1))), (14, .inl (is (Bl x7)))], [(3, pb 23 [is (U8 a0_0), is (U8 a0_1)]), (7, pb 307 [is (U8 x1), is (Bl x2), is (Sv x3), is (I16 x4), is (I64 x5), is (I32 x6)])]⟩
      have hr : some r = F306_2 N a0_0 a0_1 a1 x1 x2 x3 x4 x5 x6 x7 := hr
      refine AW_condT (b := x7) rfl (fun h => ?_) (fun h => ?_)
      · have hr := hr.trans (cond_t h)
        clear h
        refine AW_seq1 ?_
        refine AW_region ?_
        refine AL_cons (LR_assign (at_c (v' := Sv ([119, 114, 111, 110, 103] : List UInt8)) rfl) rfl) (sS sT0 sB0 sF0) ?_
        refine AL_nil ?_
        refine thenN ?_
        refine AW_ret ?_
        refine blR ?_
        refine thenR ?_
        obtain rfl := Option.some.inj hr
        exact res1 rfl (rvT rfl)
      · have hr := hr.trans (cond_f h)
        clear h
        refine AW_cut (σ := Bool) (fun v => ⟨[(1, .inl (is (U8 a1))), (3, .inr (.inl (3, 0))), (7, .inr (.inl (7, 0))), (16, .inl (is (Bl v)))], [(3, pb 23 [is (U8 a0_0), is (U8 a0_1)]), (7, pb 307 [is (U8 x1), is (Bl x2), is (Sv x3), is (I16 x4), is (I64 x5), is (I32 x6)])]⟩) (fun v => some r = F306_3 N a0_0 a0_1 a1 x1 x2 x3 x4 x5 x6 v) ?_ ?_
        · skip
          refine AW_region ?_
          refine AL_cons (LR_bin (at_tmp 13 _) (at_c (v' := U8 (4#8)) rfl) (eql_U8 x1 (4#8)) rfl) (sS (sA (sT1 rfl) sT0) sB0 sF0) ?_
          refine AL_cons (LR_assign (at_tmp 17 _) rfl) (sS (sT1 rfl) sB0 sF0) ?_
          refine AL_nil ?_
          exact thenN (cutLeaf (v := x1 == (4#8)) hr (weak0 ((sT rfl (sT rfl (sT rfl (sT rfl sT0))))) (sub_keep (sub_keep sub_nil))))
        · rintro x8 hr
          show AW Hfaa.prog _ _ _ ⟨[(1, .inl (is (U8 a1))), (3, .inr (.inl (3, 0))), (7, .inr (.inl (7, 0))), (16, .inl (is (Bl x8)))], [(3, pb 23 [is (U8 a0_0), is (U8 a0_1)]), (7, pb 307 [is (U8 x1), is (Bl x2), is (Sv x3), is (I16 x4), is (I64 x5), is (I32 x6)])]⟩
          have hr : some r = F306_3 N a0_0 a0_1 a1 x1 x2 x3 x4 x5 x6 x8 := hr
          refine AW_condT (b := x8) rfl (fun h => ?_) (fun h => ?_)
          · have hr := hr.trans (cond_t h)
            clear h
            refine AW_seq1 ?_
            refine AW_region ?_
            refine AL_cons (LR_assign (at_c (v' := Sv ([116, 111, 111, 32, 98, 105, 103] : List UInt8)) rfl) rfl) (sS sT0 sB0 sF0) ?_
            refine AL_nil ?_
            refine thenN ?_
            refine AW_ret ?_
            refine blR ?_
            refine thenR ?_
            obtain rfl := Option.some.inj hr
            exact res1 rfl (rvT rfl)
          · have hr := hr.trans (cond_f h)
            clear h
            refine AW_skip ?_
            refine blN ?_
            refine thenN ?_
            refine AW_cut (σ := BitVec 8) (fun v => ⟨[(9, .inl (is (U8 v)))], []⟩) (fun v => some r = F306_4 N v) ?_ ?_
            · skip
              refine AW_region ?_
              refine AL_cons (LR_loads (at_tmp 3 _) ag23 sz23 rfl rfl rfl) (sS (sT1 rfl) (sB1 rfl) sF0) ?_
              refine AL_cons (LR_move (at_tmp 1 _) rfl) (sS (sT1 rfl) sB0 sF0) ?_
              refine AL_cons (LR_fieldAddr (off := 0) (o := 1) (at_tmp 7 _) (fun b w => fa307_1 b 0 w) rfl) (sS (sT1 rfl) sB0 sF0) ?_
              refine AL_cons (LR_fieldAddr (off := 1) (o := 1) (at_tmp 21 _) (fun b w => fa151_0 b 1 w) rfl) (sS (sT1 rfl) sB0 sF0) ?_
              refine AL_cons (LR_load (at_tmp 22 _) na4 rfl rfl) (sS (sT1 rfl) (sB1 rfl) sF0) ?_
              refine AL_cons (LR_fieldAddr (off := 0) (o := 1) (at_tmp 7 _) (fun b w => fa307_1 b 0 w) rfl) (sS (sT1 rfl) sB0 sF0) ?_
              refine AL_cons (LR_fieldAddr (off := 1) (o := 2) (at_tmp 24 _) (fun b w => fa151_1 b 1 w) rfl) (sS (sT1 rfl) sB0 sF0) ?_
              refine AL_cons (LR_load (at_tmp 25 _) na9 rfl rfl) (sS (sT1 rfl) (sB1 rfl) sF0) ?_
              refine AL_cons (LR_fieldAddr (off := 0) (o := 1) (at_tmp 7 _) (fun b w => fa307_1 b 0 w) rfl) (sS (sT1 rfl) sB0 sF0) ?_
              refine AL_cons (LR_fieldAddr (off := 1) (o := 3) (at_tmp 27 _) (fun b w => fa151_2 b 1 w) rfl) (sS (sT1 rfl) sB0 sF0) ?_
              refine AL_cons (LR_load (at_tmp 28 _) na44 rfl rfl) (sS (sT1 rfl) (sB1 rfl) sF0) ?_
              obtain ⟨y5, hy5, hr⟩ := bind_some hr
              refine AL_cons (LR_call Hfaa.func212 rfl rfl (C212 N a0_0 a0_1 a1 x2 x3 x4 y5 hy5) (all_cons (at_tmp 19 _) (all_cons (at_tmp 20 _) (all_cons (at_tmp 23 _) (all_cons (at_tmp 26 _) (all_cons (at_tmp 29 _) all_nil))))) rfl) (sS (sA (sT1 rfl) (sA (sT1 rfl) (sA (sT1 rfl) (sA (sT1 rfl) (sA (sT1 rfl) sT0))))) sB0 sF0) ?_
              refine AL_cons (LR_move (at_tmp 30 _) rfl) (sS (sT1 rfl) sB0 sF0) ?_
              refine AL_cons (LR_extract (at_tmp 18 _) rfl rfl) (sS (sT1 rfl) sB0 sF0) ?_
              refine AL_cons (LR_extract (at_tmp 18 _) rfl rfl) (sS (sT1 rfl) sB0 sF0) ?_
              refine AL_cons (LR_assign (at_tmp 31 _) rfl) (sS (sT1 rfl) sB0 sF0) ?_
              refine AL_cons (LR_assign (at_tmp 32 _) rfl) (sS (sT1 rfl) sB0 sF0) ?_
              refine AL_nil ?_
              exact thenN (cutLeaf (v := y5.2) hr (weak0 ((sT rfl sT0)) (sub_drop (sub_drop sub_nil))))
            · rintro x9 hr
              show AW Hfaa.prog _ _ _ ⟨[(9, .inl (is (U8 x9)))], []⟩
              have hr : some r = F306_4 N x9 := hr
              refine AW_seq1 ?_
              refine AW_region ?_
              refine AL_cons (LR_move (at_tmp 9 _) rfl) (sS (sT1 rfl) sB0 sF0) ?_
              obtain ⟨y4, hy4, hr⟩ := bind_some hr
              refine AL_cons (LR_call Hfaa.func301 rfl rfl (C301 N x9 y4 hy4) (all_cons (at_tmp 33 _) all_nil) rfl) (sS (sA (sT1 rfl) sT0) sB0 sF0) ?_
              refine AL_cons (LR_assign (at_tmp 34 _) rfl) (sS (sT1 rfl) sB0 sF0) ?_
              refine AL_nil ?_
              refine thenN ?_
              refine AW_ret ?_
              obtain rfl := Option.some.inj hr
              exact res1 rfl (rvT rfl)
/-- exact.ScaleBFlags -/
def F111_5 (N : Nat) (a0_0 : BitVec 8) (a0_1 : BitVec 8) (a1 : BitVec 8) (x2 : BitVec 64) (x3 : Bool) (x4 : Int) (x5 : Bool) (x6 : Nat) (x7 : Nat) (x10 : Nat) (x11 : Nat) : Option (BitVec 64 × BitVec 8) := (F136 N a0_0 a0_1 a1 x3 x10 x11).bind fun y15 => some (y15.1, y15.2)
def F111_4 (N : Nat) (a0_0 : BitVec 8) (a0_1 : BitVec 8) (a1 : BitVec 8) (a3 : Int) (x2 : BitVec 64) (x3 : Bool) (x4 : Int) (x5 : Bool) (x6 : Nat) (x7 : Nat) (x9 : Bool) : Option (BitVec 64 × BitVec 8) := bif x9 then some (x2, 0#8) else (F208 N x6 x7 (min (max a3 (-5000)) 5000)).bind fun y16 => F111_5 N a0_0 a0_1 a1 x2 x3 x4 x5 x6 x7 y16.1 y16.2
def F111_3 (N : Nat) (a0_0 : BitVec 8) (a0_1 : BitVec 8) (a1 : BitVec 8) (a2 : BitVec 64) (a3 : Int) (x2 : BitVec 64) (x3 : Bool) (x4 : Int) (x5 : Bool) (x6 : Nat) (x7 : Nat) (x8 : Bool) : Option (BitVec 64 × BitVec 8) := bif x8 then lt (F66 a0_0 a0_1) fun y11 => lt (F216 a0_0 a0_1 a2 a2) fun y12 => some (y11, y12) else F111_4 N a0_0 a0_1 a1 a3 x2 x3 x4 x5 x6 x7 (x4 == 3)
def F111_2 (N : Nat) (a0_0 : BitVec 8) (a0_1 : BitVec 8) (a1 : BitVec 8) (a2 : BitVec 64) (a3 : Int) (x2 : BitVec 64) (x3 : Bool) (x4 : Int) (x5 : Bool) (x6 : Nat) (x7 : Nat) : Option (BitVec 64 × BitVec 8) := F111_3 N a0_0 a0_1 a1 a2 a3 x2 x3 x4 x5 x6 x7 (x4 == 4)
def F111_1 (N : Nat) (a0_0 : BitVec 8) (a0_1 : BitVec 8) (a1 : BitVec 8) (a2 : BitVec 64) (a3 : Int) (x1 : Bool) : Option (BitVec 64 × BitVec 8) := bif x1 then some (0#64, 0#8) else (F144 N a0_0 a0_1 a2).bind fun y17 => F111_2 N a0_0 a0_1 a1 a2 a3 y17.1 y17.2.1 y17.2.2.1 y17.2.2.2.1 y17.2.2.2.2.1 y17.2.2.2.2.2
def F111 (N : Nat) (a0_0 : BitVec 8) (a0_1 : BitVec 8) (a1 : BitVec 8) (a2 : BitVec 64) (a3 : Int) : Option (BitVec 64 × BitVec 8) := lt (F40 a0_0 a0_1) fun y18 => F111_1 N a0_0 a0_1 a1 a2 a3 (!y18)
theorem C111 (N : Nat) (a0_0 : BitVec 8) (a0_1 : BitVec 8) (a1 : BitVec 8) (a2 : BitVec 64) (a3 : Int) (r : BitVec 64 × BitVec 8) (hr : some r = F111 N a0_0 a0_1 a1 a2 a3) : Aw.Fn Hfaa.prog 111 [agg [is (U8 a0_0), is (U8 a0_1)], is (U8 a1), is (U64 a2), is (I64 a3)] (tup [is (U64 r.1), is (U8 r.2)]) := by
  refine fn_intro Hfaa.func111 rfl rfl rfl ?_
  intro bn0 w0 H0
  refine AW_seq1 ?_
  refine AW_region ?_
  refine AL_cons (LR_box (at_tmp 0 _) (cells_agg _) rfl) (sS (sT1 rfl) sB0 (sF1 rfl)) ?_
  refine AL_cons (LR_assign (at_c (v' := U64 (0#64)) rfl) rfl) (sS sT0 sB0 sF0) ?_
  refine AL_cons (LR_assign (at_c (v' := U8 (0#8)) rfl) rfl) (sS sT0 sB0 sF0) ?_
  refine AL_nil ?_
  refine thenN ?_
  refine AW_seq1 ?_
  refine AW_cut (σ := Bool) (fun v => ⟨[(1, .inl (is (U8 a1))), (2, .inl (is (U64 a2))), (3, .inl (is (I64 a3))), (4, .inr (.inl (4, 0))), (15, .inl (is (Bl v)))], [(4, pb 23 [is (U8 a0_0), is (U8 a0_1)])]⟩) (fun v => some r = F111_1 N a0_0 a0_1 a1 a2 a3 v) ?_ ?_
  · skip
    refine AW_region ?_
    refine AL_cons (LR_loads (at_tmp 4 _) ag23 sz23 rfl rfl rfl) (sS (sT1 rfl) (sB1 rfl) sF0) ?_
    obtain ⟨y18, hy18, hr⟩ := lt_some hr
    refine AL_cons (LR_call Hfaa.func40 rfl rfl (C40 a0_0 a0_1 y18 hy18) (all_cons (at_tmp 13 _) all_nil) rfl) (sS (sA (sT1 rfl) sT0) sB0 sF0) ?_
    refine AL_cons (LR_un (at_tmp 14 _) (not_Bl y18) rfl) (sS (sT1 rfl) sB0 sF0) ?_
    refine AL_nil ?_
    exact thenN (cutLeaf (v := !y18) hr (weak0 ((sT rfl (sT rfl (sT rfl (sT rfl (sT rfl sT0)))))) (sub_keep sub_nil)))
  · rintro x1 hr
    show AW Hfaa.prog _ _ _ ⟨[(1, .inl (is (U8 a1))), (2, .inl (is (U64 a2))), (3, .inl (is (I64 a3))), (4, .inr (.inl (4, 0))), (15, .inl (is (Bl x1)))], [(4, pb 23 [is (U8 a0_0), is (U8 a0_1)])]⟩
    have hr : some r = F111_1 N a0_0 a0_1 a1 a2 a3 x1 := hr
    refine AW_condT (b := x1) rfl (fun h => ?_) (fun h => ?_)
    · have hr := hr.trans (cond_t h)
      clear h
      refine AW_seq1 ?_
      refine AW_region ?_
      refine AL_cons (LR_assign (at_c (v' := U64 (0#64)) rfl) rfl) (sS sT0 sB0 sF0) ?_
      refine AL_cons (LR_assign (at_c (v' := U8 (0#8)) rfl) rfl) (sS sT0 sB0 sF0) ?_
      refine AL_nil ?_
      refine thenN ?_
      refine AW_ret ?_
      refine thenR ?_
      obtain rfl := Option.some.inj hr
      exact res2 rfl (rvT rfl) (rvT rfl)
    · have hr := hr.trans (cond_f h)
      clear h
      refine AW_skip ?_
      refine thenN ?_
      refine AW_cut (σ := BitVec 64 × Bool × Int × Bool × Nat × Nat) (fun v => ⟨[(1, .inl (is (U8 a1))), (2, .inl (is (U64 a2))), (3, .inl (is (I64 a3))), (4, .inr (.inl (4, 0))), (10, .inr (.inl (10, 0)))], [(4, pb 23 [is (U8 a0_0), is (U8 a0_1)]), (10, pb 175 [is (U64 v.1), is (Bl v.2.1), is (I8 v.2.2.1), is (Bl v.2.2.2.1), big v.2.2.2.2.1, big v.2.2.2.2.2])]⟩) (fun v => some r = F111_2 N a0_0 a0_1 a1 a2 a3 v.1 v.2.1 v.2.2.1 v.2.2.2.1 v.2.2.2.2.1 v.2.2.2.2.2) ?_ ?_
      · skip
        refine AW_region ?_
        refine AL_cons (LR_loads (at_tmp 4 _) ag23 sz23 rfl rfl rfl) (sS (sT1 rfl) (sB1 rfl) sF0) ?_
        refine AL_cons (LR_move (at_tmp 2 _) rfl) (sS (sT1 rfl) sB0 sF0) ?_
        obtain ⟨y17, hy17, hr⟩ := bind_some hr
        refine AL_cons (LR_call Hfaa.func144 rfl rfl (C144 N a0_0 a0_1 a2 y17 hy17) (all_cons (at_tmp 16 _) (all_cons (at_tmp 17 _) all_nil)) rfl) (sS (sA (sT1 rfl) (sA (sT1 rfl) sT0)) sB0 sF0) ?_
        refine AL_cons (zl175 rfl) (sS sT0 sB0 (sF1 rfl)) ?_
        refine AL_cons (LR_store (at_tmp 10 _) (at_tmp 18 _) (cells_agg _) (onC (one_is rfl) (onC (one_is rfl) (onC (one_is rfl) (onC (one_is rfl) (onC (one_big _) (onC (one_big _) onN)))))) sz175 rfl rfl) (sS (sA (sT1 rfl) (sT1 rfl)) (sB1 rfl) sF0) ?_
        refine AL_nil ?_
        exact thenN (cutLeaf (v := (y17.1, y17.2.1, y17.2.2.1, y17.2.2.2.1, y17.2.2.2.2.1, y17.2.2.2.2.2)) hr (weak0 ((sT rfl (sT rfl (sT rfl (sT rfl (sT rfl sT0)))))) (sub_keep (sub_keep sub_nil))))
      · rintro ⟨x2, x3, x4, x5, x6, x7⟩ hr
        show AW Hfaa.prog _ _ _ ⟨[(1, .inl (is (U8 a1))), (2, .inl (is (U64 a2))), (3, .inl (is (I64 a3))), (4, .inr (.inl (4, 0))), (10, .inr (.inl (10, 0)))], [(4, pb 23 [is (U8 a0_0), is (U8 a0_1)]), (10, pb 175 [is (U64 x2), is (Bl x3), is (I8 x4), is (Bl x5), big x6, big x7])]⟩
        have hr : some r = F111_2 N a0_0 a0_1 a1 a2 a3 x2 x3 x4 x5 x6 x7 := hr
        refine AW_seq1 ?_
        refine AW_seq1 ?_
        refine AW_region ?_
        refine AL_cons (LR_fieldAddr (off := 0) (o := 2) (at_tmp 10 _) (fun b w => fa175_2 b 0 w) rfl) (sS (sT1 rfl) sB0 sF0) ?_
        refine AL_cons (LR_load (at_tmp 19 _) na110 rfl rfl) (sS (sT1 rfl) (sB1 rfl) sF0) ?_
        refine AL_nil ?_
        refine thenN ?_
        refine AW_block ?_
        refine AW_cut (σ := Bool) (fun v => ⟨[(1, .inl (is (U8 a1))), (2, .inl (is (U64 a2))), (3, .inl (is (I64 a3))), (4, .inr (.inl (4, 0))), (10, .inr (.inl (10, 0))), (20, .inl (is (I8 x4))), (21, .inl (is (Bl v)))], [(4, pb 23 [is (U8 a0_0), is (U8 a0_1)]), (10, pb 175 [is (U64 x2), is (Bl x3), is (I8 x4), is (Bl x5), big x6, big x7])]⟩) (fun v => some r = F111_3 N a0_0 a0_1 a1 a2 a3 x2 x3 x4 x5 x6 x7 v) ?_ ?_
        · skip
          refine AW_region ?_
          refine AL_cons (LR_bin (at_tmp 20 _) (at_c (v' := I8 4) rfl) (eql_I8 x4 4) rfl) (sS (sA (sT1 rfl) sT0) sB0 sF0) ?_
          refine AL_cons (LR_assign (at_tmp 22 _) rfl) (sS (sT1 rfl) sB0 sF0) ?_
          refine AL_nil ?_
          exact thenN (cutLeaf (v := x4 == 4) hr (weak0 ((sT rfl (sT rfl (sT rfl (sT rfl (sT rfl (sT rfl (sT rfl sT0)))))))) (sub_keep (sub_keep sub_nil))))
        · rintro x8 hr
          show AW Hfaa.prog _ _ _ ⟨[(1, .inl (is (U8 a1))), (2, .inl (is (U64 a2))), (3, .inl (is (I64 a3))), (4, .inr (.inl (4, 0))), (10, .inr (.inl (10, 0))), (20, .inl (is (I8 x4))), (21, .inl (is (Bl x8)))], [(4, pb 23 [is (U8 a0_0), is (U8 a0_1)]), (10, pb 175 [is (U64 x2), is (Bl x3), is (I8 x4), is (Bl x5), big x6, big x7])]⟩
          have hr : some r = F111_3 N a0_0 a0_1 a1 a2 a3 x2 x3 x4 x5 x6 x7 x8 := hr
          refine AW_condT (b := x8) rfl (fun h => ?_) (fun h => ?_)
          · have hr := hr.trans (cond_t h)
            clear h
            refine AW_seq1 ?_
            obtain ⟨y11, hy11, hr⟩ := lt_some hr
            obtain ⟨y12, hy12, hr⟩ := lt_some hr
            refine AW_draw mixed
              (lrC (LR_loads (at_tmp 4 _) ag23 sz23 rfl rfl rfl)
              (lrC (LR_call Hfaa.func66 rfl rfl (C66 a0_0 a0_1 y11 hy11) (all_cons (at_tmp 23 _) all_nil) rfl)
              (lrC (LR_loads (at_tmp 4 _) ag23 sz23 rfl rfl rfl)
              (lrC (LR_move (at_tmp 2 _) rfl)
              (lrC (LR_move (at_tmp 2 _) rfl)
              (lrC (LR_call Hfaa.func216 rfl rfl (C216 a0_0 a0_1 a2 a2 y12 hy12) (all_cons (at_tmp 25 _) (all_cons (at_tmp 26 _) (all_cons (at_tmp 27 _) all_nil))) rfl)
              (lrC (LR_assign (at_tmp 24 _) rfl)
              (lrC (LR_assign (at_tmp 28 _) rfl)
              lrN))))))))
              (by kernel_rfl)
              (saC (sS (sT1 rfl) (sB1 rfl) sF0) (saC (sS (sA (sT1 rfl) sT0) sB0 sF0) (saC (sS (sT1 rfl) (sB1 rfl) sF0) (saC (sS (sT1 rfl) sB0 sF0) (saC (sS (sT1 rfl) sB0 sF0) (saC (sS (sA (sT1 rfl) (sA (sT1 rfl) (sA (sT1 rfl) sT0))) sB0 sF0) (saC (sS (sT1 rfl) sB0 sF0) (saC (sS (sT1 rfl) sB0 sF0) saN)))))))) ?_
            refine thenN ?_
            refine AW_ret ?_
            refine blR ?_
            refine thenR ?_
            obtain rfl := Option.some.inj hr
            exact res2 rfl (rvT rfl) (rvT rfl)
          · have hr := hr.trans (cond_f h)
            clear h
            refine AW_cut (σ := Bool) (fun v => ⟨[(1, .inl (is (U8 a1))), (3, .inl (is (I64 a3))), (4, .inr (.inl (4, 0))), (10, .inr (.inl (10, 0))), (29, .inl (is (Bl v)))], [(4, pb 23 [is (U8 a0_0), is (U8 a0_1)]), (10, pb 175 [is (U64 x2), is (Bl x3), is (I8 x4), is (Bl x5), big x6, big x7])]⟩) (fun v => some r = F111_4 N a0_0 a0_1 a1 a3 x2 x3 x4 x5 x6 x7 v) ?_ ?_
            · skip
              refine AW_region ?_
              refine AL_cons (LR_bin (at_tmp 20 _) (at_c (v' := I8 3) rfl) (eql_I8 x4 3) rfl) (sS (sA (sT1 rfl) sT0) sB0 sF0) ?_
              refine AL_cons (LR_assign (at_tmp 30 _) rfl) (sS (sT1 rfl) sB0 sF0) ?_
              refine AL_nil ?_
              exact thenN (cutLeaf (v := x4 == 3) hr (weak0 ((sT rfl (sT rfl (sT rfl (sT rfl (sT rfl sT0)))))) (sub_keep (sub_keep sub_nil))))
            · rintro x9 hr
              show AW Hfaa.prog _ _ _ ⟨[(1, .inl (is (U8 a1))), (3, .inl (is (I64 a3))), (4, .inr (.inl (4, 0))), (10, .inr (.inl (10, 0))), (29, .inl (is (Bl x9)))], [(4, pb 23 [is (U8 a0_0), is (U8 a0_1)]), (10, pb 175 [is (U64 x2), is (Bl x3), is (I8 x4), is (Bl x5), big x6, big x7])]⟩
              have hr : some r = F111_4 N a0_0 a0_1 a1 a3 x2 x3 x4 x5 x6 x7 x9 := hr
              refine AW_condT (b := x9) rfl (fun h => ?_) (fun h => ?_)
              · have hr := hr.trans (cond_t h)
                clear h
                refine AW_seq1 ?_
                refine AW_region ?_
                refine AL_cons (LR_fieldAddr (off := 0) (o := 0) (at_tmp 10 _) (fun b w => fa175_0 b 0 w) rfl) (sS (sT1 rfl) sB0 sF0) ?_
                refine AL_cons (LR_load (at_tmp 31 _) na30 rfl rfl) (sS (sT1 rfl) (sB1 rfl) sF0) ?_
                refine AL_cons (LR_assign (at_tmp 32 _) rfl) (sS (sT1 rfl) sB0 sF0) ?_
                refine AL_cons (LR_assign (at_c (v' := U8 (0#8)) rfl) rfl) (sS sT0 sB0 sF0) ?_
                refine AL_nil ?_
                refine thenN ?_
                refine AW_ret ?_
                refine blR ?_
                refine thenR ?_
                obtain rfl := Option.some.inj hr
                exact res2 rfl (rvT rfl) (rvT rfl)
              · have hr := hr.trans (cond_f h)
                clear h
                refine AW_skip ?_
                refine blN ?_
                refine thenN ?_
                refine AW_cut (σ := Nat × Nat) (fun v => ⟨[(1, .inl (is (U8 a1))), (4, .inr (.inl (4, 0))), (10, .inr (.inl (10, 0))), (11, .inl (big v.1)), (12, .inl (big v.2))], [(4, pb 23 [is (U8 a0_0), is (U8 a0_1)]), (10, pb 175 [is (U64 x2), is (Bl x3), is (I8 x4), is (Bl x5), big x6, big x7])]⟩) (fun v => some r = F111_5 N a0_0 a0_1 a1 x2 x3 x4 x5 x6 x7 v.1 v.2) ?_ ?_
                · skip
                  refine AW_region ?_
                  refine AL_cons (LR_fieldAddr (off := 0) (o := 3) (at_tmp 10 _) (fun b w => fa175_3 b 0 w) rfl) (sS (sT1 rfl) sB0 sF0) ?_
                  refine AL_cons (LR_fieldAddr (off := 3) (o := 4) (at_tmp 34 _) (fun b w => fa119_1 b 3 w) rfl) (sS (sT1 rfl) sB0 sF0) ?_
                  refine AL_cons (LR_load (at_tmp 35 _) na49 rfl rfl) (sS (sT1 rfl) (sB1 rfl) sF0) ?_
                  refine AL_cons (LR_fieldAddr (off := 0) (o := 3) (at_tmp 10 _) (fun b w => fa175_3 b 0 w) rfl) (sS (sT1 rfl) sB0 sF0) ?_
                  refine AL_cons (LR_fieldAddr (off := 3) (o := 5) (at_tmp 37 _) (fun b w => fa119_2 b 3 w) rfl) (sS (sT1 rfl) sB0 sF0) ?_
                  refine AL_cons (LR_load (at_tmp 38 _) na49 rfl rfl) (sS (sT1 rfl) (sB1 rfl) sF0) ?_
                  refine AL_cons (LR_move (at_tmp 3 _) rfl) (sS (sT1 rfl) sB0 sF0) ?_
                  refine AL_cons (LR_bi2 (vx := I64 a3) (vy := I64 (-5000)) (v := I64 (max a3 (-5000))) (at_tmp 40 _) (at_c (v' := I64 (-5000)) rfl) (fun cs w => max_I .i64 a3 (-5000) cs w) rfl) (sS (sA (sT1 rfl) sT0) sB0 sF0) ?_
                  refine AL_cons (LR_bi2 (vx := I64 (max a3 (-5000))) (vy := I64 5000) (v := I64 (min (max a3 (-5000)) 5000)) (at_tmp 41 _) (at_c (v' := I64 5000) rfl) (fun cs w => min_I .i64 (max a3 (-5000)) 5000 cs w) rfl) (sS (sA (sT1 rfl) sT0) sB0 sF0) ?_
                  obtain ⟨y16, hy16, hr⟩ := bind_some hr
                  refine AL_cons (LR_call Hfaa.func208 rfl rfl (C208 N x6 x7 (min (max a3 (-5000)) 5000) y16 hy16) (all_cons (at_tmp 36 _) (all_cons (at_tmp 39 _) (all_cons (at_tmp 42 _) all_nil))) rfl) (sS (sA (sT1 rfl) (sA (sT1 rfl) (sA (sT1 rfl) sT0))) sB0 sF0) ?_
                  refine AL_cons (LR_move (at_tmp 43 _) rfl) (sS (sT1 rfl) sB0 sF0) ?_
                  refine AL_cons (LR_extract (at_tmp 33 _) rfl rfl) (sS (sT1 rfl) sB0 sF0) ?_
                  refine AL_cons (LR_extract (at_tmp 33 _) rfl rfl) (sS (sT1 rfl) sB0 sF0) ?_
                  refine AL_cons (LR_assign (at_tmp 44 _) rfl) (sS (sT1 rfl) sB0 sF0) ?_
                  refine AL_cons (LR_assign (at_tmp 45 _) rfl) (sS (sT1 rfl) sB0 sF0) ?_
                  refine AL_nil ?_
                  exact thenN (cutLeaf (v := (y16.1, y16.2)) hr (weak0 ((sT rfl (sT rfl (sT rfl (sT rfl (sT rfl sT0)))))) (sub_keep (sub_keep sub_nil))))
                · rintro ⟨x10, x11⟩ hr
                  show AW Hfaa.prog _ _ _ ⟨[(1, .inl (is (U8 a1))), (4, .inr (.inl (4, 0))), (10, .inr (.inl (10, 0))), (11, .inl (big x10)), (12, .inl (big x11))], [(4, pb 23 [is (U8 a0_0), is (U8 a0_1)]), (10, pb 175 [is (U64 x2), is (Bl x3), is (I8 x4), is (Bl x5), big x6, big x7])]⟩
                  have hr : some r = F111_5 N a0_0 a0_1 a1 x2 x3 x4 x5 x6 x7 x10 x11 := hr
                  refine AW_seq1 ?_
                  refine AW_region ?_
                  refine AL_cons (LR_loads (at_tmp 4 _) ag23 sz23 rfl rfl rfl) (sS (sT1 rfl) (sB1 rfl) sF0) ?_
                  refine AL_cons (LR_move (at_tmp 1 _) rfl) (sS (sT1 rfl) sB0 sF0) ?_
                  refine AL_cons (LR_fieldAddr (off := 0) (o := 1) (at_tmp 10 _) (fun b w => fa175_1 b 0 w) rfl) (sS (sT1 rfl) sB0 sF0) ?_
                  refine AL_cons (LR_load (at_tmp 48 _) na4 rfl rfl) (sS (sT1 rfl) (sB1 rfl) sF0) ?_
                  refine AL_cons (LR_move (at_tmp 11 _) rfl) (sS (sT1 rfl) sB0 sF0) ?_
                  refine AL_cons (LR_move (at_tmp 12 _) rfl) (sS (sT1 rfl) sB0 sF0) ?_
                  refine AL_cons (bl119 (parts_cons (i := 0) (off := 0) (at_tmp 49 _) (cells_one (one_is rfl)) rfl rfl (parts_cons (i := 1) (off := 1) (at_tmp 50 _) (cells_one (one_big _)) rfl rfl (parts_cons (i := 2) (off := 2) (at_tmp 51 _) (cells_one (one_big _)) rfl rfl parts_nil))) rfl rfl) (sS (sA (sT1 rfl) (sA (sT1 rfl) (sA (sT1 rfl) sT0))) sB0 sF0) ?_
                  obtain ⟨y15, hy15, hr⟩ := bind_some hr
                  refine AL_cons (LR_call Hfaa.func136 rfl rfl (C136 N a0_0 a0_1 a1 x3 x10 x11 y15 hy15) (all_cons (at_tmp 46 _) (all_cons (at_tmp 47 _) (all_cons (at_tmp 52 _) all_nil))) rfl) (sS (sA (sT1 rfl) (sA (sT1 rfl) (sA (sT1 rfl) sT0))) sB0 sF0) ?_
                  refine AL_cons (LR_extract (at_tmp 53 _) rfl rfl) (sS (sT1 rfl) sB0 sF0) ?_
                  refine AL_cons (LR_extract (at_tmp 53 _) rfl rfl) (sS (sT1 rfl) sB0 sF0) ?_
                  refine AL_cons (LR_assign (at_tmp 54 _) rfl) (sS (sT1 rfl) sB0 sF0) ?_
                  refine AL_cons (LR_assign (at_tmp 55 _) rfl) (sS (sT1 rfl) sB0 sF0) ?_
                  refine AL_nil ?_
                  refine thenN ?_
                  refine AW_ret ?_
                  obtain rfl := Option.some.inj hr
                  exact res2 rfl (rvT rfl) (rvT rfl)
end Go.Proofs.YfwaawGreat
