import Derived.Test.YfwaawGreatG1
import Derived.Test.YfwaawGreatG2
import Derived.Test.YfwaawGreatG25
import Derived.Test.YfwaawGreatG26
import Derived.Test.YfwaawGreatG28
namespace Go.Proofs.YfwaawGreat
open Go.Aw
set_option linter.unusedVariables false
set_option maxRecDepth 100000
set_option maxHeartbeats 1000000
/-- soft.Mul -/
def F157_1 (N : Nat) (x1 : BitVec 64) : Option (BitVec 64) := some x1
def F157 (N : Nat) (a0_0 : BitVec 8) (a0_1 : BitVec 8) (a1 : BitVec 8) (a2 : BitVec 64) (a3 : BitVec 64) : Option (BitVec 64) := (F190 N a0_0 a0_1 a1 a2 a3).bind fun y2 => F157_1 N y2.1
theorem C157 (N : Nat) (a0_0 : BitVec 8) (a0_1 : BitVec 8) (a1 : BitVec 8) (a2 : BitVec 64) (a3 : BitVec 64) (r : BitVec 64) (hr : some r = F157 N a0_0 a0_1 a1 a2 a3) : Aw.Fn Hfaa.prog 157 [agg [is (U8 a0_0), is (U8 a0_1)], is (U8 a1), is (U64 a2), is (U64 a3)] (is (U64 r)) := by
  refine fn_intro Hfaa.func157 rfl rfl rfl ?_
  intro bn0 w0 H0
  refine AW_seq1 ?_
  refine AW_region ?_
  refine AL_cons (LR_box (at_tmp 0 _) (cells_agg _) rfl) (sS (sT1 rfl) sB0 (sF1 rfl)) ?_
  refine AL_cons (LR_assign (at_c (v' := U64 (0#64)) rfl) rfl) (sS sT0 sB0 sF0) ?_
  refine AL_nil ?_
  refine thenN ?_
  refine AW_cut (σ := BitVec 64) (fun v => ⟨[(9, .inl (is (U64 v)))], []⟩) (fun v => some r = F157_1 N v) ?_ ?_
  · skip
    refine AW_region ?_
    refine AL_cons (LR_loads (at_tmp 4 _) ag23 sz23 rfl rfl rfl) (sS (sT1 rfl) (sB1 rfl) sF0) ?_
    refine AL_cons (LR_move (at_tmp 1 _) rfl) (sS (sT1 rfl) sB0 sF0) ?_
    refine AL_cons (LR_move (at_tmp 2 _) rfl) (sS (sT1 rfl) sB0 sF0) ?_
    refine AL_cons (LR_move (at_tmp 3 _) rfl) (sS (sT1 rfl) sB0 sF0) ?_
    obtain ⟨y2, hy2, hr⟩ := bind_some hr
    refine AL_cons (LR_call Hfaa.func190 rfl rfl (C190 N a0_0 a0_1 a1 a2 a3 y2 hy2) (all_cons (at_tmp 12 _) (all_cons (at_tmp 13 _) (all_cons (at_tmp 14 _) (all_cons (at_tmp 15 _) all_nil)))) rfl) (sS (sA (sT1 rfl) (sA (sT1 rfl) (sA (sT1 rfl) (sA (sT1 rfl) sT0)))) sB0 sF0) ?_
    refine AL_cons (LR_move (at_tmp 16 _) rfl) (sS (sT1 rfl) sB0 sF0) ?_
    refine AL_cons (LR_extract (at_tmp 11 _) rfl rfl) (sS (sT1 rfl) sB0 sF0) ?_
    refine AL_cons (LR_extract (at_tmp 11 _) rfl rfl) (sS (sT1 rfl) sB0 sF0) ?_
    refine AL_cons (LR_assign (at_tmp 17 _) rfl) (sS (sT1 rfl) sB0 sF0) ?_
    refine AL_cons (LR_assign (at_tmp 18 _) rfl) (sS (sT1 rfl) sB0 sF0) ?_
    refine AL_nil ?_
    exact thenN (cutLeaf (v := y2.1) hr (weak0 ((sT rfl sT0)) (sub_drop sub_nil)))
  · rintro x1 hr
    show AW Hfaa.prog _ _ _ ⟨[(9, .inl (is (U64 x1)))], []⟩
    have hr : some r = F157_1 N x1 := hr
    refine AW_seq1 ?_
    refine AW_region ?_
    refine AL_cons (LR_move (at_tmp 9 _) rfl) (sS (sT1 rfl) sB0 sF0) ?_
    refine AL_cons (LR_assign (at_tmp 19 _) rfl) (sS (sT1 rfl) sB0 sF0) ?_
    refine AL_nil ?_
    refine thenN ?_
    refine AW_ret ?_
    obtain rfl := Option.some.inj hr
    exact res1 rfl (rvT rfl)
/-- wide.divHalf -/
def F372_3 (N : Nat) (a0 : BitVec 64) (a1 : BitVec 64) (a2 : BitVec 64) (x5 : BitVec 64) : Option (BitVec 64 × BitVec 64) := some ((x5, ((a0 <<< 32) + a1) - (x5 * a2)))
def F372_8 (N : Nat) (a0 : BitVec 64) (a1 : BitVec 64) (a2 : BitVec 64) (x1 : BitVec 64) (x2 : BitVec 64) (x9 : BitVec 64) (x10 : BitVec 64) (x11 : Bool) : Option ((BitVec 64 × BitVec 64) ⊕ (BitVec 64 × BitVec 64)) := bif x11 then (F372_3 N a0 a1 a2 x9).map Sum.inr else some (.inl (x9, x10))
def F372_7 (N : Nat) (a0 : BitVec 64) (a1 : BitVec 64) (a2 : BitVec 64) (x1 : BitVec 64) (x2 : BitVec 64) (x9 : BitVec 64) (x10 : BitVec 64) : Option ((BitVec 64 × BitVec 64) ⊕ (BitVec 64 × BitVec 64)) := F372_8 N a0 a1 a2 x1 x2 x9 x10 (decide ((4294967295#64).toNat < x10.toNat))
def F372_6 (N : Nat) (a0 : BitVec 64) (a1 : BitVec 64) (a2 : BitVec 64) (x1 : BitVec 64) (x2 : BitVec 64) (x7 : BitVec 64) (x9 : BitVec 64) : Option ((BitVec 64 × BitVec 64) ⊕ (BitVec 64 × BitVec 64)) := F372_7 N a0 a1 a2 x1 x2 x9 (x7 + x1)
def F372_5 (N : Nat) (a0 : BitVec 64) (a1 : BitVec 64) (a2 : BitVec 64) (x1 : BitVec 64) (x2 : BitVec 64) (x6 : BitVec 64) (x7 : BitVec 64) (x8 : Bool) : Option ((BitVec 64 × BitVec 64) ⊕ (BitVec 64 × BitVec 64)) := bif x8 then F372_6 N a0 a1 a2 x1 x2 x7 (x6 - (1#64)) else (F372_3 N a0 a1 a2 x6).map Sum.inr
def F372_L4b (N : Nat) (a0 : BitVec 64) (a1 : BitVec 64) (a2 : BitVec 64) (x1 : BitVec 64) (x2 : BitVec 64) (x6 : BitVec 64) (x7 : BitVec 64) : Option ((BitVec 64 × BitVec 64) ⊕ (BitVec 64 × BitVec 64)) := F372_5 N a0 a1 a2 x1 x2 x6 x7 ((decide ((4294967295#64).toNat < x6.toNat)) || (decide (((x7 <<< 32) ||| a1).toNat < (x6 * x2).toNat)))
def F372_L4 (N : Nat) (a0 : BitVec 64) (a1 : BitVec 64) (a2 : BitVec 64) (x1 : BitVec 64) (x2 : BitVec 64) : (BitVec 64 × BitVec 64) → Option ((BitVec 64 × BitVec 64) ⊕ (BitVec 64 × BitVec 64)) := fun v => F372_L4b N a0 a1 a2 x1 x2 v.1 v.2
def F372_2 (N : Nat) (a0 : BitVec 64) (a1 : BitVec 64) (a2 : BitVec 64) (x1 : BitVec 64) (x2 : BitVec 64) (x3 : BitVec 64) (x4 : BitVec 64) : Option (BitVec 64 × BitVec 64) := iterL (F372_L4 N a0 a1 a2 x1 x2) N (x3, x4)
def F372_1 (N : Nat) (a0 : BitVec 64) (a1 : BitVec 64) (a2 : BitVec 64) (x1 : BitVec 64) (x2 : BitVec 64) : Option (BitVec 64 × BitVec 64) := bif x1 != 0#64 then bif x1 != 0#64 then F372_2 N a0 a1 a2 x1 x2 (a0 / x1) (a0 % x1) else none else none
def F372 (N : Nat) (a0 : BitVec 64) (a1 : BitVec 64) (a2 : BitVec 64) : Option (BitVec 64 × BitVec 64) := F372_1 N a0 a1 a2 (a2 >>> 32) (a2 &&& (4294967295#64))
theorem C372 (N : Nat) (a0 : BitVec 64) (a1 : BitVec 64) (a2 : BitVec 64) (r : BitVec 64 × BitVec 64) (hr : some r = F372 N a0 a1 a2) : Aw.Fn Hfaa.prog 372 [is (U64 a0), is (U64 a1), is (U64 a2)] (tup [is (U64 r.1), is (U64 r.2)]) := by
  refine fn_intro Hfaa.func372 rfl rfl rfl ?_
  intro bn0 w0 H0
  refine AW_seq1 ?_
  refine AW_region ?_
  refine AL_cons (LR_assign (at_c (v' := U64 (0#64)) rfl) rfl) (sS sT0 sB0 sF0) ?_
  refine AL_cons (LR_assign (at_c (v' := U64 (0#64)) rfl) rfl) (sS sT0 sB0 sF0) ?_
  refine AL_nil ?_
  refine thenN ?_
  refine AW_cut (σ := BitVec 64 × BitVec 64) (fun v => ⟨[(0, .inl (is (U64 a0))), (1, .inl (is (U64 a1))), (2, .inl (is (U64 a2))), (8, .inl (is (U64 v.1))), (9, .inl (is (U64 v.2)))], []⟩) (fun v => some r = F372_1 N a0 a1 a2 v.1 v.2) ?_ ?_
  · skip
    refine AW_region ?_
    refine AL_cons (LR_move (at_tmp 2 _) rfl) (sS (sT1 rfl) sB0 sF0) ?_
    refine AL_cons (LR_bin (at_tmp 11 _) (at_c (v' := U64 (32#64)) rfl) (shr_U64 a2 ((32#64).toNat : Int) (Int.natCast_nonneg _)) rfl) (sS (sA (sT1 rfl) sT0) sB0 sF0) ?_
    refine AL_cons (LR_move (at_tmp 2 _) rfl) (sS (sT1 rfl) sB0 sF0) ?_
    refine AL_cons (LR_bin (at_tmp 13 _) (at_c (v' := U64 (4294967295#64)) rfl) (and_U64 a2 (4294967295#64)) rfl) (sS (sA (sT1 rfl) sT0) sB0 sF0) ?_
    refine AL_cons (LR_assign (at_tmp 12 _) rfl) (sS (sT1 rfl) sB0 sF0) ?_
    refine AL_cons (LR_assign (at_tmp 14 _) rfl) (sS (sT1 rfl) sB0 sF0) ?_
    refine AL_nil ?_
    exact thenN (cutLeaf (v := (a2 >>> 32, a2 &&& (4294967295#64))) hr (weak0 ((sT rfl (sT rfl (sT rfl (sT rfl (sT rfl sT0)))))) sub_nil))
  · rintro ⟨x1, x2⟩ hr
    show AW Hfaa.prog _ _ _ ⟨[(0, .inl (is (U64 a0))), (1, .inl (is (U64 a1))), (2, .inl (is (U64 a2))), (8, .inl (is (U64 x1))), (9, .inl (is (U64 x2)))], []⟩
    have hr : some r = F372_1 N a0 a1 a2 x1 x2 := hr
    refine AW_cut (σ := BitVec 64 × BitVec 64) (fun v => ⟨[(0, .inl (is (U64 a0))), (1, .inl (is (U64 a1))), (2, .inl (is (U64 a2))), (8, .inl (is (U64 x1))), (9, .inl (is (U64 x2))), (6, .inl (is (U64 v.1))), (10, .inl (is (U64 v.2)))], []⟩) (fun v => some r = F372_2 N a0 a1 a2 x1 x2 v.1 v.2) ?_ ?_
    · skip
      obtain ⟨hg3, hr⟩ := guard_some hr
      obtain ⟨hg4, hr⟩ := guard_some hr
      refine AW_draw mixed
        (lrC (LR_move (at_tmp 0 _) rfl)
        (lrC (LR_move (at_tmp 8 _) rfl)
        (lrC (LR_bin (at_tmp 15 _) (at_tmp 16 _) (quo_U64 a0 x1 (dne hg3)) rfl)
        (lrC (LR_move (at_tmp 0 _) rfl)
        (lrC (LR_move (at_tmp 8 _) rfl)
        (lrC (LR_bin (at_tmp 18 _) (at_tmp 19 _) (rem_U64 a0 x1 (dne hg4)) rfl)
        (lrC (LR_assign (at_tmp 17 _) rfl)
        (lrC (LR_assign (at_tmp 20 _) rfl)
        lrN))))))))
        (by kernel_rfl)
        (saC (sS (sT1 rfl) sB0 sF0) (saC (sS (sT1 rfl) sB0 sF0) (saC (sS (sA (sT1 rfl) (sT1 rfl)) sB0 sF0) (saC (sS (sT1 rfl) sB0 sF0) (saC (sS (sT1 rfl) sB0 sF0) (saC (sS (sA (sT1 rfl) (sT1 rfl)) sB0 sF0) (saC (sS (sT1 rfl) sB0 sF0) (saC (sS (sT1 rfl) sB0 sF0) saN)))))))) ?_
      exact thenN (cutLeaf (v := (a0 / x1, a0 % x1)) hr (weak0 ((sT rfl (sT rfl (sT rfl (sT rfl (sT rfl (sT rfl (sT rfl sT0)))))))) sub_nil))
    · rintro ⟨x3, x4⟩ hr
      show AW Hfaa.prog _ _ _ ⟨[(0, .inl (is (U64 a0))), (1, .inl (is (U64 a1))), (2, .inl (is (U64 a2))), (8, .inl (is (U64 x1))), (9, .inl (is (U64 x2))), (6, .inl (is (U64 x3))), (10, .inl (is (U64 x4)))], []⟩
      have hr : some r = F372_2 N a0 a1 a2 x1 x2 x3 x4 := hr
      refine AW_cut (σ := BitVec 64) (fun v => ⟨[(0, .inl (is (U64 a0))), (1, .inl (is (U64 a1))), (2, .inl (is (U64 a2))), (6, .inl (is (U64 v)))], []⟩) (fun v => some r = F372_3 N a0 a1 a2 v) ?_ ?_
      · skip
        refine AW_block ?_
        refine AW_iterR (σ := BitVec 64 × BitVec 64) (r := r) (x0 := (x3, x4)) (emb := fun v => ⟨[(0, .inl (is (U64 a0))), (1, .inl (is (U64 a1))), (2, .inl (is (U64 a2))), (8, .inl (is (U64 x1))), (9, .inl (is (U64 x2))), (6, .inl (is (U64 v.1))), (10, .inl (is (U64 v.2)))], []⟩) ?_ hr ?_
        · exact weak0 ((sT rfl (sT rfl (sT rfl (sT rfl (sT rfl (sT rfl (sT rfl sT0)))))))) sub_nil
        rintro ⟨x6, x7⟩ out2 hr
        show AW Hfaa.prog _ _ _ ⟨[(0, .inl (is (U64 a0))), (1, .inl (is (U64 a1))), (2, .inl (is (U64 a2))), (8, .inl (is (U64 x1))), (9, .inl (is (U64 x2))), (6, .inl (is (U64 x6))), (10, .inl (is (U64 x7)))], []⟩
        have hr : some out2 = F372_L4b N a0 a1 a2 x1 x2 x6 x7 := hr
        refine AW_seq1 ?_
        refine AW_cut (σ := Bool) (fun v => ⟨[(0, .inl (is (U64 a0))), (1, .inl (is (U64 a1))), (2, .inl (is (U64 a2))), (8, .inl (is (U64 x1))), (9, .inl (is (U64 x2))), (6, .inl (is (U64 x6))), (10, .inl (is (U64 x7))), (32, .inl (is (Bl v)))], []⟩) (fun v => some out2 = F372_5 N a0 a1 a2 x1 x2 x6 x7 v) ?_ ?_
        · skip
          refine AW_region ?_
          refine AL_cons (LR_move (at_tmp 6 _) rfl) (sS (sT1 rfl) sB0 sF0) ?_
          refine AL_cons (LR_bin (at_tmp 21 _) (at_c (v' := U64 (4294967295#64)) rfl) (gtr_U64 x6 (4294967295#64)) rfl) (sS (sA (sT1 rfl) sT0) sB0 sF0) ?_
          refine AL_cons (LR_move (at_tmp 22 _) rfl) (sS (sT1 rfl) sB0 sF0) ?_
          refine AL_cutAt 9 ⟨[(0, .inl (is (U64 a0))), (1, .inl (is (U64 a1))), (2, .inl (is (U64 a2))), (8, .inl (is (U64 x1))), (9, .inl (is (U64 x2))), (6, .inl (is (U64 x6))), (10, .inl (is (U64 x7))), (21, .inl (is (U64 x6))), (22, .inl (is (Bl (decide ((4294967295#64).toNat < x6.toNat))))), (23, .inl (is (Bl (decide ((4294967295#64).toNat < x6.toNat))))), (32, .inl (is (Bl ((decide ((4294967295#64).toNat < x6.toNat)) || (decide (((x7 <<< 32) ||| a1).toNat < (x6 * x2).toNat))))))], []⟩ ?_ ?_
          · cases hb : decide ((4294967295#64).toNat < x6.toNat)
            · skip
              refine AL_cons (LR_on rfl rfl rfl (LR_move (at_tmp 6 _) rfl)) (sS (sT rfl (sT1 rfl)) sB0 sF0) ?_
              refine AL_cons (LR_on rfl rfl rfl (LR_move (at_tmp 9 _) rfl)) (sS (sT rfl (sT1 rfl)) sB0 sF0) ?_
              refine AL_cons (LR_on rfl rfl rfl (LR_bin (at_tmp 24 _) (at_tmp 25 _) (mul_U64 x6 x2) rfl)) (sS (sT rfl (sA (sT1 rfl) (sT1 rfl))) sB0 sF0) ?_
              refine AL_cons (LR_on rfl rfl rfl (LR_move (at_tmp 10 _) rfl)) (sS (sT rfl (sT1 rfl)) sB0 sF0) ?_
              refine AL_cons (LR_on rfl rfl rfl (LR_bin (at_tmp 27 _) (at_c (v' := U64 (32#64)) rfl) (shl_U64 x7 ((32#64).toNat : Int) (Int.natCast_nonneg _)) rfl)) (sS (sT rfl (sA (sT1 rfl) sT0)) sB0 sF0) ?_
              refine AL_cons (LR_on rfl rfl rfl (LR_move (at_tmp 1 _) rfl)) (sS (sT rfl (sT1 rfl)) sB0 sF0) ?_
              refine AL_cons (LR_on rfl rfl rfl (LR_bin (at_tmp 28 _) (at_tmp 29 _) (or_U64 (x7 <<< 32) a1) rfl)) (sS (sT rfl (sA (sT1 rfl) (sT1 rfl))) sB0 sF0) ?_
              refine AL_cons (LR_on rfl rfl rfl (LR_bin (at_tmp 26 _) (at_tmp 30 _) (gtr_U64 (x6 * x2) ((x7 <<< 32) ||| a1)) rfl)) (sS (sT rfl (sA (sT1 rfl) (sT1 rfl))) sB0 sF0) ?_
              refine AL_cons (LR_pick (b := false) (at_tmp 23 _) (at_c (v' := Bl true) rfl) (at_tmp 31 _) rfl) (sS (sA (sT1 rfl) (sA sT0 (sT1 rfl))) sB0 sF0) ?_
              exact AL_nil ⟨rfl, weak0 ((sT rfl (sT rfl (sT rfl (sT rfl (sT rfl (sT rfl (sT rfl (sT rfl (sT rfl (sT rfl (sT rfl sT0)))))))))))) sub_nil⟩
            · skip
              refine AL_cons (LR_off (b := true) rfl rfl rfl rfl) (sS (sT1 rfl) sB0 sF0) ?_
              refine AL_cons (LR_off (b := true) rfl rfl rfl rfl) (sS (sT1 rfl) sB0 sF0) ?_
              refine AL_cons (LR_off (b := true) rfl rfl rfl rfl) (sS (sT1 rfl) sB0 sF0) ?_
              refine AL_cons (LR_off (b := true) rfl rfl rfl rfl) (sS (sT1 rfl) sB0 sF0) ?_
              refine AL_cons (LR_off (b := true) rfl rfl rfl rfl) (sS (sT1 rfl) sB0 sF0) ?_
              refine AL_cons (LR_off (b := true) rfl rfl rfl rfl) (sS (sT1 rfl) sB0 sF0) ?_
              refine AL_cons (LR_off (b := true) rfl rfl rfl rfl) (sS (sT1 rfl) sB0 sF0) ?_
              refine AL_cons (LR_off (b := true) rfl rfl rfl rfl) (sS (sT1 rfl) sB0 sF0) ?_
              refine AL_cons (LR_pick (b := true) (at_tmp 23 _) (at_c (v' := Bl true) rfl) (at_tmp 31 _) rfl) (sS (sA (sT1 rfl) (sA sT0 (sT1 rfl))) sB0 sF0) ?_
              exact AL_nil ⟨rfl, weak0 ((sT rfl (sT rfl (sT rfl (sT rfl (sT rfl (sT rfl (sT rfl (sT rfl (sT rfl (sT rfl (sT rfl sT0)))))))))))) sub_nil⟩
          refine AL_nil ?_
          exact thenN (cutLeaf (v := (decide ((4294967295#64).toNat < x6.toNat)) || (decide (((x7 <<< 32) ||| a1).toNat < (x6 * x2).toNat))) hr (weak0 ((sT rfl (sT rfl (sT rfl (sT rfl (sT rfl (sT rfl (sT rfl (sT rfl sT0))))))))) sub_nil))
        · rintro x8 hr
          show AW Hfaa.prog _ _ _ ⟨[(0, .inl (is (U64 a0))), (1, .inl (is (U64 a1))), (2, .inl (is (U64 a2))), (8, .inl (is (U64 x1))), (9, .inl (is (U64 x2))), (6, .inl (is (U64 x6))), (10, .inl (is (U64 x7))), (32, .inl (is (Bl x8)))], []⟩
          have hr : some out2 = F372_5 N a0 a1 a2 x1 x2 x6 x7 x8 := hr
          refine AW_condT (b := x8) rfl (fun h => ?_) (fun h => ?_)
          · have hr := hr.trans (cond_t h)
            clear h
            refine AW_skip ?_
            refine thenN ?_
            refine AW_block ?_
            refine AW_cut (σ := BitVec 64) (fun v => ⟨[(0, .inl (is (U64 a0))), (1, .inl (is (U64 a1))), (2, .inl (is (U64 a2))), (8, .inl (is (U64 x1))), (9, .inl (is (U64 x2))), (6, .inl (is (U64 v))), (10, .inl (is (U64 x7)))], []⟩) (fun v => some out2 = F372_6 N a0 a1 a2 x1 x2 x7 v) ?_ ?_
            · skip
              refine AW_region ?_
              refine AL_cons (LR_move (at_tmp 6 _) rfl) (sS (sT1 rfl) sB0 sF0) ?_
              refine AL_cons (LR_bin (at_tmp 33 _) (at_c (v' := U64 (1#64)) rfl) (sub_U64 x6 (1#64)) rfl) (sS (sA (sT1 rfl) sT0) sB0 sF0) ?_
              refine AL_cons (LR_assign (at_tmp 34 _) rfl) (sS (sT1 rfl) sB0 sF0) ?_
              refine AL_nil ?_
              exact thenN (cutLeaf (v := x6 - (1#64)) hr (weak0 ((sT rfl (sT rfl (sT rfl (sT rfl (sT rfl (sT rfl (sT rfl sT0)))))))) sub_nil))
            · rintro x9 hr
              show AW Hfaa.prog _ _ _ ⟨[(0, .inl (is (U64 a0))), (1, .inl (is (U64 a1))), (2, .inl (is (U64 a2))), (8, .inl (is (U64 x1))), (9, .inl (is (U64 x2))), (6, .inl (is (U64 x9))), (10, .inl (is (U64 x7)))], []⟩
              have hr : some out2 = F372_6 N a0 a1 a2 x1 x2 x7 x9 := hr
              refine AW_cut (σ := BitVec 64) (fun v => ⟨[(0, .inl (is (U64 a0))), (1, .inl (is (U64 a1))), (2, .inl (is (U64 a2))), (8, .inl (is (U64 x1))), (9, .inl (is (U64 x2))), (6, .inl (is (U64 x9))), (10, .inl (is (U64 v)))], []⟩) (fun v => some out2 = F372_7 N a0 a1 a2 x1 x2 x9 v) ?_ ?_
              · skip
                refine AW_region ?_
                refine AL_cons (LR_move (at_tmp 10 _) rfl) (sS (sT1 rfl) sB0 sF0) ?_
                refine AL_cons (LR_move (at_tmp 8 _) rfl) (sS (sT1 rfl) sB0 sF0) ?_
                refine AL_cons (LR_bin (at_tmp 35 _) (at_tmp 36 _) (add_U64 x7 x1) rfl) (sS (sA (sT1 rfl) (sT1 rfl)) sB0 sF0) ?_
                refine AL_cons (LR_assign (at_tmp 37 _) rfl) (sS (sT1 rfl) sB0 sF0) ?_
                refine AL_nil ?_
                exact thenN (cutLeaf (v := x7 + x1) hr (weak0 ((sT rfl (sT rfl (sT rfl (sT rfl (sT rfl (sT rfl (sT rfl sT0)))))))) sub_nil))
              · rintro x10 hr
                show AW Hfaa.prog _ _ _ ⟨[(0, .inl (is (U64 a0))), (1, .inl (is (U64 a1))), (2, .inl (is (U64 a2))), (8, .inl (is (U64 x1))), (9, .inl (is (U64 x2))), (6, .inl (is (U64 x9))), (10, .inl (is (U64 x10)))], []⟩
                have hr : some out2 = F372_7 N a0 a1 a2 x1 x2 x9 x10 := hr
                refine AW_cut (σ := Bool) (fun v => ⟨[(0, .inl (is (U64 a0))), (1, .inl (is (U64 a1))), (2, .inl (is (U64 a2))), (8, .inl (is (U64 x1))), (9, .inl (is (U64 x2))), (6, .inl (is (U64 x9))), (10, .inl (is (U64 x10))), (39, .inl (is (Bl v)))], []⟩) (fun v => some out2 = F372_8 N a0 a1 a2 x1 x2 x9 x10 v) ?_ ?_
                · skip
                  refine AW_region ?_
                  refine AL_cons (LR_move (at_tmp 10 _) rfl) (sS (sT1 rfl) sB0 sF0) ?_
                  refine AL_cons (LR_bin (at_tmp 38 _) (at_c (v' := U64 (4294967295#64)) rfl) (gtr_U64 x10 (4294967295#64)) rfl) (sS (sA (sT1 rfl) sT0) sB0 sF0) ?_
                  refine AL_nil ?_
                  exact thenN (cutLeaf (v := decide ((4294967295#64).toNat < x10.toNat)) hr (weak0 ((sT rfl (sT rfl (sT rfl (sT rfl (sT rfl (sT rfl (sT rfl (sT rfl sT0))))))))) sub_nil))
                · rintro x11 hr
                  show AW Hfaa.prog _ _ _ ⟨[(0, .inl (is (U64 a0))), (1, .inl (is (U64 a1))), (2, .inl (is (U64 a2))), (8, .inl (is (U64 x1))), (9, .inl (is (U64 x2))), (6, .inl (is (U64 x9))), (10, .inl (is (U64 x10))), (39, .inl (is (Bl x11)))], []⟩
                  have hr : some out2 = F372_8 N a0 a1 a2 x1 x2 x9 x10 x11 := hr
                  refine AW_condT (b := x11) rfl (fun h => ?_) (fun h => ?_)
                  · have hr := hr.trans (cond_t h)
                    clear h
                    refine AW_exit ?_
                    refine blO (by decide) ?_
                    obtain ⟨r', hro, hr⟩ := map_inr hr
                    refine thenX (loopOut hro (fun he => ?_))
                    rw [he] at hr
                    refine blH ?_
                    exact thenN (cutLeaf (v := x9) hr (weak0 ((sT rfl (sT rfl (sT rfl (sT rfl sT0))))) sub_nil))
                  · have hr := hr.trans (cond_f h)
                    clear h
                    refine AW_skip ?_
                    refine blN ?_
                    exact thenN (loopNext (x' := (x9, x10)) hr (weak0 ((sT rfl (sT rfl (sT rfl (sT rfl (sT rfl (sT rfl (sT rfl sT0)))))))) sub_nil))
          · have hr := hr.trans (cond_f h)
            clear h
            refine AW_exit ?_
            refine thenX ?_
            obtain ⟨r', hro, hr⟩ := map_inr hr
            refine thenX (loopOut hro (fun he => ?_))
            rw [he] at hr
            refine blH ?_
            exact thenN (cutLeaf (v := x6) hr (weak0 ((sT rfl (sT rfl (sT rfl (sT rfl sT0))))) sub_nil))
      · rintro x5 hr
        show AW Hfaa.prog _ _ _ ⟨[(0, .inl (is (U64 a0))), (1, .inl (is (U64 a1))), (2, .inl (is (U64 a2))), (6, .inl (is (U64 x5)))], []⟩
        have hr : some r = F372_3 N a0 a1 a2 x5 := hr
        refine AW_seq1 ?_
        refine AW_region ?_
        refine AL_cons (LR_move (at_tmp 6 _) rfl) (sS (sT1 rfl) sB0 sF0) ?_
        refine AL_cons (LR_move (at_tmp 0 _) rfl) (sS (sT1 rfl) sB0 sF0) ?_
        refine AL_cons (LR_bin (at_tmp 41 _) (at_c (v' := U64 (32#64)) rfl) (shl_U64 a0 ((32#64).toNat : Int) (Int.natCast_nonneg _)) rfl) (sS (sA (sT1 rfl) sT0) sB0 sF0) ?_
        refine AL_cons (LR_move (at_tmp 1 _) rfl) (sS (sT1 rfl) sB0 sF0) ?_
        refine AL_cons (LR_bin (at_tmp 42 _) (at_tmp 43 _) (add_U64 (a0 <<< 32) a1) rfl) (sS (sA (sT1 rfl) (sT1 rfl)) sB0 sF0) ?_
        refine AL_cons (LR_move (at_tmp 6 _) rfl) (sS (sT1 rfl) sB0 sF0) ?_
        refine AL_cons (LR_move (at_tmp 2 _) rfl) (sS (sT1 rfl) sB0 sF0) ?_
        refine AL_cons (LR_bin (at_tmp 45 _) (at_tmp 46 _) (mul_U64 x5 a2) rfl) (sS (sA (sT1 rfl) (sT1 rfl)) sB0 sF0) ?_
        refine AL_cons (LR_bin (at_tmp 44 _) (at_tmp 47 _) (sub_U64 ((a0 <<< 32) + a1) (x5 * a2)) rfl) (sS (sA (sT1 rfl) (sT1 rfl)) sB0 sF0) ?_
        refine AL_cons (LR_assign (at_tmp 40 _) rfl) (sS (sT1 rfl) sB0 sF0) ?_
        refine AL_cons (LR_assign (at_tmp 48 _) rfl) (sS (sT1 rfl) sB0 sF0) ?_
        refine AL_nil ?_
        refine thenN ?_
        refine AW_ret ?_
        obtain rfl := Option.some.inj hr
        exact res2 rfl (rvT rfl) (rvT rfl)
/-- wide.Div -/
def F280_6 (N : Nat) (x2 : BitVec 8) (x6 : BitVec 64) (x8 : BitVec 64) (x9 : BitVec 64) : Option (BitVec 64 × BitVec 64 × Bool) := some (((x6 <<< 32) ||| x9, x8 >>> x2.toNat, true))
def F280_5 (N : Nat) (x2 : BitVec 8) (x3 : BitVec 64) (x4 : BitVec 64) (x5 : BitVec 64) (x6 : BitVec 64) (x7 : BitVec 64) : Option (BitVec 64 × BitVec 64 × Bool) := (F372 N x7 (x5 &&& (4294967295#64)) x3).bind fun y5 => F280_6 N x2 x6 y5.2 y5.1
def F280_4 (N : Nat) (x2 : BitVec 8) (x3 : BitVec 64) (x4 : BitVec 64) (x5 : BitVec 64) : Option (BitVec 64 × BitVec 64 × Bool) := (F372 N x4 (x5 >>> 32) x3).bind fun y6 => F280_5 N x2 x3 x4 x5 y6.1 y6.2
def F280_3 (N : Nat) (a0_0 : BitVec 64) (a0_1 : BitVec 64) (x2 : BitVec 8) (x3 : BitVec 64) : Option (BitVec 64 × BitVec 64 × Bool) := lt (F206 a0_0 a0_1 x2) fun y7 => F280_4 N x2 x3 y7.1 y7.2
def F280_2 (N : Nat) (a0_0 : BitVec 64) (a0_1 : BitVec 64) (a1 : BitVec 64) (x2 : BitVec 8) : Option (BitVec 64 × BitVec 64 × Bool) := F280_3 N a0_0 a0_1 x2 (a1 <<< x2.toNat)
def F280_1 (N : Nat) (a0_0 : BitVec 64) (a0_1 : BitVec 64) (a1 : BitVec 64) (x1 : Bool) : Option (BitVec 64 × BitVec 64 × Bool) := bif x1 then some (0#64, 0#64, false) else (F164 N a1).bind fun y8 => F280_2 N a0_0 a0_1 a1 y8
def F280 (N : Nat) (a0_0 : BitVec 64) (a0_1 : BitVec 64) (a1 : BitVec 64) : Option (BitVec 64 × BitVec 64 × Bool) := F280_1 N a0_0 a0_1 a1 (decide (a1.toNat ≤ a0_0.toNat))
theorem C280 (N : Nat) (a0_0 : BitVec 64) (a0_1 : BitVec 64) (a1 : BitVec 64) (r : BitVec 64 × BitVec 64 × Bool) (hr : some r = F280 N a0_0 a0_1 a1) : Aw.Fn Hfaa.prog 280 [agg [is (U64 a0_0), is (U64 a0_1)], is (U64 a1)] (tup [is (U64 r.1), is (U64 r.2.1), is (Bl r.2.2)]) := by
  refine fn_intro Hfaa.func280 rfl rfl rfl ?_
  intro bn0 w0 H0
  refine AW_seq1 ?_
  refine AW_region ?_
  refine AL_cons (LR_box (at_tmp 0 _) (cells_agg _) rfl) (sS (sT1 rfl) sB0 (sF1 rfl)) ?_
  refine AL_cons (LR_assign (at_c (v' := U64 (0#64)) rfl) rfl) (sS sT0 sB0 sF0) ?_
  refine AL_cons (LR_assign (at_c (v' := U64 (0#64)) rfl) rfl) (sS sT0 sB0 sF0) ?_
  refine AL_cons (LR_assign (at_c (v' := Bl false) rfl) rfl) (sS sT0 sB0 sF0) ?_
  refine AL_nil ?_
  refine thenN ?_
  refine AW_seq1 ?_
  refine AW_cut (σ := Bool) (fun v => ⟨[(1, .inl (is (U64 a1))), (2, .inr (.inl (2, 0))), (14, .inl (is (Bl v)))], [(2, pb 42 [is (U64 a0_0), is (U64 a0_1)])]⟩) (fun v => some r = F280_1 N a0_0 a0_1 a1 v) ?_ ?_
  · skip
    refine AW_region ?_
    refine AL_cons (LR_fieldAddr (off := 0) (o := 0) (at_tmp 2 _) (fun b w => fa42_0 b 0 w) rfl) (sS (sT1 rfl) sB0 sF0) ?_
    refine AL_cons (LR_load (at_tmp 11 _) na30 rfl rfl) (sS (sT1 rfl) (sB1 rfl) sF0) ?_
    refine AL_cons (LR_move (at_tmp 1 _) rfl) (sS (sT1 rfl) sB0 sF0) ?_
    refine AL_cons (LR_bin (at_tmp 12 _) (at_tmp 13 _) (geq_U64 a0_0 a1) rfl) (sS (sA (sT1 rfl) (sT1 rfl)) sB0 sF0) ?_
    refine AL_nil ?_
    exact thenN (cutLeaf (v := decide (a1.toNat ≤ a0_0.toNat)) hr (weak0 ((sT rfl (sT rfl (sT rfl sT0)))) (sub_keep sub_nil)))
  · rintro x1 hr
    show AW Hfaa.prog _ _ _ ⟨[(1, .inl (is (U64 a1))), (2, .inr (.inl (2, 0))), (14, .inl (is (Bl x1)))], [(2, pb 42 [is (U64 a0_0), is (U64 a0_1)])]⟩
    have hr : some r = F280_1 N a0_0 a0_1 a1 x1 := hr
    refine AW_condT (b := x1) rfl (fun h => ?_) (fun h => ?_)
    · have hr := hr.trans (cond_t h)
      clear h
      refine AW_seq1 ?_
      refine AW_region ?_
      refine AL_cons (LR_assign (at_c (v' := U64 (0#64)) rfl) rfl) (sS sT0 sB0 sF0) ?_
      refine AL_cons (LR_assign (at_c (v' := U64 (0#64)) rfl) rfl) (sS sT0 sB0 sF0) ?_
      refine AL_cons (LR_assign (at_c (v' := Bl false) rfl) rfl) (sS sT0 sB0 sF0) ?_
      refine AL_nil ?_
      refine thenN ?_
      refine AW_ret ?_
      refine thenR ?_
      obtain rfl := Option.some.inj hr
      exact res3 rfl (rvT rfl) (rvT rfl) (rvT rfl)
    · have hr := hr.trans (cond_f h)
      clear h
      refine AW_skip ?_
      refine thenN ?_
      refine AW_cut (σ := BitVec 8) (fun v => ⟨[(1, .inl (is (U64 a1))), (2, .inr (.inl (2, 0))), (7, .inl (is (U8 v)))], [(2, pb 42 [is (U64 a0_0), is (U64 a0_1)])]⟩) (fun v => some r = F280_2 N a0_0 a0_1 a1 v) ?_ ?_
      · skip
        refine AW_region ?_
        refine AL_cons (LR_move (at_tmp 1 _) rfl) (sS (sT1 rfl) sB0 sF0) ?_
        obtain ⟨y8, hy8, hr⟩ := bind_some hr
        refine AL_cons (LR_call Hfaa.func164 rfl rfl (C164 N a1 y8 hy8) (all_cons (at_tmp 15 _) all_nil) rfl) (sS (sA (sT1 rfl) sT0) sB0 sF0) ?_
        refine AL_cons (LR_assign (at_tmp 16 _) rfl) (sS (sT1 rfl) sB0 sF0) ?_
        refine AL_nil ?_
        exact thenN (cutLeaf (v := y8) hr (weak0 ((sT rfl (sT rfl (sT rfl sT0)))) (sub_keep sub_nil)))
      · rintro x2 hr
        show AW Hfaa.prog _ _ _ ⟨[(1, .inl (is (U64 a1))), (2, .inr (.inl (2, 0))), (7, .inl (is (U8 x2)))], [(2, pb 42 [is (U64 a0_0), is (U64 a0_1)])]⟩
        have hr : some r = F280_2 N a0_0 a0_1 a1 x2 := hr
        refine AW_cut (σ := BitVec 64) (fun v => ⟨[(1, .inl (is (U64 v))), (2, .inr (.inl (2, 0))), (7, .inl (is (U8 x2)))], [(2, pb 42 [is (U64 a0_0), is (U64 a0_1)])]⟩) (fun v => some r = F280_3 N a0_0 a0_1 x2 v) ?_ ?_
        · skip
          refine AW_region ?_
          refine AL_cons (LR_move (at_tmp 1 _) rfl) (sS (sT1 rfl) sB0 sF0) ?_
          refine AL_cons (LR_move (at_tmp 7 _) rfl) (sS (sT1 rfl) sB0 sF0) ?_
          refine AL_cons (LR_bin (at_tmp 17 _) (at_tmp 18 _) (shl_U64 a1 (x2.toNat : Int) (Int.natCast_nonneg _)) rfl) (sS (sA (sT1 rfl) (sT1 rfl)) sB0 sF0) ?_
          refine AL_cons (LR_assign (at_tmp 19 _) rfl) (sS (sT1 rfl) sB0 sF0) ?_
          refine AL_nil ?_
          exact thenN (cutLeaf (v := a1 <<< x2.toNat) hr (weak0 ((sT rfl (sT rfl (sT rfl sT0)))) (sub_keep sub_nil)))
        · rintro x3 hr
          show AW Hfaa.prog _ _ _ ⟨[(1, .inl (is (U64 x3))), (2, .inr (.inl (2, 0))), (7, .inl (is (U8 x2)))], [(2, pb 42 [is (U64 a0_0), is (U64 a0_1)])]⟩
          have hr : some r = F280_3 N a0_0 a0_1 x2 x3 := hr
          refine AW_cut (σ := BitVec 64 × BitVec 64) (fun v => ⟨[(1, .inl (is (U64 x3))), (2, .inr (.inl (2, 0))), (7, .inl (is (U8 x2)))], [(2, pb 42 [is (U64 v.1), is (U64 v.2)])]⟩) (fun v => some r = F280_4 N x2 x3 v.1 v.2) ?_ ?_
          · skip
            refine AW_region ?_
            refine AL_cons (LR_loads (at_tmp 2 _) ag42 sz42 rfl rfl rfl) (sS (sT1 rfl) (sB1 rfl) sF0) ?_
            refine AL_cons (LR_move (at_tmp 7 _) rfl) (sS (sT1 rfl) sB0 sF0) ?_
            obtain ⟨y7, hy7, hr⟩ := lt_some hr
            refine AL_cons (LR_call Hfaa.func206 rfl rfl (C206 a0_0 a0_1 x2 y7 hy7) (all_cons (at_tmp 20 _) (all_cons (at_tmp 21 _) all_nil)) rfl) (sS (sA (sT1 rfl) (sA (sT1 rfl) sT0)) sB0 sF0) ?_
            refine AL_cons (LR_store (at_tmp 2 _) (at_tmp 22 _) (cells_agg _) (onC (one_is rfl) (onC (one_is rfl) onN)) sz42 rfl rfl) (sS (sA (sT1 rfl) (sT1 rfl)) (sB1 rfl) sF0) ?_
            refine AL_nil ?_
            exact thenN (cutLeaf (v := (y7.1, y7.2)) hr (weak0 ((sT rfl (sT rfl (sT rfl sT0)))) (sub_keep sub_nil)))
          · rintro ⟨x4, x5⟩ hr
            show AW Hfaa.prog _ _ _ ⟨[(1, .inl (is (U64 x3))), (2, .inr (.inl (2, 0))), (7, .inl (is (U8 x2)))], [(2, pb 42 [is (U64 x4), is (U64 x5)])]⟩
            have hr : some r = F280_4 N x2 x3 x4 x5 := hr
            refine AW_cut (σ := BitVec 64 × BitVec 64) (fun v => ⟨[(1, .inl (is (U64 x3))), (2, .inr (.inl (2, 0))), (7, .inl (is (U8 x2))), (8, .inl (is (U64 v.1))), (9, .inl (is (U64 v.2)))], [(2, pb 42 [is (U64 x4), is (U64 x5)])]⟩) (fun v => some r = F280_5 N x2 x3 x4 x5 v.1 v.2) ?_ ?_
            · skip
              refine AW_region ?_
              refine AL_cons (LR_fieldAddr (off := 0) (o := 0) (at_tmp 2 _) (fun b w => fa42_0 b 0 w) rfl) (sS (sT1 rfl) sB0 sF0) ?_
              refine AL_cons (LR_load (at_tmp 24 _) na30 rfl rfl) (sS (sT1 rfl) (sB1 rfl) sF0) ?_
              refine AL_cons (LR_fieldAddr (off := 0) (o := 1) (at_tmp 2 _) (fun b w => fa42_1 b 0 w) rfl) (sS (sT1 rfl) sB0 sF0) ?_
              refine AL_cons (LR_load (at_tmp 26 _) na30 rfl rfl) (sS (sT1 rfl) (sB1 rfl) sF0) ?_
              refine AL_cons (LR_bin (at_tmp 27 _) (at_c (v' := U64 (32#64)) rfl) (shr_U64 x5 ((32#64).toNat : Int) (Int.natCast_nonneg _)) rfl) (sS (sA (sT1 rfl) sT0) sB0 sF0) ?_
              refine AL_cons (LR_move (at_tmp 1 _) rfl) (sS (sT1 rfl) sB0 sF0) ?_
              obtain ⟨y6, hy6, hr⟩ := bind_some hr
              refine AL_cons (LR_call Hfaa.func372 rfl rfl (C372 N x4 (x5 >>> 32) x3 y6 hy6) (all_cons (at_tmp 25 _) (all_cons (at_tmp 28 _) (all_cons (at_tmp 29 _) all_nil))) rfl) (sS (sA (sT1 rfl) (sA (sT1 rfl) (sA (sT1 rfl) sT0))) sB0 sF0) ?_
              refine AL_cons (LR_move (at_tmp 30 _) rfl) (sS (sT1 rfl) sB0 sF0) ?_
              refine AL_cons (LR_extract (at_tmp 23 _) rfl rfl) (sS (sT1 rfl) sB0 sF0) ?_
              refine AL_cons (LR_extract (at_tmp 23 _) rfl rfl) (sS (sT1 rfl) sB0 sF0) ?_
              refine AL_cons (LR_assign (at_tmp 31 _) rfl) (sS (sT1 rfl) sB0 sF0) ?_
              refine AL_cons (LR_assign (at_tmp 32 _) rfl) (sS (sT1 rfl) sB0 sF0) ?_
              refine AL_nil ?_
              exact thenN (cutLeaf (v := (y6.1, y6.2)) hr (weak0 ((sT rfl (sT rfl (sT rfl (sT rfl (sT rfl sT0)))))) (sub_keep sub_nil)))
            · rintro ⟨x6, x7⟩ hr
              show AW Hfaa.prog _ _ _ ⟨[(1, .inl (is (U64 x3))), (2, .inr (.inl (2, 0))), (7, .inl (is (U8 x2))), (8, .inl (is (U64 x6))), (9, .inl (is (U64 x7)))], [(2, pb 42 [is (U64 x4), is (U64 x5)])]⟩
              have hr : some r = F280_5 N x2 x3 x4 x5 x6 x7 := hr
              refine AW_cut (σ := BitVec 64 × BitVec 64) (fun v => ⟨[(7, .inl (is (U8 x2))), (8, .inl (is (U64 x6))), (9, .inl (is (U64 v.1))), (10, .inl (is (U64 v.2)))], []⟩) (fun v => some r = F280_6 N x2 x6 v.1 v.2) ?_ ?_
              · skip
                refine AW_region ?_
                refine AL_cons (LR_move (at_tmp 9 _) rfl) (sS (sT1 rfl) sB0 sF0) ?_
                refine AL_cons (LR_fieldAddr (off := 0) (o := 1) (at_tmp 2 _) (fun b w => fa42_1 b 0 w) rfl) (sS (sT1 rfl) sB0 sF0) ?_
                refine AL_cons (LR_load (at_tmp 35 _) na30 rfl rfl) (sS (sT1 rfl) (sB1 rfl) sF0) ?_
                refine AL_cons (LR_bin (at_tmp 36 _) (at_c (v' := U64 (4294967295#64)) rfl) (and_U64 x5 (4294967295#64)) rfl) (sS (sA (sT1 rfl) sT0) sB0 sF0) ?_
                refine AL_cons (LR_move (at_tmp 1 _) rfl) (sS (sT1 rfl) sB0 sF0) ?_
                obtain ⟨y5, hy5, hr⟩ := bind_some hr
                refine AL_cons (LR_call Hfaa.func372 rfl rfl (C372 N x7 (x5 &&& (4294967295#64)) x3 y5 hy5) (all_cons (at_tmp 34 _) (all_cons (at_tmp 37 _) (all_cons (at_tmp 38 _) all_nil))) rfl) (sS (sA (sT1 rfl) (sA (sT1 rfl) (sA (sT1 rfl) sT0))) sB0 sF0) ?_
                refine AL_cons (LR_move (at_tmp 39 _) rfl) (sS (sT1 rfl) sB0 sF0) ?_
                refine AL_cons (LR_extract (at_tmp 33 _) rfl rfl) (sS (sT1 rfl) sB0 sF0) ?_
                refine AL_cons (LR_extract (at_tmp 33 _) rfl rfl) (sS (sT1 rfl) sB0 sF0) ?_
                refine AL_cons (LR_assign (at_tmp 40 _) rfl) (sS (sT1 rfl) sB0 sF0) ?_
                refine AL_cons (LR_assign (at_tmp 41 _) rfl) (sS (sT1 rfl) sB0 sF0) ?_
                refine AL_nil ?_
                exact thenN (cutLeaf (v := (y5.2, y5.1)) hr (weak0 ((sT rfl (sT rfl (sT rfl (sT rfl sT0))))) (sub_drop sub_nil)))
              · rintro ⟨x8, x9⟩ hr
                show AW Hfaa.prog _ _ _ ⟨[(7, .inl (is (U8 x2))), (8, .inl (is (U64 x6))), (9, .inl (is (U64 x8))), (10, .inl (is (U64 x9)))], []⟩
                have hr : some r = F280_6 N x2 x6 x8 x9 := hr
                refine AW_seq1 ?_
                refine AW_region ?_
                refine AL_cons (LR_move (at_tmp 8 _) rfl) (sS (sT1 rfl) sB0 sF0) ?_
                refine AL_cons (LR_bin (at_tmp 42 _) (at_c (v' := U64 (32#64)) rfl) (shl_U64 x6 ((32#64).toNat : Int) (Int.natCast_nonneg _)) rfl) (sS (sA (sT1 rfl) sT0) sB0 sF0) ?_
                refine AL_cons (LR_move (at_tmp 10 _) rfl) (sS (sT1 rfl) sB0 sF0) ?_
                refine AL_cons (LR_bin (at_tmp 43 _) (at_tmp 44 _) (or_U64 (x6 <<< 32) x9) rfl) (sS (sA (sT1 rfl) (sT1 rfl)) sB0 sF0) ?_
                refine AL_cons (LR_move (at_tmp 9 _) rfl) (sS (sT1 rfl) sB0 sF0) ?_
                refine AL_cons (LR_move (at_tmp 7 _) rfl) (sS (sT1 rfl) sB0 sF0) ?_
                refine AL_cons (LR_bin (at_tmp 46 _) (at_tmp 47 _) (shr_U64 x8 (x2.toNat : Int) (Int.natCast_nonneg _)) rfl) (sS (sA (sT1 rfl) (sT1 rfl)) sB0 sF0) ?_
                refine AL_cons (LR_assign (at_tmp 45 _) rfl) (sS (sT1 rfl) sB0 sF0) ?_
                refine AL_cons (LR_assign (at_tmp 48 _) rfl) (sS (sT1 rfl) sB0 sF0) ?_
                refine AL_cons (LR_assign (at_c (v' := Bl true) rfl) rfl) (sS sT0 sB0 sF0) ?_
                refine AL_nil ?_
                refine thenN ?_
                refine AW_ret ?_
                obtain rfl := Option.some.inj hr
                exact res3 rfl (rvT rfl) (rvT rfl) (rvT rfl)
/-- soft.DivFlags -/
def F191_12 (N : Nat) (a0_0 : BitVec 8) (a0_1 : BitVec 8) (a1 : BitVec 8) (x10 : Bool) (x17 : Int) (x19 : Int) (x22 : BitVec 64) : Option (BitVec 64 × BitVec 8) := (F215 N a0_0 a0_1 a1 x10 (w16 ((w16 (x17 - x19)) - 63)) x22).bind fun y34 => some (y34.1, y34.2)
def F191_13 (N : Nat) (a0_0 : BitVec 8) (a0_1 : BitVec 8) (a1 : BitVec 8) (x10 : Bool) (x17 : Int) (x19 : Int) (x20 : BitVec 64) (x23 : Bool) : Option (BitVec 64 × BitVec 8) := bif x23 then F191_12 N a0_0 a0_1 a1 x10 x17 x19 (x20 ||| (1#64)) else F191_12 N a0_0 a0_1 a1 x10 x17 x19 x20
def F191_11 (N : Nat) (a0_0 : BitVec 8) (a0_1 : BitVec 8) (a1 : BitVec 8) (x10 : Bool) (x17 : Int) (x19 : Int) (x20 : BitVec 64) (x21 : BitVec 64) : Option (BitVec 64 × BitVec 8) := F191_13 N a0_0 a0_1 a1 x10 x17 x19 x20 (x21 != (0#64))
def F191_10 (N : Nat) (a0_0 : BitVec 8) (a0_1 : BitVec 8) (a1 : BitVec 8) (x10 : Bool) (x16 : BitVec 64) (x17 : Int) (x18 : BitVec 64) (x19 : Int) : Option (BitVec 64 × BitVec 8) := (F280 N (x16 >>> 1) (x16 <<< 63) x18).bind fun y35 => F191_11 N a0_0 a0_1 a1 x10 x17 x19 y35.1 y35.2.1
def F191_9 (N : Nat) (a0_0 : BitVec 8) (a0_1 : BitVec 8) (a1 : BitVec 8) (x6 : Bool) (x7 : Int) (x8 : Int) (x9 : BitVec 64) (x10 : Bool) (x16 : BitVec 64) (x17 : Int) : Option (BitVec 64 × BitVec 8) := lt (F260 a0_0 a0_1 x6 x7 x8 x9) fun y36 => F191_10 N a0_0 a0_1 a1 x10 x16 x17 y36.1 y36.2
def F191_8 (N : Nat) (a0_0 : BitVec 8) (a0_1 : BitVec 8) (a1 : BitVec 8) (x2 : Bool) (x3 : Int) (x4 : Int) (x5 : BitVec 64) (x6 : Bool) (x7 : Int) (x8 : Int) (x9 : BitVec 64) (x10 : Bool) (x15 : Bool) : Option (BitVec 64 × BitVec 8) := bif x15 then lt (F259 a0_0 a0_1 x10) fun y29 => some (y29, 0#8) else lt (F260 a0_0 a0_1 x2 x3 x4 x5) fun y37 => F191_9 N a0_0 a0_1 a1 x6 x7 x8 x9 x10 y37.1 y37.2
def F191_7 (N : Nat) (a0_0 : BitVec 8) (a0_1 : BitVec 8) (a1 : BitVec 8) (x2 : Bool) (x3 : Int) (x4 : Int) (x5 : BitVec 64) (x6 : Bool) (x7 : Int) (x8 : Int) (x9 : BitVec 64) (x10 : Bool) (x14 : Bool) : Option (BitVec 64 × BitVec 8) := bif x14 then lt (F67 a0_0 a0_1 x10) fun y27 => some (y27, 2#8) else F191_8 N a0_0 a0_1 a1 x2 x3 x4 x5 x6 x7 x8 x9 x10 ((x3 == 0) || (x7 == 3))
def F191_6 (N : Nat) (a0_0 : BitVec 8) (a0_1 : BitVec 8) (a1 : BitVec 8) (x2 : Bool) (x3 : Int) (x4 : Int) (x5 : BitVec 64) (x6 : Bool) (x7 : Int) (x8 : Int) (x9 : BitVec 64) (x10 : Bool) (x13 : Bool) : Option (BitVec 64 × BitVec 8) := bif x13 then lt (F67 a0_0 a0_1 x10) fun y25 => some (y25, 0#8) else F191_7 N a0_0 a0_1 a1 x2 x3 x4 x5 x6 x7 x8 x9 x10 (x7 == 0)
def F191_5 (N : Nat) (a0_0 : BitVec 8) (a0_1 : BitVec 8) (a1 : BitVec 8) (x2 : Bool) (x3 : Int) (x4 : Int) (x5 : BitVec 64) (x6 : Bool) (x7 : Int) (x8 : Int) (x9 : BitVec 64) (x10 : Bool) (x12 : Bool) : Option (BitVec 64 × BitVec 8) := bif x12 then lt (F66 a0_0 a0_1) fun y23 => some (y23, 1#8) else F191_6 N a0_0 a0_1 a1 x2 x3 x4 x5 x6 x7 x8 x9 x10 (x3 == 3)
def F191_14 (N : Nat) (a0_0 : BitVec 8) (a0_1 : BitVec 8) (a1 : BitVec 8) (x2 : Bool) (x3 : Int) (x4 : Int) (x5 : BitVec 64) (x6 : Bool) (x7 : Int) (x8 : Int) (x9 : BitVec 64) (x10 : Bool) (x24 : Bool) : Option (BitVec 64 × BitVec 8) := bif x24 then F191_5 N a0_0 a0_1 a1 x2 x3 x4 x5 x6 x7 x8 x9 x10 x24 else F191_5 N a0_0 a0_1 a1 x2 x3 x4 x5 x6 x7 x8 x9 x10 ((x3 == 0) && (x7 == 0))
def F191_4 (N : Nat) (a0_0 : BitVec 8) (a0_1 : BitVec 8) (a1 : BitVec 8) (a2 : BitVec 64) (a3 : BitVec 64) (x2 : Bool) (x3 : Int) (x4 : Int) (x5 : BitVec 64) (x6 : Bool) (x7 : Int) (x8 : Int) (x9 : BitVec 64) (x10 : Bool) (x11 : Bool) : Option (BitVec 64 × BitVec 8) := bif x11 then lt (F66 a0_0 a0_1) fun y20 => lt (F214 a0_0 a0_1 a2 a3) fun y21 => some (y20, y21) else F191_14 N a0_0 a0_1 a1 x2 x3 x4 x5 x6 x7 x8 x9 x10 ((x3 == 3) && (x7 == 3))
def F191_3 (N : Nat) (a0_0 : BitVec 8) (a0_1 : BitVec 8) (a1 : BitVec 8) (a2 : BitVec 64) (a3 : BitVec 64) (x2 : Bool) (x3 : Int) (x4 : Int) (x5 : BitVec 64) (x6 : Bool) (x7 : Int) (x8 : Int) (x9 : BitVec 64) (x10 : Bool) : Option (BitVec 64 × BitVec 8) := F191_4 N a0_0 a0_1 a1 a2 a3 x2 x3 x4 x5 x6 x7 x8 x9 x10 ((x3 == 4) || (x7 == 4))
def F191_2 (N : Nat) (a0_0 : BitVec 8) (a0_1 : BitVec 8) (a1 : BitVec 8) (a2 : BitVec 64) (a3 : BitVec 64) (x2 : Bool) (x3 : Int) (x4 : Int) (x5 : BitVec 64) (x6 : Bool) (x7 : Int) (x8 : Int) (x9 : BitVec 64) : Option (BitVec 64 × BitVec 8) := F191_3 N a0_0 a0_1 a1 a2 a3 x2 x3 x4 x5 x6 x7 x8 x9 (x2 != x6)
def F191_1 (N : Nat) (a0_0 : BitVec 8) (a0_1 : BitVec 8) (a1 : BitVec 8) (a2 : BitVec 64) (a3 : BitVec 64) (x1 : Bool) : Option (BitVec 64 × BitVec 8) := bif x1 then some (0#64, 0#8) else lt (F65 a0_0 a0_1 a2) fun y38 => lt (F65 a0_0 a0_1 a3) fun y39 => F191_2 N a0_0 a0_1 a1 a2 a3 y38.1 y38.2.1 y38.2.2.1 y38.2.2.2 y39.1 y39.2.1 y39.2.2.1 y39.2.2.2
def F191 (N : Nat) (a0_0 : BitVec 8) (a0_1 : BitVec 8) (a1 : BitVec 8) (a2 : BitVec 64) (a3 : BitVec 64) : Option (BitVec 64 × BitVec 8) := lt (F40 a0_0 a0_1) fun y40 => F191_1 N a0_0 a0_1 a1 a2 a3 (!y40)
theorem C191 (N : Nat) (a0_0 : BitVec 8) (a0_1 : BitVec 8) (a1 : BitVec 8) (a2 : BitVec 64) (a3 : BitVec 64) (r : BitVec 64 × BitVec 8) (hr : some r = F191 N a0_0 a0_1 a1 a2 a3) : Aw.Fn Hfaa.prog 191 [agg [is (U8 a0_0), is (U8 a0_1)], is (U8 a1), is (U64 a2), is (U64 a3)] (tup [is (U64 r.1), is (U8 r.2)]) := by
  refine fn_intro Hfaa.func191 rfl rfl rfl ?_
  intro bn0 w0 H0
  refine AW_seq1 ?_
  refine AW_region ?_
  refine AL_cons (LR_box (at_tmp 0 _) (cells_agg _) rfl) (sS (sT1 rfl) sB0 (sF1 rfl)) ?_
  refine AL_cons (LR_assign (at_c (v' := U64 (0#64)) rfl) rfl) (sS sT0 sB0 sF0) ?_
  refine AL_cons (LR_assign (at_c (v' := U8 (0#8)) rfl) rfl) (sS sT0 sB0 sF0) ?_
  refine AL_nil ?_
  refine thenN ?_
  refine AW_seq1 ?_
  refine AW_cut (σ := Bool) (fun v => ⟨[(1, .inl (is (U8 a1))), (2, .inl (is (U64 a2))), (3, .inl (is (U64 a3))), (4, .inr (.inl (4, 0))), (22, .inl (is (Bl v)))], [(4, pb 23 [is (U8 a0_0), is (U8 a0_1)])]⟩) (fun v => some r = F191_1 N a0_0 a0_1 a1 a2 a3 v) ?_ ?_
  · skip
    refine AW_region ?_
    refine AL_cons (LR_loads (at_tmp 4 _) ag23 sz23 rfl rfl rfl) (sS (sT1 rfl) (sB1 rfl) sF0) ?_
    obtain ⟨y40, hy40, hr⟩ := lt_some hr
    refine AL_cons (LR_call Hfaa.func40 rfl rfl (C40 a0_0 a0_1 y40 hy40) (all_cons (at_tmp 20 _) all_nil) rfl) (sS (sA (sT1 rfl) sT0) sB0 sF0) ?_
    refine AL_cons (LR_un (at_tmp 21 _) (not_Bl y40) rfl) (sS (sT1 rfl) sB0 sF0) ?_
    refine AL_nil ?_
    exact thenN (cutLeaf (v := !y40) hr (weak0 ((sT rfl (sT rfl (sT rfl (sT rfl (sT rfl sT0)))))) (sub_keep sub_nil)))
  · rintro x1 hr
    show AW Hfaa.prog _ _ _ ⟨[(1, .inl (is (U8 a1))), (2, .inl (is (U64 a2))), (3, .inl (is (U64 a3))), (4, .inr (.inl (4, 0))), (22, .inl (is (Bl x1)))], [(4, pb 23 [is (U8 a0_0), is (U8 a0_1)])]⟩
    have hr : some r = F191_1 N a0_0 a0_1 a1 a2 a3 x1 := hr
    refine AW_condT (b := x1) rfl (fun h => ?_) (fun h => ?_)
    · have hr := hr.trans (cond_t h)
      clear h
      refine AW_seq1 ?_
      refine AW_region ?_
      refine AL_cons (LR_assign (at_c (v' := U64 (0#64)) rfl) rfl) (sS sT0 sB0 sF0) ?_
      refine AL_cons (LR_assign (at_c (v' := U8 (0#8)) rfl) rfl) (sS sT0 sB0 sF0) ?_
      refine AL_nil ?_
      refine thenN ?_
      refine AW_ret ?_
      refine thenR ?_
      obtain rfl := Option.some.inj hr
      exact res2 rfl (rvT rfl) (rvT rfl)
    · have hr := hr.trans (cond_f h)
      clear h
      refine AW_skip ?_
      refine thenN ?_
      refine AW_cut (σ := Bool × Int × Int × BitVec 64 × Bool × Int × Int × BitVec 64) (fun v => ⟨[(1, .inl (is (U8 a1))), (2, .inl (is (U64 a2))), (3, .inl (is (U64 a3))), (4, .inr (.inl (4, 0))), (10, .inr (.inl (10, 0))), (11, .inr (.inl (11, 0)))], [(4, pb 23 [is (U8 a0_0), is (U8 a0_1)]), (10, pb 112 [is (Bl v.1), is (I8 v.2.1), is (I16 v.2.2.1), is (U64 v.2.2.2.1)]), (11, pb 112 [is (Bl v.2.2.2.2.1), is (I8 v.2.2.2.2.2.1), is (I16 v.2.2.2.2.2.2.1), is (U64 v.2.2.2.2.2.2.2)])]⟩) (fun v => some r = F191_2 N a0_0 a0_1 a1 a2 a3 v.1 v.2.1 v.2.2.1 v.2.2.2.1 v.2.2.2.2.1 v.2.2.2.2.2.1 v.2.2.2.2.2.2.1 v.2.2.2.2.2.2.2) ?_ ?_
      · skip
        obtain ⟨y38, hy38, hr⟩ := lt_some hr
        obtain ⟨y39, hy39, hr⟩ := lt_some hr
        refine AW_draw mixed
          (lrC (LR_loads (at_tmp 4 _) ag23 sz23 rfl rfl rfl)
          (lrC (LR_move (at_tmp 2 _) rfl)
          (lrC (LR_call Hfaa.func65 rfl rfl (C65 a0_0 a0_1 a2 y38 hy38) (all_cons (at_tmp 23 _) (all_cons (at_tmp 24 _) all_nil)) rfl)
          (lrC (LR_loads (at_tmp 4 _) ag23 sz23 rfl rfl rfl)
          (lrC (LR_move (at_tmp 3 _) rfl)
          (lrC (LR_call Hfaa.func65 rfl rfl (C65 a0_0 a0_1 a3 y39 hy39) (all_cons (at_tmp 26 _) (all_cons (at_tmp 27 _) all_nil)) rfl)
          (lrC (zl112 rfl)
          (lrC (zl112 rfl)
          (lrC (LR_store (at_tmp 10 _) (at_tmp 25 _) (cells_agg _) (onC (one_is rfl) (onC (one_is rfl) (onC (one_is rfl) (onC (one_is rfl) onN)))) sz112 rfl rfl)
          (lrC (LR_store (at_tmp 11 _) (at_tmp 28 _) (cells_agg _) (onC (one_is rfl) (onC (one_is rfl) (onC (one_is rfl) (onC (one_is rfl) onN)))) sz112 rfl rfl)
          lrN))))))))))
          (by kernel_rfl)
          (saC (sS (sT1 rfl) (sB1 rfl) sF0) (saC (sS (sT1 rfl) sB0 sF0) (saC (sS (sA (sT1 rfl) (sA (sT1 rfl) sT0)) sB0 sF0) (saC (sS (sT1 rfl) (sB1 rfl) sF0) (saC (sS (sT1 rfl) sB0 sF0) (saC (sS (sA (sT1 rfl) (sA (sT1 rfl) sT0)) sB0 sF0) (saC (sS sT0 sB0 (sF1 rfl)) (saC (sS sT0 sB0 (sF1 rfl)) (saC (sS (sA (sT1 rfl) (sT1 rfl)) (sB1 rfl) sF0) (saC (sS (sA (sT1 rfl) (sT1 rfl)) (sB1 rfl) sF0) saN)))))))))) ?_
        exact thenN (cutLeaf (v := (y38.1, y38.2.1, y38.2.2.1, y38.2.2.2, y39.1, y39.2.1, y39.2.2.1, y39.2.2.2)) hr (weak0 ((sT rfl (sT rfl (sT rfl (sT rfl (sT rfl (sT rfl sT0))))))) (sub_keep (sub_keep (sub_keep sub_nil)))))
      · rintro ⟨x2, x3, x4, x5, x6, x7, x8, x9⟩ hr
        show AW Hfaa.prog _ _ _ ⟨[(1, .inl (is (U8 a1))), (2, .inl (is (U64 a2))), (3, .inl (is (U64 a3))), (4, .inr (.inl (4, 0))), (10, .inr (.inl (10, 0))), (11, .inr (.inl (11, 0)))], [(4, pb 23 [is (U8 a0_0), is (U8 a0_1)]), (10, pb 112 [is (Bl x2), is (I8 x3), is (I16 x4), is (U64 x5)]), (11, pb 112 [is (Bl x6), is (I8 x7), is (I16 x8), is (U64 x9)])]⟩
        have hr : some r = F191_2 N a0_0 a0_1 a1 a2 a3 x2 x3 x4 x5 x6 x7 x8 x9 := hr
        refine AW_cut (σ := Bool) (fun v => ⟨[(1, .inl (is (U8 a1))), (2, .inl (is (U64 a2))), (3, .inl (is (U64 a3))), (4, .inr (.inl (4, 0))), (10, .inr (.inl (10, 0))), (11, .inr (.inl (11, 0))), (12, .inl (is (Bl v)))], [(4, pb 23 [is (U8 a0_0), is (U8 a0_1)]), (10, pb 112 [is (Bl x2), is (I8 x3), is (I16 x4), is (U64 x5)]), (11, pb 112 [is (Bl x6), is (I8 x7), is (I16 x8), is (U64 x9)])]⟩) (fun v => some r = F191_3 N a0_0 a0_1 a1 a2 a3 x2 x3 x4 x5 x6 x7 x8 x9 v) ?_ ?_
        · skip
          refine AW_region ?_
          refine AL_cons (LR_fieldAddr (off := 0) (o := 0) (at_tmp 10 _) (fun b w => fa112_0 b 0 w) rfl) (sS (sT1 rfl) sB0 sF0) ?_
          refine AL_cons (LR_load (at_tmp 29 _) na4 rfl rfl) (sS (sT1 rfl) (sB1 rfl) sF0) ?_
          refine AL_cons (LR_fieldAddr (off := 0) (o := 0) (at_tmp 11 _) (fun b w => fa112_0 b 0 w) rfl) (sS (sT1 rfl) sB0 sF0) ?_
          refine AL_cons (LR_load (at_tmp 31 _) na4 rfl rfl) (sS (sT1 rfl) (sB1 rfl) sF0) ?_
          refine AL_cons (LR_bin (at_tmp 30 _) (at_tmp 32 _) (neq_Bl Hfaa.underlying4 x2 x6) rfl) (sS (sA (sT1 rfl) (sT1 rfl)) sB0 sF0) ?_
          refine AL_cons (LR_assign (at_tmp 33 _) rfl) (sS (sT1 rfl) sB0 sF0) ?_
          refine AL_nil ?_
          exact thenN (cutLeaf (v := x2 != x6) hr (weak0 ((sT rfl (sT rfl (sT rfl (sT rfl (sT rfl (sT rfl (sT rfl sT0)))))))) (sub_keep (sub_keep (sub_keep sub_nil)))))
        · rintro x10 hr
          show AW Hfaa.prog _ _ _ ⟨[(1, .inl (is (U8 a1))), (2, .inl (is (U64 a2))), (3, .inl (is (U64 a3))), (4, .inr (.inl (4, 0))), (10, .inr (.inl (10, 0))), (11, .inr (.inl (11, 0))), (12, .inl (is (Bl x10)))], [(4, pb 23 [is (U8 a0_0), is (U8 a0_1)]), (10, pb 112 [is (Bl x2), is (I8 x3), is (I16 x4), is (U64 x5)]), (11, pb 112 [is (Bl x6), is (I8 x7), is (I16 x8), is (U64 x9)])]⟩
          have hr : some r = F191_3 N a0_0 a0_1 a1 a2 a3 x2 x3 x4 x5 x6 x7 x8 x9 x10 := hr
          refine AW_seq1 ?_
          refine AW_block ?_
          refine AW_cut (σ := Bool) (fun v => ⟨[(1, .inl (is (U8 a1))), (2, .inl (is (U64 a2))), (3, .inl (is (U64 a3))), (4, .inr (.inl (4, 0))), (10, .inr (.inl (10, 0))), (11, .inr (.inl (11, 0))), (12, .inl (is (Bl x10))), (34, .inl (is (Bl v)))], [(4, pb 23 [is (U8 a0_0), is (U8 a0_1)]), (10, pb 112 [is (Bl x2), is (I8 x3), is (I16 x4), is (U64 x5)]), (11, pb 112 [is (Bl x6), is (I8 x7), is (I16 x8), is (U64 x9)])]⟩) (fun v => some r = F191_4 N a0_0 a0_1 a1 a2 a3 x2 x3 x4 x5 x6 x7 x8 x9 x10 v) ?_ ?_
          · skip
            refine AW_region ?_
            refine AL_cons (LR_fieldAddr (off := 0) (o := 1) (at_tmp 10 _) (fun b w => fa112_1 b 0 w) rfl) (sS (sT1 rfl) sB0 sF0) ?_
            refine AL_cons (LR_load (at_tmp 35 _) na110 rfl rfl) (sS (sT1 rfl) (sB1 rfl) sF0) ?_
            refine AL_cons (LR_bin (at_tmp 36 _) (at_c (v' := I8 4) rfl) (eql_I8 x3 4) rfl) (sS (sA (sT1 rfl) sT0) sB0 sF0) ?_
            refine AL_cons (LR_move (at_tmp 37 _) rfl) (sS (sT1 rfl) sB0 sF0) ?_
            refine AL_cutAt 4 ⟨[(1, .inl (is (U8 a1))), (2, .inl (is (U64 a2))), (3, .inl (is (U64 a3))), (4, .inr (.inl (4, 0))), (10, .inr (.inl (10, 0))), (11, .inr (.inl (11, 0))), (12, .inl (is (Bl x10))), (35, .inr (.inl (10, 1))), (36, .inl (is (I8 x3))), (37, .inl (is (Bl (x3 == 4)))), (38, .inl (is (Bl (x3 == 4)))), (42, .inl (is (Bl ((x3 == 4) || (x7 == 4)))))], [(4, pb 23 [is (U8 a0_0), is (U8 a0_1)]), (10, pb 112 [is (Bl x2), is (I8 x3), is (I16 x4), is (U64 x5)]), (11, pb 112 [is (Bl x6), is (I8 x7), is (I16 x8), is (U64 x9)])]⟩ ?_ ?_
            · cases hb : x3 == 4
              · skip
                refine AL_cons (LR_on rfl rfl rfl (LR_fieldAddr (off := 0) (o := 1) (at_tmp 11 _) (fun b w => fa112_1 b 0 w) rfl)) (sS (sT rfl (sT1 rfl)) sB0 sF0) ?_
                refine AL_cons (LR_on rfl rfl rfl (LR_load (at_tmp 39 _) na110 rfl rfl)) (sS (sT rfl (sT1 rfl)) (sB1 rfl) sF0) ?_
                refine AL_cons (LR_on rfl rfl rfl (LR_bin (at_tmp 40 _) (at_c (v' := I8 4) rfl) (eql_I8 x7 4) rfl)) (sS (sT rfl (sA (sT1 rfl) sT0)) sB0 sF0) ?_
                refine AL_cons (LR_pick (b := false) (at_tmp 38 _) (at_c (v' := Bl true) rfl) (at_tmp 41 _) rfl) (sS (sA (sT1 rfl) (sA sT0 (sT1 rfl))) sB0 sF0) ?_
                exact AL_nil ⟨rfl, weak0 ((sT rfl (sT rfl (sT rfl (sT rfl (sT rfl (sT rfl (sT rfl (sT rfl (sT rfl (sT rfl (sT rfl (sT rfl sT0))))))))))))) (sub_keep (sub_keep (sub_keep sub_nil)))⟩
              · skip
                refine AL_cons (LR_off (b := true) rfl rfl rfl rfl) (sS (sT1 rfl) sB0 sF0) ?_
                refine AL_cons (LR_off (b := true) rfl rfl rfl rfl) (sS (sT1 rfl) sB0 sF0) ?_
                refine AL_cons (LR_off (b := true) rfl rfl rfl rfl) (sS (sT1 rfl) sB0 sF0) ?_
                refine AL_cons (LR_pick (b := true) (at_tmp 38 _) (at_c (v' := Bl true) rfl) (at_tmp 41 _) rfl) (sS (sA (sT1 rfl) (sA sT0 (sT1 rfl))) sB0 sF0) ?_
                exact AL_nil ⟨rfl, weak0 ((sT rfl (sT rfl (sT rfl (sT rfl (sT rfl (sT rfl (sT rfl (sT rfl (sT rfl (sT rfl (sT rfl (sT rfl sT0))))))))))))) (sub_keep (sub_keep (sub_keep sub_nil)))⟩
            refine AL_cons (LR_assign (at_tmp 42 _) rfl) (sS (sT1 rfl) sB0 sF0) ?_
            refine AL_nil ?_
            exact thenN (cutLeaf (v := (x3 == 4) || (x7 == 4)) hr (weak0 ((sT rfl (sT rfl (sT rfl (sT rfl (sT rfl (sT rfl (sT rfl (sT rfl sT0))))))))) (sub_keep (sub_keep (sub_keep sub_nil)))))
          · rintro x11 hr
            show AW Hfaa.prog _ _ _ ⟨[(1, .inl (is (U8 a1))), (2, .inl (is (U64 a2))), (3, .inl (is (U64 a3))), (4, .inr (.inl (4, 0))), (10, .inr (.inl (10, 0))), (11, .inr (.inl (11, 0))), (12, .inl (is (Bl x10))), (34, .inl (is (Bl x11)))], [(4, pb 23 [is (U8 a0_0), is (U8 a0_1)]), (10, pb 112 [is (Bl x2), is (I8 x3), is (I16 x4), is (U64 x5)]), (11, pb 112 [is (Bl x6), is (I8 x7), is (I16 x8), is (U64 x9)])]⟩
            have hr : some r = F191_4 N a0_0 a0_1 a1 a2 a3 x2 x3 x4 x5 x6 x7 x8 x9 x10 x11 := hr
            refine AW_condT (b := x11) rfl (fun h => ?_) (fun h => ?_)
            · have hr := hr.trans (cond_t h)
              clear h
              refine AW_seq1 ?_
              obtain ⟨y20, hy20, hr⟩ := lt_some hr
              obtain ⟨y21, hy21, hr⟩ := lt_some hr
              refine AW_draw mixed
                (lrC (LR_loads (at_tmp 4 _) ag23 sz23 rfl rfl rfl)
                (lrC (LR_call Hfaa.func66 rfl rfl (C66 a0_0 a0_1 y20 hy20) (all_cons (at_tmp 43 _) all_nil) rfl)
                (lrC (LR_loads (at_tmp 4 _) ag23 sz23 rfl rfl rfl)
                (lrC (LR_move (at_tmp 2 _) rfl)
                (lrC (LR_move (at_tmp 3 _) rfl)
                (lrC (LR_call Hfaa.func214 rfl rfl (C214 a0_0 a0_1 a2 a3 y21 hy21) (all_cons (at_tmp 45 _) (all_cons (at_tmp 46 _) (all_cons (at_tmp 47 _) all_nil))) rfl)
                (lrC (LR_assign (at_tmp 44 _) rfl)
                (lrC (LR_assign (at_tmp 48 _) rfl)
                lrN))))))))
                (by kernel_rfl)
                (saC (sS (sT1 rfl) (sB1 rfl) sF0) (saC (sS (sA (sT1 rfl) sT0) sB0 sF0) (saC (sS (sT1 rfl) (sB1 rfl) sF0) (saC (sS (sT1 rfl) sB0 sF0) (saC (sS (sT1 rfl) sB0 sF0) (saC (sS (sA (sT1 rfl) (sA (sT1 rfl) (sA (sT1 rfl) sT0))) sB0 sF0) (saC (sS (sT1 rfl) sB0 sF0) (saC (sS (sT1 rfl) sB0 sF0) saN)))))))) ?_
              refine thenN ?_
              refine AW_ret ?_
              refine blR ?_
              refine thenR ?_
              obtain rfl := Option.some.inj hr
              exact res2 rfl (rvT rfl) (rvT rfl)
            · have hr := hr.trans (cond_f h)
              clear h
              refine AW_cut (σ := Bool) (fun v => ⟨[(1, .inl (is (U8 a1))), (4, .inr (.inl (4, 0))), (10, .inr (.inl (10, 0))), (11, .inr (.inl (11, 0))), (12, .inl (is (Bl x10))), (49, .inl (is (Bl v)))], [(4, pb 23 [is (U8 a0_0), is (U8 a0_1)]), (10, pb 112 [is (Bl x2), is (I8 x3), is (I16 x4), is (U64 x5)]), (11, pb 112 [is (Bl x6), is (I8 x7), is (I16 x8), is (U64 x9)])]⟩) (fun v => some r = F191_5 N a0_0 a0_1 a1 x2 x3 x4 x5 x6 x7 x8 x9 x10 v) ?_ ?_
              · skip
                refine AW_cut (σ := Bool) (fun v => ⟨[(1, .inl (is (U8 a1))), (4, .inr (.inl (4, 0))), (10, .inr (.inl (10, 0))), (11, .inr (.inl (11, 0))), (12, .inl (is (Bl x10))), (49, .inl (is (Bl v)))], [(4, pb 23 [is (U8 a0_0), is (U8 a0_1)]), (10, pb 112 [is (Bl x2), is (I8 x3), is (I16 x4), is (U64 x5)]), (11, pb 112 [is (Bl x6), is (I8 x7), is (I16 x8), is (U64 x9)])]⟩) (fun v => some r = F191_14 N a0_0 a0_1 a1 x2 x3 x4 x5 x6 x7 x8 x9 x10 v) ?_ ?_
                · skip
                  refine AW_region ?_
                  refine AL_cons (LR_fieldAddr (off := 0) (o := 1) (at_tmp 10 _) (fun b w => fa112_1 b 0 w) rfl) (sS (sT1 rfl) sB0 sF0) ?_
                  refine AL_cons (LR_load (at_tmp 50 _) na110 rfl rfl) (sS (sT1 rfl) (sB1 rfl) sF0) ?_
                  refine AL_cons (LR_bin (at_tmp 51 _) (at_c (v' := I8 3) rfl) (eql_I8 x3 3) rfl) (sS (sA (sT1 rfl) sT0) sB0 sF0) ?_
                  refine AL_cons (LR_move (at_tmp 52 _) rfl) (sS (sT1 rfl) sB0 sF0) ?_
                  refine AL_cutAt 4 ⟨[(1, .inl (is (U8 a1))), (2, .inl (is (U64 a2))), (3, .inl (is (U64 a3))), (4, .inr (.inl (4, 0))), (10, .inr (.inl (10, 0))), (11, .inr (.inl (11, 0))), (12, .inl (is (Bl x10))), (34, .inl (is (Bl x11))), (50, .inr (.inl (10, 1))), (51, .inl (is (I8 x3))), (52, .inl (is (Bl (x3 == 3)))), (53, .inl (is (Bl (x3 == 3)))), (57, .inl (is (Bl ((x3 == 3) && (x7 == 3)))))], [(4, pb 23 [is (U8 a0_0), is (U8 a0_1)]), (10, pb 112 [is (Bl x2), is (I8 x3), is (I16 x4), is (U64 x5)]), (11, pb 112 [is (Bl x6), is (I8 x7), is (I16 x8), is (U64 x9)])]⟩ ?_ ?_
                  · cases hb : x3 == 3
                    · skip
                      refine AL_cons (LR_off (b := false) rfl rfl rfl rfl) (sS (sT1 rfl) sB0 sF0) ?_
                      refine AL_cons (LR_off (b := false) rfl rfl rfl rfl) (sS (sT1 rfl) sB0 sF0) ?_
                      refine AL_cons (LR_off (b := false) rfl rfl rfl rfl) (sS (sT1 rfl) sB0 sF0) ?_
                      refine AL_cons (LR_pick (b := false) (at_tmp 53 _) (at_tmp 56 _) (at_c (v' := Bl false) rfl) rfl) (sS (sA (sT1 rfl) (sA (sT1 rfl) sT0)) sB0 sF0) ?_
                      exact AL_nil ⟨rfl, weak0 ((sT rfl (sT rfl (sT rfl (sT rfl (sT rfl (sT rfl (sT rfl (sT rfl (sT rfl (sT rfl (sT rfl (sT rfl (sT rfl sT0)))))))))))))) (sub_keep (sub_keep (sub_keep sub_nil)))⟩
                    · skip
                      refine AL_cons (LR_on rfl rfl rfl (LR_fieldAddr (off := 0) (o := 1) (at_tmp 11 _) (fun b w => fa112_1 b 0 w) rfl)) (sS (sT rfl (sT1 rfl)) sB0 sF0) ?_
                      refine AL_cons (LR_on rfl rfl rfl (LR_load (at_tmp 54 _) na110 rfl rfl)) (sS (sT rfl (sT1 rfl)) (sB1 rfl) sF0) ?_
                      refine AL_cons (LR_on rfl rfl rfl (LR_bin (at_tmp 55 _) (at_c (v' := I8 3) rfl) (eql_I8 x7 3) rfl)) (sS (sT rfl (sA (sT1 rfl) sT0)) sB0 sF0) ?_
                      refine AL_cons (LR_pick (b := true) (at_tmp 53 _) (at_tmp 56 _) (at_c (v' := Bl false) rfl) rfl) (sS (sA (sT1 rfl) (sA (sT1 rfl) sT0)) sB0 sF0) ?_
                      exact AL_nil ⟨rfl, weak0 ((sT rfl (sT rfl (sT rfl (sT rfl (sT rfl (sT rfl (sT rfl (sT rfl (sT rfl (sT rfl (sT rfl (sT rfl (sT rfl sT0)))))))))))))) (sub_keep (sub_keep (sub_keep sub_nil)))⟩
                  refine AL_cons (LR_assign (at_tmp 57 _) rfl) (sS (sT1 rfl) sB0 sF0) ?_
                  refine AL_nil ?_
                  exact thenN (cutLeaf (v := (x3 == 3) && (x7 == 3)) hr (weak0 ((sT rfl (sT rfl (sT rfl (sT rfl (sT rfl (sT rfl sT0))))))) (sub_keep (sub_keep (sub_keep sub_nil)))))
                · rintro x24 hr
                  show AW Hfaa.prog _ _ _ ⟨[(1, .inl (is (U8 a1))), (4, .inr (.inl (4, 0))), (10, .inr (.inl (10, 0))), (11, .inr (.inl (11, 0))), (12, .inl (is (Bl x10))), (49, .inl (is (Bl x24)))], [(4, pb 23 [is (U8 a0_0), is (U8 a0_1)]), (10, pb 112 [is (Bl x2), is (I8 x3), is (I16 x4), is (U64 x5)]), (11, pb 112 [is (Bl x6), is (I8 x7), is (I16 x8), is (U64 x9)])]⟩
                  have hr : some r = F191_14 N a0_0 a0_1 a1 x2 x3 x4 x5 x6 x7 x8 x9 x10 x24 := hr
                  refine AW_condT (b := x24) rfl (fun h => ?_) (fun h => ?_)
                  · have hr := hr.trans (cond_t h)
                    clear h
                    refine AW_skip ?_
                    exact thenN (cutLeaf (v := x24) hr (weak0 ((sT rfl (sT rfl (sT rfl (sT rfl (sT rfl (sT rfl sT0))))))) (sub_keep (sub_keep (sub_keep sub_nil)))))
                  · have hr := hr.trans (cond_f h)
                    clear h
                    refine AW_region ?_
                    refine AL_cons (LR_fieldAddr (off := 0) (o := 1) (at_tmp 10 _) (fun b w => fa112_1 b 0 w) rfl) (sS (sT1 rfl) sB0 sF0) ?_
                    refine AL_cons (LR_load (at_tmp 58 _) na110 rfl rfl) (sS (sT1 rfl) (sB1 rfl) sF0) ?_
                    refine AL_cons (LR_bin (at_tmp 59 _) (at_c (v' := I8 0) rfl) (eql_I8 x3 0) rfl) (sS (sA (sT1 rfl) sT0) sB0 sF0) ?_
                    refine AL_cons (LR_move (at_tmp 60 _) rfl) (sS (sT1 rfl) sB0 sF0) ?_
                    refine AL_cutAt 4 ⟨[(1, .inl (is (U8 a1))), (4, .inr (.inl (4, 0))), (10, .inr (.inl (10, 0))), (11, .inr (.inl (11, 0))), (12, .inl (is (Bl x10))), (49, .inl (is (Bl x24))), (58, .inr (.inl (10, 1))), (59, .inl (is (I8 x3))), (60, .inl (is (Bl (x3 == 0)))), (61, .inl (is (Bl (x3 == 0)))), (65, .inl (is (Bl ((x3 == 0) && (x7 == 0)))))], [(4, pb 23 [is (U8 a0_0), is (U8 a0_1)]), (10, pb 112 [is (Bl x2), is (I8 x3), is (I16 x4), is (U64 x5)]), (11, pb 112 [is (Bl x6), is (I8 x7), is (I16 x8), is (U64 x9)])]⟩ ?_ ?_
                    · cases hb : x3 == 0
                      · skip
                        refine AL_cons (LR_off (b := false) rfl rfl rfl rfl) (sS (sT1 rfl) sB0 sF0) ?_
                        refine AL_cons (LR_off (b := false) rfl rfl rfl rfl) (sS (sT1 rfl) sB0 sF0) ?_
                        refine AL_cons (LR_off (b := false) rfl rfl rfl rfl) (sS (sT1 rfl) sB0 sF0) ?_
                        refine AL_cons (LR_pick (b := false) (at_tmp 61 _) (at_tmp 64 _) (at_c (v' := Bl false) rfl) rfl) (sS (sA (sT1 rfl) (sA (sT1 rfl) sT0)) sB0 sF0) ?_
                        exact AL_nil ⟨rfl, weak0 ((sT rfl (sT rfl (sT rfl (sT rfl (sT rfl (sT rfl (sT rfl (sT rfl (sT rfl (sT rfl (sT rfl sT0)))))))))))) (sub_keep (sub_keep (sub_keep sub_nil)))⟩
                      · skip
                        refine AL_cons (LR_on rfl rfl rfl (LR_fieldAddr (off := 0) (o := 1) (at_tmp 11 _) (fun b w => fa112_1 b 0 w) rfl)) (sS (sT rfl (sT1 rfl)) sB0 sF0) ?_
                        refine AL_cons (LR_on rfl rfl rfl (LR_load (at_tmp 62 _) na110 rfl rfl)) (sS (sT rfl (sT1 rfl)) (sB1 rfl) sF0) ?_
                        refine AL_cons (LR_on rfl rfl rfl (LR_bin (at_tmp 63 _) (at_c (v' := I8 0) rfl) (eql_I8 x7 0) rfl)) (sS (sT rfl (sA (sT1 rfl) sT0)) sB0 sF0) ?_
                        refine AL_cons (LR_pick (b := true) (at_tmp 61 _) (at_tmp 64 _) (at_c (v' := Bl false) rfl) rfl) (sS (sA (sT1 rfl) (sA (sT1 rfl) sT0)) sB0 sF0) ?_
                        exact AL_nil ⟨rfl, weak0 ((sT rfl (sT rfl (sT rfl (sT rfl (sT rfl (sT rfl (sT rfl (sT rfl (sT rfl (sT rfl (sT rfl sT0)))))))))))) (sub_keep (sub_keep (sub_keep sub_nil)))⟩
                    refine AL_cons (LR_assign (at_tmp 65 _) rfl) (sS (sT1 rfl) sB0 sF0) ?_
                    refine AL_nil ?_
                    exact thenN (cutLeaf (v := (x3 == 0) && (x7 == 0)) hr (weak0 ((sT rfl (sT rfl (sT rfl (sT rfl (sT rfl (sT rfl sT0))))))) (sub_keep (sub_keep (sub_keep sub_nil)))))
              · rintro x12 hr
                show AW Hfaa.prog _ _ _ ⟨[(1, .inl (is (U8 a1))), (4, .inr (.inl (4, 0))), (10, .inr (.inl (10, 0))), (11, .inr (.inl (11, 0))), (12, .inl (is (Bl x10))), (49, .inl (is (Bl x12)))], [(4, pb 23 [is (U8 a0_0), is (U8 a0_1)]), (10, pb 112 [is (Bl x2), is (I8 x3), is (I16 x4), is (U64 x5)]), (11, pb 112 [is (Bl x6), is (I8 x7), is (I16 x8), is (U64 x9)])]⟩
                have hr : some r = F191_5 N a0_0 a0_1 a1 x2 x3 x4 x5 x6 x7 x8 x9 x10 x12 := hr
                refine AW_condT (b := x12) rfl (fun h => ?_) (fun h => ?_)
                · have hr := hr.trans (cond_t h)
                  clear h
                  refine AW_seq1 ?_
                  refine AW_region ?_
                  refine AL_cons (LR_loads (at_tmp 4 _) ag23 sz23 rfl rfl rfl) (sS (sT1 rfl) (sB1 rfl) sF0) ?_
                  obtain ⟨y23, hy23, hr⟩ := lt_some hr
                  refine AL_cons (LR_call Hfaa.func66 rfl rfl (C66 a0_0 a0_1 y23 hy23) (all_cons (at_tmp 66 _) all_nil) rfl) (sS (sA (sT1 rfl) sT0) sB0 sF0) ?_
                  refine AL_cons (LR_assign (at_tmp 67 _) rfl) (sS (sT1 rfl) sB0 sF0) ?_
                  refine AL_cons (LR_assign (at_c (v' := U8 (1#8)) rfl) rfl) (sS sT0 sB0 sF0) ?_
                  refine AL_nil ?_
                  refine thenN ?_
                  refine AW_ret ?_
                  refine blR ?_
                  refine thenR ?_
                  obtain rfl := Option.some.inj hr
                  exact res2 rfl (rvT rfl) (rvT rfl)
                · have hr := hr.trans (cond_f h)
                  clear h
                  refine AW_cut (σ := Bool) (fun v => ⟨[(1, .inl (is (U8 a1))), (4, .inr (.inl (4, 0))), (10, .inr (.inl (10, 0))), (11, .inr (.inl (11, 0))), (12, .inl (is (Bl x10))), (68, .inl (is (Bl v)))], [(4, pb 23 [is (U8 a0_0), is (U8 a0_1)]), (10, pb 112 [is (Bl x2), is (I8 x3), is (I16 x4), is (U64 x5)]), (11, pb 112 [is (Bl x6), is (I8 x7), is (I16 x8), is (U64 x9)])]⟩) (fun v => some r = F191_6 N a0_0 a0_1 a1 x2 x3 x4 x5 x6 x7 x8 x9 x10 v) ?_ ?_
                  · skip
                    refine AW_region ?_
                    refine AL_cons (LR_fieldAddr (off := 0) (o := 1) (at_tmp 10 _) (fun b w => fa112_1 b 0 w) rfl) (sS (sT1 rfl) sB0 sF0) ?_
                    refine AL_cons (LR_load (at_tmp 69 _) na110 rfl rfl) (sS (sT1 rfl) (sB1 rfl) sF0) ?_
                    refine AL_cons (LR_bin (at_tmp 70 _) (at_c (v' := I8 3) rfl) (eql_I8 x3 3) rfl) (sS (sA (sT1 rfl) sT0) sB0 sF0) ?_
                    refine AL_cons (LR_assign (at_tmp 71 _) rfl) (sS (sT1 rfl) sB0 sF0) ?_
                    refine AL_nil ?_
                    exact thenN (cutLeaf (v := x3 == 3) hr (weak0 ((sT rfl (sT rfl (sT rfl (sT rfl (sT rfl (sT rfl sT0))))))) (sub_keep (sub_keep (sub_keep sub_nil)))))
                  · rintro x13 hr
                    show AW Hfaa.prog _ _ _ ⟨[(1, .inl (is (U8 a1))), (4, .inr (.inl (4, 0))), (10, .inr (.inl (10, 0))), (11, .inr (.inl (11, 0))), (12, .inl (is (Bl x10))), (68, .inl (is (Bl x13)))], [(4, pb 23 [is (U8 a0_0), is (U8 a0_1)]), (10, pb 112 [is (Bl x2), is (I8 x3), is (I16 x4), is (U64 x5)]), (11, pb 112 [is (Bl x6), is (I8 x7), is (I16 x8), is (U64 x9)])]⟩
                    have hr : some r = F191_6 N a0_0 a0_1 a1 x2 x3 x4 x5 x6 x7 x8 x9 x10 x13 := hr
                    refine AW_condT (b := x13) rfl (fun h => ?_) (fun h => ?_)
                    · have hr := hr.trans (cond_t h)
                      clear h
                      refine AW_seq1 ?_
                      refine AW_region ?_
                      refine AL_cons (LR_loads (at_tmp 4 _) ag23 sz23 rfl rfl rfl) (sS (sT1 rfl) (sB1 rfl) sF0) ?_
                      refine AL_cons (LR_move (at_tmp 12 _) rfl) (sS (sT1 rfl) sB0 sF0) ?_
                      obtain ⟨y25, hy25, hr⟩ := lt_some hr
                      refine AL_cons (LR_call Hfaa.func67 rfl rfl (C67 a0_0 a0_1 x10 y25 hy25) (all_cons (at_tmp 72 _) (all_cons (at_tmp 73 _) all_nil)) rfl) (sS (sA (sT1 rfl) (sA (sT1 rfl) sT0)) sB0 sF0) ?_
                      refine AL_cons (LR_assign (at_tmp 74 _) rfl) (sS (sT1 rfl) sB0 sF0) ?_
                      refine AL_cons (LR_assign (at_c (v' := U8 (0#8)) rfl) rfl) (sS sT0 sB0 sF0) ?_
                      refine AL_nil ?_
                      refine thenN ?_
                      refine AW_ret ?_
                      refine blR ?_
                      refine thenR ?_
                      obtain rfl := Option.some.inj hr
                      exact res2 rfl (rvT rfl) (rvT rfl)
                    · have hr := hr.trans (cond_f h)
                      clear h
                      refine AW_cut (σ := Bool) (fun v => ⟨[(1, .inl (is (U8 a1))), (4, .inr (.inl (4, 0))), (10, .inr (.inl (10, 0))), (11, .inr (.inl (11, 0))), (12, .inl (is (Bl x10))), (75, .inl (is (Bl v)))], [(4, pb 23 [is (U8 a0_0), is (U8 a0_1)]), (10, pb 112 [is (Bl x2), is (I8 x3), is (I16 x4), is (U64 x5)]), (11, pb 112 [is (Bl x6), is (I8 x7), is (I16 x8), is (U64 x9)])]⟩) (fun v => some r = F191_7 N a0_0 a0_1 a1 x2 x3 x4 x5 x6 x7 x8 x9 x10 v) ?_ ?_
                      · skip
                        refine AW_region ?_
                        refine AL_cons (LR_fieldAddr (off := 0) (o := 1) (at_tmp 11 _) (fun b w => fa112_1 b 0 w) rfl) (sS (sT1 rfl) sB0 sF0) ?_
                        refine AL_cons (LR_load (at_tmp 76 _) na110 rfl rfl) (sS (sT1 rfl) (sB1 rfl) sF0) ?_
                        refine AL_cons (LR_bin (at_tmp 77 _) (at_c (v' := I8 0) rfl) (eql_I8 x7 0) rfl) (sS (sA (sT1 rfl) sT0) sB0 sF0) ?_
                        refine AL_cons (LR_assign (at_tmp 78 _) rfl) (sS (sT1 rfl) sB0 sF0) ?_
                        refine AL_nil ?_
                        exact thenN (cutLeaf (v := x7 == 0) hr (weak0 ((sT rfl (sT rfl (sT rfl (sT rfl (sT rfl (sT rfl sT0))))))) (sub_keep (sub_keep (sub_keep sub_nil)))))
                      · rintro x14 hr
                        show AW Hfaa.prog _ _ _ ⟨[(1, .inl (is (U8 a1))), (4, .inr (.inl (4, 0))), (10, .inr (.inl (10, 0))), (11, .inr (.inl (11, 0))), (12, .inl (is (Bl x10))), (75, .inl (is (Bl x14)))], [(4, pb 23 [is (U8 a0_0), is (U8 a0_1)]), (10, pb 112 [is (Bl x2), is (I8 x3), is (I16 x4), is (U64 x5)]), (11, pb 112 [is (Bl x6), is (I8 x7), is (I16 x8), is (U64 x9)])]⟩
                        have hr : some r = F191_7 N a0_0 a0_1 a1 x2 x3 x4 x5 x6 x7 x8 x9 x10 x14 := hr
                        refine AW_condT (b := x14) rfl (fun h => ?_) (fun h => ?_)
                        · have hr := hr.trans (cond_t h)
                          clear h
                          refine AW_seq1 ?_
                          refine AW_region ?_
                          refine AL_cons (LR_loads (at_tmp 4 _) ag23 sz23 rfl rfl rfl) (sS (sT1 rfl) (sB1 rfl) sF0) ?_
                          refine AL_cons (LR_move (at_tmp 12 _) rfl) (sS (sT1 rfl) sB0 sF0) ?_
                          obtain ⟨y27, hy27, hr⟩ := lt_some hr
                          refine AL_cons (LR_call Hfaa.func67 rfl rfl (C67 a0_0 a0_1 x10 y27 hy27) (all_cons (at_tmp 79 _) (all_cons (at_tmp 80 _) all_nil)) rfl) (sS (sA (sT1 rfl) (sA (sT1 rfl) sT0)) sB0 sF0) ?_
                          refine AL_cons (LR_assign (at_tmp 81 _) rfl) (sS (sT1 rfl) sB0 sF0) ?_
                          refine AL_cons (LR_assign (at_c (v' := U8 (2#8)) rfl) rfl) (sS sT0 sB0 sF0) ?_
                          refine AL_nil ?_
                          refine thenN ?_
                          refine AW_ret ?_
                          refine blR ?_
                          refine thenR ?_
                          obtain rfl := Option.some.inj hr
                          exact res2 rfl (rvT rfl) (rvT rfl)
                        · have hr := hr.trans (cond_f h)
                          clear h
                          refine AW_cut (σ := Bool) (fun v => ⟨[(1, .inl (is (U8 a1))), (4, .inr (.inl (4, 0))), (10, .inr (.inl (10, 0))), (11, .inr (.inl (11, 0))), (12, .inl (is (Bl x10))), (82, .inl (is (Bl v)))], [(4, pb 23 [is (U8 a0_0), is (U8 a0_1)]), (10, pb 112 [is (Bl x2), is (I8 x3), is (I16 x4), is (U64 x5)]), (11, pb 112 [is (Bl x6), is (I8 x7), is (I16 x8), is (U64 x9)])]⟩) (fun v => some r = F191_8 N a0_0 a0_1 a1 x2 x3 x4 x5 x6 x7 x8 x9 x10 v) ?_ ?_
                          · skip
                            refine AW_region ?_
                            refine AL_cons (LR_fieldAddr (off := 0) (o := 1) (at_tmp 10 _) (fun b w => fa112_1 b 0 w) rfl) (sS (sT1 rfl) sB0 sF0) ?_
                            refine AL_cons (LR_load (at_tmp 83 _) na110 rfl rfl) (sS (sT1 rfl) (sB1 rfl) sF0) ?_
                            refine AL_cons (LR_bin (at_tmp 84 _) (at_c (v' := I8 0) rfl) (eql_I8 x3 0) rfl) (sS (sA (sT1 rfl) sT0) sB0 sF0) ?_
                            refine AL_cons (LR_move (at_tmp 85 _) rfl) (sS (sT1 rfl) sB0 sF0) ?_
                            refine AL_cutAt 4 ⟨[(1, .inl (is (U8 a1))), (4, .inr (.inl (4, 0))), (10, .inr (.inl (10, 0))), (11, .inr (.inl (11, 0))), (12, .inl (is (Bl x10))), (75, .inl (is (Bl x14))), (83, .inr (.inl (10, 1))), (84, .inl (is (I8 x3))), (85, .inl (is (Bl (x3 == 0)))), (86, .inl (is (Bl (x3 == 0)))), (90, .inl (is (Bl ((x3 == 0) || (x7 == 3)))))], [(4, pb 23 [is (U8 a0_0), is (U8 a0_1)]), (10, pb 112 [is (Bl x2), is (I8 x3), is (I16 x4), is (U64 x5)]), (11, pb 112 [is (Bl x6), is (I8 x7), is (I16 x8), is (U64 x9)])]⟩ ?_ ?_
                            · cases hb : x3 == 0
                              · skip
                                refine AL_cons (LR_on rfl rfl rfl (LR_fieldAddr (off := 0) (o := 1) (at_tmp 11 _) (fun b w => fa112_1 b 0 w) rfl)) (sS (sT rfl (sT1 rfl)) sB0 sF0) ?_
                                refine AL_cons (LR_on rfl rfl rfl (LR_load (at_tmp 87 _) na110 rfl rfl)) (sS (sT rfl (sT1 rfl)) (sB1 rfl) sF0) ?_
                                refine AL_cons (LR_on rfl rfl rfl (LR_bin (at_tmp 88 _) (at_c (v' := I8 3) rfl) (eql_I8 x7 3) rfl)) (sS (sT rfl (sA (sT1 rfl) sT0)) sB0 sF0) ?_
                                refine AL_cons (LR_pick (b := false) (at_tmp 86 _) (at_c (v' := Bl true) rfl) (at_tmp 89 _) rfl) (sS (sA (sT1 rfl) (sA sT0 (sT1 rfl))) sB0 sF0) ?_
                                exact AL_nil ⟨rfl, weak0 ((sT rfl (sT rfl (sT rfl (sT rfl (sT rfl (sT rfl (sT rfl (sT rfl (sT rfl (sT rfl (sT rfl sT0)))))))))))) (sub_keep (sub_keep (sub_keep sub_nil)))⟩
                              · skip
                                refine AL_cons (LR_off (b := true) rfl rfl rfl rfl) (sS (sT1 rfl) sB0 sF0) ?_
                                refine AL_cons (LR_off (b := true) rfl rfl rfl rfl) (sS (sT1 rfl) sB0 sF0) ?_
                                refine AL_cons (LR_off (b := true) rfl rfl rfl rfl) (sS (sT1 rfl) sB0 sF0) ?_
                                refine AL_cons (LR_pick (b := true) (at_tmp 86 _) (at_c (v' := Bl true) rfl) (at_tmp 89 _) rfl) (sS (sA (sT1 rfl) (sA sT0 (sT1 rfl))) sB0 sF0) ?_
                                exact AL_nil ⟨rfl, weak0 ((sT rfl (sT rfl (sT rfl (sT rfl (sT rfl (sT rfl (sT rfl (sT rfl (sT rfl (sT rfl (sT rfl sT0)))))))))))) (sub_keep (sub_keep (sub_keep sub_nil)))⟩
                            refine AL_cons (LR_assign (at_tmp 90 _) rfl) (sS (sT1 rfl) sB0 sF0) ?_
                            refine AL_nil ?_
                            exact thenN (cutLeaf (v := (x3 == 0) || (x7 == 3)) hr (weak0 ((sT rfl (sT rfl (sT rfl (sT rfl (sT rfl (sT rfl sT0))))))) (sub_keep (sub_keep (sub_keep sub_nil)))))
                          · rintro x15 hr
                            show AW Hfaa.prog _ _ _ ⟨[(1, .inl (is (U8 a1))), (4, .inr (.inl (4, 0))), (10, .inr (.inl (10, 0))), (11, .inr (.inl (11, 0))), (12, .inl (is (Bl x10))), (82, .inl (is (Bl x15)))], [(4, pb 23 [is (U8 a0_0), is (U8 a0_1)]), (10, pb 112 [is (Bl x2), is (I8 x3), is (I16 x4), is (U64 x5)]), (11, pb 112 [is (Bl x6), is (I8 x7), is (I16 x8), is (U64 x9)])]⟩
                            have hr : some r = F191_8 N a0_0 a0_1 a1 x2 x3 x4 x5 x6 x7 x8 x9 x10 x15 := hr
                            refine AW_condT (b := x15) rfl (fun h => ?_) (fun h => ?_)
                            · have hr := hr.trans (cond_t h)
                              clear h
                              refine AW_seq1 ?_
                              refine AW_region ?_
                              refine AL_cons (LR_loads (at_tmp 4 _) ag23 sz23 rfl rfl rfl) (sS (sT1 rfl) (sB1 rfl) sF0) ?_
                              refine AL_cons (LR_move (at_tmp 12 _) rfl) (sS (sT1 rfl) sB0 sF0) ?_
                              obtain ⟨y29, hy29, hr⟩ := lt_some hr
                              refine AL_cons (LR_call Hfaa.func259 rfl rfl (C259 a0_0 a0_1 x10 y29 hy29) (all_cons (at_tmp 91 _) (all_cons (at_tmp 92 _) all_nil)) rfl) (sS (sA (sT1 rfl) (sA (sT1 rfl) sT0)) sB0 sF0) ?_
                              refine AL_cons (LR_assign (at_tmp 93 _) rfl) (sS (sT1 rfl) sB0 sF0) ?_
                              refine AL_cons (LR_assign (at_c (v' := U8 (0#8)) rfl) rfl) (sS sT0 sB0 sF0) ?_
                              refine AL_nil ?_
                              refine thenN ?_
                              refine AW_ret ?_
                              refine blR ?_
                              refine thenR ?_
                              obtain rfl := Option.some.inj hr
                              exact res2 rfl (rvT rfl) (rvT rfl)
                            · have hr := hr.trans (cond_f h)
                              clear h
                              refine AW_skip ?_
                              refine blN ?_
                              refine thenN ?_
                              refine AW_cut (σ := BitVec 64 × Int) (fun v => ⟨[(1, .inl (is (U8 a1))), (4, .inr (.inl (4, 0))), (11, .inr (.inl (11, 0))), (12, .inl (is (Bl x10))), (13, .inl (is (U64 v.1))), (14, .inl (is (I16 v.2)))], [(4, pb 23 [is (U8 a0_0), is (U8 a0_1)]), (11, pb 112 [is (Bl x6), is (I8 x7), is (I16 x8), is (U64 x9)])]⟩) (fun v => some r = F191_9 N a0_0 a0_1 a1 x6 x7 x8 x9 x10 v.1 v.2) ?_ ?_
                              · skip
                                refine AW_region ?_
                                refine AL_cons (LR_loads (at_tmp 4 _) ag23 sz23 rfl rfl rfl) (sS (sT1 rfl) (sB1 rfl) sF0) ?_
                                refine AL_cons (LR_loads (at_tmp 10 _) ag112 sz112 rfl rfl rfl) (sS (sT1 rfl) (sB1 rfl) sF0) ?_
                                obtain ⟨y37, hy37, hr⟩ := lt_some hr
                                refine AL_cons (LR_call Hfaa.func260 rfl rfl (C260 a0_0 a0_1 x2 x3 x4 x5 y37 hy37) (all_cons (at_tmp 95 _) (all_cons (at_tmp 96 _) all_nil)) rfl) (sS (sA (sT1 rfl) (sA (sT1 rfl) sT0)) sB0 sF0) ?_
                                refine AL_cons (LR_move (at_tmp 97 _) rfl) (sS (sT1 rfl) sB0 sF0) ?_
                                refine AL_cons (LR_extract (at_tmp 94 _) rfl rfl) (sS (sT1 rfl) sB0 sF0) ?_
                                refine AL_cons (LR_extract (at_tmp 94 _) rfl rfl) (sS (sT1 rfl) sB0 sF0) ?_
                                refine AL_cons (LR_assign (at_tmp 98 _) rfl) (sS (sT1 rfl) sB0 sF0) ?_
                                refine AL_cons (LR_assign (at_tmp 99 _) rfl) (sS (sT1 rfl) sB0 sF0) ?_
                                refine AL_nil ?_
                                exact thenN (cutLeaf (v := (y37.1, y37.2)) hr (weak0 ((sT rfl (sT rfl (sT rfl (sT rfl (sT rfl (sT rfl sT0))))))) (sub_keep (sub_drop (sub_keep sub_nil)))))
                              · rintro ⟨x16, x17⟩ hr
                                show AW Hfaa.prog _ _ _ ⟨[(1, .inl (is (U8 a1))), (4, .inr (.inl (4, 0))), (11, .inr (.inl (11, 0))), (12, .inl (is (Bl x10))), (13, .inl (is (U64 x16))), (14, .inl (is (I16 x17)))], [(4, pb 23 [is (U8 a0_0), is (U8 a0_1)]), (11, pb 112 [is (Bl x6), is (I8 x7), is (I16 x8), is (U64 x9)])]⟩
                                have hr : some r = F191_9 N a0_0 a0_1 a1 x6 x7 x8 x9 x10 x16 x17 := hr
                                refine AW_cut (σ := BitVec 64 × Int) (fun v => ⟨[(1, .inl (is (U8 a1))), (4, .inr (.inl (4, 0))), (12, .inl (is (Bl x10))), (13, .inl (is (U64 x16))), (14, .inl (is (I16 x17))), (15, .inl (is (U64 v.1))), (16, .inl (is (I16 v.2)))], [(4, pb 23 [is (U8 a0_0), is (U8 a0_1)])]⟩) (fun v => some r = F191_10 N a0_0 a0_1 a1 x10 x16 x17 v.1 v.2) ?_ ?_
                                · skip
                                  refine AW_region ?_
                                  refine AL_cons (LR_loads (at_tmp 4 _) ag23 sz23 rfl rfl rfl) (sS (sT1 rfl) (sB1 rfl) sF0) ?_
                                  refine AL_cons (LR_loads (at_tmp 11 _) ag112 sz112 rfl rfl rfl) (sS (sT1 rfl) (sB1 rfl) sF0) ?_
                                  obtain ⟨y36, hy36, hr⟩ := lt_some hr
                                  refine AL_cons (LR_call Hfaa.func260 rfl rfl (C260 a0_0 a0_1 x6 x7 x8 x9 y36 hy36) (all_cons (at_tmp 101 _) (all_cons (at_tmp 102 _) all_nil)) rfl) (sS (sA (sT1 rfl) (sA (sT1 rfl) sT0)) sB0 sF0) ?_
                                  refine AL_cons (LR_move (at_tmp 103 _) rfl) (sS (sT1 rfl) sB0 sF0) ?_
                                  refine AL_cons (LR_extract (at_tmp 100 _) rfl rfl) (sS (sT1 rfl) sB0 sF0) ?_
                                  refine AL_cons (LR_extract (at_tmp 100 _) rfl rfl) (sS (sT1 rfl) sB0 sF0) ?_
                                  refine AL_cons (LR_assign (at_tmp 104 _) rfl) (sS (sT1 rfl) sB0 sF0) ?_
                                  refine AL_cons (LR_assign (at_tmp 105 _) rfl) (sS (sT1 rfl) sB0 sF0) ?_
                                  refine AL_nil ?_
                                  exact thenN (cutLeaf (v := (y36.1, y36.2)) hr (weak0 ((sT rfl (sT rfl (sT rfl (sT rfl (sT rfl (sT rfl (sT rfl sT0)))))))) (sub_keep (sub_drop sub_nil))))
                                · rintro ⟨x18, x19⟩ hr
                                  show AW Hfaa.prog _ _ _ ⟨[(1, .inl (is (U8 a1))), (4, .inr (.inl (4, 0))), (12, .inl (is (Bl x10))), (13, .inl (is (U64 x16))), (14, .inl (is (I16 x17))), (15, .inl (is (U64 x18))), (16, .inl (is (I16 x19)))], [(4, pb 23 [is (U8 a0_0), is (U8 a0_1)])]⟩
                                  have hr : some r = F191_10 N a0_0 a0_1 a1 x10 x16 x17 x18 x19 := hr
                                  refine AW_cut (σ := BitVec 64 × BitVec 64) (fun v => ⟨[(1, .inl (is (U8 a1))), (4, .inr (.inl (4, 0))), (12, .inl (is (Bl x10))), (14, .inl (is (I16 x17))), (16, .inl (is (I16 x19))), (17, .inl (is (U64 v.1))), (18, .inl (is (U64 v.2)))], [(4, pb 23 [is (U8 a0_0), is (U8 a0_1)])]⟩) (fun v => some r = F191_11 N a0_0 a0_1 a1 x10 x17 x19 v.1 v.2) ?_ ?_
                                  · skip
                                    refine AW_region ?_
                                    refine AL_cons (LR_move (at_tmp 13 _) rfl) (sS (sT1 rfl) sB0 sF0) ?_
                                    refine AL_cons (LR_bin (at_tmp 107 _) (at_c (v' := U64 (1#64)) rfl) (shr_U64 x16 ((1#64).toNat : Int) (Int.natCast_nonneg _)) rfl) (sS (sA (sT1 rfl) sT0) sB0 sF0) ?_
                                    refine AL_cons (LR_move (at_tmp 13 _) rfl) (sS (sT1 rfl) sB0 sF0) ?_
                                    refine AL_cons (LR_bin (at_tmp 109 _) (at_c (v' := U64 (63#64)) rfl) (shl_U64 x16 ((63#64).toNat : Int) (Int.natCast_nonneg _)) rfl) (sS (sA (sT1 rfl) sT0) sB0 sF0) ?_
                                    refine AL_cons (bl42 (parts_cons (i := 0) (off := 0) (at_tmp 108 _) (cells_one (one_is rfl)) rfl rfl (parts_cons (i := 1) (off := 1) (at_tmp 110 _) (cells_one (one_is rfl)) rfl rfl parts_nil)) rfl rfl) (sS (sA (sT1 rfl) (sA (sT1 rfl) sT0)) sB0 sF0) ?_
                                    refine AL_cons (LR_move (at_tmp 15 _) rfl) (sS (sT1 rfl) sB0 sF0) ?_
                                    obtain ⟨y35, hy35, hr⟩ := bind_some hr
                                    refine AL_cons (LR_call Hfaa.func280 rfl rfl (C280 N (x16 >>> 1) (x16 <<< 63) x18 y35 hy35) (all_cons (at_tmp 111 _) (all_cons (at_tmp 112 _) all_nil)) rfl) (sS (sA (sT1 rfl) (sA (sT1 rfl) sT0)) sB0 sF0) ?_
                                    refine AL_cons (LR_move (at_tmp 113 _) rfl) (sS (sT1 rfl) sB0 sF0) ?_
                                    refine AL_cons (LR_extract (at_tmp 106 _) rfl rfl) (sS (sT1 rfl) sB0 sF0) ?_
                                    refine AL_cons (LR_extract (at_tmp 106 _) rfl rfl) (sS (sT1 rfl) sB0 sF0) ?_
                                    refine AL_cons (LR_extract (at_tmp 106 _) rfl rfl) (sS (sT1 rfl) sB0 sF0) ?_
                                    refine AL_cons (LR_assign (at_tmp 114 _) rfl) (sS (sT1 rfl) sB0 sF0) ?_
                                    refine AL_cons (LR_assign (at_tmp 115 _) rfl) (sS (sT1 rfl) sB0 sF0) ?_
                                    refine AL_cons (LR_assign (at_tmp 116 _) rfl) (sS (sT1 rfl) sB0 sF0) ?_
                                    refine AL_nil ?_
                                    exact thenN (cutLeaf (v := (y35.1, y35.2.1)) hr (weak0 ((sT rfl (sT rfl (sT rfl (sT rfl (sT rfl (sT rfl (sT rfl sT0)))))))) (sub_keep sub_nil)))
                                  · rintro ⟨x20, x21⟩ hr
                                    show AW Hfaa.prog _ _ _ ⟨[(1, .inl (is (U8 a1))), (4, .inr (.inl (4, 0))), (12, .inl (is (Bl x10))), (14, .inl (is (I16 x17))), (16, .inl (is (I16 x19))), (17, .inl (is (U64 x20))), (18, .inl (is (U64 x21)))], [(4, pb 23 [is (U8 a0_0), is (U8 a0_1)])]⟩
                                    have hr : some r = F191_11 N a0_0 a0_1 a1 x10 x17 x19 x20 x21 := hr
                                    refine AW_cut (σ := BitVec 64) (fun v => ⟨[(1, .inl (is (U8 a1))), (4, .inr (.inl (4, 0))), (12, .inl (is (Bl x10))), (14, .inl (is (I16 x17))), (16, .inl (is (I16 x19))), (17, .inl (is (U64 v)))], [(4, pb 23 [is (U8 a0_0), is (U8 a0_1)])]⟩) (fun v => some r = F191_12 N a0_0 a0_1 a1 x10 x17 x19 v) ?_ ?_
                                    · skip
                                      refine AW_cut (σ := Bool) (fun v => ⟨[(1, .inl (is (U8 a1))), (4, .inr (.inl (4, 0))), (12, .inl (is (Bl x10))), (14, .inl (is (I16 x17))), (16, .inl (is (I16 x19))), (17, .inl (is (U64 x20))), (118, .inl (is (Bl v)))], [(4, pb 23 [is (U8 a0_0), is (U8 a0_1)])]⟩) (fun v => some r = F191_13 N a0_0 a0_1 a1 x10 x17 x19 x20 v) ?_ ?_
                                      · skip
                                        refine AW_region ?_
                                        refine AL_cons (LR_move (at_tmp 18 _) rfl) (sS (sT1 rfl) sB0 sF0) ?_
                                        refine AL_cons (LR_bin (at_tmp 117 _) (at_c (v' := U64 (0#64)) rfl) (neq_U64 x21 (0#64)) rfl) (sS (sA (sT1 rfl) sT0) sB0 sF0) ?_
                                        refine AL_nil ?_
                                        exact thenN (cutLeaf (v := x21 != (0#64)) hr (weak0 ((sT rfl (sT rfl (sT rfl (sT rfl (sT rfl (sT rfl (sT rfl sT0)))))))) (sub_keep sub_nil)))
                                      · rintro x23 hr
                                        show AW Hfaa.prog _ _ _ ⟨[(1, .inl (is (U8 a1))), (4, .inr (.inl (4, 0))), (12, .inl (is (Bl x10))), (14, .inl (is (I16 x17))), (16, .inl (is (I16 x19))), (17, .inl (is (U64 x20))), (118, .inl (is (Bl x23)))], [(4, pb 23 [is (U8 a0_0), is (U8 a0_1)])]⟩
                                        have hr : some r = F191_13 N a0_0 a0_1 a1 x10 x17 x19 x20 x23 := hr
                                        refine AW_condT (b := x23) rfl (fun h => ?_) (fun h => ?_)
                                        · have hr := hr.trans (cond_t h)
                                          clear h
                                          refine AW_region ?_
                                          refine AL_cons (LR_move (at_tmp 17 _) rfl) (sS (sT1 rfl) sB0 sF0) ?_
                                          refine AL_cons (LR_bin (at_tmp 119 _) (at_c (v' := U64 (1#64)) rfl) (or_U64 x20 (1#64)) rfl) (sS (sA (sT1 rfl) sT0) sB0 sF0) ?_
                                          refine AL_cons (LR_assign (at_tmp 120 _) rfl) (sS (sT1 rfl) sB0 sF0) ?_
                                          refine AL_nil ?_
                                          exact thenN (cutLeaf (v := x20 ||| (1#64)) hr (weak0 ((sT rfl (sT rfl (sT rfl (sT rfl (sT rfl (sT rfl sT0))))))) (sub_keep sub_nil)))
                                        · have hr := hr.trans (cond_f h)
                                          clear h
                                          refine AW_skip ?_
                                          exact thenN (cutLeaf (v := x20) hr (weak0 ((sT rfl (sT rfl (sT rfl (sT rfl (sT rfl (sT rfl sT0))))))) (sub_keep sub_nil)))
                                    · rintro x22 hr
                                      show AW Hfaa.prog _ _ _ ⟨[(1, .inl (is (U8 a1))), (4, .inr (.inl (4, 0))), (12, .inl (is (Bl x10))), (14, .inl (is (I16 x17))), (16, .inl (is (I16 x19))), (17, .inl (is (U64 x22)))], [(4, pb 23 [is (U8 a0_0), is (U8 a0_1)])]⟩
                                      have hr : some r = F191_12 N a0_0 a0_1 a1 x10 x17 x19 x22 := hr
                                      refine AW_seq1 ?_
                                      refine AW_region ?_
                                      refine AL_cons (LR_loads (at_tmp 4 _) ag23 sz23 rfl rfl rfl) (sS (sT1 rfl) (sB1 rfl) sF0) ?_
                                      refine AL_cons (LR_move (at_tmp 1 _) rfl) (sS (sT1 rfl) sB0 sF0) ?_
                                      refine AL_cons (LR_move (at_tmp 12 _) rfl) (sS (sT1 rfl) sB0 sF0) ?_
                                      refine AL_cons (LR_move (at_tmp 14 _) rfl) (sS (sT1 rfl) sB0 sF0) ?_
                                      refine AL_cons (LR_move (at_tmp 16 _) rfl) (sS (sT1 rfl) sB0 sF0) ?_
                                      refine AL_cons (LR_bin (at_tmp 124 _) (at_tmp 125 _) (sub_I16 x17 x19) rfl) (sS (sA (sT1 rfl) (sT1 rfl)) sB0 sF0) ?_
                                      refine AL_cons (LR_bin (at_tmp 126 _) (at_c (v' := I16 63) rfl) (sub_I16 (w16 (x17 - x19)) 63) rfl) (sS (sA (sT1 rfl) sT0) sB0 sF0) ?_
                                      refine AL_cons (LR_move (at_tmp 17 _) rfl) (sS (sT1 rfl) sB0 sF0) ?_
                                      obtain ⟨y34, hy34, hr⟩ := bind_some hr
                                      refine AL_cons (LR_call Hfaa.func215 rfl rfl (C215 N a0_0 a0_1 a1 x10 (w16 ((w16 (x17 - x19)) - 63)) x22 y34 hy34) (all_cons (at_tmp 121 _) (all_cons (at_tmp 122 _) (all_cons (at_tmp 123 _) (all_cons (at_tmp 127 _) (all_cons (at_tmp 128 _) all_nil))))) rfl) (sS (sA (sT1 rfl) (sA (sT1 rfl) (sA (sT1 rfl) (sA (sT1 rfl) (sA (sT1 rfl) sT0))))) sB0 sF0) ?_
                                      refine AL_cons (LR_extract (at_tmp 129 _) rfl rfl) (sS (sT1 rfl) sB0 sF0) ?_
                                      refine AL_cons (LR_extract (at_tmp 129 _) rfl rfl) (sS (sT1 rfl) sB0 sF0) ?_
                                      refine AL_cons (LR_assign (at_tmp 130 _) rfl) (sS (sT1 rfl) sB0 sF0) ?_
                                      refine AL_cons (LR_assign (at_tmp 131 _) rfl) (sS (sT1 rfl) sB0 sF0) ?_
                                      refine AL_nil ?_
                                      refine thenN ?_
                                      refine AW_ret ?_
                                      obtain rfl := Option.some.inj hr
                                      exact res2 rfl (rvT rfl) (rvT rfl)
end Go.Proofs.YfwaawGreat
