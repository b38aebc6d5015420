import Derived.Test.YfwaawGreatG0
import Derived.Test.YfwaawGreatG1
import Derived.Test.YfwaawGreatG2
import Derived.Test.YfwaawGreatG25
import Derived.Test.YfwaawGreatG26
import Derived.Test.YfwaawGreatG28
import Derived.Test.YfwaawGreatG34
import Derived.Test.YfwaawGreatG37
namespace Go.Proofs.YfwaawGreat
open Go.Aw
set_option linter.unusedVariables false
set_option maxRecDepth 100000
set_option maxHeartbeats 1000000
/-- parse/slow.Slow -/
def F92_1 (N : Nat) (x1 : BitVec 64) : Option (BitVec 64) := some x1
def F92 (N : Nat) (a0_0 : BitVec 8) (a0_1 : BitVec 8) (a1 : BitVec 8) (a2_0 : Bool) (a2_1 : List UInt8) (a2_2 : Int) : Option (BitVec 64) := (F168 N a0_0 a0_1 a1 a2_0 a2_1 a2_2).bind fun y2 => F92_1 N y2.1
theorem C92 (N : Nat) (a0_0 : BitVec 8) (a0_1 : BitVec 8) (a1 : BitVec 8) (a2_0 : Bool) (a2_1 : List UInt8) (a2_2 : Int) (r : BitVec 64) (hr : some r = F92 N a0_0 a0_1 a1 a2_0 a2_1 a2_2) : Aw.Fn Hfaa.prog 92 [agg [is (U8 a0_0), is (U8 a0_1)], is (U8 a1), agg [is (Bl a2_0), is (Sv a2_1), is (I16 a2_2)]] (is (U64 r)) := by
  refine fn_intro Hfaa.func92 rfl rfl rfl ?_
  intro bn0 w0 H0
  refine AW_seq1 ?_
  refine AW_region ?_
  refine AL_cons (LR_box (at_tmp 0 _) (cells_agg _) rfl) (sS (sT1 rfl) sB0 (sF1 rfl)) ?_
  refine AL_cons (LR_box (at_tmp 2 _) (cells_agg _) rfl) (sS (sT1 rfl) sB0 (sF1 rfl)) ?_
  refine AL_cons (LR_assign (at_c (v' := U64 (0#64)) rfl) rfl) (sS sT0 sB0 sF0) ?_
  refine AL_nil ?_
  refine thenN ?_
  refine AW_cut (σ := BitVec 64) (fun v => ⟨[(7, .inl (is (U64 v)))], []⟩) (fun v => some r = F92_1 N v) ?_ ?_
  · skip
    refine AW_region ?_
    refine AL_cons (LR_loads (at_tmp 3 _) ag23 sz23 rfl rfl rfl) (sS (sT1 rfl) (sB1 rfl) sF0) ?_
    refine AL_cons (LR_move (at_tmp 1 _) rfl) (sS (sT1 rfl) sB0 sF0) ?_
    refine AL_cons (LR_loads (at_tmp 5 _) ag76 sz76 rfl rfl rfl) (sS (sT1 rfl) (sB1 rfl) sF0) ?_
    obtain ⟨y2, hy2, hr⟩ := bind_some hr
    refine AL_cons (LR_call Hfaa.func168 rfl rfl (C168 N a0_0 a0_1 a1 a2_0 a2_1 a2_2 y2 hy2) (all_cons (at_tmp 10 _) (all_cons (at_tmp 11 _) (all_cons (at_tmp 12 _) all_nil))) rfl) (sS (sA (sT1 rfl) (sA (sT1 rfl) (sA (sT1 rfl) sT0))) sB0 sF0) ?_
    refine AL_cons (LR_move (at_tmp 13 _) rfl) (sS (sT1 rfl) sB0 sF0) ?_
    refine AL_cons (LR_extract (at_tmp 9 _) rfl rfl) (sS (sT1 rfl) sB0 sF0) ?_
    refine AL_cons (LR_extract (at_tmp 9 _) rfl rfl) (sS (sT1 rfl) sB0 sF0) ?_
    refine AL_cons (LR_assign (at_tmp 14 _) rfl) (sS (sT1 rfl) sB0 sF0) ?_
    refine AL_cons (LR_assign (at_tmp 15 _) rfl) (sS (sT1 rfl) sB0 sF0) ?_
    refine AL_nil ?_
    exact thenN (cutLeaf (v := y2.1) hr (weak0 ((sT rfl sT0)) (sub_drop (sub_drop sub_nil))))
  · rintro x1 hr
    show AW Hfaa.prog _ _ _ ⟨[(7, .inl (is (U64 x1)))], []⟩
    have hr : some r = F92_1 N x1 := hr
    refine AW_seq1 ?_
    refine AW_region ?_
    refine AL_cons (LR_move (at_tmp 7 _) rfl) (sS (sT1 rfl) sB0 sF0) ?_
    refine AL_cons (LR_assign (at_tmp 16 _) rfl) (sS (sT1 rfl) sB0 sF0) ?_
    refine AL_nil ?_
    refine thenN ?_
    refine AW_ret ?_
    obtain rfl := Option.some.inj hr
    exact res1 rfl (rvT rfl)
/-- parse.head -/
def F159_1 (N : Nat) (x1 : BitVec 64) : Option (BitVec 64) := some x1
def F159_4 (N : Nat) (a0 : List UInt8) (x3 : Int) (x5 : BitVec 64) : Option ((BitVec 64 × Int) ⊕ (BitVec 64)) := some (.inl ((x5, w64 (x3 + 1))))
def F159_3 (N : Nat) (a0 : List UInt8) (x2 : BitVec 64) (x3 : Int) (x4 : Bool) : Option ((BitVec 64 × Int) ⊕ (BitVec 64)) := bif x4 then bif (decide (0 ≤ (x3 : Int)) && decide ((x3 : Int) < (a0.length : Int))) then F159_4 N a0 x3 (((10#64) * x2) + (BitVec.ofInt 64 ((((a0.getD ((x3 : Int)).toNat 0).toBitVec) - (48#8)).toNat : Int))) else none else (F159_1 N x2).map Sum.inr
def F159_L2b (N : Nat) (a0 : List UInt8) (x2 : BitVec 64) (x3 : Int) : Option ((BitVec 64 × Int) ⊕ (BitVec 64)) := F159_3 N a0 x2 x3 ((decide (x3 < (a0.length : Int))) && (decide (x3 < 19)))
def F159_L2 (N : Nat) (a0 : List UInt8) : (BitVec 64 × Int) → Option ((BitVec 64 × Int) ⊕ (BitVec 64)) := fun v => F159_L2b N a0 v.1 v.2
def F159 (N : Nat) (a0 : List UInt8) : Option (BitVec 64) := iterL (F159_L2 N a0) N (0#64, 0)
theorem C159 (N : Nat) (a0 : List UInt8) (r : BitVec 64) (hr : some r = F159 N a0) : Aw.Fn Hfaa.prog 159 [is (Sv a0)] (is (U64 r)) := by
  refine fn_intro Hfaa.func159 rfl rfl rfl ?_
  intro bn0 w0 H0
  refine AW_seq1 ?_
  refine AW_region ?_
  refine AL_cons (LR_assign (at_c (v' := U64 (0#64)) rfl) rfl) (sS sT0 sB0 sF0) ?_
  refine AL_nil ?_
  refine thenN ?_
  refine AW_seq1 ?_
  refine AW_region ?_
  refine AL_cons (LR_assign (at_c (v' := U64 (0#64)) rfl) rfl) (sS sT0 sB0 sF0) ?_
  refine AL_nil ?_
  refine thenN ?_
  refine AW_cut (σ := BitVec 64) (fun v => ⟨[(3, .inl (is (U64 v)))], []⟩) (fun v => some r = F159_1 N v) ?_ ?_
  · skip
    refine AW_seq1 ?_
    refine AW_region ?_
    refine AL_cons (LR_assign (at_c (v' := I64 0) rfl) rfl) (sS sT0 sB0 sF0) ?_
    refine AL_nil ?_
    refine thenN ?_
    refine AW_block ?_
    refine AW_iterR (σ := BitVec 64 × Int) (r := r) (x0 := (0#64, 0)) (emb := fun v => ⟨[(0, .inl (is (Sv a0))), (3, .inl (is (U64 v.1))), (4, .inl (is (I64 v.2)))], []⟩) ?_ hr ?_
    · exact weak0 ((sT rfl (sT rfl (sT rfl sT0)))) sub_nil
    rintro ⟨x2, x3⟩ out2 hr
    show AW Hfaa.prog _ _ _ ⟨[(0, .inl (is (Sv a0))), (3, .inl (is (U64 x2))), (4, .inl (is (I64 x3)))], []⟩
    have hr : some out2 = F159_L2b N a0 x2 x3 := hr
    refine AW_seq1 ?_
    refine AW_cut (σ := Bool) (fun v => ⟨[(0, .inl (is (Sv a0))), (3, .inl (is (U64 x2))), (4, .inl (is (I64 x3))), (12, .inl (is (Bl v)))], []⟩) (fun v => some out2 = F159_3 N a0 x2 x3 v) ?_ ?_
    · skip
      refine AW_region ?_
      refine AL_cons (LR_move (at_tmp 4 _) rfl) (sS (sT1 rfl) sB0 sF0) ?_
      refine AL_cons (LR_move (at_tmp 0 _) rfl) (sS (sT1 rfl) sB0 sF0) ?_
      refine AL_cons (LR_bi1 (at_tmp 6 _) (len_S Hfaa.underlying9 a0) rfl) (sS (sT1 rfl) sB0 sF0) ?_
      refine AL_cons (LR_bin (at_tmp 5 _) (at_tmp 7 _) (lss_I64 x3 (a0.length : Int)) rfl) (sS (sA (sT1 rfl) (sT1 rfl)) sB0 sF0) ?_
      refine AL_cons (LR_move (at_tmp 8 _) rfl) (sS (sT1 rfl) sB0 sF0) ?_
      refine AL_cutAt 3 ⟨[(0, .inl (is (Sv a0))), (3, .inl (is (U64 x2))), (4, .inl (is (I64 x3))), (5, .inl (is (I64 x3))), (6, .inl (is (Sv a0))), (7, .inl (is (I64 (a0.length : Int)))), (8, .inl (is (Bl (decide (x3 < (a0.length : Int)))))), (9, .inl (is (Bl (decide (x3 < (a0.length : Int)))))), (12, .inl (is (Bl ((decide (x3 < (a0.length : Int))) && (decide (x3 < 19))))))], []⟩ ?_ ?_
      · cases hb : decide (x3 < (a0.length : Int))
        · skip
          refine AL_cons (LR_off (b := false) rfl rfl rfl rfl) (sS (sT1 rfl) sB0 sF0) ?_
          refine AL_cons (LR_off (b := false) rfl rfl rfl rfl) (sS (sT1 rfl) sB0 sF0) ?_
          refine AL_cons (LR_pick (b := false) (at_tmp 9 _) (at_tmp 11 _) (at_c (v' := Bl false) rfl) rfl) (sS (sA (sT1 rfl) (sA (sT1 rfl) sT0)) sB0 sF0) ?_
          exact AL_nil ⟨rfl, weak0 ((sT rfl (sT rfl (sT rfl (sT rfl (sT rfl (sT rfl (sT rfl (sT rfl (sT rfl sT0)))))))))) sub_nil⟩
        · skip
          refine AL_cons (LR_on rfl rfl rfl (LR_move (at_tmp 4 _) rfl)) (sS (sT rfl (sT1 rfl)) sB0 sF0) ?_
          refine AL_cons (LR_on rfl rfl rfl (LR_bin (at_tmp 10 _) (at_c (v' := I64 19) rfl) (lss_I64 x3 19) rfl)) (sS (sT rfl (sA (sT1 rfl) sT0)) sB0 sF0) ?_
          refine AL_cons (LR_pick (b := true) (at_tmp 9 _) (at_tmp 11 _) (at_c (v' := Bl false) rfl) rfl) (sS (sA (sT1 rfl) (sA (sT1 rfl) sT0)) sB0 sF0) ?_
          exact AL_nil ⟨rfl, weak0 ((sT rfl (sT rfl (sT rfl (sT rfl (sT rfl (sT rfl (sT rfl (sT rfl (sT rfl sT0)))))))))) sub_nil⟩
      refine AL_nil ?_
      exact thenN (cutLeaf (v := (decide (x3 < (a0.length : Int))) && (decide (x3 < 19))) hr (weak0 ((sT rfl (sT rfl (sT rfl (sT rfl sT0))))) sub_nil))
    · rintro x4 hr
      show AW Hfaa.prog _ _ _ ⟨[(0, .inl (is (Sv a0))), (3, .inl (is (U64 x2))), (4, .inl (is (I64 x3))), (12, .inl (is (Bl x4)))], []⟩
      have hr : some out2 = F159_3 N a0 x2 x3 x4 := hr
      refine AW_condT (b := x4) rfl (fun h => ?_) (fun h => ?_)
      · have hr := hr.trans (cond_t h)
        clear h
        refine AW_skip ?_
        refine thenN ?_
        refine AW_cut (σ := BitVec 64) (fun v => ⟨[(0, .inl (is (Sv a0))), (3, .inl (is (U64 v))), (4, .inl (is (I64 x3)))], []⟩) (fun v => some out2 = F159_4 N a0 x3 v) ?_ ?_
        · skip
          refine AW_block ?_
          refine AW_region ?_
          refine AL_cons (LR_move (at_tmp 3 _) rfl) (sS (sT1 rfl) sB0 sF0) ?_
          refine AL_cons (LR_bin (at_c (v' := U64 (10#64)) rfl) (at_tmp 15 _) (mul_U64 (10#64) x2) rfl) (sS (sA sT0 (sT1 rfl)) sB0 sF0) ?_
          refine AL_cons (LR_move (at_tmp 0 _) rfl) (sS (sT1 rfl) sB0 sF0) ?_
          refine AL_cons (LR_move (at_tmp 4 _) rfl) (sS (sT1 rfl) sB0 sF0) ?_
          obtain ⟨hg8, hr⟩ := guard_some hr
          refine AL_cons (LR_indexS (i := (x3 : Int)) Hfaa.underlying9 (at_tmp 17 _) (at_tmp 18 _) (dand hg8) rfl) (sS (sA (sT1 rfl) (sT1 rfl)) sB0 sF0) ?_
          refine AL_cons (LR_bin (at_tmp 19 _) (at_c (v' := U8 (48#8)) rfl) (sub_U8 ((a0.getD ((x3 : Int)).toNat 0).toBitVec) (48#8)) rfl) (sS (sA (sT1 rfl) sT0) sB0 sF0) ?_
          refine AL_cons (LR_conv (vx := U8 (((a0.getD ((x3 : Int)).toNat 0).toBitVec) - (48#8))) (at_tmp 20 _) (conv_U64 Hfaa.underlying5 Hfaa.underlying30 ((((a0.getD ((x3 : Int)).toNat 0).toBitVec) - (48#8)).toNat : Int)) rfl) (sS (sT1 rfl) sB0 sF0) ?_
          refine AL_cons (LR_bin (at_tmp 16 _) (at_tmp 21 _) (add_U64 ((10#64) * x2) (BitVec.ofInt 64 ((((a0.getD ((x3 : Int)).toNat 0).toBitVec) - (48#8)).toNat : Int))) rfl) (sS (sA (sT1 rfl) (sT1 rfl)) sB0 sF0) ?_
          refine AL_cons (LR_assign (at_tmp 22 _) rfl) (sS (sT1 rfl) sB0 sF0) ?_
          refine AL_nil ?_
          refine blN ?_
          exact thenN (cutLeaf (v := ((10#64) * x2) + (BitVec.ofInt 64 ((((a0.getD ((x3 : Int)).toNat 0).toBitVec) - (48#8)).toNat : Int))) hr (weak0 ((sT rfl (sT rfl (sT rfl sT0)))) sub_nil))
        · rintro x5 hr
          show AW Hfaa.prog _ _ _ ⟨[(0, .inl (is (Sv a0))), (3, .inl (is (U64 x5))), (4, .inl (is (I64 x3)))], []⟩
          have hr : some out2 = F159_4 N a0 x3 x5 := hr
          refine AW_region ?_
          refine AL_cons (LR_move (at_tmp 4 _) rfl) (sS (sT1 rfl) sB0 sF0) ?_
          refine AL_cons (LR_bin (at_tmp 13 _) (at_c (v' := I64 1) rfl) (add_I64 x3 1) rfl) (sS (sA (sT1 rfl) sT0) sB0 sF0) ?_
          refine AL_cons (LR_assign (at_tmp 14 _) rfl) (sS (sT1 rfl) sB0 sF0) ?_
          refine AL_nil ?_
          exact thenN (loopNext (x' := (x5, w64 (x3 + 1))) hr (weak0 ((sT rfl (sT rfl (sT rfl sT0)))) sub_nil))
      · have hr := hr.trans (cond_f h)
        clear h
        refine AW_exit ?_
        refine thenX ?_
        obtain ⟨r', hro, hr⟩ := map_inr hr
        refine thenX (loopOut hro (fun he => ?_))
        rw [he] at hr
        refine blH ?_
        exact thenN (cutLeaf (v := x2) hr (weak0 ((sT rfl sT0)) sub_nil))
  · rintro x1 hr
    show AW Hfaa.prog _ _ _ ⟨[(3, .inl (is (U64 x1)))], []⟩
    have hr : some r = F159_1 N x1 := hr
    refine AW_seq1 ?_
    refine AW_region ?_
    refine AL_cons (LR_move (at_tmp 3 _) rfl) (sS (sT1 rfl) sB0 sF0) ?_
    refine AL_cons (LR_assign (at_tmp 23 _) rfl) (sS (sT1 rfl) sB0 sF0) ?_
    refine AL_nil ?_
    refine thenN ?_
    refine AW_ret ?_
    obtain rfl := Option.some.inj hr
    exact res1 rfl (rvT rfl)
/-- (*tab.Table).At -/
def F116_2 (N : Nat) (a0 : Tab) (x2 : Int) : Option (BitVec 64 × BitVec 64 × Int × Bool) := bif (decide (0 ≤ x2) && decide (x2 < (696 : Int))) then bif (decide (0 ≤ x2) && decide (x2 < (696 : Int))) then some (((a0.man x2.toNat).1, (a0.man x2.toNat).2, a0.ex x2.toNat, true)) else none else none
def F116_1 (N : Nat) (a0 : Tab) (a1 : Int) (x1 : Bool) : Option (BitVec 64 × BitVec 64 × Int × Bool) := bif x1 then some (0#64, 0#64, 0, false) else F116_2 N a0 (w64 ((w64 a1) + 348))
def F116 (N : Nat) (a0 : Tab) (a1 : Int) : Option (BitVec 64 × BitVec 64 × Int × Bool) := F116_1 N a0 a1 ((decide (a1 < (-348))) || (decide (a1 > 347)))
theorem C116 (N : Nat) (a0 : Tab) (a1 : Int) (r : BitVec 64 × BitVec 64 × Int × Bool) (hr : some r = F116 N a0 a1) : Aw.Fn Hfaa.prog 116 [tabp a0, is (I16 a1)] (tup [agg [is (U64 r.1), is (U64 r.2.1)], is (I16 r.2.2.1), is (Bl r.2.2.2)]) := by
  refine fn_intro Hfaa.func116 rfl rfl rfl ?_
  intro bn0 w0 H0
  refine AW_seq1 ?_
  refine AW_region ?_
  refine AL_cons (zl42 rfl) (sS sT0 sB0 (sF1 rfl)) ?_
  refine AL_cons (LR_assign (at_c (v' := I16 0) rfl) rfl) (sS sT0 sB0 sF0) ?_
  refine AL_cons (LR_assign (at_c (v' := Bl false) rfl) rfl) (sS sT0 sB0 sF0) ?_
  refine AL_nil ?_
  refine thenN ?_
  refine AW_seq1 ?_
  refine AW_cut (σ := Bool) (fun v => ⟨[(0, .inl (tabp a0)), (1, .inl (is (I16 a1))), (4, .inr (.inl (4, 0))), (17, .inl (is (Bl v)))], [(4, pb 42 [is (U64 (0#64)), is (U64 (0#64))])]⟩) (fun v => some r = F116_1 N a0 a1 v) ?_ ?_
  · skip
    refine AW_region ?_
    refine AL_cons (LR_move (at_tmp 0 _) rfl) (sS (sT1 rfl) sB0 sF0) ?_
    refine AL_cons (LR_binA (at_tmp 8 _) (at_c (v' := .pointer none) rfl) (eqTabNil Hfaa.underlying27 a0) rfl) (sS (sA (sT1 rfl) sT0) sB0 sF0) ?_
    refine AL_cons (LR_move (at_tmp 9 _) rfl) (sS (sT1 rfl) sB0 sF0) ?_
    refine AL_cons (LR_on rfl rfl rfl (LR_move (at_tmp 1 _) rfl)) (sS (sT rfl (sT1 rfl)) sB0 sF0) ?_
    refine AL_cons (LR_on rfl rfl rfl (LR_bin (at_tmp 11 _) (at_c (v' := I16 (-348)) rfl) (lss_I16 a1 (-348)) rfl)) (sS (sT rfl (sA (sT1 rfl) sT0)) sB0 sF0) ?_
    refine AL_cons (LR_pick (b := false) (at_tmp 10 _) (at_c (v' := Bl true) rfl) (at_tmp 12 _) rfl) (sS (sA (sT1 rfl) (sA sT0 (sT1 rfl))) sB0 sF0) ?_
    refine AL_cons (LR_move (at_tmp 13 _) rfl) (sS (sT1 rfl) sB0 sF0) ?_
    refine AL_cutAt 3 ⟨[(0, .inl (tabp a0)), (1, .inl (is (I16 a1))), (4, .inr (.inl (4, 0))), (5, .inl (is (I16 0))), (6, .inl (is (Bl false))), (8, .inl (tabp a0)), (9, .inl (is (Bl false))), (10, .inl (is (Bl false))), (11, .inl (is (I16 a1))), (12, .inl (is (Bl (decide (a1 < (-348)))))), (13, .inl (is (Bl (decide (a1 < (-348)))))), (14, .inl (is (Bl (decide (a1 < (-348)))))), (17, .inl (is (Bl ((decide (a1 < (-348))) || (decide (a1 > 347))))))], [(4, pb 42 [is (U64 (0#64)), is (U64 (0#64))])]⟩ ?_ ?_
    · cases hb : decide (a1 < (-348))
      · skip
        refine AL_cons (LR_on rfl rfl rfl (LR_move (at_tmp 1 _) rfl)) (sS (sT rfl (sT1 rfl)) sB0 sF0) ?_
        refine AL_cons (LR_on rfl rfl rfl (LR_bin (at_tmp 15 _) (at_c (v' := I16 347) rfl) (gtr_I16 a1 347) rfl)) (sS (sT rfl (sA (sT1 rfl) sT0)) sB0 sF0) ?_
        refine AL_cons (LR_pick (b := false) (at_tmp 14 _) (at_c (v' := Bl true) rfl) (at_tmp 16 _) rfl) (sS (sA (sT1 rfl) (sA sT0 (sT1 rfl))) sB0 sF0) ?_
        exact AL_nil ⟨rfl, weak0 ((sT rfl (sT rfl (sT rfl (sT rfl (sT rfl (sT rfl (sT rfl (sT rfl (sT rfl (sT rfl (sT rfl (sT rfl (sT rfl sT0)))))))))))))) (sub_keep sub_nil)⟩
      · skip
        refine AL_cons (LR_off (b := true) rfl rfl rfl rfl) (sS (sT1 rfl) sB0 sF0) ?_
        refine AL_cons (LR_off (b := true) rfl rfl rfl rfl) (sS (sT1 rfl) sB0 sF0) ?_
        refine AL_cons (LR_pick (b := true) (at_tmp 14 _) (at_c (v' := Bl true) rfl) (at_tmp 16 _) rfl) (sS (sA (sT1 rfl) (sA sT0 (sT1 rfl))) sB0 sF0) ?_
        exact AL_nil ⟨rfl, weak0 ((sT rfl (sT rfl (sT rfl (sT rfl (sT rfl (sT rfl (sT rfl (sT rfl (sT rfl (sT rfl (sT rfl (sT rfl (sT rfl sT0)))))))))))))) (sub_keep sub_nil)⟩
    refine AL_nil ?_
    exact thenN (cutLeaf (v := (decide (a1 < (-348))) || (decide (a1 > 347))) hr (weak0 ((sT rfl (sT rfl (sT rfl (sT rfl sT0))))) (sub_keep sub_nil)))
  · rintro x1 hr
    show AW Hfaa.prog _ _ _ ⟨[(0, .inl (tabp a0)), (1, .inl (is (I16 a1))), (4, .inr (.inl (4, 0))), (17, .inl (is (Bl x1)))], [(4, pb 42 [is (U64 (0#64)), is (U64 (0#64))])]⟩
    have hr : some r = F116_1 N a0 a1 x1 := hr
    refine AW_condT (b := x1) rfl (fun h => ?_) (fun h => ?_)
    · have hr := hr.trans (cond_t h)
      clear h
      refine AW_seq1 ?_
      refine AW_region ?_
      refine AL_cons (bl42 parts_nil rfl rfl) (sS sT0 sB0 sF0) ?_
      refine AL_cons (LR_store (at_tmp 4 _) (at_tmp 18 _) (cells_agg _) (onC (one_is rfl) (onC (one_is rfl) onN)) sz42 rfl rfl) (sS (sA (sT1 rfl) (sT1 rfl)) (sB1 rfl) sF0) ?_
      refine AL_cons (LR_assign (at_c (v' := I16 0) rfl) rfl) (sS sT0 sB0 sF0) ?_
      refine AL_cons (LR_assign (at_c (v' := Bl false) rfl) rfl) (sS sT0 sB0 sF0) ?_
      refine AL_nil ?_
      refine thenN ?_
      refine AW_ret ?_
      refine thenR ?_
      obtain rfl := Option.some.inj hr
      exact res3 rfl (rvC rfl rfl ag42 sz42 rfl) (rvT rfl) (rvT rfl)
    · have hr := hr.trans (cond_f h)
      clear h
      refine AW_skip ?_
      refine thenN ?_
      refine AW_cut (σ := Int) (fun v => ⟨[(0, .inl (tabp a0)), (4, .inr (.inl (4, 0))), (7, .inl (is (I64 v)))], [(4, pb 42 [is (U64 (0#64)), is (U64 (0#64))])]⟩) (fun v => some r = F116_2 N a0 v) ?_ ?_
      · skip
        refine AW_region ?_
        refine AL_cons (LR_move (at_tmp 1 _) rfl) (sS (sT1 rfl) sB0 sF0) ?_
        refine AL_cons (LR_conv (vx := I16 a1) (at_tmp 19 _) (conv_I64 Hfaa.underlying44 Hfaa.underlying3 a1) rfl) (sS (sT1 rfl) sB0 sF0) ?_
        refine AL_cons (LR_bin (at_tmp 20 _) (at_c (v' := I64 348) rfl) (add_I64 (w64 a1) 348) rfl) (sS (sA (sT1 rfl) sT0) sB0 sF0) ?_
        refine AL_cons (LR_assign (at_tmp 21 _) rfl) (sS (sT1 rfl) sB0 sF0) ?_
        refine AL_nil ?_
        exact thenN (cutLeaf (v := w64 ((w64 a1) + 348)) hr (weak0 ((sT rfl (sT rfl (sT rfl sT0)))) (sub_keep sub_nil)))
      · rintro x2 hr
        show AW Hfaa.prog _ _ _ ⟨[(0, .inl (tabp a0)), (4, .inr (.inl (4, 0))), (7, .inl (is (I64 x2)))], [(4, pb 42 [is (U64 (0#64)), is (U64 (0#64))])]⟩
        have hr : some r = F116_2 N a0 x2 := hr
        refine AW_seq1 ?_
        obtain ⟨hg3, hr⟩ := guard_some hr
        obtain ⟨hg4, hr⟩ := guard_some hr
        refine AW_draw mixed
          (lrC (LR_move (at_tmp 0 _) rfl)
          (lrC (LR_move (at_tmp 7 _) rfl)
          (lrC (LR_nilCheckTab (at_tmp 22 _) rfl)
          (lrC (LR_fieldTab (off := 0) (at_tmp 24 _) (fun b w => fa47_0 b 0 w) rfl)
          (lrC (LR_indexTabM Hfaa.underlying43 sz42 (at_tmp 25 _) (at_tmp 23 _) (dand hg3) rfl)
          (lrC (LR_loadQ2 (at_tmp 26 _) ag42 sz42 rfl)
          (lrC (LR_move (at_tmp 0 _) rfl)
          (lrC (LR_move (at_tmp 7 _) rfl)
          (lrC (LR_nilCheckTab (at_tmp 28 _) rfl)
          (lrC (LR_fieldTab (off := 1392) (at_tmp 30 _) (fun b w => fa47_1 b 0 w) rfl)
          (lrC (LR_indexTabE Hfaa.underlying45 sz44 (at_tmp 31 _) (at_tmp 29 _) (dand hg4) rfl)
          (lrC (LR_loadQ (at_tmp 32 _) na44 rfl)
          (lrC (LR_store (at_tmp 4 _) (at_tmp 27 _) (cells_agg _) (onC (one_is rfl) (onC (one_is rfl) onN)) sz42 rfl rfl)
          (lrC (LR_assign (at_tmp 33 _) rfl)
          (lrC (LR_assign (at_c (v' := Bl true) rfl) rfl)
          lrN)))))))))))))))
          (by kernel_rfl)
          (saC (sS (sT1 rfl) sB0 sF0) (saC (sS (sT1 rfl) sB0 sF0) (saC (sS (sT1 rfl) sB0 sF0) (saC (sS (sT1 rfl) sB0 sF0) (saC (sS (sA (sT1 rfl) (sT1 rfl)) sB0 sF0) (saC (sS (sT1 rfl) sB0 sF0) (saC (sS (sT1 rfl) sB0 sF0) (saC (sS (sT1 rfl) sB0 sF0) (saC (sS (sT1 rfl) sB0 sF0) (saC (sS (sT1 rfl) sB0 sF0) (saC (sS (sA (sT1 rfl) (sT1 rfl)) sB0 sF0) (saC (sS (sT1 rfl) sB0 sF0) (saC (sS (sA (sT1 rfl) (sT1 rfl)) (sB1 rfl) sF0) (saC (sS (sT1 rfl) sB0 sF0) (saC (sS sT0 sB0 sF0) saN))))))))))))))) ?_
        refine thenN ?_
        refine AW_ret ?_
        obtain rfl := Option.some.inj hr
        exact res3 rfl (rvC rfl rfl ag42 sz42 rfl) (rvT rfl) (rvT rfl)
/-- parse/lemire.round -/
def F264_7 (N : Nat) (a0_0 : BitVec 8) (a0_1 : BitVec 8) (x1 : Int) (x5 : Int) (x10 : BitVec 64) : Option (BitVec 64) := some (((BitVec.ofInt 64 (w16 (x5 - x1))) <<< a0_1.toNat) + x10)
def F264_8 (N : Nat) (a0_0 : BitVec 8) (a0_1 : BitVec 8) (x1 : Int) (x5 : Int) (x8 : BitVec 64) (x11 : Bool) : Option (BitVec 64) := bif x11 then F264_7 N a0_0 a0_1 x1 x5 (x8 + (1#64)) else F264_7 N a0_0 a0_1 x1 x5 x8
def F264_6 (N : Nat) (a0_0 : BitVec 8) (a0_1 : BitVec 8) (x1 : Int) (x5 : Int) (x8 : BitVec 64) (x9 : BitVec 64) : Option (BitVec 64) := F264_8 N a0_0 a0_1 x1 x5 x8 ((decide ((9223372036854775808#64).toNat < x9.toNat)) || ((x9 == (9223372036854775808#64)) && ((x8 &&& (1#64)) == (1#64))))
def F264_5 (N : Nat) (a0_0 : BitVec 8) (a0_1 : BitVec 8) (x1 : Int) (x5 : Int) (x6 : BitVec 64) (x7 : Int) : Option (BitVec 64) := bif decide (0 ≤ x7) then bif decide (0 ≤ (w16 (64 - x7))) then F264_6 N a0_0 a0_1 x1 x5 (x6 >>> x7.toNat) (x6 <<< (w16 (64 - x7)).toNat) else none else none
def F264_10 (N : Nat) (a0_0 : BitVec 8) (a0_1 : BitVec 8) (a1 : BitVec 64) (x1 : Int) (x4 : Int) (x5 : Int) (x13 : Bool) : Option (BitVec 64) := bif x13 then F264_5 N a0_0 a0_1 x1 x5 (1#64) 64 else F264_5 N a0_0 a0_1 x1 x5 a1 x4
def F264_9 (N : Nat) (a0_0 : BitVec 8) (a0_1 : BitVec 8) (a1 : BitVec 64) (x1 : Int) (x4 : Int) (x5 : Int) (x12 : Bool) : Option (BitVec 64) := bif x12 then lt (F67 a0_0 a0_1 false) fun y8 => some y8 else F264_10 N a0_0 a0_1 a1 x1 x4 x5 (decide (x4 > 64))
def F264_4 (N : Nat) (a0_0 : BitVec 8) (a0_1 : BitVec 8) (a1 : BitVec 64) (x1 : Int) (x4 : Int) (x5 : Int) : Option (BitVec 64) := lt (F71 a0_0 a0_1) fun y9 => F264_9 N a0_0 a0_1 a1 x1 x4 x5 (decide (x5 > y9))
def F264_12 (N : Nat) (a0_0 : BitVec 8) (a0_1 : BitVec 8) (a1 : BitVec 64) (x1 : Int) (x15 : Int) : Option (BitVec 64) := F264_4 N a0_0 a0_1 a1 x1 x15 x1
def F264_11 (N : Nat) (a0_0 : BitVec 8) (a0_1 : BitVec 8) (a1 : BitVec 64) (x1 : Int) (x2 : Int) (x3 : Int) (x14 : Bool) : Option (BitVec 64) := bif x14 then F264_12 N a0_0 a0_1 a1 x1 (w16 (x3 + (w16 (x1 - x2)))) else F264_4 N a0_0 a0_1 a1 x1 x3 x2
def F264_3 (N : Nat) (a0_0 : BitVec 8) (a0_1 : BitVec 8) (a1 : BitVec 64) (x1 : Int) (x2 : Int) (x3 : Int) : Option (BitVec 64) := F264_11 N a0_0 a0_1 a1 x1 x2 x3 (decide (x2 < x1))
def F264_2 (N : Nat) (a0_0 : BitVec 8) (a0_1 : BitVec 8) (a1 : BitVec 64) (x1 : Int) (x2 : Int) : Option (BitVec 64) := F264_3 N a0_0 a0_1 a1 x1 x2 (w16 (63 - (w16 (a0_1.toNat : Int))))
def F264_1 (N : Nat) (a0_0 : BitVec 8) (a0_1 : BitVec 8) (a1 : BitVec 64) (a2 : Int) (x1 : Int) : Option (BitVec 64) := F264_2 N a0_0 a0_1 a1 x1 (w16 (a2 + 63))
def F264 (N : Nat) (a0_0 : BitVec 8) (a0_1 : BitVec 8) (a1 : BitVec 64) (a2 : Int) : Option (BitVec 64) := lt (F71 a0_0 a0_1) fun y10 => F264_1 N a0_0 a0_1 a1 a2 (w16 (1 - y10))
theorem C264 (N : Nat) (a0_0 : BitVec 8) (a0_1 : BitVec 8) (a1 : BitVec 64) (a2 : Int) (r : BitVec 64) (hr : some r = F264 N a0_0 a0_1 a1 a2) : Aw.Fn Hfaa.prog 264 [agg [is (U8 a0_0), is (U8 a0_1)], is (U64 a1), is (I16 a2)] (is (U64 r)) := by
  refine fn_intro Hfaa.func264 rfl rfl rfl ?_
  intro bn0 w0 H0
  refine AW_seq1 ?_
  refine AW_region ?_
  refine AL_cons (LR_box (at_tmp 0 _) (cells_agg _) rfl) (sS (sT1 rfl) sB0 (sF1 rfl)) ?_
  refine AL_cons (LR_assign (at_c (v' := U64 (0#64)) rfl) rfl) (sS sT0 sB0 sF0) ?_
  refine AL_nil ?_
  refine thenN ?_
  refine AW_cut (σ := Int) (fun v => ⟨[(1, .inl (is (U64 a1))), (2, .inl (is (I16 a2))), (3, .inr (.inl (3, 0))), (7, .inl (is (I16 v)))], [(3, pb 23 [is (U8 a0_0), is (U8 a0_1)])]⟩) (fun v => some r = F264_1 N a0_0 a0_1 a1 a2 v) ?_ ?_
  · skip
    refine AW_region ?_
    refine AL_cons (LR_loads (at_tmp 3 _) ag23 sz23 rfl rfl rfl) (sS (sT1 rfl) (sB1 rfl) sF0) ?_
    obtain ⟨y10, hy10, hr⟩ := lt_some hr
    refine AL_cons (LR_call Hfaa.func71 rfl rfl (C71 a0_0 a0_1 y10 hy10) (all_cons (at_tmp 12 _) all_nil) rfl) (sS (sA (sT1 rfl) sT0) sB0 sF0) ?_
    refine AL_cons (LR_bin (at_c (v' := I16 1) rfl) (at_tmp 13 _) (sub_I16 1 y10) rfl) (sS (sA sT0 (sT1 rfl)) sB0 sF0) ?_
    refine AL_cons (LR_assign (at_tmp 14 _) rfl) (sS (sT1 rfl) sB0 sF0) ?_
    refine AL_nil ?_
    exact thenN (cutLeaf (v := w16 (1 - y10)) hr (weak0 ((sT rfl (sT rfl (sT rfl (sT rfl sT0))))) (sub_keep sub_nil)))
  · rintro x1 hr
    show AW Hfaa.prog _ _ _ ⟨[(1, .inl (is (U64 a1))), (2, .inl (is (I16 a2))), (3, .inr (.inl (3, 0))), (7, .inl (is (I16 x1)))], [(3, pb 23 [is (U8 a0_0), is (U8 a0_1)])]⟩
    have hr : some r = F264_1 N a0_0 a0_1 a1 a2 x1 := hr
    refine AW_cut (σ := Int) (fun v => ⟨[(1, .inl (is (U64 a1))), (3, .inr (.inl (3, 0))), (7, .inl (is (I16 x1))), (8, .inl (is (I16 v)))], [(3, pb 23 [is (U8 a0_0), is (U8 a0_1)])]⟩) (fun v => some r = F264_2 N a0_0 a0_1 a1 x1 v) ?_ ?_
    · skip
      refine AW_region ?_
      refine AL_cons (LR_move (at_tmp 2 _) rfl) (sS (sT1 rfl) sB0 sF0) ?_
      refine AL_cons (LR_bin (at_tmp 15 _) (at_c (v' := I16 63) rfl) (add_I16 a2 63) rfl) (sS (sA (sT1 rfl) sT0) sB0 sF0) ?_
      refine AL_cons (LR_assign (at_tmp 16 _) rfl) (sS (sT1 rfl) sB0 sF0) ?_
      refine AL_nil ?_
      exact thenN (cutLeaf (v := w16 (a2 + 63)) hr (weak0 ((sT rfl (sT rfl (sT rfl (sT rfl sT0))))) (sub_keep sub_nil)))
    · rintro x2 hr
      show AW Hfaa.prog _ _ _ ⟨[(1, .inl (is (U64 a1))), (3, .inr (.inl (3, 0))), (7, .inl (is (I16 x1))), (8, .inl (is (I16 x2)))], [(3, pb 23 [is (U8 a0_0), is (U8 a0_1)])]⟩
      have hr : some r = F264_2 N a0_0 a0_1 a1 x1 x2 := hr
      refine AW_cut (σ := Int) (fun v => ⟨[(1, .inl (is (U64 a1))), (3, .inr (.inl (3, 0))), (7, .inl (is (I16 x1))), (8, .inl (is (I16 x2))), (9, .inl (is (I16 v)))], [(3, pb 23 [is (U8 a0_0), is (U8 a0_1)])]⟩) (fun v => some r = F264_3 N a0_0 a0_1 a1 x1 x2 v) ?_ ?_
      · skip
        refine AW_region ?_
        refine AL_cons (LR_fieldAddr (off := 0) (o := 1) (at_tmp 3 _) (fun b w => fa23_1 b 0 w) rfl) (sS (sT1 rfl) sB0 sF0) ?_
        refine AL_cons (LR_load (at_tmp 17 _) na5 rfl rfl) (sS (sT1 rfl) (sB1 rfl) sF0) ?_
        refine AL_cons (LR_conv (vx := U8 a0_1) (at_tmp 18 _) (conv_I16 Hfaa.underlying5 Hfaa.underlying44 (a0_1.toNat : Int)) rfl) (sS (sT1 rfl) sB0 sF0) ?_
        refine AL_cons (LR_bin (at_c (v' := I16 63) rfl) (at_tmp 19 _) (sub_I16 63 (w16 (a0_1.toNat : Int))) rfl) (sS (sA sT0 (sT1 rfl)) sB0 sF0) ?_
        refine AL_cons (LR_assign (at_tmp 20 _) rfl) (sS (sT1 rfl) sB0 sF0) ?_
        refine AL_nil ?_
        exact thenN (cutLeaf (v := w16 (63 - (w16 (a0_1.toNat : Int)))) hr (weak0 ((sT rfl (sT rfl (sT rfl (sT rfl (sT rfl sT0)))))) (sub_keep sub_nil)))
      · rintro x3 hr
        show AW Hfaa.prog _ _ _ ⟨[(1, .inl (is (U64 a1))), (3, .inr (.inl (3, 0))), (7, .inl (is (I16 x1))), (8, .inl (is (I16 x2))), (9, .inl (is (I16 x3)))], [(3, pb 23 [is (U8 a0_0), is (U8 a0_1)])]⟩
        have hr : some r = F264_3 N a0_0 a0_1 a1 x1 x2 x3 := hr
        refine AW_cut (σ := Int × Int) (fun v => ⟨[(1, .inl (is (U64 a1))), (3, .inr (.inl (3, 0))), (7, .inl (is (I16 x1))), (9, .inl (is (I16 v.1))), (8, .inl (is (I16 v.2)))], [(3, pb 23 [is (U8 a0_0), is (U8 a0_1)])]⟩) (fun v => some r = F264_4 N a0_0 a0_1 a1 x1 v.1 v.2) ?_ ?_
        · skip
          refine AW_cut (σ := Bool) (fun v => ⟨[(1, .inl (is (U64 a1))), (3, .inr (.inl (3, 0))), (7, .inl (is (I16 x1))), (8, .inl (is (I16 x2))), (9, .inl (is (I16 x3))), (23, .inl (is (Bl v)))], [(3, pb 23 [is (U8 a0_0), is (U8 a0_1)])]⟩) (fun v => some r = F264_11 N a0_0 a0_1 a1 x1 x2 x3 v) ?_ ?_
          · skip
            refine AW_region ?_
            refine AL_cons (LR_move (at_tmp 8 _) rfl) (sS (sT1 rfl) sB0 sF0) ?_
            refine AL_cons (LR_move (at_tmp 7 _) rfl) (sS (sT1 rfl) sB0 sF0) ?_
            refine AL_cons (LR_bin (at_tmp 21 _) (at_tmp 22 _) (lss_I16 x2 x1) rfl) (sS (sA (sT1 rfl) (sT1 rfl)) sB0 sF0) ?_
            refine AL_nil ?_
            exact thenN (cutLeaf (v := decide (x2 < x1)) hr (weak0 ((sT rfl (sT rfl (sT rfl (sT rfl (sT rfl (sT rfl sT0))))))) (sub_keep sub_nil)))
          · rintro x14 hr
            show AW Hfaa.prog _ _ _ ⟨[(1, .inl (is (U64 a1))), (3, .inr (.inl (3, 0))), (7, .inl (is (I16 x1))), (8, .inl (is (I16 x2))), (9, .inl (is (I16 x3))), (23, .inl (is (Bl x14)))], [(3, pb 23 [is (U8 a0_0), is (U8 a0_1)])]⟩
            have hr : some r = F264_11 N a0_0 a0_1 a1 x1 x2 x3 x14 := hr
            refine AW_condT (b := x14) rfl (fun h => ?_) (fun h => ?_)
            · have hr := hr.trans (cond_t h)
              clear h
              refine AW_cut (σ := Int) (fun v => ⟨[(1, .inl (is (U64 a1))), (3, .inr (.inl (3, 0))), (7, .inl (is (I16 x1))), (9, .inl (is (I16 v)))], [(3, pb 23 [is (U8 a0_0), is (U8 a0_1)])]⟩) (fun v => some r = F264_12 N a0_0 a0_1 a1 x1 v) ?_ ?_
              · skip
                refine AW_region ?_
                refine AL_cons (LR_move (at_tmp 9 _) rfl) (sS (sT1 rfl) sB0 sF0) ?_
                refine AL_cons (LR_move (at_tmp 7 _) rfl) (sS (sT1 rfl) sB0 sF0) ?_
                refine AL_cons (LR_move (at_tmp 8 _) rfl) (sS (sT1 rfl) sB0 sF0) ?_
                refine AL_cons (LR_bin (at_tmp 25 _) (at_tmp 26 _) (sub_I16 x1 x2) rfl) (sS (sA (sT1 rfl) (sT1 rfl)) sB0 sF0) ?_
                refine AL_cons (LR_bin (at_tmp 24 _) (at_tmp 27 _) (add_I16 x3 (w16 (x1 - x2))) rfl) (sS (sA (sT1 rfl) (sT1 rfl)) sB0 sF0) ?_
                refine AL_cons (LR_assign (at_tmp 28 _) rfl) (sS (sT1 rfl) sB0 sF0) ?_
                refine AL_nil ?_
                exact thenN (cutLeaf (v := w16 (x3 + (w16 (x1 - x2)))) hr (weak0 ((sT rfl (sT rfl (sT rfl (sT rfl sT0))))) (sub_keep sub_nil)))
              · rintro x15 hr
                show AW Hfaa.prog _ _ _ ⟨[(1, .inl (is (U64 a1))), (3, .inr (.inl (3, 0))), (7, .inl (is (I16 x1))), (9, .inl (is (I16 x15)))], [(3, pb 23 [is (U8 a0_0), is (U8 a0_1)])]⟩
                have hr : some r = F264_12 N a0_0 a0_1 a1 x1 x15 := hr
                refine AW_region ?_
                refine AL_cons (LR_move (at_tmp 7 _) rfl) (sS (sT1 rfl) sB0 sF0) ?_
                refine AL_cons (LR_assign (at_tmp 29 _) rfl) (sS (sT1 rfl) sB0 sF0) ?_
                refine AL_nil ?_
                exact thenN (cutLeaf (v := (x15, x1)) hr (weak0 ((sT rfl (sT rfl (sT rfl (sT rfl (sT rfl sT0)))))) (sub_keep sub_nil)))
            · have hr := hr.trans (cond_f h)
              clear h
              refine AW_skip ?_
              exact thenN (cutLeaf (v := (x3, x2)) hr (weak0 ((sT rfl (sT rfl (sT rfl (sT rfl (sT rfl sT0)))))) (sub_keep sub_nil)))
        · rintro ⟨x4, x5⟩ hr
          show AW Hfaa.prog _ _ _ ⟨[(1, .inl (is (U64 a1))), (3, .inr (.inl (3, 0))), (7, .inl (is (I16 x1))), (9, .inl (is (I16 x4))), (8, .inl (is (I16 x5)))], [(3, pb 23 [is (U8 a0_0), is (U8 a0_1)])]⟩
          have hr : some r = F264_4 N a0_0 a0_1 a1 x1 x4 x5 := hr
          refine AW_cut (σ := BitVec 64 × Int) (fun v => ⟨[(1, .inl (is (U64 v.1))), (3, .inr (.inl (3, 0))), (7, .inl (is (I16 x1))), (9, .inl (is (I16 v.2))), (8, .inl (is (I16 x5)))], [(3, pb 23 [is (U8 a0_0), is (U8 a0_1)])]⟩) (fun v => some r = F264_5 N a0_0 a0_1 x1 x5 v.1 v.2) ?_ ?_
          · skip
            refine AW_block ?_
            refine AW_cut (σ := Bool) (fun v => ⟨[(1, .inl (is (U64 a1))), (3, .inr (.inl (3, 0))), (7, .inl (is (I16 x1))), (9, .inl (is (I16 x4))), (8, .inl (is (I16 x5))), (30, .inl (is (Bl v)))], [(3, pb 23 [is (U8 a0_0), is (U8 a0_1)])]⟩) (fun v => some r = F264_9 N a0_0 a0_1 a1 x1 x4 x5 v) ?_ ?_
            · skip
              refine AW_region ?_
              refine AL_cons (LR_move (at_tmp 8 _) rfl) (sS (sT1 rfl) sB0 sF0) ?_
              refine AL_cons (LR_loads (at_tmp 3 _) ag23 sz23 rfl rfl rfl) (sS (sT1 rfl) (sB1 rfl) sF0) ?_
              obtain ⟨y9, hy9, hr⟩ := lt_some hr
              refine AL_cons (LR_call Hfaa.func71 rfl rfl (C71 a0_0 a0_1 y9 hy9) (all_cons (at_tmp 32 _) all_nil) rfl) (sS (sA (sT1 rfl) sT0) sB0 sF0) ?_
              refine AL_cons (LR_bin (at_tmp 31 _) (at_tmp 33 _) (gtr_I16 x5 y9) rfl) (sS (sA (sT1 rfl) (sT1 rfl)) sB0 sF0) ?_
              refine AL_cons (LR_assign (at_tmp 34 _) rfl) (sS (sT1 rfl) sB0 sF0) ?_
              refine AL_nil ?_
              exact thenN (cutLeaf (v := decide (x5 > y9)) hr (weak0 ((sT rfl (sT rfl (sT rfl (sT rfl (sT rfl (sT rfl sT0))))))) (sub_keep sub_nil)))
            · rintro x12 hr
              show AW Hfaa.prog _ _ _ ⟨[(1, .inl (is (U64 a1))), (3, .inr (.inl (3, 0))), (7, .inl (is (I16 x1))), (9, .inl (is (I16 x4))), (8, .inl (is (I16 x5))), (30, .inl (is (Bl x12)))], [(3, pb 23 [is (U8 a0_0), is (U8 a0_1)])]⟩
              have hr : some r = F264_9 N a0_0 a0_1 a1 x1 x4 x5 x12 := hr
              refine AW_condT (b := x12) rfl (fun h => ?_) (fun h => ?_)
              · have hr := hr.trans (cond_t h)
                clear h
                refine AW_seq1 ?_
                refine AW_region ?_
                refine AL_cons (LR_loads (at_tmp 3 _) ag23 sz23 rfl rfl rfl) (sS (sT1 rfl) (sB1 rfl) sF0) ?_
                obtain ⟨y8, hy8, hr⟩ := lt_some hr
                refine AL_cons (LR_call Hfaa.func67 rfl rfl (C67 a0_0 a0_1 false y8 hy8) (all_cons (at_tmp 35 _) (all_cons (at_c (v' := Bl false) rfl) all_nil)) rfl) (sS (sA (sT1 rfl) (sA sT0 sT0)) sB0 sF0) ?_
                refine AL_cons (LR_assign (at_tmp 36 _) rfl) (sS (sT1 rfl) sB0 sF0) ?_
                refine AL_nil ?_
                refine thenN ?_
                refine AW_ret ?_
                refine blR ?_
                refine thenR ?_
                obtain rfl := Option.some.inj hr
                exact res1 rfl (rvT rfl)
              · have hr := hr.trans (cond_f h)
                clear h
                refine AW_cut (σ := Bool) (fun v => ⟨[(1, .inl (is (U64 a1))), (3, .inr (.inl (3, 0))), (7, .inl (is (I16 x1))), (9, .inl (is (I16 x4))), (8, .inl (is (I16 x5))), (37, .inl (is (Bl v)))], [(3, pb 23 [is (U8 a0_0), is (U8 a0_1)])]⟩) (fun v => some r = F264_10 N a0_0 a0_1 a1 x1 x4 x5 v) ?_ ?_
                · skip
                  refine AW_region ?_
                  refine AL_cons (LR_move (at_tmp 9 _) rfl) (sS (sT1 rfl) sB0 sF0) ?_
                  refine AL_cons (LR_bin (at_tmp 38 _) (at_c (v' := I16 64) rfl) (gtr_I16 x4 64) rfl) (sS (sA (sT1 rfl) sT0) sB0 sF0) ?_
                  refine AL_cons (LR_assign (at_tmp 39 _) rfl) (sS (sT1 rfl) sB0 sF0) ?_
                  refine AL_nil ?_
                  exact thenN (cutLeaf (v := decide (x4 > 64)) hr (weak0 ((sT rfl (sT rfl (sT rfl (sT rfl (sT rfl (sT rfl sT0))))))) (sub_keep sub_nil)))
                · rintro x13 hr
                  show AW Hfaa.prog _ _ _ ⟨[(1, .inl (is (U64 a1))), (3, .inr (.inl (3, 0))), (7, .inl (is (I16 x1))), (9, .inl (is (I16 x4))), (8, .inl (is (I16 x5))), (37, .inl (is (Bl x13)))], [(3, pb 23 [is (U8 a0_0), is (U8 a0_1)])]⟩
                  have hr : some r = F264_10 N a0_0 a0_1 a1 x1 x4 x5 x13 := hr
                  refine AW_condT (b := x13) rfl (fun h => ?_) (fun h => ?_)
                  · have hr := hr.trans (cond_t h)
                    clear h
                    refine AW_region ?_
                    refine AL_cons (LR_assign (at_c (v' := U64 (1#64)) rfl) rfl) (sS sT0 sB0 sF0) ?_
                    refine AL_cons (LR_assign (at_c (v' := I16 64) rfl) rfl) (sS sT0 sB0 sF0) ?_
                    refine AL_nil ?_
                    refine blN ?_
                    exact thenN (cutLeaf (v := (1#64, 64)) hr (weak0 ((sT rfl (sT rfl (sT rfl (sT rfl (sT rfl sT0)))))) (sub_keep sub_nil)))
                  · have hr := hr.trans (cond_f h)
                    clear h
                    refine AW_skip ?_
                    refine blN ?_
                    exact thenN (cutLeaf (v := (a1, x4)) hr (weak0 ((sT rfl (sT rfl (sT rfl (sT rfl (sT rfl sT0)))))) (sub_keep sub_nil)))
          · rintro ⟨x6, x7⟩ hr
            show AW Hfaa.prog _ _ _ ⟨[(1, .inl (is (U64 x6))), (3, .inr (.inl (3, 0))), (7, .inl (is (I16 x1))), (9, .inl (is (I16 x7))), (8, .inl (is (I16 x5)))], [(3, pb 23 [is (U8 a0_0), is (U8 a0_1)])]⟩
            have hr : some r = F264_5 N a0_0 a0_1 x1 x5 x6 x7 := hr
            refine AW_cut (σ := BitVec 64 × BitVec 64) (fun v => ⟨[(3, .inr (.inl (3, 0))), (7, .inl (is (I16 x1))), (8, .inl (is (I16 x5))), (10, .inl (is (U64 v.1))), (11, .inl (is (U64 v.2)))], [(3, pb 23 [is (U8 a0_0), is (U8 a0_1)])]⟩) (fun v => some r = F264_6 N a0_0 a0_1 x1 x5 v.1 v.2) ?_ ?_
            · skip
              obtain ⟨hg3, hr⟩ := guard_some hr
              obtain ⟨hg4, hr⟩ := guard_some hr
              refine AW_draw mixed
                (lrC (LR_move (at_tmp 1 _) rfl)
                (lrC (LR_move (at_tmp 9 _) rfl)
                (lrC (LR_bin (at_tmp 40 _) (at_tmp 41 _) (shr_U64 x6 x7 (of_decide_eq_true hg3)) rfl)
                (lrC (LR_move (at_tmp 1 _) rfl)
                (lrC (LR_move (at_tmp 9 _) rfl)
                (lrC (LR_bin (at_c (v' := I16 64) rfl) (at_tmp 44 _) (sub_I16 64 x7) rfl)
                (lrC (LR_bin (at_tmp 43 _) (at_tmp 45 _) (shl_U64 x6 (w16 (64 - x7)) (of_decide_eq_true hg4)) rfl)
                (lrC (LR_assign (at_tmp 42 _) rfl)
                (lrC (LR_assign (at_tmp 46 _) rfl)
                lrN)))))))))
                (by kernel_rfl)
                (saC (sS (sT1 rfl) sB0 sF0) (saC (sS (sT1 rfl) sB0 sF0) (saC (sS (sA (sT1 rfl) (sT1 rfl)) sB0 sF0) (saC (sS (sT1 rfl) sB0 sF0) (saC (sS (sT1 rfl) sB0 sF0) (saC (sS (sA sT0 (sT1 rfl)) sB0 sF0) (saC (sS (sA (sT1 rfl) (sT1 rfl)) sB0 sF0) (saC (sS (sT1 rfl) sB0 sF0) (saC (sS (sT1 rfl) sB0 sF0) saN))))))))) ?_
              exact thenN (cutLeaf (v := (x6 >>> x7.toNat, x6 <<< (w16 (64 - x7)).toNat)) hr (weak0 ((sT rfl (sT rfl (sT rfl (sT rfl (sT rfl sT0)))))) (sub_keep sub_nil)))
            · rintro ⟨x8, x9⟩ hr
              show AW Hfaa.prog _ _ _ ⟨[(3, .inr (.inl (3, 0))), (7, .inl (is (I16 x1))), (8, .inl (is (I16 x5))), (10, .inl (is (U64 x8))), (11, .inl (is (U64 x9)))], [(3, pb 23 [is (U8 a0_0), is (U8 a0_1)])]⟩
              have hr : some r = F264_6 N a0_0 a0_1 x1 x5 x8 x9 := hr
              refine AW_cut (σ := BitVec 64) (fun v => ⟨[(3, .inr (.inl (3, 0))), (7, .inl (is (I16 x1))), (8, .inl (is (I16 x5))), (10, .inl (is (U64 v)))], [(3, pb 23 [is (U8 a0_0), is (U8 a0_1)])]⟩) (fun v => some r = F264_7 N a0_0 a0_1 x1 x5 v) ?_ ?_
              · skip
                refine AW_cut (σ := Bool) (fun v => ⟨[(3, .inr (.inl (3, 0))), (7, .inl (is (I16 x1))), (8, .inl (is (I16 x5))), (10, .inl (is (U64 x8))), (57, .inl (is (Bl v)))], [(3, pb 23 [is (U8 a0_0), is (U8 a0_1)])]⟩) (fun v => some r = F264_8 N a0_0 a0_1 x1 x5 x8 v) ?_ ?_
                · skip
                  refine AW_region ?_
                  refine AL_cons (LR_move (at_tmp 11 _) rfl) (sS (sT1 rfl) sB0 sF0) ?_
                  refine AL_cons (LR_bin (at_tmp 47 _) (at_c (v' := U64 (9223372036854775808#64)) rfl) (gtr_U64 x9 (9223372036854775808#64)) rfl) (sS (sA (sT1 rfl) sT0) sB0 sF0) ?_
                  refine AL_cons (LR_move (at_tmp 48 _) rfl) (sS (sT1 rfl) sB0 sF0) ?_
                  refine AL_cutAt 8 ⟨[(3, .inr (.inl (3, 0))), (7, .inl (is (I16 x1))), (8, .inl (is (I16 x5))), (10, .inl (is (U64 x8))), (11, .inl (is (U64 x9))), (47, .inl (is (U64 x9))), (48, .inl (is (Bl (decide ((9223372036854775808#64).toNat < x9.toNat))))), (49, .inl (is (Bl (decide ((9223372036854775808#64).toNat < x9.toNat))))), (57, .inl (is (Bl ((decide ((9223372036854775808#64).toNat < x9.toNat)) || ((x9 == (9223372036854775808#64)) && ((x8 &&& (1#64)) == (1#64)))))))], [(3, pb 23 [is (U8 a0_0), is (U8 a0_1)])]⟩ ?_ ?_
                  · cases hb : decide ((9223372036854775808#64).toNat < x9.toNat)
                    · skip
                      refine AL_cons (LR_on rfl rfl rfl (LR_move (at_tmp 11 _) rfl)) (sS (sT rfl (sT1 rfl)) sB0 sF0) ?_
                      refine AL_cons (LR_on rfl rfl rfl (LR_bin (at_tmp 50 _) (at_c (v' := U64 (9223372036854775808#64)) rfl) (eql_U64 x9 (9223372036854775808#64)) rfl)) (sS (sT rfl (sA (sT1 rfl) sT0)) sB0 sF0) ?_
                      refine AL_cons (LR_on rfl rfl rfl (LR_move (at_tmp 51 _) rfl)) (sS (sT rfl (sT1 rfl)) sB0 sF0) ?_
                      refine AL_cutAt 4 ⟨[(3, .inr (.inl (3, 0))), (7, .inl (is (I16 x1))), (8, .inl (is (I16 x5))), (10, .inl (is (U64 x8))), (11, .inl (is (U64 x9))), (47, .inl (is (U64 x9))), (48, .inl (is (Bl false))), (49, .inl (is (Bl false))), (50, .inl (is (U64 x9))), (51, .inl (is (Bl (x9 == (9223372036854775808#64))))), (52, .inl (is (Bl (x9 == (9223372036854775808#64))))), (56, .inl (is (Bl ((x9 == (9223372036854775808#64)) && ((x8 &&& (1#64)) == (1#64))))))], [(3, pb 23 [is (U8 a0_0), is (U8 a0_1)])]⟩ ?_ ?_
                      · cases hb : x9 == (9223372036854775808#64)
                        · skip
                          refine AL_cons (LR_off (b := false) rfl rfl rfl rfl) (sS (sT1 rfl) sB0 sF0) ?_
                          refine AL_cons (LR_off (b := false) rfl rfl rfl rfl) (sS (sT1 rfl) sB0 sF0) ?_
                          refine AL_cons (LR_off (b := false) rfl rfl rfl rfl) (sS (sT1 rfl) sB0 sF0) ?_
                          refine AL_cons (LR_on rfl rfl rfl (LR_pick (b := false) (at_tmp 52 _) (at_tmp 55 _) (at_c (v' := Bl false) rfl) rfl)) (sS (sT rfl (sA (sT1 rfl) (sA (sT1 rfl) sT0))) sB0 sF0) ?_
                          exact AL_nil ⟨rfl, weak0 ((sT rfl (sT rfl (sT rfl (sT rfl (sT rfl (sT rfl (sT rfl (sT rfl (sT rfl (sT rfl (sT rfl (sT rfl sT0))))))))))))) (sub_keep sub_nil)⟩
                        · skip
                          refine AL_cons (LR_on rfl rfl rfl (LR_move (at_tmp 10 _) rfl)) (sS (sT rfl (sT1 rfl)) sB0 sF0) ?_
                          refine AL_cons (LR_on rfl rfl rfl (LR_bin (at_tmp 53 _) (at_c (v' := U64 (1#64)) rfl) (and_U64 x8 (1#64)) rfl)) (sS (sT rfl (sA (sT1 rfl) sT0)) sB0 sF0) ?_
                          refine AL_cons (LR_on rfl rfl rfl (LR_bin (at_tmp 54 _) (at_c (v' := U64 (1#64)) rfl) (eql_U64 (x8 &&& (1#64)) (1#64)) rfl)) (sS (sT rfl (sA (sT1 rfl) sT0)) sB0 sF0) ?_
                          refine AL_cons (LR_on rfl rfl rfl (LR_pick (b := true) (at_tmp 52 _) (at_tmp 55 _) (at_c (v' := Bl false) rfl) rfl)) (sS (sT rfl (sA (sT1 rfl) (sA (sT1 rfl) sT0))) sB0 sF0) ?_
                          exact AL_nil ⟨rfl, weak0 ((sT rfl (sT rfl (sT rfl (sT rfl (sT rfl (sT rfl (sT rfl (sT rfl (sT rfl (sT rfl (sT rfl (sT rfl sT0))))))))))))) (sub_keep sub_nil)⟩
                      refine AL_cons (LR_pick (b := false) (at_tmp 49 _) (at_c (v' := Bl true) rfl) (at_tmp 56 _) rfl) (sS (sA (sT1 rfl) (sA sT0 (sT1 rfl))) sB0 sF0) ?_
                      exact AL_nil ⟨rfl, weak0 ((sT rfl (sT rfl (sT rfl (sT rfl (sT rfl (sT rfl (sT rfl (sT rfl (sT rfl sT0)))))))))) (sub_keep sub_nil)⟩
                    · skip
                      refine AL_cons (LR_off (b := true) rfl rfl rfl rfl) (sS (sT1 rfl) sB0 sF0) ?_
                      refine AL_cons (LR_off (b := true) rfl rfl rfl rfl) (sS (sT1 rfl) sB0 sF0) ?_
                      refine AL_cons (LR_off (b := true) rfl rfl rfl rfl) (sS (sT1 rfl) sB0 sF0) ?_
                      refine AL_cons (LR_offU rfl rfl rfl rfl) (sS (sT1 rfl) sB0 sF0) ?_
                      refine AL_cons (LR_offU rfl rfl rfl rfl) (sS (sT1 rfl) sB0 sF0) ?_
                      refine AL_cons (LR_offU rfl rfl rfl rfl) (sS (sT1 rfl) sB0 sF0) ?_
                      refine AL_cons (LR_off (b := true) rfl rfl rfl rfl) (sS (sT1 rfl) sB0 sF0) ?_
                      refine AL_cons (LR_pick (b := true) (at_tmp 49 _) (at_c (v' := Bl true) rfl) (at_tmp 56 _) rfl) (sS (sA (sT1 rfl) (sA sT0 (sT1 rfl))) sB0 sF0) ?_
                      exact AL_nil ⟨rfl, weak0 ((sT rfl (sT rfl (sT rfl (sT rfl (sT rfl (sT rfl (sT rfl (sT rfl (sT rfl sT0)))))))))) (sub_keep sub_nil)⟩
                  refine AL_nil ?_
                  exact thenN (cutLeaf (v := (decide ((9223372036854775808#64).toNat < x9.toNat)) || ((x9 == (9223372036854775808#64)) && ((x8 &&& (1#64)) == (1#64)))) hr (weak0 ((sT rfl (sT rfl (sT rfl (sT rfl (sT rfl sT0)))))) (sub_keep sub_nil)))
                · rintro x11 hr
                  show AW Hfaa.prog _ _ _ ⟨[(3, .inr (.inl (3, 0))), (7, .inl (is (I16 x1))), (8, .inl (is (I16 x5))), (10, .inl (is (U64 x8))), (57, .inl (is (Bl x11)))], [(3, pb 23 [is (U8 a0_0), is (U8 a0_1)])]⟩
                  have hr : some r = F264_8 N a0_0 a0_1 x1 x5 x8 x11 := hr
                  refine AW_condT (b := x11) rfl (fun h => ?_) (fun h => ?_)
                  · have hr := hr.trans (cond_t h)
                    clear h
                    refine AW_region ?_
                    refine AL_cons (LR_move (at_tmp 10 _) rfl) (sS (sT1 rfl) sB0 sF0) ?_
                    refine AL_cons (LR_bin (at_tmp 58 _) (at_c (v' := U64 (1#64)) rfl) (add_U64 x8 (1#64)) rfl) (sS (sA (sT1 rfl) sT0) sB0 sF0) ?_
                    refine AL_cons (LR_assign (at_tmp 59 _) rfl) (sS (sT1 rfl) sB0 sF0) ?_
                    refine AL_nil ?_
                    exact thenN (cutLeaf (v := x8 + (1#64)) hr (weak0 ((sT rfl (sT rfl (sT rfl (sT rfl sT0))))) (sub_keep sub_nil)))
                  · have hr := hr.trans (cond_f h)
                    clear h
                    refine AW_skip ?_
                    exact thenN (cutLeaf (v := x8) hr (weak0 ((sT rfl (sT rfl (sT rfl (sT rfl sT0))))) (sub_keep sub_nil)))
              · rintro x10 hr
                show AW Hfaa.prog _ _ _ ⟨[(3, .inr (.inl (3, 0))), (7, .inl (is (I16 x1))), (8, .inl (is (I16 x5))), (10, .inl (is (U64 x10)))], [(3, pb 23 [is (U8 a0_0), is (U8 a0_1)])]⟩
                have hr : some r = F264_7 N a0_0 a0_1 x1 x5 x10 := hr
                refine AW_seq1 ?_
                refine AW_region ?_
                refine AL_cons (LR_move (at_tmp 8 _) rfl) (sS (sT1 rfl) sB0 sF0) ?_
                refine AL_cons (LR_move (at_tmp 7 _) rfl) (sS (sT1 rfl) sB0 sF0) ?_
                refine AL_cons (LR_bin (at_tmp 60 _) (at_tmp 61 _) (sub_I16 x5 x1) rfl) (sS (sA (sT1 rfl) (sT1 rfl)) sB0 sF0) ?_
                refine AL_cons (LR_conv (vx := I16 (w16 (x5 - x1))) (at_tmp 62 _) (conv_U64 Hfaa.underlying44 Hfaa.underlying30 (w16 (x5 - x1))) rfl) (sS (sT1 rfl) sB0 sF0) ?_
                refine AL_cons (LR_fieldAddr (off := 0) (o := 1) (at_tmp 3 _) (fun b w => fa23_1 b 0 w) rfl) (sS (sT1 rfl) sB0 sF0) ?_
                refine AL_cons (LR_load (at_tmp 64 _) na5 rfl rfl) (sS (sT1 rfl) (sB1 rfl) sF0) ?_
                refine AL_cons (LR_bin (at_tmp 63 _) (at_tmp 65 _) (shl_U64 (BitVec.ofInt 64 (w16 (x5 - x1))) (a0_1.toNat : Int) (Int.natCast_nonneg _)) rfl) (sS (sA (sT1 rfl) (sT1 rfl)) sB0 sF0) ?_
                refine AL_cons (LR_move (at_tmp 10 _) rfl) (sS (sT1 rfl) sB0 sF0) ?_
                refine AL_cons (LR_bin (at_tmp 66 _) (at_tmp 67 _) (add_U64 ((BitVec.ofInt 64 (w16 (x5 - x1))) <<< a0_1.toNat) x10) rfl) (sS (sA (sT1 rfl) (sT1 rfl)) sB0 sF0) ?_
                refine AL_cons (LR_assign (at_tmp 68 _) rfl) (sS (sT1 rfl) sB0 sF0) ?_
                refine AL_nil ?_
                refine thenN ?_
                refine AW_ret ?_
                obtain rfl := Option.some.inj hr
                exact res1 rfl (rvT rfl)
/-- parse/lemire.pattern -/
def F167_3 (N : Nat) (a0_0 : BitVec 8) (a0_1 : BitVec 8) (x2 : Int) (x4 : BitVec 64) (x5 : BitVec 64) : Option (BitVec 64) := (F264 N a0_0 a0_1 x5 x2).bind fun y2 => some y2
def F167_4 (N : Nat) (a0_0 : BitVec 8) (a0_1 : BitVec 8) (x2 : Int) (x3 : BitVec 64) (x4 : BitVec 64) (x6 : Bool) : Option (BitVec 64) := bif x6 then F167_3 N a0_0 a0_1 x2 x4 (x3 ||| (1#64)) else F167_3 N a0_0 a0_1 x2 x4 x3
def F167_2 (N : Nat) (a0_0 : BitVec 8) (a0_1 : BitVec 8) (a2 : BitVec 64) (x2 : Int) (x3 : BitVec 64) (x4 : BitVec 64) : Option (BitVec 64) := F167_4 N a0_0 a0_1 x2 x3 x4 ((x4 ||| a2) != (0#64))
def F167_7 (N : Nat) (a0_0 : BitVec 8) (a0_1 : BitVec 8) (a2 : BitVec 64) (x1 : Int) (x8 : BitVec 64) (x9 : BitVec 64) : Option (BitVec 64) := F167_2 N a0_0 a0_1 a2 (w16 (x1 - 1)) x8 x9
def F167_6 (N : Nat) (a0_0 : BitVec 8) (a0_1 : BitVec 8) (a1_1 : BitVec 64) (a2 : BitVec 64) (x1 : Int) (x8 : BitVec 64) : Option (BitVec 64) := F167_7 N a0_0 a0_1 a2 x1 x8 (a1_1 <<< 1)
def F167_5 (N : Nat) (a0_0 : BitVec 8) (a0_1 : BitVec 8) (a1_0 : BitVec 64) (a1_1 : BitVec 64) (a2 : BitVec 64) (x1 : Int) (x7 : Bool) : Option (BitVec 64) := bif x7 then F167_6 N a0_0 a0_1 a1_1 a2 x1 ((a1_0 <<< 1) ||| (a1_1 >>> 63)) else F167_2 N a0_0 a0_1 a2 x1 a1_0 a1_1
def F167_1 (N : Nat) (a0_0 : BitVec 8) (a0_1 : BitVec 8) (a1_0 : BitVec 64) (a1_1 : BitVec 64) (a2 : BitVec 64) (x1 : Int) : Option (BitVec 64) := F167_5 N a0_0 a0_1 a1_0 a1_1 a2 x1 ((a1_0 >>> 63) == (0#64))
def F167 (N : Nat) (a0_0 : BitVec 8) (a0_1 : BitVec 8) (a1_0 : BitVec 64) (a1_1 : BitVec 64) (a2 : BitVec 64) (a3 : Int) : Option (BitVec 64) := F167_1 N a0_0 a0_1 a1_0 a1_1 a2 (w16 (a3 + 128))
theorem C167 (N : Nat) (a0_0 : BitVec 8) (a0_1 : BitVec 8) (a1_0 : BitVec 64) (a1_1 : BitVec 64) (a2 : BitVec 64) (a3 : Int) (r : BitVec 64) (hr : some r = F167 N a0_0 a0_1 a1_0 a1_1 a2 a3) : Aw.Fn Hfaa.prog 167 [agg [is (U8 a0_0), is (U8 a0_1)], agg [is (U64 a1_0), is (U64 a1_1)], is (U64 a2), is (I16 a3)] (is (U64 r)) := by
  refine fn_intro Hfaa.func167 rfl rfl rfl ?_
  intro bn0 w0 H0
  refine AW_seq1 ?_
  refine AW_region ?_
  refine AL_cons (LR_box (at_tmp 0 _) (cells_agg _) rfl) (sS (sT1 rfl) sB0 (sF1 rfl)) ?_
  refine AL_cons (LR_box (at_tmp 1 _) (cells_agg _) rfl) (sS (sT1 rfl) sB0 (sF1 rfl)) ?_
  refine AL_cons (LR_assign (at_c (v' := U64 (0#64)) rfl) rfl) (sS sT0 sB0 sF0) ?_
  refine AL_nil ?_
  refine thenN ?_
  refine AW_cut (σ := Int) (fun v => ⟨[(2, .inl (is (U64 a2))), (3, .inl (is (I16 v))), (4, .inr (.inl (4, 0))), (5, .inr (.inl (5, 0)))], [(4, pb 23 [is (U8 a0_0), is (U8 a0_1)]), (5, pb 42 [is (U64 a1_0), is (U64 a1_1)])]⟩) (fun v => some r = F167_1 N a0_0 a0_1 a1_0 a1_1 a2 v) ?_ ?_
  · skip
    refine AW_region ?_
    refine AL_cons (LR_move (at_tmp 3 _) rfl) (sS (sT1 rfl) sB0 sF0) ?_
    refine AL_cons (LR_bin (at_tmp 9 _) (at_c (v' := I16 128) rfl) (add_I16 a3 128) rfl) (sS (sA (sT1 rfl) sT0) sB0 sF0) ?_
    refine AL_cons (LR_assign (at_tmp 10 _) rfl) (sS (sT1 rfl) sB0 sF0) ?_
    refine AL_nil ?_
    exact thenN (cutLeaf (v := w16 (a3 + 128)) hr (weak0 ((sT rfl (sT rfl (sT rfl (sT rfl sT0))))) (sub_keep (sub_keep sub_nil))))
  · rintro x1 hr
    show AW Hfaa.prog _ _ _ ⟨[(2, .inl (is (U64 a2))), (3, .inl (is (I16 x1))), (4, .inr (.inl (4, 0))), (5, .inr (.inl (5, 0)))], [(4, pb 23 [is (U8 a0_0), is (U8 a0_1)]), (5, pb 42 [is (U64 a1_0), is (U64 a1_1)])]⟩
    have hr : some r = F167_1 N a0_0 a0_1 a1_0 a1_1 a2 x1 := hr
    refine AW_cut (σ := Int × BitVec 64 × BitVec 64) (fun v => ⟨[(2, .inl (is (U64 a2))), (3, .inl (is (I16 v.1))), (4, .inr (.inl (4, 0))), (5, .inr (.inl (5, 0)))], [(4, pb 23 [is (U8 a0_0), is (U8 a0_1)]), (5, pb 42 [is (U64 v.2.1), is (U64 v.2.2)])]⟩) (fun v => some r = F167_2 N a0_0 a0_1 a2 v.1 v.2.1 v.2.2) ?_ ?_
    · skip
      refine AW_cut (σ := Bool) (fun v => ⟨[(2, .inl (is (U64 a2))), (3, .inl (is (I16 x1))), (4, .inr (.inl (4, 0))), (5, .inr (.inl (5, 0))), (14, .inl (is (Bl v)))], [(4, pb 23 [is (U8 a0_0), is (U8 a0_1)]), (5, pb 42 [is (U64 a1_0), is (U64 a1_1)])]⟩) (fun v => some r = F167_5 N a0_0 a0_1 a1_0 a1_1 a2 x1 v) ?_ ?_
      · skip
        refine AW_region ?_
        refine AL_cons (LR_fieldAddr (off := 0) (o := 0) (at_tmp 5 _) (fun b w => fa42_0 b 0 w) rfl) (sS (sT1 rfl) sB0 sF0) ?_
        refine AL_cons (LR_load (at_tmp 11 _) na30 rfl rfl) (sS (sT1 rfl) (sB1 rfl) sF0) ?_
        refine AL_cons (LR_bin (at_tmp 12 _) (at_c (v' := U64 (63#64)) rfl) (shr_U64 a1_0 ((63#64).toNat : Int) (Int.natCast_nonneg _)) rfl) (sS (sA (sT1 rfl) sT0) sB0 sF0) ?_
        refine AL_cons (LR_bin (at_tmp 13 _) (at_c (v' := U64 (0#64)) rfl) (eql_U64 (a1_0 >>> 63) (0#64)) rfl) (sS (sA (sT1 rfl) sT0) sB0 sF0) ?_
        refine AL_nil ?_
        exact thenN (cutLeaf (v := (a1_0 >>> 63) == (0#64)) hr (weak0 ((sT rfl (sT rfl (sT rfl (sT rfl (sT rfl sT0)))))) (sub_keep (sub_keep sub_nil))))
      · rintro x7 hr
        show AW Hfaa.prog _ _ _ ⟨[(2, .inl (is (U64 a2))), (3, .inl (is (I16 x1))), (4, .inr (.inl (4, 0))), (5, .inr (.inl (5, 0))), (14, .inl (is (Bl x7)))], [(4, pb 23 [is (U8 a0_0), is (U8 a0_1)]), (5, pb 42 [is (U64 a1_0), is (U64 a1_1)])]⟩
        have hr : some r = F167_5 N a0_0 a0_1 a1_0 a1_1 a2 x1 x7 := hr
        refine AW_condT (b := x7) rfl (fun h => ?_) (fun h => ?_)
        · have hr := hr.trans (cond_t h)
          clear h
          refine AW_cut (σ := BitVec 64) (fun v => ⟨[(2, .inl (is (U64 a2))), (3, .inl (is (I16 x1))), (4, .inr (.inl (4, 0))), (5, .inr (.inl (5, 0)))], [(4, pb 23 [is (U8 a0_0), is (U8 a0_1)]), (5, pb 42 [is (U64 v), is (U64 a1_1)])]⟩) (fun v => some r = F167_6 N a0_0 a0_1 a1_1 a2 x1 v) ?_ ?_
          · skip
            refine AW_region ?_
            refine AL_cons (LR_fieldAddr (off := 0) (o := 0) (at_tmp 5 _) (fun b w => fa42_0 b 0 w) rfl) (sS (sT1 rfl) sB0 sF0) ?_
            refine AL_cons (LR_load (at_tmp 15 _) na30 rfl rfl) (sS (sT1 rfl) (sB1 rfl) sF0) ?_
            refine AL_cons (LR_bin (at_tmp 16 _) (at_c (v' := U64 (1#64)) rfl) (shl_U64 a1_0 ((1#64).toNat : Int) (Int.natCast_nonneg _)) rfl) (sS (sA (sT1 rfl) sT0) sB0 sF0) ?_
            refine AL_cons (LR_fieldAddr (off := 0) (o := 1) (at_tmp 5 _) (fun b w => fa42_1 b 0 w) rfl) (sS (sT1 rfl) sB0 sF0) ?_
            refine AL_cons (LR_load (at_tmp 18 _) na30 rfl rfl) (sS (sT1 rfl) (sB1 rfl) sF0) ?_
            refine AL_cons (LR_bin (at_tmp 19 _) (at_c (v' := U64 (63#64)) rfl) (shr_U64 a1_1 ((63#64).toNat : Int) (Int.natCast_nonneg _)) rfl) (sS (sA (sT1 rfl) sT0) sB0 sF0) ?_
            refine AL_cons (LR_bin (at_tmp 17 _) (at_tmp 20 _) (or_U64 (a1_0 <<< 1) (a1_1 >>> 63)) rfl) (sS (sA (sT1 rfl) (sT1 rfl)) sB0 sF0) ?_
            refine AL_cons (LR_fieldAddr (off := 0) (o := 0) (at_tmp 5 _) (fun b w => fa42_0 b 0 w) rfl) (sS (sT1 rfl) sB0 sF0) ?_
            refine AL_cons (LR_store (at_tmp 22 _) (at_tmp 21 _) (cells_one (one_is rfl)) (onC (one_is rfl) onN) sz30 rfl rfl) (sS (sA (sT1 rfl) (sT1 rfl)) (sB1 rfl) sF0) ?_
            refine AL_nil ?_
            exact thenN (cutLeaf (v := (a1_0 <<< 1) ||| (a1_1 >>> 63)) hr (weak0 ((sT rfl (sT rfl (sT rfl (sT rfl sT0))))) (sub_keep (sub_keep sub_nil))))
          · rintro x8 hr
            show AW Hfaa.prog _ _ _ ⟨[(2, .inl (is (U64 a2))), (3, .inl (is (I16 x1))), (4, .inr (.inl (4, 0))), (5, .inr (.inl (5, 0)))], [(4, pb 23 [is (U8 a0_0), is (U8 a0_1)]), (5, pb 42 [is (U64 x8), is (U64 a1_1)])]⟩
            have hr : some r = F167_6 N a0_0 a0_1 a1_1 a2 x1 x8 := hr
            refine AW_cut (σ := BitVec 64) (fun v => ⟨[(2, .inl (is (U64 a2))), (3, .inl (is (I16 x1))), (4, .inr (.inl (4, 0))), (5, .inr (.inl (5, 0)))], [(4, pb 23 [is (U8 a0_0), is (U8 a0_1)]), (5, pb 42 [is (U64 x8), is (U64 v)])]⟩) (fun v => some r = F167_7 N a0_0 a0_1 a2 x1 x8 v) ?_ ?_
            · skip
              refine AW_region ?_
              refine AL_cons (LR_fieldAddr (off := 0) (o := 1) (at_tmp 5 _) (fun b w => fa42_1 b 0 w) rfl) (sS (sT1 rfl) sB0 sF0) ?_
              refine AL_cons (LR_load (at_tmp 23 _) na30 rfl rfl) (sS (sT1 rfl) (sB1 rfl) sF0) ?_
              refine AL_cons (LR_bin (at_tmp 24 _) (at_c (v' := U64 (1#64)) rfl) (shl_U64 a1_1 ((1#64).toNat : Int) (Int.natCast_nonneg _)) rfl) (sS (sA (sT1 rfl) sT0) sB0 sF0) ?_
              refine AL_cons (LR_fieldAddr (off := 0) (o := 1) (at_tmp 5 _) (fun b w => fa42_1 b 0 w) rfl) (sS (sT1 rfl) sB0 sF0) ?_
              refine AL_cons (LR_store (at_tmp 26 _) (at_tmp 25 _) (cells_one (one_is rfl)) (onC (one_is rfl) onN) sz30 rfl rfl) (sS (sA (sT1 rfl) (sT1 rfl)) (sB1 rfl) sF0) ?_
              refine AL_nil ?_
              exact thenN (cutLeaf (v := a1_1 <<< 1) hr (weak0 ((sT rfl (sT rfl (sT rfl (sT rfl sT0))))) (sub_keep (sub_keep sub_nil))))
            · rintro x9 hr
              show AW Hfaa.prog _ _ _ ⟨[(2, .inl (is (U64 a2))), (3, .inl (is (I16 x1))), (4, .inr (.inl (4, 0))), (5, .inr (.inl (5, 0)))], [(4, pb 23 [is (U8 a0_0), is (U8 a0_1)]), (5, pb 42 [is (U64 x8), is (U64 x9)])]⟩
              have hr : some r = F167_7 N a0_0 a0_1 a2 x1 x8 x9 := hr
              refine AW_region ?_
              refine AL_cons (LR_move (at_tmp 3 _) rfl) (sS (sT1 rfl) sB0 sF0) ?_
              refine AL_cons (LR_bin (at_tmp 27 _) (at_c (v' := I16 1) rfl) (sub_I16 x1 1) rfl) (sS (sA (sT1 rfl) sT0) sB0 sF0) ?_
              refine AL_cons (LR_assign (at_tmp 28 _) rfl) (sS (sT1 rfl) sB0 sF0) ?_
              refine AL_nil ?_
              exact thenN (cutLeaf (v := (w16 (x1 - 1), x8, x9)) hr (weak0 ((sT rfl (sT rfl (sT rfl (sT rfl sT0))))) (sub_keep (sub_keep sub_nil))))
        · have hr := hr.trans (cond_f h)
          clear h
          refine AW_skip ?_
          exact thenN (cutLeaf (v := (x1, a1_0, a1_1)) hr (weak0 ((sT rfl (sT rfl (sT rfl (sT rfl sT0))))) (sub_keep (sub_keep sub_nil))))
    · rintro ⟨x2, x3, x4⟩ hr
      show AW Hfaa.prog _ _ _ ⟨[(2, .inl (is (U64 a2))), (3, .inl (is (I16 x2))), (4, .inr (.inl (4, 0))), (5, .inr (.inl (5, 0)))], [(4, pb 23 [is (U8 a0_0), is (U8 a0_1)]), (5, pb 42 [is (U64 x3), is (U64 x4)])]⟩
      have hr : some r = F167_2 N a0_0 a0_1 a2 x2 x3 x4 := hr
      refine AW_cut (σ := BitVec 64) (fun v => ⟨[(3, .inl (is (I16 x2))), (4, .inr (.inl (4, 0))), (5, .inr (.inl (5, 0)))], [(4, pb 23 [is (U8 a0_0), is (U8 a0_1)]), (5, pb 42 [is (U64 v), is (U64 x4)])]⟩) (fun v => some r = F167_3 N a0_0 a0_1 x2 x4 v) ?_ ?_
      · skip
        refine AW_cut (σ := Bool) (fun v => ⟨[(3, .inl (is (I16 x2))), (4, .inr (.inl (4, 0))), (5, .inr (.inl (5, 0))), (33, .inl (is (Bl v)))], [(4, pb 23 [is (U8 a0_0), is (U8 a0_1)]), (5, pb 42 [is (U64 x3), is (U64 x4)])]⟩) (fun v => some r = F167_4 N a0_0 a0_1 x2 x3 x4 v) ?_ ?_
        · skip
          refine AW_region ?_
          refine AL_cons (LR_fieldAddr (off := 0) (o := 1) (at_tmp 5 _) (fun b w => fa42_1 b 0 w) rfl) (sS (sT1 rfl) sB0 sF0) ?_
          refine AL_cons (LR_load (at_tmp 29 _) na30 rfl rfl) (sS (sT1 rfl) (sB1 rfl) sF0) ?_
          refine AL_cons (LR_move (at_tmp 2 _) rfl) (sS (sT1 rfl) sB0 sF0) ?_
          refine AL_cons (LR_bin (at_tmp 30 _) (at_tmp 31 _) (or_U64 x4 a2) rfl) (sS (sA (sT1 rfl) (sT1 rfl)) sB0 sF0) ?_
          refine AL_cons (LR_bin (at_tmp 32 _) (at_c (v' := U64 (0#64)) rfl) (neq_U64 (x4 ||| a2) (0#64)) rfl) (sS (sA (sT1 rfl) sT0) sB0 sF0) ?_
          refine AL_nil ?_
          exact thenN (cutLeaf (v := (x4 ||| a2) != (0#64)) hr (weak0 ((sT rfl (sT rfl (sT rfl (sT rfl sT0))))) (sub_keep (sub_keep sub_nil))))
        · rintro x6 hr
          show AW Hfaa.prog _ _ _ ⟨[(3, .inl (is (I16 x2))), (4, .inr (.inl (4, 0))), (5, .inr (.inl (5, 0))), (33, .inl (is (Bl x6)))], [(4, pb 23 [is (U8 a0_0), is (U8 a0_1)]), (5, pb 42 [is (U64 x3), is (U64 x4)])]⟩
          have hr : some r = F167_4 N a0_0 a0_1 x2 x3 x4 x6 := hr
          refine AW_condT (b := x6) rfl (fun h => ?_) (fun h => ?_)
          · have hr := hr.trans (cond_t h)
            clear h
            refine AW_region ?_
            refine AL_cons (LR_fieldAddr (off := 0) (o := 0) (at_tmp 5 _) (fun b w => fa42_0 b 0 w) rfl) (sS (sT1 rfl) sB0 sF0) ?_
            refine AL_cons (LR_load (at_tmp 34 _) na30 rfl rfl) (sS (sT1 rfl) (sB1 rfl) sF0) ?_
            refine AL_cons (LR_bin (at_tmp 35 _) (at_c (v' := U64 (1#64)) rfl) (or_U64 x3 (1#64)) rfl) (sS (sA (sT1 rfl) sT0) sB0 sF0) ?_
            refine AL_cons (LR_fieldAddr (off := 0) (o := 0) (at_tmp 5 _) (fun b w => fa42_0 b 0 w) rfl) (sS (sT1 rfl) sB0 sF0) ?_
            refine AL_cons (LR_store (at_tmp 37 _) (at_tmp 36 _) (cells_one (one_is rfl)) (onC (one_is rfl) onN) sz30 rfl rfl) (sS (sA (sT1 rfl) (sT1 rfl)) (sB1 rfl) sF0) ?_
            refine AL_nil ?_
            exact thenN (cutLeaf (v := x3 ||| (1#64)) hr (weak0 ((sT rfl (sT rfl (sT rfl sT0)))) (sub_keep (sub_keep sub_nil))))
          · have hr := hr.trans (cond_f h)
            clear h
            refine AW_skip ?_
            exact thenN (cutLeaf (v := x3) hr (weak0 ((sT rfl (sT rfl (sT rfl sT0)))) (sub_keep (sub_keep sub_nil))))
      · rintro x5 hr
        show AW Hfaa.prog _ _ _ ⟨[(3, .inl (is (I16 x2))), (4, .inr (.inl (4, 0))), (5, .inr (.inl (5, 0)))], [(4, pb 23 [is (U8 a0_0), is (U8 a0_1)]), (5, pb 42 [is (U64 x5), is (U64 x4)])]⟩
        have hr : some r = F167_3 N a0_0 a0_1 x2 x4 x5 := hr
        refine AW_seq1 ?_
        refine AW_region ?_
        refine AL_cons (LR_loads (at_tmp 4 _) ag23 sz23 rfl rfl rfl) (sS (sT1 rfl) (sB1 rfl) sF0) ?_
        refine AL_cons (LR_fieldAddr (off := 0) (o := 0) (at_tmp 5 _) (fun b w => fa42_0 b 0 w) rfl) (sS (sT1 rfl) sB0 sF0) ?_
        refine AL_cons (LR_load (at_tmp 39 _) na30 rfl rfl) (sS (sT1 rfl) (sB1 rfl) sF0) ?_
        refine AL_cons (LR_move (at_tmp 3 _) rfl) (sS (sT1 rfl) sB0 sF0) ?_
        obtain ⟨y2, hy2, hr⟩ := bind_some hr
        refine AL_cons (LR_call Hfaa.func264 rfl rfl (C264 N a0_0 a0_1 x5 x2 y2 hy2) (all_cons (at_tmp 38 _) (all_cons (at_tmp 40 _) (all_cons (at_tmp 41 _) all_nil))) rfl) (sS (sA (sT1 rfl) (sA (sT1 rfl) (sA (sT1 rfl) sT0))) sB0 sF0) ?_
        refine AL_cons (LR_assign (at_tmp 42 _) rfl) (sS (sT1 rfl) sB0 sF0) ?_
        refine AL_nil ?_
        refine thenN ?_
        refine AW_ret ?_
        obtain rfl := Option.some.inj hr
        exact res1 rfl (rvT rfl)
/-- parse/lemire.Lemire -/
def F91_19 (N : Nat) (x22 : BitVec 64) (x27 : Bool) : Option (BitVec 64 × Bool) := bif x27 then some (0#64, false) else some (x22, true)
def F91_18 (N : Nat) (a1_0 : BitVec 8) (a1_1 : BitVec 8) (x10 : Int) (x22 : BitVec 64) (x23 : BitVec 64) (x24 : BitVec 64) (x25 : BitVec 64) (x26 : BitVec 64) : Option (BitVec 64 × Bool) := (F167 N a1_0 a1_1 x25 x26 x24 x10).bind fun y27 => F91_19 N x22 (x22 != y27)
def F91_17 (N : Nat) (a1_0 : BitVec 8) (a1_1 : BitVec 8) (x10 : Int) (x14 : BitVec 64) (x15 : BitVec 64) (x20 : BitVec 64) (x21 : BitVec 64) (x22 : BitVec 64) (x23 : BitVec 64) (x24 : BitVec 64) : Option (BitVec 64 × Bool) := lt (F166 x20 x21 (0#64) x23) fun y28 => F91_18 N a1_0 a1_1 x10 x22 x23 x24 y28.1 y28.2.1
def F91_16 (N : Nat) (a1_0 : BitVec 8) (a1_1 : BitVec 8) (x10 : Int) (x11 : BitVec 64) (x14 : BitVec 64) (x15 : BitVec 64) (x18 : BitVec 64) (x19 : BitVec 64) (x20 : BitVec 64) (x21 : BitVec 64) (x22 : BitVec 64) : Option (BitVec 64 × Bool) := lt (F166 (0#64) x19 (0#64) x11) fun y29 => F91_17 N a1_0 a1_1 x10 x14 x15 x20 x21 x22 y29.1 y29.2.1
def F91_15 (N : Nat) (a1_0 : BitVec 8) (a1_1 : BitVec 8) (x10 : Int) (x11 : BitVec 64) (x14 : BitVec 64) (x15 : BitVec 64) (x18 : BitVec 64) (x19 : BitVec 64) (x20 : BitVec 64) (x21 : BitVec 64) : Option (BitVec 64 × Bool) := (F167 N a1_0 a1_1 x20 x21 x19 x10).bind fun y30 => F91_16 N a1_0 a1_1 x10 x11 x14 x15 x18 x19 x20 x21 y30
def F91_14 (N : Nat) (a1_0 : BitVec 8) (a1_1 : BitVec 8) (x10 : Int) (x11 : BitVec 64) (x12 : BitVec 64) (x13 : BitVec 64) (x14 : BitVec 64) (x15 : BitVec 64) (x18 : BitVec 64) (x19 : BitVec 64) : Option (BitVec 64 × Bool) := lt (F166 x12 x13 (0#64) x18) fun y31 => F91_15 N a1_0 a1_1 x10 x11 x14 x15 x18 x19 y31.1 y31.2.1
def F91_13 (N : Nat) (a1_0 : BitVec 8) (a1_1 : BitVec 8) (x5 : BitVec 64) (x6 : BitVec 64) (x9 : BitVec 64) (x10 : Int) (x11 : BitVec 64) (x12 : BitVec 64) (x13 : BitVec 64) (x14 : BitVec 64) (x15 : BitVec 64) (x16 : BitVec 64) (x17 : Bool) : Option (BitVec 64 × Bool) := bif x17 then some (x16, true) else lt (F165 x9 x6) fun y32 => F91_14 N a1_0 a1_1 x10 x11 x12 x13 x14 x15 y32.1 y32.2
def F91_12 (N : Nat) (a1_0 : BitVec 8) (a1_1 : BitVec 8) (x5 : BitVec 64) (x6 : BitVec 64) (x9 : BitVec 64) (x10 : Int) (x11 : BitVec 64) (x12 : BitVec 64) (x13 : BitVec 64) (x14 : BitVec 64) (x15 : BitVec 64) (x16 : BitVec 64) : Option (BitVec 64 × Bool) := (F167 N a1_0 a1_1 x14 x15 (0#64) x10).bind fun y33 => F91_13 N a1_0 a1_1 x5 x6 x9 x10 x11 x12 x13 x14 x15 x16 (x16 == y33)
def F91_11 (N : Nat) (a1_0 : BitVec 8) (a1_1 : BitVec 8) (x5 : BitVec 64) (x6 : BitVec 64) (x9 : BitVec 64) (x10 : Int) (x11 : BitVec 64) (x12 : BitVec 64) (x13 : BitVec 64) (x14 : BitVec 64) (x15 : BitVec 64) : Option (BitVec 64 × Bool) := (F167 N a1_0 a1_1 x12 x13 (0#64) x10).bind fun y34 => F91_12 N a1_0 a1_1 x5 x6 x9 x10 x11 x12 x13 x14 x15 y34
def F91_10 (N : Nat) (a1_0 : BitVec 8) (a1_1 : BitVec 8) (x5 : BitVec 64) (x6 : BitVec 64) (x9 : BitVec 64) (x10 : Int) (x11 : BitVec 64) (x12 : BitVec 64) (x13 : BitVec 64) : Option (BitVec 64 × Bool) := lt (F166 x12 x13 (0#64) x9) fun y35 => F91_11 N a1_0 a1_1 x5 x6 x9 x10 x11 x12 x13 y35.1 y35.2.1
def F91_9 (N : Nat) (a1_0 : BitVec 8) (a1_1 : BitVec 8) (x5 : BitVec 64) (x6 : BitVec 64) (x9 : BitVec 64) (x10 : Int) (x11 : BitVec 64) : Option (BitVec 64 × Bool) := lt (F165 x9 x5) fun y36 => F91_10 N a1_0 a1_1 x5 x6 x9 x10 x11 y36.1 y36.2
def F91_20 (N : Nat) (a1_0 : BitVec 8) (a1_1 : BitVec 8) (x5 : BitVec 64) (x6 : BitVec 64) (x9 : BitVec 64) (x10 : Int) (x28 : Bool) : Option (BitVec 64 × Bool) := bif x28 then F91_9 N a1_0 a1_1 x5 x6 x9 x10 (0#64) else F91_9 N a1_0 a1_1 x5 x6 x9 x10 x9
def F91_8 (N : Nat) (a1_0 : BitVec 8) (a1_1 : BitVec 8) (a3 : Int) (x5 : BitVec 64) (x6 : BitVec 64) (x9 : BitVec 64) (x10 : Int) : Option (BitVec 64 × Bool) := F91_20 N a1_0 a1_1 x5 x6 x9 x10 ((decide (0 ≤ a3)) && (decide (a3 ≤ 55)))
def F91_7 (N : Nat) (a1_0 : BitVec 8) (a1_1 : BitVec 8) (a3 : Int) (x4 : Int) (x5 : BitVec 64) (x6 : BitVec 64) (x8 : BitVec 8) (x9 : BitVec 64) : Option (BitVec 64 × Bool) := F91_8 N a1_0 a1_1 a3 x5 x6 x9 (w16 (x4 - (w16 (x8.toNat : Int))))
def F91_6 (N : Nat) (a1_0 : BitVec 8) (a1_1 : BitVec 8) (a2 : BitVec 64) (a3 : Int) (x4 : Int) (x5 : BitVec 64) (x6 : BitVec 64) (x8 : BitVec 8) : Option (BitVec 64 × Bool) := F91_7 N a1_0 a1_1 a3 x4 x5 x6 x8 (a2 <<< x8.toNat)
def F91_5 (N : Nat) (a1_0 : BitVec 8) (a1_1 : BitVec 8) (a2 : BitVec 64) (a3 : Int) (x4 : Int) (x5 : BitVec 64) (x6 : BitVec 64) (x7 : Bool) : Option (BitVec 64 × Bool) := bif x7 then some (0#64, false) else (F164 N a2).bind fun y37 => F91_6 N a1_0 a1_1 a2 a3 x4 x5 x6 y37
def F91_4 (N : Nat) (a1_0 : BitVec 8) (a1_1 : BitVec 8) (a2 : BitVec 64) (a3 : Int) (x4 : Int) (x5 : BitVec 64) (x6 : BitVec 64) : Option (BitVec 64 × Bool) := lt (F27 x5 x6 x4) fun y38 => F91_5 N a1_0 a1_1 a2 a3 x4 x5 x6 (!y38)
def F91_3 (N : Nat) (a0 : Tab) (a1_0 : BitVec 8) (a1_1 : BitVec 8) (a2 : BitVec 64) (a3 : Int) (x3 : Bool) : Option (BitVec 64 × Bool) := bif x3 then lt (F67 a1_0 a1_1 false) fun y7 => some (y7, true) else (F116 N a0 a3).bind fun y39 => F91_4 N a1_0 a1_1 a2 a3 y39.2.2.1 y39.1 y39.2.1
def F91_2 (N : Nat) (a0 : Tab) (a1_0 : BitVec 8) (a1_1 : BitVec 8) (a2 : BitVec 64) (a3 : Int) (x2 : Bool) : Option (BitVec 64 × Bool) := bif x2 then some (0#64, true) else F91_3 N a0 a1_0 a1_1 a2 a3 (decide (a3 > 347))
def F91_1 (N : Nat) (a0 : Tab) (a1_0 : BitVec 8) (a1_1 : BitVec 8) (a2 : BitVec 64) (a3 : Int) (x1 : Bool) : Option (BitVec 64 × Bool) := bif x1 then some (0#64, false) else F91_2 N a0 a1_0 a1_1 a2 a3 ((a2 == (0#64)) || (decide (a3 < (-348))))
def F91 (N : Nat) (a0 : Tab) (a1_0 : BitVec 8) (a1_1 : BitVec 8) (a2 : BitVec 64) (a3 : Int) : Option (BitVec 64 × Bool) := bif !((a1_0 == F13.1) && (a1_1 == F13.2)) then F91_1 N a0 a1_0 a1_1 a2 a3 (!((a1_0 == F14.1) && (a1_1 == F14.2))) else F91_1 N a0 a1_0 a1_1 a2 a3 false
theorem C91 (N : Nat) (a0 : Tab) (a1_0 : BitVec 8) (a1_1 : BitVec 8) (a2 : BitVec 64) (a3 : Int) (r : BitVec 64 × Bool) (hr : some r = F91 N a0 a1_0 a1_1 a2 a3) : Aw.Fn Hfaa.prog 91 [tabp a0, agg [is (U8 a1_0), is (U8 a1_1)], is (U64 a2), is (I16 a3)] (tup [is (U64 r.1), is (Bl r.2)]) := by
  refine fn_intro Hfaa.func91 rfl rfl rfl ?_
  intro bn0 w0 H0
  refine AW_seq1 ?_
  refine AW_region ?_
  refine AL_cons (LR_box (at_tmp 1 _) (cells_agg _) rfl) (sS (sT1 rfl) sB0 (sF1 rfl)) ?_
  refine AL_cons (LR_assign (at_c (v' := U64 (0#64)) rfl) rfl) (sS sT0 sB0 sF0) ?_
  refine AL_cons (LR_assign (at_c (v' := Bl false) rfl) rfl) (sS sT0 sB0 sF0) ?_
  refine AL_nil ?_
  refine thenN ?_
  refine AW_seq1 ?_
  refine AW_block ?_
  refine AW_cut (σ := Bool) (fun v => ⟨[(0, .inl (tabp a0)), (2, .inl (is (U64 a2))), (3, .inl (is (I16 a3))), (5, .inr (.inl (5, 0))), (22, .inl (is (Bl v)))], [(5, pb 23 [is (U8 a1_0), is (U8 a1_1)])]⟩) (fun v => some r = F91_1 N a0 a1_0 a1_1 a2 a3 v) ?_ ?_
  · skip
    rcases bool_em (!((a1_0 == F13.1) && (a1_1 == F13.2))) with hb4 | hb4
    · have hr := hr.trans (cond_f hb4)
      refine AW_draw mixed
        (lrC (LR_move (at_tmp 0 _) rfl)
        (lrC (LR_binA (at_tmp 23 _) (at_c (v' := .pointer none) rfl) (eqTabNil Hfaa.underlying27 a0) rfl)
        (lrC (LR_move (at_tmp 24 _) rfl)
        (lrC (LR_on rfl rfl rfl (LR_loads (at_tmp 5 _) ag23 sz23 rfl rfl rfl))
        (lrC (LR_on rfl rfl rfl (LR_call Hfaa.func13 rfl rfl (C13 _ rfl) all_nil rfl))
        (lrC (LR_on rfl rfl rfl (LR_asB (LR_binA (at_tmp 26 _) (at_tmp 27 _) (neqA23 a1_0 a1_1 F13.1 F13.2) rfl) hb4))
        (lrC (LR_on rfl rfl rfl (LR_move (at_tmp 28 _) rfl))
        (lrC (LR_off (b := false) rfl rfl rfl rfl)
        (lrC (LR_off (b := false) rfl rfl rfl rfl)
        (lrC (LR_off (b := false) rfl rfl rfl rfl)
        (lrC (LR_on rfl rfl rfl (LR_pick (b := false) (at_tmp 29 _) (at_tmp 32 _) (at_c (v' := Bl false) rfl) rfl))
        (lrC (LR_pick (b := false) (at_tmp 25 _) (at_c (v' := Bl true) rfl) (at_tmp 33 _) rfl)
        (lrC (LR_assign (at_tmp 34 _) rfl)
        lrN)))))))))))))
        (by kernel_rfl)
        (saC (sS (sT1 rfl) sB0 sF0) (saC (sS (sA (sT1 rfl) sT0) sB0 sF0) (saC (sS (sT1 rfl) sB0 sF0) (saC (sS (sT rfl (sT1 rfl)) (sB1 rfl) sF0) (saC (sS (sT rfl sT0) sB0 sF0) (saC (sS (sT rfl (sA (sT1 rfl) (sT1 rfl))) sB0 sF0) (saC (sS (sT rfl (sT1 rfl)) sB0 sF0) (saC (sS (sT1 rfl) sB0 sF0) (saC (sS (sT1 rfl) sB0 sF0) (saC (sS (sT1 rfl) sB0 sF0) (saC (sS (sT rfl (sA (sT1 rfl) (sA (sT1 rfl) sT0))) sB0 sF0) (saC (sS (sA (sT1 rfl) (sA sT0 (sT1 rfl))) sB0 sF0) (saC (sS (sT1 rfl) sB0 sF0) saN))))))))))))) ?_
      exact thenN (cutLeaf (v := false) hr (weak0 ((sT rfl (sT rfl (sT rfl (sT rfl (sT rfl sT0)))))) (sub_keep sub_nil)))
    · have hr := hr.trans (cond_t hb4)
      refine AW_draw mixed
        (lrC (LR_move (at_tmp 0 _) rfl)
        (lrC (LR_binA (at_tmp 23 _) (at_c (v' := .pointer none) rfl) (eqTabNil Hfaa.underlying27 a0) rfl)
        (lrC (LR_move (at_tmp 24 _) rfl)
        (lrC (LR_on rfl rfl rfl (LR_loads (at_tmp 5 _) ag23 sz23 rfl rfl rfl))
        (lrC (LR_on rfl rfl rfl (LR_call Hfaa.func13 rfl rfl (C13 _ rfl) all_nil rfl))
        (lrC (LR_on rfl rfl rfl (LR_asB (LR_binA (at_tmp 26 _) (at_tmp 27 _) (neqA23 a1_0 a1_1 F13.1 F13.2) rfl) hb4))
        (lrC (LR_on rfl rfl rfl (LR_move (at_tmp 28 _) rfl))
        (lrC (LR_on rfl rfl rfl (LR_loads (at_tmp 5 _) ag23 sz23 rfl rfl rfl))
        (lrC (LR_on rfl rfl rfl (LR_call Hfaa.func14 rfl rfl (C14 _ rfl) all_nil rfl))
        (lrC (LR_on rfl rfl rfl (LR_binA (at_tmp 30 _) (at_tmp 31 _) (neqA23 a1_0 a1_1 F14.1 F14.2) rfl))
        (lrC (LR_on rfl rfl rfl (LR_pick (b := true) (at_tmp 29 _) (at_tmp 32 _) (at_c (v' := Bl false) rfl) rfl))
        (lrC (LR_pick (b := false) (at_tmp 25 _) (at_c (v' := Bl true) rfl) (at_tmp 33 _) rfl)
        (lrC (LR_assign (at_tmp 34 _) rfl)
        lrN)))))))))))))
        (by kernel_rfl)
        (saC (sS (sT1 rfl) sB0 sF0) (saC (sS (sA (sT1 rfl) sT0) sB0 sF0) (saC (sS (sT1 rfl) sB0 sF0) (saC (sS (sT rfl (sT1 rfl)) (sB1 rfl) sF0) (saC (sS (sT rfl sT0) sB0 sF0) (saC (sS (sT rfl (sA (sT1 rfl) (sT1 rfl))) sB0 sF0) (saC (sS (sT rfl (sT1 rfl)) sB0 sF0) (saC (sS (sT rfl (sT1 rfl)) (sB1 rfl) sF0) (saC (sS (sT rfl sT0) sB0 sF0) (saC (sS (sT rfl (sA (sT1 rfl) (sT1 rfl))) sB0 sF0) (saC (sS (sT rfl (sA (sT1 rfl) (sA (sT1 rfl) sT0))) sB0 sF0) (saC (sS (sA (sT1 rfl) (sA sT0 (sT1 rfl))) sB0 sF0) (saC (sS (sT1 rfl) sB0 sF0) saN))))))))))))) ?_
      exact thenN (cutLeaf (v := !((a1_0 == F14.1) && (a1_1 == F14.2))) hr (weak0 ((sT rfl (sT rfl (sT rfl (sT rfl (sT rfl sT0)))))) (sub_keep sub_nil)))
  · rintro x1 hr
    show AW Hfaa.prog _ _ _ ⟨[(0, .inl (tabp a0)), (2, .inl (is (U64 a2))), (3, .inl (is (I16 a3))), (5, .inr (.inl (5, 0))), (22, .inl (is (Bl x1)))], [(5, pb 23 [is (U8 a1_0), is (U8 a1_1)])]⟩
    have hr : some r = F91_1 N a0 a1_0 a1_1 a2 a3 x1 := hr
    refine AW_condT (b := x1) rfl (fun h => ?_) (fun h => ?_)
    · have hr := hr.trans (cond_t h)
      clear h
      refine AW_seq1 ?_
      refine AW_region ?_
      refine AL_cons (LR_assign (at_c (v' := U64 (0#64)) rfl) rfl) (sS sT0 sB0 sF0) ?_
      refine AL_cons (LR_assign (at_c (v' := Bl false) rfl) rfl) (sS sT0 sB0 sF0) ?_
      refine AL_nil ?_
      refine thenN ?_
      refine AW_ret ?_
      refine blR ?_
      refine thenR ?_
      obtain rfl := Option.some.inj hr
      exact res2 rfl (rvT rfl) (rvT rfl)
    · have hr := hr.trans (cond_f h)
      clear h
      refine AW_cut (σ := Bool) (fun v => ⟨[(0, .inl (tabp a0)), (2, .inl (is (U64 a2))), (3, .inl (is (I16 a3))), (5, .inr (.inl (5, 0))), (35, .inl (is (Bl v)))], [(5, pb 23 [is (U8 a1_0), is (U8 a1_1)])]⟩) (fun v => some r = F91_2 N a0 a1_0 a1_1 a2 a3 v) ?_ ?_
      · skip
        refine AW_region ?_
        refine AL_cons (LR_move (at_tmp 2 _) rfl) (sS (sT1 rfl) sB0 sF0) ?_
        refine AL_cons (LR_bin (at_tmp 36 _) (at_c (v' := U64 (0#64)) rfl) (eql_U64 a2 (0#64)) rfl) (sS (sA (sT1 rfl) sT0) sB0 sF0) ?_
        refine AL_cons (LR_move (at_tmp 37 _) rfl) (sS (sT1 rfl) sB0 sF0) ?_
        refine AL_cutAt 3 ⟨[(0, .inl (tabp a0)), (2, .inl (is (U64 a2))), (3, .inl (is (I16 a3))), (5, .inr (.inl (5, 0))), (22, .inl (is (Bl x1))), (36, .inl (is (U64 a2))), (37, .inl (is (Bl (a2 == (0#64))))), (38, .inl (is (Bl (a2 == (0#64))))), (41, .inl (is (Bl ((a2 == (0#64)) || (decide (a3 < (-348)))))))], [(5, pb 23 [is (U8 a1_0), is (U8 a1_1)])]⟩ ?_ ?_
        · cases hb : a2 == (0#64)
          · skip
            refine AL_cons (LR_on rfl rfl rfl (LR_move (at_tmp 3 _) rfl)) (sS (sT rfl (sT1 rfl)) sB0 sF0) ?_
            refine AL_cons (LR_on rfl rfl rfl (LR_bin (at_tmp 39 _) (at_c (v' := I16 (-348)) rfl) (lss_I16 a3 (-348)) rfl)) (sS (sT rfl (sA (sT1 rfl) sT0)) sB0 sF0) ?_
            refine AL_cons (LR_pick (b := false) (at_tmp 38 _) (at_c (v' := Bl true) rfl) (at_tmp 40 _) rfl) (sS (sA (sT1 rfl) (sA sT0 (sT1 rfl))) sB0 sF0) ?_
            exact AL_nil ⟨rfl, weak0 ((sT rfl (sT rfl (sT rfl (sT rfl (sT rfl (sT rfl (sT rfl (sT rfl (sT rfl sT0)))))))))) (sub_keep sub_nil)⟩
          · skip
            refine AL_cons (LR_off (b := true) rfl rfl rfl rfl) (sS (sT1 rfl) sB0 sF0) ?_
            refine AL_cons (LR_off (b := true) rfl rfl rfl rfl) (sS (sT1 rfl) sB0 sF0) ?_
            refine AL_cons (LR_pick (b := true) (at_tmp 38 _) (at_c (v' := Bl true) rfl) (at_tmp 40 _) rfl) (sS (sA (sT1 rfl) (sA sT0 (sT1 rfl))) sB0 sF0) ?_
            exact AL_nil ⟨rfl, weak0 ((sT rfl (sT rfl (sT rfl (sT rfl (sT rfl (sT rfl (sT rfl (sT rfl (sT rfl sT0)))))))))) (sub_keep sub_nil)⟩
        refine AL_cons (LR_assign (at_tmp 41 _) rfl) (sS (sT1 rfl) sB0 sF0) ?_
        refine AL_nil ?_
        exact thenN (cutLeaf (v := (a2 == (0#64)) || (decide (a3 < (-348)))) hr (weak0 ((sT rfl (sT rfl (sT rfl (sT rfl (sT rfl sT0)))))) (sub_keep sub_nil)))
      · rintro x2 hr
        show AW Hfaa.prog _ _ _ ⟨[(0, .inl (tabp a0)), (2, .inl (is (U64 a2))), (3, .inl (is (I16 a3))), (5, .inr (.inl (5, 0))), (35, .inl (is (Bl x2)))], [(5, pb 23 [is (U8 a1_0), is (U8 a1_1)])]⟩
        have hr : some r = F91_2 N a0 a1_0 a1_1 a2 a3 x2 := hr
        refine AW_condT (b := x2) rfl (fun h => ?_) (fun h => ?_)
        · have hr := hr.trans (cond_t h)
          clear h
          refine AW_seq1 ?_
          refine AW_region ?_
          refine AL_cons (LR_assign (at_c (v' := U64 (0#64)) rfl) rfl) (sS sT0 sB0 sF0) ?_
          refine AL_cons (LR_assign (at_c (v' := Bl true) rfl) rfl) (sS sT0 sB0 sF0) ?_
          refine AL_nil ?_
          refine thenN ?_
          refine AW_ret ?_
          refine blR ?_
          refine thenR ?_
          obtain rfl := Option.some.inj hr
          exact res2 rfl (rvT rfl) (rvT rfl)
        · have hr := hr.trans (cond_f h)
          clear h
          refine AW_cut (σ := Bool) (fun v => ⟨[(0, .inl (tabp a0)), (2, .inl (is (U64 a2))), (3, .inl (is (I16 a3))), (5, .inr (.inl (5, 0))), (42, .inl (is (Bl v)))], [(5, pb 23 [is (U8 a1_0), is (U8 a1_1)])]⟩) (fun v => some r = F91_3 N a0 a1_0 a1_1 a2 a3 v) ?_ ?_
          · skip
            refine AW_region ?_
            refine AL_cons (LR_move (at_tmp 3 _) rfl) (sS (sT1 rfl) sB0 sF0) ?_
            refine AL_cons (LR_bin (at_tmp 43 _) (at_c (v' := I16 347) rfl) (gtr_I16 a3 347) rfl) (sS (sA (sT1 rfl) sT0) sB0 sF0) ?_
            refine AL_cons (LR_assign (at_tmp 44 _) rfl) (sS (sT1 rfl) sB0 sF0) ?_
            refine AL_nil ?_
            exact thenN (cutLeaf (v := decide (a3 > 347)) hr (weak0 ((sT rfl (sT rfl (sT rfl (sT rfl (sT rfl sT0)))))) (sub_keep sub_nil)))
          · rintro x3 hr
            show AW Hfaa.prog _ _ _ ⟨[(0, .inl (tabp a0)), (2, .inl (is (U64 a2))), (3, .inl (is (I16 a3))), (5, .inr (.inl (5, 0))), (42, .inl (is (Bl x3)))], [(5, pb 23 [is (U8 a1_0), is (U8 a1_1)])]⟩
            have hr : some r = F91_3 N a0 a1_0 a1_1 a2 a3 x3 := hr
            refine AW_condT (b := x3) rfl (fun h => ?_) (fun h => ?_)
            · have hr := hr.trans (cond_t h)
              clear h
              refine AW_seq1 ?_
              refine AW_region ?_
              refine AL_cons (LR_loads (at_tmp 5 _) ag23 sz23 rfl rfl rfl) (sS (sT1 rfl) (sB1 rfl) sF0) ?_
              obtain ⟨y7, hy7, hr⟩ := lt_some hr
              refine AL_cons (LR_call Hfaa.func67 rfl rfl (C67 a1_0 a1_1 false y7 hy7) (all_cons (at_tmp 45 _) (all_cons (at_c (v' := Bl false) rfl) all_nil)) rfl) (sS (sA (sT1 rfl) (sA sT0 sT0)) sB0 sF0) ?_
              refine AL_cons (LR_assign (at_tmp 46 _) rfl) (sS (sT1 rfl) sB0 sF0) ?_
              refine AL_cons (LR_assign (at_c (v' := Bl true) rfl) rfl) (sS sT0 sB0 sF0) ?_
              refine AL_nil ?_
              refine thenN ?_
              refine AW_ret ?_
              refine blR ?_
              refine thenR ?_
              obtain rfl := Option.some.inj hr
              exact res2 rfl (rvT rfl) (rvT rfl)
            · have hr := hr.trans (cond_f h)
              clear h
              refine AW_skip ?_
              refine blN ?_
              refine thenN ?_
              refine AW_cut (σ := Int × BitVec 64 × BitVec 64) (fun v => ⟨[(2, .inl (is (U64 a2))), (3, .inl (is (I16 a3))), (5, .inr (.inl (5, 0))), (10, .inr (.inl (10, 0))), (11, .inl (is (I16 v.1)))], [(5, pb 23 [is (U8 a1_0), is (U8 a1_1)]), (10, pb 42 [is (U64 v.2.1), is (U64 v.2.2)])]⟩) (fun v => some r = F91_4 N a1_0 a1_1 a2 a3 v.1 v.2.1 v.2.2) ?_ ?_
              · skip
                refine AW_region ?_
                refine AL_cons (LR_move (at_tmp 0 _) rfl) (sS (sT1 rfl) sB0 sF0) ?_
                refine AL_cons (LR_move (at_tmp 3 _) rfl) (sS (sT1 rfl) sB0 sF0) ?_
                obtain ⟨y39, hy39, hr⟩ := bind_some hr
                refine AL_cons (LR_call Hfaa.func116 rfl rfl (C116 N a0 a3 y39 hy39) (all_cons (at_tmp 48 _) (all_cons (at_tmp 49 _) all_nil)) rfl) (sS (sA (sT1 rfl) (sA (sT1 rfl) sT0)) sB0 sF0) ?_
                refine AL_cons (LR_move (at_tmp 50 _) rfl) (sS (sT1 rfl) sB0 sF0) ?_
                refine AL_cons (LR_extract (at_tmp 47 _) rfl rfl) (sS (sT1 rfl) sB0 sF0) ?_
                refine AL_cons (LR_extract (at_tmp 47 _) rfl rfl) (sS (sT1 rfl) sB0 sF0) ?_
                refine AL_cons (LR_extract (at_tmp 47 _) rfl rfl) (sS (sT1 rfl) sB0 sF0) ?_
                refine AL_cons (zl42 rfl) (sS sT0 sB0 (sF1 rfl)) ?_
                refine AL_cons (LR_store (at_tmp 10 _) (at_tmp 51 _) (cells_agg _) (onC (one_is rfl) (onC (one_is rfl) onN)) sz42 rfl rfl) (sS (sA (sT1 rfl) (sT1 rfl)) (sB1 rfl) sF0) ?_
                refine AL_cons (LR_assign (at_tmp 52 _) rfl) (sS (sT1 rfl) sB0 sF0) ?_
                refine AL_cons (LR_assign (at_tmp 53 _) rfl) (sS (sT1 rfl) sB0 sF0) ?_
                refine AL_nil ?_
                exact thenN (cutLeaf (v := (y39.2.2.1, y39.1, y39.2.1)) hr (weak0 ((sT rfl (sT rfl (sT rfl (sT rfl (sT rfl sT0)))))) (sub_keep (sub_keep sub_nil))))
              · rintro ⟨x4, x5, x6⟩ hr
                show AW Hfaa.prog _ _ _ ⟨[(2, .inl (is (U64 a2))), (3, .inl (is (I16 a3))), (5, .inr (.inl (5, 0))), (10, .inr (.inl (10, 0))), (11, .inl (is (I16 x4)))], [(5, pb 23 [is (U8 a1_0), is (U8 a1_1)]), (10, pb 42 [is (U64 x5), is (U64 x6)])]⟩
                have hr : some r = F91_4 N a1_0 a1_1 a2 a3 x4 x5 x6 := hr
                refine AW_seq1 ?_
                refine AW_cut (σ := Bool) (fun v => ⟨[(2, .inl (is (U64 a2))), (3, .inl (is (I16 a3))), (5, .inr (.inl (5, 0))), (10, .inr (.inl (10, 0))), (11, .inl (is (I16 x4))), (57, .inl (is (Bl v)))], [(5, pb 23 [is (U8 a1_0), is (U8 a1_1)]), (10, pb 42 [is (U64 x5), is (U64 x6)])]⟩) (fun v => some r = F91_5 N a1_0 a1_1 a2 a3 x4 x5 x6 v) ?_ ?_
                · skip
                  refine AW_region ?_
                  refine AL_cons (LR_loads (at_tmp 10 _) ag42 sz42 rfl rfl rfl) (sS (sT1 rfl) (sB1 rfl) sF0) ?_
                  refine AL_cons (LR_move (at_tmp 11 _) rfl) (sS (sT1 rfl) sB0 sF0) ?_
                  obtain ⟨y38, hy38, hr⟩ := lt_some hr
                  refine AL_cons (LR_call Hfaa.func27 rfl rfl (C27 x5 x6 x4 y38 hy38) (all_cons (at_tmp 54 _) (all_cons (at_tmp 55 _) all_nil)) rfl) (sS (sA (sT1 rfl) (sA (sT1 rfl) sT0)) sB0 sF0) ?_
                  refine AL_cons (LR_un (at_tmp 56 _) (not_Bl y38) rfl) (sS (sT1 rfl) sB0 sF0) ?_
                  refine AL_nil ?_
                  exact thenN (cutLeaf (v := !y38) hr (weak0 ((sT rfl (sT rfl (sT rfl (sT rfl (sT rfl (sT rfl sT0))))))) (sub_keep (sub_keep sub_nil))))
                · rintro x7 hr
                  show AW Hfaa.prog _ _ _ ⟨[(2, .inl (is (U64 a2))), (3, .inl (is (I16 a3))), (5, .inr (.inl (5, 0))), (10, .inr (.inl (10, 0))), (11, .inl (is (I16 x4))), (57, .inl (is (Bl x7)))], [(5, pb 23 [is (U8 a1_0), is (U8 a1_1)]), (10, pb 42 [is (U64 x5), is (U64 x6)])]⟩
                  have hr : some r = F91_5 N a1_0 a1_1 a2 a3 x4 x5 x6 x7 := hr
                  refine AW_condT (b := x7) rfl (fun h => ?_) (fun h => ?_)
                  · have hr := hr.trans (cond_t h)
                    clear h
                    refine AW_seq1 ?_
                    refine AW_region ?_
                    refine AL_cons (LR_assign (at_c (v' := U64 (0#64)) rfl) rfl) (sS sT0 sB0 sF0) ?_
                    refine AL_cons (LR_assign (at_c (v' := Bl false) rfl) rfl) (sS sT0 sB0 sF0) ?_
                    refine AL_nil ?_
                    refine thenN ?_
                    refine AW_ret ?_
                    refine thenR ?_
                    obtain rfl := Option.some.inj hr
                    exact res2 rfl (rvT rfl) (rvT rfl)
                  · have hr := hr.trans (cond_f h)
                    clear h
                    refine AW_skip ?_
                    refine thenN ?_
                    refine AW_cut (σ := BitVec 8) (fun v => ⟨[(2, .inl (is (U64 a2))), (3, .inl (is (I16 a3))), (5, .inr (.inl (5, 0))), (10, .inr (.inl (10, 0))), (11, .inl (is (I16 x4))), (13, .inl (is (U8 v)))], [(5, pb 23 [is (U8 a1_0), is (U8 a1_1)]), (10, pb 42 [is (U64 x5), is (U64 x6)])]⟩) (fun v => some r = F91_6 N a1_0 a1_1 a2 a3 x4 x5 x6 v) ?_ ?_
                    · skip
                      refine AW_region ?_
                      refine AL_cons (LR_move (at_tmp 2 _) rfl) (sS (sT1 rfl) sB0 sF0) ?_
                      obtain ⟨y37, hy37, hr⟩ := bind_some hr
                      refine AL_cons (LR_call Hfaa.func164 rfl rfl (C164 N a2 y37 hy37) (all_cons (at_tmp 58 _) all_nil) rfl) (sS (sA (sT1 rfl) sT0) sB0 sF0) ?_
                      refine AL_cons (LR_assign (at_tmp 59 _) rfl) (sS (sT1 rfl) sB0 sF0) ?_
                      refine AL_nil ?_
                      exact thenN (cutLeaf (v := y37) hr (weak0 ((sT rfl (sT rfl (sT rfl (sT rfl (sT rfl (sT rfl sT0))))))) (sub_keep (sub_keep sub_nil))))
                    · rintro x8 hr
                      show AW Hfaa.prog _ _ _ ⟨[(2, .inl (is (U64 a2))), (3, .inl (is (I16 a3))), (5, .inr (.inl (5, 0))), (10, .inr (.inl (10, 0))), (11, .inl (is (I16 x4))), (13, .inl (is (U8 x8)))], [(5, pb 23 [is (U8 a1_0), is (U8 a1_1)]), (10, pb 42 [is (U64 x5), is (U64 x6)])]⟩
                      have hr : some r = F91_6 N a1_0 a1_1 a2 a3 x4 x5 x6 x8 := hr
                      refine AW_cut (σ := BitVec 64) (fun v => ⟨[(3, .inl (is (I16 a3))), (5, .inr (.inl (5, 0))), (10, .inr (.inl (10, 0))), (11, .inl (is (I16 x4))), (13, .inl (is (U8 x8))), (14, .inl (is (U64 v)))], [(5, pb 23 [is (U8 a1_0), is (U8 a1_1)]), (10, pb 42 [is (U64 x5), is (U64 x6)])]⟩) (fun v => some r = F91_7 N a1_0 a1_1 a3 x4 x5 x6 x8 v) ?_ ?_
                      · skip
                        refine AW_region ?_
                        refine AL_cons (LR_move (at_tmp 2 _) rfl) (sS (sT1 rfl) sB0 sF0) ?_
                        refine AL_cons (LR_move (at_tmp 13 _) rfl) (sS (sT1 rfl) sB0 sF0) ?_
                        refine AL_cons (LR_bin (at_tmp 60 _) (at_tmp 61 _) (shl_U64 a2 (x8.toNat : Int) (Int.natCast_nonneg _)) rfl) (sS (sA (sT1 rfl) (sT1 rfl)) sB0 sF0) ?_
                        refine AL_cons (LR_assign (at_tmp 62 _) rfl) (sS (sT1 rfl) sB0 sF0) ?_
                        refine AL_nil ?_
                        exact thenN (cutLeaf (v := a2 <<< x8.toNat) hr (weak0 ((sT rfl (sT rfl (sT rfl (sT rfl (sT rfl (sT rfl sT0))))))) (sub_keep (sub_keep sub_nil))))
                      · rintro x9 hr
                        show AW Hfaa.prog _ _ _ ⟨[(3, .inl (is (I16 a3))), (5, .inr (.inl (5, 0))), (10, .inr (.inl (10, 0))), (11, .inl (is (I16 x4))), (13, .inl (is (U8 x8))), (14, .inl (is (U64 x9)))], [(5, pb 23 [is (U8 a1_0), is (U8 a1_1)]), (10, pb 42 [is (U64 x5), is (U64 x6)])]⟩
                        have hr : some r = F91_7 N a1_0 a1_1 a3 x4 x5 x6 x8 x9 := hr
                        refine AW_cut (σ := Int) (fun v => ⟨[(3, .inl (is (I16 a3))), (5, .inr (.inl (5, 0))), (10, .inr (.inl (10, 0))), (11, .inl (is (I16 v))), (14, .inl (is (U64 x9)))], [(5, pb 23 [is (U8 a1_0), is (U8 a1_1)]), (10, pb 42 [is (U64 x5), is (U64 x6)])]⟩) (fun v => some r = F91_8 N a1_0 a1_1 a3 x5 x6 x9 v) ?_ ?_
                        · skip
                          refine AW_region ?_
                          refine AL_cons (LR_move (at_tmp 11 _) rfl) (sS (sT1 rfl) sB0 sF0) ?_
                          refine AL_cons (LR_move (at_tmp 13 _) rfl) (sS (sT1 rfl) sB0 sF0) ?_
                          refine AL_cons (LR_conv (vx := U8 x8) (at_tmp 64 _) (conv_I16 Hfaa.underlying5 Hfaa.underlying44 (x8.toNat : Int)) rfl) (sS (sT1 rfl) sB0 sF0) ?_
                          refine AL_cons (LR_bin (at_tmp 63 _) (at_tmp 65 _) (sub_I16 x4 (w16 (x8.toNat : Int))) rfl) (sS (sA (sT1 rfl) (sT1 rfl)) sB0 sF0) ?_
                          refine AL_cons (LR_assign (at_tmp 66 _) rfl) (sS (sT1 rfl) sB0 sF0) ?_
                          refine AL_nil ?_
                          exact thenN (cutLeaf (v := w16 (x4 - (w16 (x8.toNat : Int)))) hr (weak0 ((sT rfl (sT rfl (sT rfl (sT rfl (sT rfl sT0)))))) (sub_keep (sub_keep sub_nil))))
                        · rintro x10 hr
                          show AW Hfaa.prog _ _ _ ⟨[(3, .inl (is (I16 a3))), (5, .inr (.inl (5, 0))), (10, .inr (.inl (10, 0))), (11, .inl (is (I16 x10))), (14, .inl (is (U64 x9)))], [(5, pb 23 [is (U8 a1_0), is (U8 a1_1)]), (10, pb 42 [is (U64 x5), is (U64 x6)])]⟩
                          have hr : some r = F91_8 N a1_0 a1_1 a3 x5 x6 x9 x10 := hr
                          refine AW_seq1 ?_
                          refine AW_region ?_
                          refine AL_cons (LR_move (at_tmp 14 _) rfl) (sS (sT1 rfl) sB0 sF0) ?_
                          refine AL_cons (bl42 (parts_cons (i := 1) (off := 1) (at_tmp 67 _) (cells_one (one_is rfl)) rfl rfl parts_nil) rfl rfl) (sS (sA (sT1 rfl) sT0) sB0 sF0) ?_
                          refine AL_cons (zl42 rfl) (sS sT0 sB0 (sF1 rfl)) ?_
                          refine AL_cons (LR_store (at_tmp 15 _) (at_tmp 68 _) (cells_agg _) (onC (one_is rfl) (onC (one_is rfl) onN)) sz42 rfl rfl) (sS (sA (sT1 rfl) (sT1 rfl)) (sB1 rfl) sF0) ?_
                          refine AL_nil ?_
                          refine thenN ?_
                          refine AW_cut (σ := BitVec 64) (fun v => ⟨[(5, .inr (.inl (5, 0))), (10, .inr (.inl (10, 0))), (11, .inl (is (I16 x10))), (14, .inl (is (U64 x9))), (15, .inr (.inl (15, 0)))], [(5, pb 23 [is (U8 a1_0), is (U8 a1_1)]), (10, pb 42 [is (U64 x5), is (U64 x6)]), (15, pb 42 [is (U64 (0#64)), is (U64 v)])]⟩) (fun v => some r = F91_9 N a1_0 a1_1 x5 x6 x9 x10 v) ?_ ?_
                          · skip
                            refine AW_cut (σ := Bool) (fun v => ⟨[(5, .inr (.inl (5, 0))), (10, .inr (.inl (10, 0))), (11, .inl (is (I16 x10))), (14, .inl (is (U64 x9))), (15, .inr (.inl (15, 0))), (74, .inl (is (Bl v)))], [(5, pb 23 [is (U8 a1_0), is (U8 a1_1)]), (10, pb 42 [is (U64 x5), is (U64 x6)]), (15, pb 42 [is (U64 (0#64)), is (U64 x9)])]⟩) (fun v => some r = F91_20 N a1_0 a1_1 x5 x6 x9 x10 v) ?_ ?_
                            · skip
                              refine AW_region ?_
                              refine AL_cons (LR_move (at_tmp 3 _) rfl) (sS (sT1 rfl) sB0 sF0) ?_
                              refine AL_cons (LR_bin (at_c (v' := I16 0) rfl) (at_tmp 69 _) (leq_I16 0 a3) rfl) (sS (sA sT0 (sT1 rfl)) sB0 sF0) ?_
                              refine AL_cons (LR_move (at_tmp 70 _) rfl) (sS (sT1 rfl) sB0 sF0) ?_
                              refine AL_cutAt 3 ⟨[(3, .inl (is (I16 a3))), (5, .inr (.inl (5, 0))), (10, .inr (.inl (10, 0))), (11, .inl (is (I16 x10))), (14, .inl (is (U64 x9))), (67, .inl (is (U64 x9))), (68, .inl (agg [is (U64 (0#64)), is (U64 x9)])), (15, .inr (.inl (15, 0))), (69, .inl (is (I16 a3))), (70, .inl (is (Bl (decide (0 ≤ a3))))), (71, .inl (is (Bl (decide (0 ≤ a3))))), (74, .inl (is (Bl ((decide (0 ≤ a3)) && (decide (a3 ≤ 55))))))], [(5, pb 23 [is (U8 a1_0), is (U8 a1_1)]), (10, pb 42 [is (U64 x5), is (U64 x6)]), (15, pb 42 [is (U64 (0#64)), is (U64 x9)])]⟩ ?_ ?_
                              · cases hb : decide (0 ≤ a3)
                                · skip
                                  refine AL_cons (LR_off (b := false) rfl rfl rfl rfl) (sS (sT1 rfl) sB0 sF0) ?_
                                  refine AL_cons (LR_off (b := false) rfl rfl rfl rfl) (sS (sT1 rfl) sB0 sF0) ?_
                                  refine AL_cons (LR_pick (b := false) (at_tmp 71 _) (at_tmp 73 _) (at_c (v' := Bl false) rfl) rfl) (sS (sA (sT1 rfl) (sA (sT1 rfl) sT0)) sB0 sF0) ?_
                                  exact AL_nil ⟨rfl, weak0 ((sT rfl (sT rfl (sT rfl (sT rfl (sT rfl (sT rfl (sT rfl (sT rfl (sT rfl (sT rfl (sT rfl (sT rfl sT0))))))))))))) (sub_keep (sub_keep (sub_keep sub_nil)))⟩
                                · skip
                                  refine AL_cons (LR_on rfl rfl rfl (LR_move (at_tmp 3 _) rfl)) (sS (sT rfl (sT1 rfl)) sB0 sF0) ?_
                                  refine AL_cons (LR_on rfl rfl rfl (LR_bin (at_tmp 72 _) (at_c (v' := I16 55) rfl) (leq_I16 a3 55) rfl)) (sS (sT rfl (sA (sT1 rfl) sT0)) sB0 sF0) ?_
                                  refine AL_cons (LR_pick (b := true) (at_tmp 71 _) (at_tmp 73 _) (at_c (v' := Bl false) rfl) rfl) (sS (sA (sT1 rfl) (sA (sT1 rfl) sT0)) sB0 sF0) ?_
                                  exact AL_nil ⟨rfl, weak0 ((sT rfl (sT rfl (sT rfl (sT rfl (sT rfl (sT rfl (sT rfl (sT rfl (sT rfl (sT rfl (sT rfl (sT rfl sT0))))))))))))) (sub_keep (sub_keep (sub_keep sub_nil)))⟩
                              refine AL_nil ?_
                              exact thenN (cutLeaf (v := (decide (0 ≤ a3)) && (decide (a3 ≤ 55))) hr (weak0 ((sT rfl (sT rfl (sT rfl (sT rfl (sT rfl (sT rfl sT0))))))) (sub_keep (sub_keep (sub_keep sub_nil)))))
                            · rintro x28 hr
                              show AW Hfaa.prog _ _ _ ⟨[(5, .inr (.inl (5, 0))), (10, .inr (.inl (10, 0))), (11, .inl (is (I16 x10))), (14, .inl (is (U64 x9))), (15, .inr (.inl (15, 0))), (74, .inl (is (Bl x28)))], [(5, pb 23 [is (U8 a1_0), is (U8 a1_1)]), (10, pb 42 [is (U64 x5), is (U64 x6)]), (15, pb 42 [is (U64 (0#64)), is (U64 x9)])]⟩
                              have hr : some r = F91_20 N a1_0 a1_1 x5 x6 x9 x10 x28 := hr
                              refine AW_condT (b := x28) rfl (fun h => ?_) (fun h => ?_)
                              · have hr := hr.trans (cond_t h)
                                clear h
                                refine AW_region ?_
                                refine AL_cons (LR_fieldAddr (off := 0) (o := 1) (at_tmp 15 _) (fun b w => fa42_1 b 0 w) rfl) (sS (sT1 rfl) sB0 sF0) ?_
                                refine AL_cons (LR_store (at_tmp 75 _) (at_c (v' := U64 (0#64)) rfl) (cells_one (one_is rfl)) (onC (one_is rfl) onN) sz30 rfl rfl) (sS (sA (sT1 rfl) sT0) (sB1 rfl) sF0) ?_
                                refine AL_nil ?_
                                exact thenN (cutLeaf (v := 0#64) hr (weak0 ((sT rfl (sT rfl (sT rfl (sT rfl (sT rfl sT0)))))) (sub_keep (sub_keep (sub_keep sub_nil)))))
                              · have hr := hr.trans (cond_f h)
                                clear h
                                refine AW_skip ?_
                                exact thenN (cutLeaf (v := x9) hr (weak0 ((sT rfl (sT rfl (sT rfl (sT rfl (sT rfl sT0)))))) (sub_keep (sub_keep (sub_keep sub_nil)))))
                          · rintro x11 hr
                            show AW Hfaa.prog _ _ _ ⟨[(5, .inr (.inl (5, 0))), (10, .inr (.inl (10, 0))), (11, .inl (is (I16 x10))), (14, .inl (is (U64 x9))), (15, .inr (.inl (15, 0)))], [(5, pb 23 [is (U8 a1_0), is (U8 a1_1)]), (10, pb 42 [is (U64 x5), is (U64 x6)]), (15, pb 42 [is (U64 (0#64)), is (U64 x11)])]⟩
                            have hr : some r = F91_9 N a1_0 a1_1 x5 x6 x9 x10 x11 := hr
                            refine AW_cut (σ := BitVec 64 × BitVec 64) (fun v => ⟨[(5, .inr (.inl (5, 0))), (10, .inr (.inl (10, 0))), (11, .inl (is (I16 x10))), (14, .inl (is (U64 x9))), (15, .inr (.inl (15, 0))), (16, .inr (.inl (16, 0)))], [(5, pb 23 [is (U8 a1_0), is (U8 a1_1)]), (10, pb 42 [is (U64 x5), is (U64 x6)]), (15, pb 42 [is (U64 (0#64)), is (U64 x11)]), (16, pb 42 [is (U64 v.1), is (U64 v.2)])]⟩) (fun v => some r = F91_10 N a1_0 a1_1 x5 x6 x9 x10 x11 v.1 v.2) ?_ ?_
                            · skip
                              refine AW_region ?_
                              refine AL_cons (LR_move (at_tmp 14 _) rfl) (sS (sT1 rfl) sB0 sF0) ?_
                              refine AL_cons (LR_fieldAddr (off := 0) (o := 0) (at_tmp 10 _) (fun b w => fa42_0 b 0 w) rfl) (sS (sT1 rfl) sB0 sF0) ?_
                              refine AL_cons (LR_load (at_tmp 77 _) na30 rfl rfl) (sS (sT1 rfl) (sB1 rfl) sF0) ?_
                              obtain ⟨y36, hy36, hr⟩ := lt_some hr
                              refine AL_cons (LR_call Hfaa.func165 rfl rfl (C165 x9 x5 y36 hy36) (all_cons (at_tmp 76 _) (all_cons (at_tmp 78 _) all_nil)) rfl) (sS (sA (sT1 rfl) (sA (sT1 rfl) sT0)) sB0 sF0) ?_
                              refine AL_cons (zl42 rfl) (sS sT0 sB0 (sF1 rfl)) ?_
                              refine AL_cons (LR_store (at_tmp 16 _) (at_tmp 79 _) (cells_agg _) (onC (one_is rfl) (onC (one_is rfl) onN)) sz42 rfl rfl) (sS (sA (sT1 rfl) (sT1 rfl)) (sB1 rfl) sF0) ?_
                              refine AL_nil ?_
                              exact thenN (cutLeaf (v := (y36.1, y36.2)) hr (weak0 ((sT rfl (sT rfl (sT rfl (sT rfl (sT rfl (sT rfl sT0))))))) (sub_keep (sub_keep (sub_keep (sub_keep sub_nil))))))
                            · rintro ⟨x12, x13⟩ hr
                              show AW Hfaa.prog _ _ _ ⟨[(5, .inr (.inl (5, 0))), (10, .inr (.inl (10, 0))), (11, .inl (is (I16 x10))), (14, .inl (is (U64 x9))), (15, .inr (.inl (15, 0))), (16, .inr (.inl (16, 0)))], [(5, pb 23 [is (U8 a1_0), is (U8 a1_1)]), (10, pb 42 [is (U64 x5), is (U64 x6)]), (15, pb 42 [is (U64 (0#64)), is (U64 x11)]), (16, pb 42 [is (U64 x12), is (U64 x13)])]⟩
                              have hr : some r = F91_10 N a1_0 a1_1 x5 x6 x9 x10 x11 x12 x13 := hr
                              refine AW_cut (σ := BitVec 64 × BitVec 64) (fun v => ⟨[(5, .inr (.inl (5, 0))), (10, .inr (.inl (10, 0))), (11, .inl (is (I16 x10))), (14, .inl (is (U64 x9))), (15, .inr (.inl (15, 0))), (16, .inr (.inl (16, 0))), (17, .inr (.inl (17, 0)))], [(5, pb 23 [is (U8 a1_0), is (U8 a1_1)]), (10, pb 42 [is (U64 x5), is (U64 x6)]), (15, pb 42 [is (U64 (0#64)), is (U64 x11)]), (16, pb 42 [is (U64 x12), is (U64 x13)]), (17, pb 42 [is (U64 v.1), is (U64 v.2)])]⟩) (fun v => some r = F91_11 N a1_0 a1_1 x5 x6 x9 x10 x11 x12 x13 v.1 v.2) ?_ ?_
                              · skip
                                refine AW_region ?_
                                refine AL_cons (LR_loads (at_tmp 16 _) ag42 sz42 rfl rfl rfl) (sS (sT1 rfl) (sB1 rfl) sF0) ?_
                                refine AL_cons (LR_move (at_tmp 14 _) rfl) (sS (sT1 rfl) sB0 sF0) ?_
                                refine AL_cons (bl42 (parts_cons (i := 1) (off := 1) (at_tmp 82 _) (cells_one (one_is rfl)) rfl rfl parts_nil) rfl rfl) (sS (sA (sT1 rfl) sT0) sB0 sF0) ?_
                                obtain ⟨y35, hy35, hr⟩ := lt_some hr
                                refine AL_cons (LR_call Hfaa.func166 rfl rfl (C166 x12 x13 (0#64) x9 y35 hy35) (all_cons (at_tmp 81 _) (all_cons (at_tmp 83 _) all_nil)) rfl) (sS (sA (sT1 rfl) (sA (sT1 rfl) sT0)) sB0 sF0) ?_
                                refine AL_cons (LR_move (at_tmp 84 _) rfl) (sS (sT1 rfl) sB0 sF0) ?_
                                refine AL_cons (LR_extract (at_tmp 80 _) rfl rfl) (sS (sT1 rfl) sB0 sF0) ?_
                                refine AL_cons (LR_extract (at_tmp 80 _) rfl rfl) (sS (sT1 rfl) sB0 sF0) ?_
                                refine AL_cons (zl42 rfl) (sS sT0 sB0 (sF1 rfl)) ?_
                                refine AL_cons (LR_store (at_tmp 17 _) (at_tmp 85 _) (cells_agg _) (onC (one_is rfl) (onC (one_is rfl) onN)) sz42 rfl rfl) (sS (sA (sT1 rfl) (sT1 rfl)) (sB1 rfl) sF0) ?_
                                refine AL_cons (LR_assign (at_tmp 86 _) rfl) (sS (sT1 rfl) sB0 sF0) ?_
                                refine AL_nil ?_
                                exact thenN (cutLeaf (v := (y35.1, y35.2.1)) hr (weak0 ((sT rfl (sT rfl (sT rfl (sT rfl (sT rfl (sT rfl (sT rfl sT0)))))))) (sub_keep (sub_keep (sub_keep (sub_keep (sub_keep sub_nil)))))))
                              · rintro ⟨x14, x15⟩ hr
                                show AW Hfaa.prog _ _ _ ⟨[(5, .inr (.inl (5, 0))), (10, .inr (.inl (10, 0))), (11, .inl (is (I16 x10))), (14, .inl (is (U64 x9))), (15, .inr (.inl (15, 0))), (16, .inr (.inl (16, 0))), (17, .inr (.inl (17, 0)))], [(5, pb 23 [is (U8 a1_0), is (U8 a1_1)]), (10, pb 42 [is (U64 x5), is (U64 x6)]), (15, pb 42 [is (U64 (0#64)), is (U64 x11)]), (16, pb 42 [is (U64 x12), is (U64 x13)]), (17, pb 42 [is (U64 x14), is (U64 x15)])]⟩
                                have hr : some r = F91_11 N a1_0 a1_1 x5 x6 x9 x10 x11 x12 x13 x14 x15 := hr
                                refine AW_cut (σ := BitVec 64) (fun v => ⟨[(5, .inr (.inl (5, 0))), (10, .inr (.inl (10, 0))), (11, .inl (is (I16 x10))), (14, .inl (is (U64 x9))), (15, .inr (.inl (15, 0))), (16, .inr (.inl (16, 0))), (17, .inr (.inl (17, 0))), (8, .inl (is (U64 v)))], [(5, pb 23 [is (U8 a1_0), is (U8 a1_1)]), (10, pb 42 [is (U64 x5), is (U64 x6)]), (15, pb 42 [is (U64 (0#64)), is (U64 x11)]), (16, pb 42 [is (U64 x12), is (U64 x13)]), (17, pb 42 [is (U64 x14), is (U64 x15)])]⟩) (fun v => some r = F91_12 N a1_0 a1_1 x5 x6 x9 x10 x11 x12 x13 x14 x15 v) ?_ ?_
                                · skip
                                  refine AW_region ?_
                                  refine AL_cons (LR_loads (at_tmp 5 _) ag23 sz23 rfl rfl rfl) (sS (sT1 rfl) (sB1 rfl) sF0) ?_
                                  refine AL_cons (LR_loads (at_tmp 16 _) ag42 sz42 rfl rfl rfl) (sS (sT1 rfl) (sB1 rfl) sF0) ?_
                                  refine AL_cons (LR_move (at_tmp 11 _) rfl) (sS (sT1 rfl) sB0 sF0) ?_
                                  obtain ⟨y34, hy34, hr⟩ := bind_some hr
                                  refine AL_cons (LR_call Hfaa.func167 rfl rfl (C167 N a1_0 a1_1 x12 x13 (0#64) x10 y34 hy34) (all_cons (at_tmp 87 _) (all_cons (at_tmp 88 _) (all_cons (at_c (v' := U64 (0#64)) rfl) (all_cons (at_tmp 89 _) all_nil)))) rfl) (sS (sA (sT1 rfl) (sA (sT1 rfl) (sA sT0 (sA (sT1 rfl) sT0)))) sB0 sF0) ?_
                                  refine AL_cons (LR_assign (at_tmp 90 _) rfl) (sS (sT1 rfl) sB0 sF0) ?_
                                  refine AL_nil ?_
                                  exact thenN (cutLeaf (v := y34) hr (weak0 ((sT rfl (sT rfl (sT rfl (sT rfl (sT rfl (sT rfl (sT rfl (sT rfl sT0))))))))) (sub_keep (sub_keep (sub_keep (sub_keep (sub_keep sub_nil)))))))
                                · rintro x16 hr
                                  show AW Hfaa.prog _ _ _ ⟨[(5, .inr (.inl (5, 0))), (10, .inr (.inl (10, 0))), (11, .inl (is (I16 x10))), (14, .inl (is (U64 x9))), (15, .inr (.inl (15, 0))), (16, .inr (.inl (16, 0))), (17, .inr (.inl (17, 0))), (8, .inl (is (U64 x16)))], [(5, pb 23 [is (U8 a1_0), is (U8 a1_1)]), (10, pb 42 [is (U64 x5), is (U64 x6)]), (15, pb 42 [is (U64 (0#64)), is (U64 x11)]), (16, pb 42 [is (U64 x12), is (U64 x13)]), (17, pb 42 [is (U64 x14), is (U64 x15)])]⟩
                                  have hr : some r = F91_12 N a1_0 a1_1 x5 x6 x9 x10 x11 x12 x13 x14 x15 x16 := hr
                                  refine AW_seq1 ?_
                                  refine AW_cut (σ := Bool) (fun v => ⟨[(5, .inr (.inl (5, 0))), (10, .inr (.inl (10, 0))), (11, .inl (is (I16 x10))), (14, .inl (is (U64 x9))), (15, .inr (.inl (15, 0))), (16, .inr (.inl (16, 0))), (17, .inr (.inl (17, 0))), (8, .inl (is (U64 x16))), (96, .inl (is (Bl v)))], [(5, pb 23 [is (U8 a1_0), is (U8 a1_1)]), (10, pb 42 [is (U64 x5), is (U64 x6)]), (15, pb 42 [is (U64 (0#64)), is (U64 x11)]), (16, pb 42 [is (U64 x12), is (U64 x13)]), (17, pb 42 [is (U64 x14), is (U64 x15)])]⟩) (fun v => some r = F91_13 N a1_0 a1_1 x5 x6 x9 x10 x11 x12 x13 x14 x15 x16 v) ?_ ?_
                                  · skip
                                    refine AW_region ?_
                                    refine AL_cons (LR_move (at_tmp 8 _) rfl) (sS (sT1 rfl) sB0 sF0) ?_
                                    refine AL_cons (LR_loads (at_tmp 5 _) ag23 sz23 rfl rfl rfl) (sS (sT1 rfl) (sB1 rfl) sF0) ?_
                                    refine AL_cons (LR_loads (at_tmp 17 _) ag42 sz42 rfl rfl rfl) (sS (sT1 rfl) (sB1 rfl) sF0) ?_
                                    refine AL_cons (LR_move (at_tmp 11 _) rfl) (sS (sT1 rfl) sB0 sF0) ?_
                                    obtain ⟨y33, hy33, hr⟩ := bind_some hr
                                    refine AL_cons (LR_call Hfaa.func167 rfl rfl (C167 N a1_0 a1_1 x14 x15 (0#64) x10 y33 hy33) (all_cons (at_tmp 92 _) (all_cons (at_tmp 93 _) (all_cons (at_c (v' := U64 (0#64)) rfl) (all_cons (at_tmp 94 _) all_nil)))) rfl) (sS (sA (sT1 rfl) (sA (sT1 rfl) (sA sT0 (sA (sT1 rfl) sT0)))) sB0 sF0) ?_
                                    refine AL_cons (LR_bin (at_tmp 91 _) (at_tmp 95 _) (eql_U64 x16 y33) rfl) (sS (sA (sT1 rfl) (sT1 rfl)) sB0 sF0) ?_
                                    refine AL_nil ?_
                                    exact thenN (cutLeaf (v := x16 == y33) hr (weak0 ((sT rfl (sT rfl (sT rfl (sT rfl (sT rfl (sT rfl (sT rfl (sT rfl (sT rfl sT0)))))))))) (sub_keep (sub_keep (sub_keep (sub_keep (sub_keep sub_nil)))))))
                                  · rintro x17 hr
                                    show AW Hfaa.prog _ _ _ ⟨[(5, .inr (.inl (5, 0))), (10, .inr (.inl (10, 0))), (11, .inl (is (I16 x10))), (14, .inl (is (U64 x9))), (15, .inr (.inl (15, 0))), (16, .inr (.inl (16, 0))), (17, .inr (.inl (17, 0))), (8, .inl (is (U64 x16))), (96, .inl (is (Bl x17)))], [(5, pb 23 [is (U8 a1_0), is (U8 a1_1)]), (10, pb 42 [is (U64 x5), is (U64 x6)]), (15, pb 42 [is (U64 (0#64)), is (U64 x11)]), (16, pb 42 [is (U64 x12), is (U64 x13)]), (17, pb 42 [is (U64 x14), is (U64 x15)])]⟩
                                    have hr : some r = F91_13 N a1_0 a1_1 x5 x6 x9 x10 x11 x12 x13 x14 x15 x16 x17 := hr
                                    refine AW_condT (b := x17) rfl (fun h => ?_) (fun h => ?_)
                                    · have hr := hr.trans (cond_t h)
                                      clear h
                                      refine AW_seq1 ?_
                                      refine AW_region ?_
                                      refine AL_cons (LR_move (at_tmp 8 _) rfl) (sS (sT1 rfl) sB0 sF0) ?_
                                      refine AL_cons (LR_assign (at_tmp 97 _) rfl) (sS (sT1 rfl) sB0 sF0) ?_
                                      refine AL_cons (LR_assign (at_c (v' := Bl true) rfl) rfl) (sS sT0 sB0 sF0) ?_
                                      refine AL_nil ?_
                                      refine thenN ?_
                                      refine AW_ret ?_
                                      refine thenR ?_
                                      obtain rfl := Option.some.inj hr
                                      exact res2 rfl (rvT rfl) (rvT rfl)
                                    · have hr := hr.trans (cond_f h)
                                      clear h
                                      refine AW_skip ?_
                                      refine thenN ?_
                                      refine AW_cut (σ := BitVec 64 × BitVec 64) (fun v => ⟨[(5, .inr (.inl (5, 0))), (11, .inl (is (I16 x10))), (15, .inr (.inl (15, 0))), (16, .inr (.inl (16, 0))), (17, .inr (.inl (17, 0))), (19, .inr (.inl (19, 0)))], [(5, pb 23 [is (U8 a1_0), is (U8 a1_1)]), (15, pb 42 [is (U64 (0#64)), is (U64 x11)]), (16, pb 42 [is (U64 x12), is (U64 x13)]), (17, pb 42 [is (U64 x14), is (U64 x15)]), (19, pb 42 [is (U64 v.1), is (U64 v.2)])]⟩) (fun v => some r = F91_14 N a1_0 a1_1 x10 x11 x12 x13 x14 x15 v.1 v.2) ?_ ?_
                                      · skip
                                        refine AW_region ?_
                                        refine AL_cons (LR_move (at_tmp 14 _) rfl) (sS (sT1 rfl) sB0 sF0) ?_
                                        refine AL_cons (LR_fieldAddr (off := 0) (o := 1) (at_tmp 10 _) (fun b w => fa42_1 b 0 w) rfl) (sS (sT1 rfl) sB0 sF0) ?_
                                        refine AL_cons (LR_load (at_tmp 99 _) na30 rfl rfl) (sS (sT1 rfl) (sB1 rfl) sF0) ?_
                                        obtain ⟨y32, hy32, hr⟩ := lt_some hr
                                        refine AL_cons (LR_call Hfaa.func165 rfl rfl (C165 x9 x6 y32 hy32) (all_cons (at_tmp 98 _) (all_cons (at_tmp 100 _) all_nil)) rfl) (sS (sA (sT1 rfl) (sA (sT1 rfl) sT0)) sB0 sF0) ?_
                                        refine AL_cons (zl42 rfl) (sS sT0 sB0 (sF1 rfl)) ?_
                                        refine AL_cons (LR_store (at_tmp 19 _) (at_tmp 101 _) (cells_agg _) (onC (one_is rfl) (onC (one_is rfl) onN)) sz42 rfl rfl) (sS (sA (sT1 rfl) (sT1 rfl)) (sB1 rfl) sF0) ?_
                                        refine AL_nil ?_
                                        exact thenN (cutLeaf (v := (y32.1, y32.2)) hr (weak0 ((sT rfl (sT rfl (sT rfl (sT rfl (sT rfl (sT rfl sT0))))))) (sub_keep (sub_drop (sub_keep (sub_keep (sub_keep (sub_keep sub_nil))))))))
                                      · rintro ⟨x18, x19⟩ hr
                                        show AW Hfaa.prog _ _ _ ⟨[(5, .inr (.inl (5, 0))), (11, .inl (is (I16 x10))), (15, .inr (.inl (15, 0))), (16, .inr (.inl (16, 0))), (17, .inr (.inl (17, 0))), (19, .inr (.inl (19, 0)))], [(5, pb 23 [is (U8 a1_0), is (U8 a1_1)]), (15, pb 42 [is (U64 (0#64)), is (U64 x11)]), (16, pb 42 [is (U64 x12), is (U64 x13)]), (17, pb 42 [is (U64 x14), is (U64 x15)]), (19, pb 42 [is (U64 x18), is (U64 x19)])]⟩
                                        have hr : some r = F91_14 N a1_0 a1_1 x10 x11 x12 x13 x14 x15 x18 x19 := hr
                                        refine AW_cut (σ := BitVec 64 × BitVec 64) (fun v => ⟨[(5, .inr (.inl (5, 0))), (11, .inl (is (I16 x10))), (15, .inr (.inl (15, 0))), (16, .inr (.inl (16, 0))), (17, .inr (.inl (17, 0))), (19, .inr (.inl (19, 0)))], [(5, pb 23 [is (U8 a1_0), is (U8 a1_1)]), (15, pb 42 [is (U64 (0#64)), is (U64 x11)]), (16, pb 42 [is (U64 v.1), is (U64 v.2)]), (17, pb 42 [is (U64 x14), is (U64 x15)]), (19, pb 42 [is (U64 x18), is (U64 x19)])]⟩) (fun v => some r = F91_15 N a1_0 a1_1 x10 x11 x14 x15 x18 x19 v.1 v.2) ?_ ?_
                                        · skip
                                          refine AW_region ?_
                                          refine AL_cons (LR_loads (at_tmp 16 _) ag42 sz42 rfl rfl rfl) (sS (sT1 rfl) (sB1 rfl) sF0) ?_
                                          refine AL_cons (LR_fieldAddr (off := 0) (o := 0) (at_tmp 19 _) (fun b w => fa42_0 b 0 w) rfl) (sS (sT1 rfl) sB0 sF0) ?_
                                          refine AL_cons (LR_load (at_tmp 104 _) na30 rfl rfl) (sS (sT1 rfl) (sB1 rfl) sF0) ?_
                                          refine AL_cons (bl42 (parts_cons (i := 1) (off := 1) (at_tmp 105 _) (cells_one (one_is rfl)) rfl rfl parts_nil) rfl rfl) (sS (sA (sT1 rfl) sT0) sB0 sF0) ?_
                                          obtain ⟨y31, hy31, hr⟩ := lt_some hr
                                          refine AL_cons (LR_call Hfaa.func166 rfl rfl (C166 x12 x13 (0#64) x18 y31 hy31) (all_cons (at_tmp 103 _) (all_cons (at_tmp 106 _) all_nil)) rfl) (sS (sA (sT1 rfl) (sA (sT1 rfl) sT0)) sB0 sF0) ?_
                                          refine AL_cons (LR_move (at_tmp 107 _) rfl) (sS (sT1 rfl) sB0 sF0) ?_
                                          refine AL_cons (LR_extract (at_tmp 102 _) rfl rfl) (sS (sT1 rfl) sB0 sF0) ?_
                                          refine AL_cons (LR_extract (at_tmp 102 _) rfl rfl) (sS (sT1 rfl) sB0 sF0) ?_
                                          refine AL_cons (LR_store (at_tmp 16 _) (at_tmp 108 _) (cells_agg _) (onC (one_is rfl) (onC (one_is rfl) onN)) sz42 rfl rfl) (sS (sA (sT1 rfl) (sT1 rfl)) (sB1 rfl) sF0) ?_
                                          refine AL_nil ?_
                                          exact thenN (cutLeaf (v := (y31.1, y31.2.1)) hr (weak0 ((sT rfl (sT rfl (sT rfl (sT rfl (sT rfl (sT rfl sT0))))))) (sub_keep (sub_keep (sub_keep (sub_keep (sub_keep sub_nil)))))))
                                        · rintro ⟨x20, x21⟩ hr
                                          show AW Hfaa.prog _ _ _ ⟨[(5, .inr (.inl (5, 0))), (11, .inl (is (I16 x10))), (15, .inr (.inl (15, 0))), (16, .inr (.inl (16, 0))), (17, .inr (.inl (17, 0))), (19, .inr (.inl (19, 0)))], [(5, pb 23 [is (U8 a1_0), is (U8 a1_1)]), (15, pb 42 [is (U64 (0#64)), is (U64 x11)]), (16, pb 42 [is (U64 x20), is (U64 x21)]), (17, pb 42 [is (U64 x14), is (U64 x15)]), (19, pb 42 [is (U64 x18), is (U64 x19)])]⟩
                                          have hr : some r = F91_15 N a1_0 a1_1 x10 x11 x14 x15 x18 x19 x20 x21 := hr
                                          refine AW_cut (σ := BitVec 64) (fun v => ⟨[(5, .inr (.inl (5, 0))), (11, .inl (is (I16 x10))), (15, .inr (.inl (15, 0))), (16, .inr (.inl (16, 0))), (17, .inr (.inl (17, 0))), (19, .inr (.inl (19, 0))), (8, .inl (is (U64 v)))], [(5, pb 23 [is (U8 a1_0), is (U8 a1_1)]), (15, pb 42 [is (U64 (0#64)), is (U64 x11)]), (16, pb 42 [is (U64 x20), is (U64 x21)]), (17, pb 42 [is (U64 x14), is (U64 x15)]), (19, pb 42 [is (U64 x18), is (U64 x19)])]⟩) (fun v => some r = F91_16 N a1_0 a1_1 x10 x11 x14 x15 x18 x19 x20 x21 v) ?_ ?_
                                          · skip
                                            refine AW_region ?_
                                            refine AL_cons (LR_loads (at_tmp 5 _) ag23 sz23 rfl rfl rfl) (sS (sT1 rfl) (sB1 rfl) sF0) ?_
                                            refine AL_cons (LR_loads (at_tmp 16 _) ag42 sz42 rfl rfl rfl) (sS (sT1 rfl) (sB1 rfl) sF0) ?_
                                            refine AL_cons (LR_fieldAddr (off := 0) (o := 1) (at_tmp 19 _) (fun b w => fa42_1 b 0 w) rfl) (sS (sT1 rfl) sB0 sF0) ?_
                                            refine AL_cons (LR_load (at_tmp 112 _) na30 rfl rfl) (sS (sT1 rfl) (sB1 rfl) sF0) ?_
                                            refine AL_cons (LR_move (at_tmp 11 _) rfl) (sS (sT1 rfl) sB0 sF0) ?_
                                            obtain ⟨y30, hy30, hr⟩ := bind_some hr
                                            refine AL_cons (LR_call Hfaa.func167 rfl rfl (C167 N a1_0 a1_1 x20 x21 x19 x10 y30 hy30) (all_cons (at_tmp 110 _) (all_cons (at_tmp 111 _) (all_cons (at_tmp 113 _) (all_cons (at_tmp 114 _) all_nil)))) rfl) (sS (sA (sT1 rfl) (sA (sT1 rfl) (sA (sT1 rfl) (sA (sT1 rfl) sT0)))) sB0 sF0) ?_
                                            refine AL_cons (LR_assign (at_tmp 115 _) rfl) (sS (sT1 rfl) sB0 sF0) ?_
                                            refine AL_nil ?_
                                            exact thenN (cutLeaf (v := y30) hr (weak0 ((sT rfl (sT rfl (sT rfl (sT rfl (sT rfl (sT rfl (sT rfl sT0)))))))) (sub_keep (sub_keep (sub_keep (sub_keep (sub_keep sub_nil)))))))
                                          · rintro x22 hr
                                            show AW Hfaa.prog _ _ _ ⟨[(5, .inr (.inl (5, 0))), (11, .inl (is (I16 x10))), (15, .inr (.inl (15, 0))), (16, .inr (.inl (16, 0))), (17, .inr (.inl (17, 0))), (19, .inr (.inl (19, 0))), (8, .inl (is (U64 x22)))], [(5, pb 23 [is (U8 a1_0), is (U8 a1_1)]), (15, pb 42 [is (U64 (0#64)), is (U64 x11)]), (16, pb 42 [is (U64 x20), is (U64 x21)]), (17, pb 42 [is (U64 x14), is (U64 x15)]), (19, pb 42 [is (U64 x18), is (U64 x19)])]⟩
                                            have hr : some r = F91_16 N a1_0 a1_1 x10 x11 x14 x15 x18 x19 x20 x21 x22 := hr
                                            refine AW_cut (σ := BitVec 64 × BitVec 64) (fun v => ⟨[(5, .inr (.inl (5, 0))), (11, .inl (is (I16 x10))), (16, .inr (.inl (16, 0))), (17, .inr (.inl (17, 0))), (8, .inl (is (U64 x22))), (20, .inr (.inl (20, 0)))], [(5, pb 23 [is (U8 a1_0), is (U8 a1_1)]), (16, pb 42 [is (U64 x20), is (U64 x21)]), (17, pb 42 [is (U64 x14), is (U64 x15)]), (20, pb 42 [is (U64 v.1), is (U64 v.2)])]⟩) (fun v => some r = F91_17 N a1_0 a1_1 x10 x14 x15 x20 x21 x22 v.1 v.2) ?_ ?_
                                            · skip
                                              refine AW_region ?_
                                              refine AL_cons (LR_fieldAddr (off := 0) (o := 1) (at_tmp 19 _) (fun b w => fa42_1 b 0 w) rfl) (sS (sT1 rfl) sB0 sF0) ?_
                                              refine AL_cons (LR_load (at_tmp 117 _) na30 rfl rfl) (sS (sT1 rfl) (sB1 rfl) sF0) ?_
                                              refine AL_cons (bl42 (parts_cons (i := 1) (off := 1) (at_tmp 118 _) (cells_one (one_is rfl)) rfl rfl parts_nil) rfl rfl) (sS (sA (sT1 rfl) sT0) sB0 sF0) ?_
                                              refine AL_cons (LR_loads (at_tmp 15 _) ag42 sz42 rfl rfl rfl) (sS (sT1 rfl) (sB1 rfl) sF0) ?_
                                              obtain ⟨y29, hy29, hr⟩ := lt_some hr
                                              refine AL_cons (LR_call Hfaa.func166 rfl rfl (C166 (0#64) x19 (0#64) x11 y29 hy29) (all_cons (at_tmp 119 _) (all_cons (at_tmp 120 _) all_nil)) rfl) (sS (sA (sT1 rfl) (sA (sT1 rfl) sT0)) sB0 sF0) ?_
                                              refine AL_cons (LR_move (at_tmp 121 _) rfl) (sS (sT1 rfl) sB0 sF0) ?_
                                              refine AL_cons (LR_extract (at_tmp 116 _) rfl rfl) (sS (sT1 rfl) sB0 sF0) ?_
                                              refine AL_cons (LR_extract (at_tmp 116 _) rfl rfl) (sS (sT1 rfl) sB0 sF0) ?_
                                              refine AL_cons (zl42 rfl) (sS sT0 sB0 (sF1 rfl)) ?_
                                              refine AL_cons (LR_store (at_tmp 20 _) (at_tmp 122 _) (cells_agg _) (onC (one_is rfl) (onC (one_is rfl) onN)) sz42 rfl rfl) (sS (sA (sT1 rfl) (sT1 rfl)) (sB1 rfl) sF0) ?_
                                              refine AL_cons (LR_assign (at_tmp 123 _) rfl) (sS (sT1 rfl) sB0 sF0) ?_
                                              refine AL_nil ?_
                                              exact thenN (cutLeaf (v := (y29.1, y29.2.1)) hr (weak0 ((sT rfl (sT rfl (sT rfl (sT rfl (sT rfl (sT rfl sT0))))))) (sub_keep (sub_drop (sub_keep (sub_keep (sub_drop (sub_keep sub_nil))))))))
                                            · rintro ⟨x23, x24⟩ hr
                                              show AW Hfaa.prog _ _ _ ⟨[(5, .inr (.inl (5, 0))), (11, .inl (is (I16 x10))), (16, .inr (.inl (16, 0))), (17, .inr (.inl (17, 0))), (8, .inl (is (U64 x22))), (20, .inr (.inl (20, 0)))], [(5, pb 23 [is (U8 a1_0), is (U8 a1_1)]), (16, pb 42 [is (U64 x20), is (U64 x21)]), (17, pb 42 [is (U64 x14), is (U64 x15)]), (20, pb 42 [is (U64 x23), is (U64 x24)])]⟩
                                              have hr : some r = F91_17 N a1_0 a1_1 x10 x14 x15 x20 x21 x22 x23 x24 := hr
                                              refine AW_cut (σ := BitVec 64 × BitVec 64) (fun v => ⟨[(5, .inr (.inl (5, 0))), (11, .inl (is (I16 x10))), (17, .inr (.inl (17, 0))), (8, .inl (is (U64 x22))), (20, .inr (.inl (20, 0)))], [(5, pb 23 [is (U8 a1_0), is (U8 a1_1)]), (17, pb 42 [is (U64 v.1), is (U64 v.2)]), (20, pb 42 [is (U64 x23), is (U64 x24)])]⟩) (fun v => some r = F91_18 N a1_0 a1_1 x10 x22 x23 x24 v.1 v.2) ?_ ?_
                                              · skip
                                                refine AW_region ?_
                                                refine AL_cons (LR_loads (at_tmp 16 _) ag42 sz42 rfl rfl rfl) (sS (sT1 rfl) (sB1 rfl) sF0) ?_
                                                refine AL_cons (LR_fieldAddr (off := 0) (o := 0) (at_tmp 20 _) (fun b w => fa42_0 b 0 w) rfl) (sS (sT1 rfl) sB0 sF0) ?_
                                                refine AL_cons (LR_load (at_tmp 126 _) na30 rfl rfl) (sS (sT1 rfl) (sB1 rfl) sF0) ?_
                                                refine AL_cons (bl42 (parts_cons (i := 1) (off := 1) (at_tmp 127 _) (cells_one (one_is rfl)) rfl rfl parts_nil) rfl rfl) (sS (sA (sT1 rfl) sT0) sB0 sF0) ?_
                                                obtain ⟨y28, hy28, hr⟩ := lt_some hr
                                                refine AL_cons (LR_call Hfaa.func166 rfl rfl (C166 x20 x21 (0#64) x23 y28 hy28) (all_cons (at_tmp 125 _) (all_cons (at_tmp 128 _) all_nil)) rfl) (sS (sA (sT1 rfl) (sA (sT1 rfl) sT0)) sB0 sF0) ?_
                                                refine AL_cons (LR_move (at_tmp 129 _) rfl) (sS (sT1 rfl) sB0 sF0) ?_
                                                refine AL_cons (LR_extract (at_tmp 124 _) rfl rfl) (sS (sT1 rfl) sB0 sF0) ?_
                                                refine AL_cons (LR_extract (at_tmp 124 _) rfl rfl) (sS (sT1 rfl) sB0 sF0) ?_
                                                refine AL_cons (LR_store (at_tmp 17 _) (at_tmp 130 _) (cells_agg _) (onC (one_is rfl) (onC (one_is rfl) onN)) sz42 rfl rfl) (sS (sA (sT1 rfl) (sT1 rfl)) (sB1 rfl) sF0) ?_
                                                refine AL_nil ?_
                                                exact thenN (cutLeaf (v := (y28.1, y28.2.1)) hr (weak0 ((sT rfl (sT rfl (sT rfl (sT rfl (sT rfl sT0)))))) (sub_keep (sub_drop (sub_keep (sub_keep sub_nil))))))
                                              · rintro ⟨x25, x26⟩ hr
                                                show AW Hfaa.prog _ _ _ ⟨[(5, .inr (.inl (5, 0))), (11, .inl (is (I16 x10))), (17, .inr (.inl (17, 0))), (8, .inl (is (U64 x22))), (20, .inr (.inl (20, 0)))], [(5, pb 23 [is (U8 a1_0), is (U8 a1_1)]), (17, pb 42 [is (U64 x25), is (U64 x26)]), (20, pb 42 [is (U64 x23), is (U64 x24)])]⟩
                                                have hr : some r = F91_18 N a1_0 a1_1 x10 x22 x23 x24 x25 x26 := hr
                                                refine AW_seq1 ?_
                                                refine AW_cut (σ := Bool) (fun v => ⟨[(8, .inl (is (U64 x22))), (139, .inl (is (Bl v)))], []⟩) (fun v => some r = F91_19 N x22 v) ?_ ?_
                                                · skip
                                                  refine AW_region ?_
                                                  refine AL_cons (LR_move (at_tmp 8 _) rfl) (sS (sT1 rfl) sB0 sF0) ?_
                                                  refine AL_cons (LR_loads (at_tmp 5 _) ag23 sz23 rfl rfl rfl) (sS (sT1 rfl) (sB1 rfl) sF0) ?_
                                                  refine AL_cons (LR_loads (at_tmp 17 _) ag42 sz42 rfl rfl rfl) (sS (sT1 rfl) (sB1 rfl) sF0) ?_
                                                  refine AL_cons (LR_fieldAddr (off := 0) (o := 1) (at_tmp 20 _) (fun b w => fa42_1 b 0 w) rfl) (sS (sT1 rfl) sB0 sF0) ?_
                                                  refine AL_cons (LR_load (at_tmp 135 _) na30 rfl rfl) (sS (sT1 rfl) (sB1 rfl) sF0) ?_
                                                  refine AL_cons (LR_move (at_tmp 11 _) rfl) (sS (sT1 rfl) sB0 sF0) ?_
                                                  obtain ⟨y27, hy27, hr⟩ := bind_some hr
                                                  refine AL_cons (LR_call Hfaa.func167 rfl rfl (C167 N a1_0 a1_1 x25 x26 x24 x10 y27 hy27) (all_cons (at_tmp 133 _) (all_cons (at_tmp 134 _) (all_cons (at_tmp 136 _) (all_cons (at_tmp 137 _) all_nil)))) rfl) (sS (sA (sT1 rfl) (sA (sT1 rfl) (sA (sT1 rfl) (sA (sT1 rfl) sT0)))) sB0 sF0) ?_
                                                  refine AL_cons (LR_bin (at_tmp 132 _) (at_tmp 138 _) (neq_U64 x22 y27) rfl) (sS (sA (sT1 rfl) (sT1 rfl)) sB0 sF0) ?_
                                                  refine AL_nil ?_
                                                  exact thenN (cutLeaf (v := x22 != y27) hr (weak0 ((sT rfl (sT rfl sT0))) (sub_drop (sub_drop (sub_drop sub_nil)))))
                                                · rintro x27 hr
                                                  show AW Hfaa.prog _ _ _ ⟨[(8, .inl (is (U64 x22))), (139, .inl (is (Bl x27)))], []⟩
                                                  have hr : some r = F91_19 N x22 x27 := hr
                                                  refine AW_condT (b := x27) rfl (fun h => ?_) (fun h => ?_)
                                                  · have hr := hr.trans (cond_t h)
                                                    clear h
                                                    refine AW_seq1 ?_
                                                    refine AW_region ?_
                                                    refine AL_cons (LR_assign (at_c (v' := U64 (0#64)) rfl) rfl) (sS sT0 sB0 sF0) ?_
                                                    refine AL_cons (LR_assign (at_c (v' := Bl false) rfl) rfl) (sS sT0 sB0 sF0) ?_
                                                    refine AL_nil ?_
                                                    refine thenN ?_
                                                    refine AW_ret ?_
                                                    refine thenR ?_
                                                    obtain rfl := Option.some.inj hr
                                                    exact res2 rfl (rvT rfl) (rvT rfl)
                                                  · have hr := hr.trans (cond_f h)
                                                    clear h
                                                    refine AW_skip ?_
                                                    refine thenN ?_
                                                    refine AW_seq1 ?_
                                                    refine AW_region ?_
                                                    refine AL_cons (LR_move (at_tmp 8 _) rfl) (sS (sT1 rfl) sB0 sF0) ?_
                                                    refine AL_cons (LR_assign (at_tmp 140 _) rfl) (sS (sT1 rfl) sB0 sF0) ?_
                                                    refine AL_cons (LR_assign (at_c (v' := Bl true) rfl) rfl) (sS sT0 sB0 sF0) ?_
                                                    refine AL_nil ?_
                                                    refine thenN ?_
                                                    refine AW_ret ?_
                                                    obtain rfl := Option.some.inj hr
                                                    exact res2 rfl (rvT rfl) (rvT rfl)
end Go.Proofs.YfwaawGreat
