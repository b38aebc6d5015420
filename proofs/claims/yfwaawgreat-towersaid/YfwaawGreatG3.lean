import Derived.Test.YfwaawGreatG1
import Derived.Test.YfwaawGreatG2
namespace Go.Proofs.YfwaawGreat
open Go.Aw
set_option linter.unusedVariables false
set_option maxRecDepth 100000
set_option maxHeartbeats 1000000
/-- exact.zero -/
def F251 (a0_0 : BitVec 8) (a0_1 : BitVec 8) (a1 : Bool) : BitVec 64 := bif a1 then lt (F70 a0_0 a0_1) fun y4 => y4 else 0#64
theorem C251 (a0_0 : BitVec 8) (a0_1 : BitVec 8) (a1 : Bool) (r : BitVec 64) (hr : r = F251 a0_0 a0_1 a1) : Aw.Fn Hfaa.prog 251 [agg [is (U8 a0_0), is (U8 a0_1)], is (Bl a1)] (is (U64 r)) := by
  refine fn_intro Hfaa.func251 rfl rfl rfl ?_
  intro bn0 w0 H0
  refine AW_seq1 ?_
  refine AW_region ?_
  refine AL_cons (LR_box (at_tmp 0 _) (cells_agg _) rfl) (sS (sT1 rfl) sB0 (sF1 rfl)) ?_
  refine AL_cons (LR_assign (at_c (v' := U64 (0#64)) rfl) rfl) (sS sT0 sB0 sF0) ?_
  refine AL_nil ?_
  refine thenN ?_
  refine AW_seq1 ?_
  refine AW_seq1 ?_
  refine AW_region ?_
  refine AL_cons (LR_move (at_tmp 1 _) rfl) (sS (sT1 rfl) sB0 sF0) ?_
  refine AL_nil ?_
  refine thenN ?_
  refine AW_condT (b := a1) rfl (fun h => ?_) (fun h => ?_)
  · have hr := hr.trans (cond_t h)
    clear h
    refine AW_seq1 ?_
    refine AW_region ?_
    refine AL_cons (LR_loads (at_tmp 2 _) ag23 sz23 rfl rfl rfl) (sS (sT1 rfl) (sB1 rfl) sF0) ?_
    obtain ⟨y4, hy4, hr⟩ := lt_some hr
    refine AL_cons (LR_call Hfaa.func70 rfl rfl (C70 a0_0 a0_1 y4 hy4) (all_cons (at_tmp 6 _) all_nil) rfl) (sS (sA (sT1 rfl) sT0) sB0 sF0) ?_
    refine AL_cons (LR_assign (at_tmp 7 _) rfl) (sS (sT1 rfl) sB0 sF0) ?_
    refine AL_nil ?_
    refine thenN ?_
    refine AW_ret ?_
    refine thenR ?_
    subst hr
    exact res1 rfl (rvT rfl)
  · have hr := hr.trans (cond_f h)
    clear h
    refine AW_skip ?_
    refine thenN ?_
    refine AW_seq1 ?_
    refine AW_region ?_
    refine AL_cons (LR_assign (at_c (v' := U64 (0#64)) rfl) rfl) (sS sT0 sB0 sF0) ?_
    refine AL_nil ?_
    refine thenN ?_
    refine AW_ret ?_
    subst hr
    exact res1 rfl (rvT rfl)
/-- exact.MakeRat -/
def F250_1 (N : Nat) (a0 : Bool) (a1 : Nat) (x1 : Nat) : Option (Bool × Nat × Nat) := bif lim a1 then some (a0, a1, x1) else none
def F250_2 (N : Nat) (a0 : Bool) (a1 : Nat) (a2 : Nat) (x2 : Bool) : Option (Bool × Nat × Nat) := bif x2 then F250_1 N a0 a1 ((1#64).toNat) else F250_1 N a0 a1 a2
def F250 (N : Nat) (a0 : Bool) (a1 : Nat) (a2 : Nat) : Option (Bool × Nat × Nat) := bif lim a2 then F250_2 N a0 a1 a2 (a2 == 0) else none
theorem C250 (N : Nat) (a0 : Bool) (a1 : Nat) (a2 : Nat) (r : Bool × Nat × Nat) (hr : some r = F250 N a0 a1 a2) : Aw.Fn Hfaa.prog 250 [is (Bl a0), big a1, big a2] (agg [is (Bl r.1), big r.2.1, big r.2.2]) := by
  refine fn_intro Hfaa.func250 rfl rfl rfl ?_
  intro bn0 w0 H0
  refine AW_seq1 ?_
  refine AW_region ?_
  refine AL_cons (zl119 rfl) (sS sT0 sB0 (sF1 rfl)) ?_
  refine AL_nil ?_
  refine thenN ?_
  refine AW_seq1 ?_
  refine AW_region ?_
  refine AL_cons (LR_move (at_tmp 2 _) rfl) (sS (sT1 rfl) sB0 sF0) ?_
  obtain ⟨hg2, hr⟩ := guard_some hr
  refine AL_cons (LR_call Hfaa.func61 rfl rfl (B61 a2 hg2) (all_cons (at_tmp 8 _) all_nil) rfl) (sS (sA (sT1 rfl) sT0) sB0 sF0) ?_
  refine AL_cons (LR_assign (at_tmp 9 _) rfl) (sS (sT1 rfl) sB0 sF0) ?_
  refine AL_nil ?_
  refine thenN ?_
  refine AW_cut (σ := Nat) (fun v => ⟨[(0, .inl (is (Bl a0))), (1, .inl (big a1)), (6, .inr (.inl (6, 0))), (7, .inl (big v))], [(6, pb 119 [is (Bl false), big 0, big 0])]⟩) (fun v => some r = F250_1 N a0 a1 v) ?_ ?_
  · skip
    refine AW_cut (σ := Bool) (fun v => ⟨[(0, .inl (is (Bl a0))), (1, .inl (big a1)), (6, .inr (.inl (6, 0))), (7, .inl (big a2)), (11, .inl (is (Bl v)))], [(6, pb 119 [is (Bl false), big 0, big 0])]⟩) (fun v => some r = F250_2 N a0 a1 a2 v) ?_ ?_
    · skip
      refine AW_region ?_
      refine AL_cons (LR_move (at_tmp 7 _) rfl) (sS (sT1 rfl) sB0 sF0) ?_
      refine AL_cons (LR_binA (at_tmp 10 _) at_nil (eqNil Hfaa.underlying49 a2) rfl) (sS (sA (sT1 rfl) sT0) sB0 sF0) ?_
      refine AL_nil ?_
      exact thenN (cutLeaf (v := a2 == 0) hr (weak0 ((sT rfl (sT rfl (sT rfl (sT rfl (sT rfl sT0)))))) (sub_keep sub_nil)))
    · rintro x2 hr
      show AW Hfaa.prog _ _ _ ⟨[(0, .inl (is (Bl a0))), (1, .inl (big a1)), (6, .inr (.inl (6, 0))), (7, .inl (big a2)), (11, .inl (is (Bl x2)))], [(6, pb 119 [is (Bl false), big 0, big 0])]⟩
      have hr : some r = F250_2 N a0 a1 a2 x2 := hr
      refine AW_condT (b := x2) rfl (fun h => ?_) (fun h => ?_)
      · have hr := hr.trans (cond_t h)
        clear h
        refine AW_region ?_
        refine AL_cons (LR_call Hfaa.func20 rfl rfl (B20 (1#64)) (all_cons (at_c (v' := U64 (1#64)) rfl) all_nil) rfl) (sS (sA sT0 sT0) sB0 sF0) ?_
        refine AL_cons (LR_assign (at_tmp 12 _) rfl) (sS (sT1 rfl) sB0 sF0) ?_
        refine AL_nil ?_
        exact thenN (cutLeaf (v := (1#64).toNat) hr (weak0 ((sT rfl (sT rfl (sT rfl (sT rfl sT0))))) (sub_keep sub_nil)))
      · have hr := hr.trans (cond_f h)
        clear h
        refine AW_skip ?_
        exact thenN (cutLeaf (v := a2) hr (weak0 ((sT rfl (sT rfl (sT rfl (sT rfl sT0))))) (sub_keep sub_nil)))
  · rintro x1 hr
    show AW Hfaa.prog _ _ _ ⟨[(0, .inl (is (Bl a0))), (1, .inl (big a1)), (6, .inr (.inl (6, 0))), (7, .inl (big x1))], [(6, pb 119 [is (Bl false), big 0, big 0])]⟩
    have hr : some r = F250_1 N a0 a1 x1 := hr
    refine AW_seq1 ?_
    refine AW_region ?_
    refine AL_cons (LR_move (at_tmp 0 _) rfl) (sS (sT1 rfl) sB0 sF0) ?_
    refine AL_cons (LR_move (at_tmp 1 _) rfl) (sS (sT1 rfl) sB0 sF0) ?_
    obtain ⟨hg4, hr⟩ := guard_some hr
    refine AL_cons (LR_call Hfaa.func61 rfl rfl (B61 a1 hg4) (all_cons (at_tmp 14 _) all_nil) rfl) (sS (sA (sT1 rfl) sT0) sB0 sF0) ?_
    refine AL_cons (LR_move (at_tmp 7 _) rfl) (sS (sT1 rfl) sB0 sF0) ?_
    refine AL_cons (bl119 (parts_cons (i := 0) (off := 0) (at_tmp 13 _) (cells_one (one_is rfl)) rfl rfl (parts_cons (i := 1) (off := 1) (at_tmp 15 _) (cells_one (one_big _)) rfl rfl (parts_cons (i := 2) (off := 2) (at_tmp 16 _) (cells_one (one_big _)) rfl rfl parts_nil))) rfl rfl) (sS (sA (sT1 rfl) (sA (sT1 rfl) (sA (sT1 rfl) sT0))) sB0 sF0) ?_
    refine AL_cons (LR_store (at_tmp 6 _) (at_tmp 17 _) (cells_agg _) (onC (one_is rfl) (onC (one_big _) (onC (one_big _) onN))) sz119 rfl rfl) (sS (sA (sT1 rfl) (sT1 rfl)) (sB1 rfl) sF0) ?_
    refine AL_nil ?_
    refine thenN ?_
    refine AW_ret ?_
    obtain rfl := Option.some.inj hr
    exact res1 rfl (rvC rfl rfl ag119 sz119 rfl)
/-- exact.emin -/
def F246 (a0_0 : BitVec 8) (a0_1 : BitVec 8) : Int := lt (F71 a0_0 a0_1) fun y2 => w64 (1 - (w64 y2))
theorem C246 (a0_0 : BitVec 8) (a0_1 : BitVec 8) (r : Int) (hr : r = F246 a0_0 a0_1) : Aw.Fn Hfaa.prog 246 [agg [is (U8 a0_0), is (U8 a0_1)]] (is (I64 r)) := by
  refine fn_intro Hfaa.func246 rfl rfl rfl ?_
  intro bn0 w0 H0
  refine AW_seq1 ?_
  refine AW_region ?_
  refine AL_cons (LR_box (at_tmp 0 _) (cells_agg _) rfl) (sS (sT1 rfl) sB0 (sF1 rfl)) ?_
  refine AL_cons (LR_assign (at_c (v' := I64 0) rfl) rfl) (sS sT0 sB0 sF0) ?_
  refine AL_nil ?_
  refine thenN ?_
  refine AW_seq1 ?_
  refine AW_region ?_
  refine AL_cons (LR_loads (at_tmp 1 _) ag23 sz23 rfl rfl rfl) (sS (sT1 rfl) (sB1 rfl) sF0) ?_
  obtain ⟨y2, hy2, hr⟩ := lt_some hr
  refine AL_cons (LR_call Hfaa.func71 rfl rfl (C71 a0_0 a0_1 y2 hy2) (all_cons (at_tmp 3 _) all_nil) rfl) (sS (sA (sT1 rfl) sT0) sB0 sF0) ?_
  refine AL_cons (LR_conv (vx := I16 y2) (at_tmp 4 _) (conv_I64 Hfaa.underlying44 Hfaa.underlying3 y2) rfl) (sS (sT1 rfl) sB0 sF0) ?_
  refine AL_cons (LR_bin (at_c (v' := I64 1) rfl) (at_tmp 5 _) (sub_I64 1 (w64 y2)) rfl) (sS (sA sT0 (sT1 rfl)) sB0 sF0) ?_
  refine AL_cons (LR_assign (at_tmp 6 _) rfl) (sS (sT1 rfl) sB0 sF0) ?_
  refine AL_nil ?_
  refine thenN ?_
  refine AW_ret ?_
  subst hr
  exact res1 rfl (rvT rfl)
/-- exact.emax -/
def F247 (a0_0 : BitVec 8) (a0_1 : BitVec 8) : Int := lt (F71 a0_0 a0_1) fun y2 => w64 y2
theorem C247 (a0_0 : BitVec 8) (a0_1 : BitVec 8) (r : Int) (hr : r = F247 a0_0 a0_1) : Aw.Fn Hfaa.prog 247 [agg [is (U8 a0_0), is (U8 a0_1)]] (is (I64 r)) := by
  refine fn_intro Hfaa.func247 rfl rfl rfl ?_
  intro bn0 w0 H0
  refine AW_seq1 ?_
  refine AW_region ?_
  refine AL_cons (LR_box (at_tmp 0 _) (cells_agg _) rfl) (sS (sT1 rfl) sB0 (sF1 rfl)) ?_
  refine AL_cons (LR_assign (at_c (v' := I64 0) rfl) rfl) (sS sT0 sB0 sF0) ?_
  refine AL_nil ?_
  refine thenN ?_
  refine AW_seq1 ?_
  refine AW_region ?_
  refine AL_cons (LR_loads (at_tmp 1 _) ag23 sz23 rfl rfl rfl) (sS (sT1 rfl) (sB1 rfl) sF0) ?_
  obtain ⟨y2, hy2, hr⟩ := lt_some hr
  refine AL_cons (LR_call Hfaa.func71 rfl rfl (C71 a0_0 a0_1 y2 hy2) (all_cons (at_tmp 3 _) all_nil) rfl) (sS (sA (sT1 rfl) sT0) sB0 sF0) ?_
  refine AL_cons (LR_conv (vx := I16 y2) (at_tmp 4 _) (conv_I64 Hfaa.underlying44 Hfaa.underlying3 y2) rfl) (sS (sT1 rfl) sB0 sF0) ?_
  refine AL_cons (LR_assign (at_tmp 5 _) rfl) (sS (sT1 rfl) sB0 sF0) ?_
  refine AL_nil ?_
  refine thenN ?_
  refine AW_ret ?_
  subst hr
  exact res1 rfl (rvT rfl)
/-- exact.shift -/
def F208_1 (N : Nat) (a0 : Nat) (a1 : Nat) (a2 : Int) (x1 : Bool) : Option (Nat × Nat) := bif x1 then bif lim a1 then some ((a0, a1 * 2 ^ (BitVec.ofInt 16 (w64 (0 - a2))).toNat)) else none else bif lim a0 then some ((a0 * 2 ^ (BitVec.ofInt 16 a2).toNat, a1)) else none
def F208 (N : Nat) (a0 : Nat) (a1 : Nat) (a2 : Int) : Option (Nat × Nat) := F208_1 N a0 a1 a2 (decide (a2 < 0))
theorem C208 (N : Nat) (a0 : Nat) (a1 : Nat) (a2 : Int) (r : Nat × Nat) (hr : some r = F208 N a0 a1 a2) : Aw.Fn Hfaa.prog 208 [big a0, big a1, is (I64 a2)] (tup [big r.1, big r.2]) := by
  refine fn_intro Hfaa.func208 rfl rfl rfl ?_
  intro bn0 w0 H0
  refine AW_seq1 ?_
  refine AW_region ?_
  refine AL_cons (LR_assign at_nil rfl) (sS sT0 sB0 sF0) ?_
  refine AL_cons (LR_assign at_nil rfl) (sS sT0 sB0 sF0) ?_
  refine AL_nil ?_
  refine thenN ?_
  refine AW_seq1 ?_
  refine AW_cut (σ := Bool) (fun v => ⟨[(0, .inl (big a0)), (1, .inl (big a1)), (2, .inl (is (I64 a2))), (9, .inl (is (Bl v)))], []⟩) (fun v => some r = F208_1 N a0 a1 a2 v) ?_ ?_
  · skip
    refine AW_region ?_
    refine AL_cons (LR_move (at_tmp 2 _) rfl) (sS (sT1 rfl) sB0 sF0) ?_
    refine AL_cons (LR_bin (at_tmp 8 _) (at_c (v' := I64 0) rfl) (lss_I64 a2 0) rfl) (sS (sA (sT1 rfl) sT0) sB0 sF0) ?_
    refine AL_nil ?_
    exact thenN (cutLeaf (v := decide (a2 < 0)) hr (weak0 ((sT rfl (sT rfl (sT rfl (sT rfl sT0))))) sub_nil))
  · rintro x1 hr
    show AW Hfaa.prog _ _ _ ⟨[(0, .inl (big a0)), (1, .inl (big a1)), (2, .inl (is (I64 a2))), (9, .inl (is (Bl x1)))], []⟩
    have hr : some r = F208_1 N a0 a1 a2 x1 := hr
    refine AW_condT (b := x1) rfl (fun h => ?_) (fun h => ?_)
    · have hr := hr.trans (cond_t h)
      clear h
      refine AW_seq1 ?_
      refine AW_region ?_
      refine AL_cons (LR_move (at_tmp 0 _) rfl) (sS (sT1 rfl) sB0 sF0) ?_
      refine AL_cons (LR_move (at_tmp 1 _) rfl) (sS (sT1 rfl) sB0 sF0) ?_
      refine AL_cons (LR_move (at_tmp 2 _) rfl) (sS (sT1 rfl) sB0 sF0) ?_
      refine AL_cons (LR_un (at_tmp 12 _) (neg_I64 a2) rfl) (sS (sT1 rfl) sB0 sF0) ?_
      refine AL_cons (LR_conv (vx := I64 (w64 (0 - a2))) (at_tmp 13 _) (conv_U16 Hfaa.underlying3 Hfaa.underlying71 (w64 (0 - a2))) rfl) (sS (sT1 rfl) sB0 sF0) ?_
      obtain ⟨hg4, hr⟩ := guard_some hr
      refine AL_cons (LR_call Hfaa.func36 rfl rfl (B36 a1 (BitVec.ofInt 16 (w64 (0 - a2))) hg4) (all_cons (at_tmp 11 _) (all_cons (at_tmp 14 _) all_nil)) rfl) (sS (sA (sT1 rfl) (sA (sT1 rfl) sT0)) sB0 sF0) ?_
      refine AL_cons (LR_assign (at_tmp 10 _) rfl) (sS (sT1 rfl) sB0 sF0) ?_
      refine AL_cons (LR_assign (at_tmp 15 _) rfl) (sS (sT1 rfl) sB0 sF0) ?_
      refine AL_nil ?_
      refine thenN ?_
      refine AW_ret ?_
      refine thenR ?_
      obtain rfl := Option.some.inj hr
      exact res2 rfl (rvT rfl) (rvT rfl)
    · have hr := hr.trans (cond_f h)
      clear h
      refine AW_skip ?_
      refine thenN ?_
      refine AW_seq1 ?_
      refine AW_region ?_
      refine AL_cons (LR_move (at_tmp 0 _) rfl) (sS (sT1 rfl) sB0 sF0) ?_
      refine AL_cons (LR_move (at_tmp 2 _) rfl) (sS (sT1 rfl) sB0 sF0) ?_
      refine AL_cons (LR_conv (vx := I64 a2) (at_tmp 17 _) (conv_U16 Hfaa.underlying3 Hfaa.underlying71 a2) rfl) (sS (sT1 rfl) sB0 sF0) ?_
      obtain ⟨hg6, hr⟩ := guard_some hr
      refine AL_cons (LR_call Hfaa.func36 rfl rfl (B36 a0 (BitVec.ofInt 16 a2) hg6) (all_cons (at_tmp 16 _) (all_cons (at_tmp 18 _) all_nil)) rfl) (sS (sA (sT1 rfl) (sA (sT1 rfl) sT0)) sB0 sF0) ?_
      refine AL_cons (LR_move (at_tmp 1 _) rfl) (sS (sT1 rfl) sB0 sF0) ?_
      refine AL_cons (LR_assign (at_tmp 19 _) rfl) (sS (sT1 rfl) sB0 sF0) ?_
      refine AL_cons (LR_assign (at_tmp 20 _) rfl) (sS (sT1 rfl) sB0 sF0) ?_
      refine AL_nil ?_
      refine thenN ?_
      refine AW_ret ?_
      obtain rfl := Option.some.inj hr
      exact res2 rfl (rvT rfl) (rvT rfl)
/-- exact.log2 -/
def F207_5 (N : Nat) (x6 : Int) : Option (Int) := some x6
def F207_6 (N : Nat) (x1 : Int) (x7 : Bool) : Option (Int) := bif x7 then F207_5 N (w64 (x1 - 1)) else F207_5 N x1
def F207_4 (N : Nat) (x1 : Int) (x4 : Nat) (x5 : Nat) : Option (Int) := bif lim x4 && lim x5 then F207_6 N x1 (decide ((ncmp x4 x5) < 0)) else none
def F207_3 (N : Nat) (a0 : Nat) (a1 : Nat) (a2 : Int) (x1 : Int) (x3 : Bool) : Option (Int) := bif x3 then some (w64 (a2 - 1)) else (F208 N a0 a1 (w64 (0 - x1))).bind fun y2 => F207_4 N x1 y2.1 y2.2
def F207_2 (N : Nat) (a0 : Nat) (a1 : Nat) (a2 : Int) (a3 : Int) (x1 : Int) (x2 : Bool) : Option (Int) := bif x2 then some (w64 (a3 + 1)) else F207_3 N a0 a1 a2 x1 (decide (x1 < a2))
def F207_1 (N : Nat) (a0 : Nat) (a1 : Nat) (a2 : Int) (a3 : Int) (x1 : Int) : Option (Int) := F207_2 N a0 a1 a2 a3 x1 (decide (x1 > (w64 (a3 + 1))))
def F207 (N : Nat) (a0 : Nat) (a1 : Nat) (a2 : Int) (a3 : Int) : Option (Int) := bif lim a0 then bif lim a1 then F207_1 N a0 a1 a2 a3 (w64 ((blen a0 : Int) - (blen a1 : Int))) else none else none
theorem C207 (N : Nat) (a0 : Nat) (a1 : Nat) (a2 : Int) (a3 : Int) (r : Int) (hr : some r = F207 N a0 a1 a2 a3) : Aw.Fn Hfaa.prog 207 [big a0, big a1, is (I64 a2), is (I64 a3)] (is (I64 r)) := by
  refine fn_intro Hfaa.func207 rfl rfl rfl ?_
  intro bn0 w0 H0
  refine AW_seq1 ?_
  refine AW_region ?_
  refine AL_cons (LR_assign (at_c (v' := I64 0) rfl) rfl) (sS sT0 sB0 sF0) ?_
  refine AL_nil ?_
  refine thenN ?_
  refine AW_cut (σ := Int) (fun v => ⟨[(0, .inl (big a0)), (1, .inl (big a1)), (2, .inl (is (I64 a2))), (3, .inl (is (I64 a3))), (9, .inl (is (I64 v)))], []⟩) (fun v => some r = F207_1 N a0 a1 a2 a3 v) ?_ ?_
  · skip
    refine AW_region ?_
    refine AL_cons (LR_move (at_tmp 0 _) rfl) (sS (sT1 rfl) sB0 sF0) ?_
    obtain ⟨hg7, hr⟩ := guard_some hr
    refine AL_cons (LR_call Hfaa.func34 rfl rfl (B34 a0 hg7) (all_cons (at_tmp 12 _) all_nil) rfl) (sS (sA (sT1 rfl) sT0) sB0 sF0) ?_
    refine AL_cons (LR_move (at_tmp 1 _) rfl) (sS (sT1 rfl) sB0 sF0) ?_
    obtain ⟨hg8, hr⟩ := guard_some hr
    refine AL_cons (LR_call Hfaa.func34 rfl rfl (B34 a1 hg8) (all_cons (at_tmp 14 _) all_nil) rfl) (sS (sA (sT1 rfl) sT0) sB0 sF0) ?_
    refine AL_cons (LR_bin (at_tmp 13 _) (at_tmp 15 _) (sub_I64 (blen a0 : Int) (blen a1 : Int)) rfl) (sS (sA (sT1 rfl) (sT1 rfl)) sB0 sF0) ?_
    refine AL_cons (LR_assign (at_tmp 16 _) rfl) (sS (sT1 rfl) sB0 sF0) ?_
    refine AL_nil ?_
    exact thenN (cutLeaf (v := w64 ((blen a0 : Int) - (blen a1 : Int))) hr (weak0 ((sT rfl (sT rfl (sT rfl (sT rfl (sT rfl sT0)))))) sub_nil))
  · rintro x1 hr
    show AW Hfaa.prog _ _ _ ⟨[(0, .inl (big a0)), (1, .inl (big a1)), (2, .inl (is (I64 a2))), (3, .inl (is (I64 a3))), (9, .inl (is (I64 x1)))], []⟩
    have hr : some r = F207_1 N a0 a1 a2 a3 x1 := hr
    refine AW_seq1 ?_
    refine AW_cut (σ := Bool) (fun v => ⟨[(0, .inl (big a0)), (1, .inl (big a1)), (2, .inl (is (I64 a2))), (3, .inl (is (I64 a3))), (9, .inl (is (I64 x1))), (20, .inl (is (Bl v)))], []⟩) (fun v => some r = F207_2 N a0 a1 a2 a3 x1 v) ?_ ?_
    · skip
      refine AW_region ?_
      refine AL_cons (LR_move (at_tmp 9 _) rfl) (sS (sT1 rfl) sB0 sF0) ?_
      refine AL_cons (LR_move (at_tmp 3 _) rfl) (sS (sT1 rfl) sB0 sF0) ?_
      refine AL_cons (LR_bin (at_tmp 18 _) (at_c (v' := I64 1) rfl) (add_I64 a3 1) rfl) (sS (sA (sT1 rfl) sT0) sB0 sF0) ?_
      refine AL_cons (LR_bin (at_tmp 17 _) (at_tmp 19 _) (gtr_I64 x1 (w64 (a3 + 1))) rfl) (sS (sA (sT1 rfl) (sT1 rfl)) sB0 sF0) ?_
      refine AL_nil ?_
      exact thenN (cutLeaf (v := decide (x1 > (w64 (a3 + 1)))) hr (weak0 ((sT rfl (sT rfl (sT rfl (sT rfl (sT rfl (sT rfl sT0))))))) sub_nil))
    · rintro x2 hr
      show AW Hfaa.prog _ _ _ ⟨[(0, .inl (big a0)), (1, .inl (big a1)), (2, .inl (is (I64 a2))), (3, .inl (is (I64 a3))), (9, .inl (is (I64 x1))), (20, .inl (is (Bl x2)))], []⟩
      have hr : some r = F207_2 N a0 a1 a2 a3 x1 x2 := hr
      refine AW_condT (b := x2) rfl (fun h => ?_) (fun h => ?_)
      · have hr := hr.trans (cond_t h)
        clear h
        refine AW_seq1 ?_
        refine AW_region ?_
        refine AL_cons (LR_move (at_tmp 3 _) rfl) (sS (sT1 rfl) sB0 sF0) ?_
        refine AL_cons (LR_bin (at_tmp 21 _) (at_c (v' := I64 1) rfl) (add_I64 a3 1) rfl) (sS (sA (sT1 rfl) sT0) sB0 sF0) ?_
        refine AL_cons (LR_assign (at_tmp 22 _) rfl) (sS (sT1 rfl) sB0 sF0) ?_
        refine AL_nil ?_
        refine thenN ?_
        refine AW_ret ?_
        refine thenR ?_
        obtain rfl := Option.some.inj hr
        exact res1 rfl (rvT rfl)
      · have hr := hr.trans (cond_f h)
        clear h
        refine AW_skip ?_
        refine thenN ?_
        refine AW_seq1 ?_
        refine AW_cut (σ := Bool) (fun v => ⟨[(0, .inl (big a0)), (1, .inl (big a1)), (2, .inl (is (I64 a2))), (9, .inl (is (I64 x1))), (25, .inl (is (Bl v)))], []⟩) (fun v => some r = F207_3 N a0 a1 a2 x1 v) ?_ ?_
        · skip
          refine AW_region ?_
          refine AL_cons (LR_move (at_tmp 9 _) rfl) (sS (sT1 rfl) sB0 sF0) ?_
          refine AL_cons (LR_move (at_tmp 2 _) rfl) (sS (sT1 rfl) sB0 sF0) ?_
          refine AL_cons (LR_bin (at_tmp 23 _) (at_tmp 24 _) (lss_I64 x1 a2) rfl) (sS (sA (sT1 rfl) (sT1 rfl)) sB0 sF0) ?_
          refine AL_nil ?_
          exact thenN (cutLeaf (v := decide (x1 < a2)) hr (weak0 ((sT rfl (sT rfl (sT rfl (sT rfl (sT rfl sT0)))))) sub_nil))
        · rintro x3 hr
          show AW Hfaa.prog _ _ _ ⟨[(0, .inl (big a0)), (1, .inl (big a1)), (2, .inl (is (I64 a2))), (9, .inl (is (I64 x1))), (25, .inl (is (Bl x3)))], []⟩
          have hr : some r = F207_3 N a0 a1 a2 x1 x3 := hr
          refine AW_condT (b := x3) rfl (fun h => ?_) (fun h => ?_)
          · have hr := hr.trans (cond_t h)
            clear h
            refine AW_seq1 ?_
            refine AW_region ?_
            refine AL_cons (LR_move (at_tmp 2 _) rfl) (sS (sT1 rfl) sB0 sF0) ?_
            refine AL_cons (LR_bin (at_tmp 26 _) (at_c (v' := I64 1) rfl) (sub_I64 a2 1) rfl) (sS (sA (sT1 rfl) sT0) sB0 sF0) ?_
            refine AL_cons (LR_assign (at_tmp 27 _) rfl) (sS (sT1 rfl) sB0 sF0) ?_
            refine AL_nil ?_
            refine thenN ?_
            refine AW_ret ?_
            refine thenR ?_
            obtain rfl := Option.some.inj hr
            exact res1 rfl (rvT rfl)
          · have hr := hr.trans (cond_f h)
            clear h
            refine AW_skip ?_
            refine thenN ?_
            refine AW_cut (σ := Nat × Nat) (fun v => ⟨[(9, .inl (is (I64 x1))), (10, .inl (big v.1)), (11, .inl (big v.2))], []⟩) (fun v => some r = F207_4 N x1 v.1 v.2) ?_ ?_
            · skip
              refine AW_region ?_
              refine AL_cons (LR_move (at_tmp 0 _) rfl) (sS (sT1 rfl) sB0 sF0) ?_
              refine AL_cons (LR_move (at_tmp 1 _) rfl) (sS (sT1 rfl) sB0 sF0) ?_
              refine AL_cons (LR_move (at_tmp 9 _) rfl) (sS (sT1 rfl) sB0 sF0) ?_
              refine AL_cons (LR_un (at_tmp 31 _) (neg_I64 x1) rfl) (sS (sT1 rfl) sB0 sF0) ?_
              obtain ⟨y2, hy2, hr⟩ := bind_some hr
              refine AL_cons (LR_call Hfaa.func208 rfl rfl (C208 N a0 a1 (w64 (0 - x1)) y2 hy2) (all_cons (at_tmp 29 _) (all_cons (at_tmp 30 _) (all_cons (at_tmp 32 _) all_nil))) rfl) (sS (sA (sT1 rfl) (sA (sT1 rfl) (sA (sT1 rfl) sT0))) sB0 sF0) ?_
              refine AL_cons (LR_move (at_tmp 33 _) rfl) (sS (sT1 rfl) sB0 sF0) ?_
              refine AL_cons (LR_extract (at_tmp 28 _) rfl rfl) (sS (sT1 rfl) sB0 sF0) ?_
              refine AL_cons (LR_extract (at_tmp 28 _) rfl rfl) (sS (sT1 rfl) sB0 sF0) ?_
              refine AL_cons (LR_assign (at_tmp 34 _) rfl) (sS (sT1 rfl) sB0 sF0) ?_
              refine AL_cons (LR_assign (at_tmp 35 _) rfl) (sS (sT1 rfl) sB0 sF0) ?_
              refine AL_nil ?_
              exact thenN (cutLeaf (v := (y2.1, y2.2)) hr (weak0 ((sT rfl (sT rfl (sT rfl sT0)))) sub_nil))
            · rintro ⟨x4, x5⟩ hr
              show AW Hfaa.prog _ _ _ ⟨[(9, .inl (is (I64 x1))), (10, .inl (big x4)), (11, .inl (big x5))], []⟩
              have hr : some r = F207_4 N x1 x4 x5 := hr
              refine AW_cut (σ := Int) (fun v => ⟨[(9, .inl (is (I64 v)))], []⟩) (fun v => some r = F207_5 N v) ?_ ?_
              · skip
                refine AW_cut (σ := Bool) (fun v => ⟨[(9, .inl (is (I64 x1))), (39, .inl (is (Bl v)))], []⟩) (fun v => some r = F207_6 N x1 v) ?_ ?_
                · skip
                  refine AW_region ?_
                  refine AL_cons (LR_move (at_tmp 10 _) rfl) (sS (sT1 rfl) sB0 sF0) ?_
                  refine AL_cons (LR_move (at_tmp 11 _) rfl) (sS (sT1 rfl) sB0 sF0) ?_
                  obtain ⟨hg6, hr⟩ := guard_some hr
                  refine AL_cons (LR_call Hfaa.func60 rfl rfl (B60 x4 x5 hg6) (all_cons (at_tmp 36 _) (all_cons (at_tmp 37 _) all_nil)) rfl) (sS (sA (sT1 rfl) (sA (sT1 rfl) sT0)) sB0 sF0) ?_
                  refine AL_cons (LR_bin (at_tmp 38 _) (at_c (v' := I8 0) rfl) (lss_I8 (ncmp x4 x5) 0) rfl) (sS (sA (sT1 rfl) sT0) sB0 sF0) ?_
                  refine AL_nil ?_
                  exact thenN (cutLeaf (v := decide ((ncmp x4 x5) < 0)) hr (weak0 ((sT rfl (sT rfl sT0))) sub_nil))
                · rintro x7 hr
                  show AW Hfaa.prog _ _ _ ⟨[(9, .inl (is (I64 x1))), (39, .inl (is (Bl x7)))], []⟩
                  have hr : some r = F207_6 N x1 x7 := hr
                  refine AW_condT (b := x7) rfl (fun h => ?_) (fun h => ?_)
                  · have hr := hr.trans (cond_t h)
                    clear h
                    refine AW_region ?_
                    refine AL_cons (LR_move (at_tmp 9 _) rfl) (sS (sT1 rfl) sB0 sF0) ?_
                    refine AL_cons (LR_bin (at_tmp 40 _) (at_c (v' := I64 1) rfl) (sub_I64 x1 1) rfl) (sS (sA (sT1 rfl) sT0) sB0 sF0) ?_
                    refine AL_cons (LR_assign (at_tmp 41 _) rfl) (sS (sT1 rfl) sB0 sF0) ?_
                    refine AL_nil ?_
                    exact thenN (cutLeaf (v := w64 (x1 - 1)) hr (weak0 ((sT rfl sT0)) sub_nil))
                  · have hr := hr.trans (cond_f h)
                    clear h
                    refine AW_skip ?_
                    exact thenN (cutLeaf (v := x1) hr (weak0 ((sT rfl sT0)) sub_nil))
              · rintro x6 hr
                show AW Hfaa.prog _ _ _ ⟨[(9, .inl (is (I64 x6)))], []⟩
                have hr : some r = F207_5 N x6 := hr
                refine AW_seq1 ?_
                refine AW_region ?_
                refine AL_cons (LR_move (at_tmp 9 _) rfl) (sS (sT1 rfl) sB0 sF0) ?_
                refine AL_cons (LR_assign (at_tmp 42 _) rfl) (sS (sT1 rfl) sB0 sF0) ?_
                refine AL_nil ?_
                refine thenN ?_
                refine AW_ret ?_
                obtain rfl := Option.some.inj hr
                exact res1 rfl (rvT rfl)
/-- ieee.MaxFinite -/
def F68_1 (a0_0 : BitVec 8) (a0_1 : BitVec 8) (a1 : Bool) (x1 : Bool) : BitVec 64 := bif x1 then 0#64 else lt (F128 a0_0 a0_1 a1 (((((1#64) <<< a0_0.toNat) - (1#64)) <<< a0_1.toNat) - (1#64))) fun y5 => y5
def F68 (a0_0 : BitVec 8) (a0_1 : BitVec 8) (a1 : Bool) : BitVec 64 := lt (F40 a0_0 a0_1) fun y6 => F68_1 a0_0 a0_1 a1 (!y6)
theorem C68 (a0_0 : BitVec 8) (a0_1 : BitVec 8) (a1 : Bool) (r : BitVec 64) (hr : r = F68 a0_0 a0_1 a1) : Aw.Fn Hfaa.prog 68 [agg [is (U8 a0_0), is (U8 a0_1)], is (Bl a1)] (is (U64 r)) := by
  refine fn_intro Hfaa.func68 rfl rfl rfl ?_
  intro bn0 w0 H0
  refine AW_seq1 ?_
  refine AW_region ?_
  refine AL_cons (LR_box (at_tmp 0 _) (cells_agg _) rfl) (sS (sT1 rfl) sB0 (sF1 rfl)) ?_
  refine AL_cons (LR_assign (at_c (v' := U64 (0#64)) rfl) rfl) (sS sT0 sB0 sF0) ?_
  refine AL_nil ?_
  refine thenN ?_
  refine AW_seq1 ?_
  refine AW_cut (σ := Bool) (fun v => ⟨[(1, .inl (is (Bl a1))), (2, .inr (.inl (2, 0))), (7, .inl (is (Bl v)))], [(2, pb 23 [is (U8 a0_0), is (U8 a0_1)])]⟩) (fun v => r = F68_1 a0_0 a0_1 a1 v) ?_ ?_
  · skip
    refine AW_region ?_
    refine AL_cons (LR_loads (at_tmp 2 _) ag23 sz23 rfl rfl rfl) (sS (sT1 rfl) (sB1 rfl) sF0) ?_
    obtain ⟨y6, hy6, hr⟩ := lt_some hr
    refine AL_cons (LR_call Hfaa.func40 rfl rfl (C40 a0_0 a0_1 y6 hy6) (all_cons (at_tmp 5 _) all_nil) rfl) (sS (sA (sT1 rfl) sT0) sB0 sF0) ?_
    refine AL_cons (LR_un (at_tmp 6 _) (not_Bl y6) rfl) (sS (sT1 rfl) sB0 sF0) ?_
    refine AL_nil ?_
    exact thenN (cutLeaf (v := !y6) hr (weak0 ((sT rfl (sT rfl (sT rfl sT0)))) (sub_keep sub_nil)))
  · rintro x1 hr
    show AW Hfaa.prog _ _ _ ⟨[(1, .inl (is (Bl a1))), (2, .inr (.inl (2, 0))), (7, .inl (is (Bl x1)))], [(2, pb 23 [is (U8 a0_0), is (U8 a0_1)])]⟩
    have hr : r = F68_1 a0_0 a0_1 a1 x1 := hr
    refine AW_condT (b := x1) rfl (fun h => ?_) (fun h => ?_)
    · have hr := hr.trans (cond_t h)
      clear h
      refine AW_seq1 ?_
      refine AW_region ?_
      refine AL_cons (LR_assign (at_c (v' := U64 (0#64)) rfl) rfl) (sS sT0 sB0 sF0) ?_
      refine AL_nil ?_
      refine thenN ?_
      refine AW_ret ?_
      refine thenR ?_
      subst hr
      exact res1 rfl (rvT rfl)
    · have hr := hr.trans (cond_f h)
      clear h
      refine AW_skip ?_
      refine thenN ?_
      refine AW_seq1 ?_
      refine AW_region ?_
      refine AL_cons (LR_loads (at_tmp 2 _) ag23 sz23 rfl rfl rfl) (sS (sT1 rfl) (sB1 rfl) sF0) ?_
      refine AL_cons (LR_move (at_tmp 1 _) rfl) (sS (sT1 rfl) sB0 sF0) ?_
      refine AL_cons (LR_fieldAddr (off := 0) (o := 0) (at_tmp 2 _) (fun b w => fa23_0 b 0 w) rfl) (sS (sT1 rfl) sB0 sF0) ?_
      refine AL_cons (LR_load (at_tmp 10 _) na5 rfl rfl) (sS (sT1 rfl) (sB1 rfl) sF0) ?_
      refine AL_cons (LR_bin (at_c (v' := U64 (1#64)) rfl) (at_tmp 11 _) (shl_U64 (1#64) (a0_0.toNat : Int) (Int.natCast_nonneg _)) rfl) (sS (sA sT0 (sT1 rfl)) sB0 sF0) ?_
      refine AL_cons (LR_bin (at_tmp 12 _) (at_c (v' := U64 (1#64)) rfl) (sub_U64 ((1#64) <<< a0_0.toNat) (1#64)) rfl) (sS (sA (sT1 rfl) sT0) sB0 sF0) ?_
      refine AL_cons (LR_fieldAddr (off := 0) (o := 1) (at_tmp 2 _) (fun b w => fa23_1 b 0 w) rfl) (sS (sT1 rfl) sB0 sF0) ?_
      refine AL_cons (LR_load (at_tmp 14 _) na5 rfl rfl) (sS (sT1 rfl) (sB1 rfl) sF0) ?_
      refine AL_cons (LR_bin (at_tmp 13 _) (at_tmp 15 _) (shl_U64 (((1#64) <<< a0_0.toNat) - (1#64)) (a0_1.toNat : Int) (Int.natCast_nonneg _)) rfl) (sS (sA (sT1 rfl) (sT1 rfl)) sB0 sF0) ?_
      refine AL_cons (LR_bin (at_tmp 16 _) (at_c (v' := U64 (1#64)) rfl) (sub_U64 ((((1#64) <<< a0_0.toNat) - (1#64)) <<< a0_1.toNat) (1#64)) rfl) (sS (sA (sT1 rfl) sT0) sB0 sF0) ?_
      obtain ⟨y5, hy5, hr⟩ := lt_some hr
      refine AL_cons (LR_call Hfaa.func128 rfl rfl (C128 a0_0 a0_1 a1 (((((1#64) <<< a0_0.toNat) - (1#64)) <<< a0_1.toNat) - (1#64)) y5 hy5) (all_cons (at_tmp 8 _) (all_cons (at_tmp 9 _) (all_cons (at_tmp 17 _) all_nil))) rfl) (sS (sA (sT1 rfl) (sA (sT1 rfl) (sA (sT1 rfl) sT0))) sB0 sF0) ?_
      refine AL_cons (LR_assign (at_tmp 18 _) rfl) (sS (sT1 rfl) sB0 sF0) ?_
      refine AL_nil ?_
      refine thenN ?_
      refine AW_ret ?_
      subst hr
      exact res1 rfl (rvT rfl)
/-- exact.overflow -/
def F252_1 (a0_0 : BitVec 8) (a0_1 : BitVec 8) (a2 : Bool) (x1 : Bool) : BitVec 64 × BitVec 8 := bif x1 then lt (F68 a0_0 a0_1 a2) fun y4 => (y4, 20#8) else lt (F67 a0_0 a0_1 a2) fun y6 => (y6, 20#8)
def F252_3 (a0_0 : BitVec 8) (a0_1 : BitVec 8) (a1 : BitVec 8) (a2 : Bool) (x3 : Bool) : BitVec 64 × BitVec 8 := bif x3 then F252_1 a0_0 a0_1 a2 x3 else F252_1 a0_0 a0_1 a2 ((a1 == (4#8)) && (!a2))
def F252_2 (a0_0 : BitVec 8) (a0_1 : BitVec 8) (a1 : BitVec 8) (a2 : Bool) (x2 : Bool) : BitVec 64 × BitVec 8 := bif x2 then F252_1 a0_0 a0_1 a2 x2 else F252_3 a0_0 a0_1 a1 a2 ((a1 == (3#8)) && a2)
def F252 (a0_0 : BitVec 8) (a0_1 : BitVec 8) (a1 : BitVec 8) (a2 : Bool) : BitVec 64 × BitVec 8 := F252_2 a0_0 a0_1 a1 a2 (a1 == (2#8))
theorem C252 (a0_0 : BitVec 8) (a0_1 : BitVec 8) (a1 : BitVec 8) (a2 : Bool) (r : BitVec 64 × BitVec 8) (hr : r = F252 a0_0 a0_1 a1 a2) : Aw.Fn Hfaa.prog 252 [agg [is (U8 a0_0), is (U8 a0_1)], is (U8 a1), is (Bl a2)] (tup [is (U64 r.1), is (U8 r.2)]) := by
  refine fn_intro Hfaa.func252 rfl rfl rfl ?_
  intro bn0 w0 H0
  refine AW_seq1 ?_
  refine AW_region ?_
  refine AL_cons (LR_box (at_tmp 0 _) (cells_agg _) rfl) (sS (sT1 rfl) sB0 (sF1 rfl)) ?_
  refine AL_cons (LR_assign (at_c (v' := U64 (0#64)) rfl) rfl) (sS sT0 sB0 sF0) ?_
  refine AL_cons (LR_assign (at_c (v' := U8 (0#8)) rfl) rfl) (sS sT0 sB0 sF0) ?_
  refine AL_nil ?_
  refine thenN ?_
  refine AW_seq1 ?_
  refine AW_block ?_
  refine AW_cut (σ := Bool) (fun v => ⟨[(2, .inl (is (Bl a2))), (3, .inr (.inl (3, 0))), (8, .inl (is (Bl v)))], [(3, pb 23 [is (U8 a0_0), is (U8 a0_1)])]⟩) (fun v => r = F252_1 a0_0 a0_1 a2 v) ?_ ?_
  · skip
    refine AW_cut (σ := Bool) (fun v => ⟨[(1, .inl (is (U8 a1))), (2, .inl (is (Bl a2))), (3, .inr (.inl (3, 0))), (8, .inl (is (Bl v)))], [(3, pb 23 [is (U8 a0_0), is (U8 a0_1)])]⟩) (fun v => r = F252_2 a0_0 a0_1 a1 a2 v) ?_ ?_
    · skip
      refine AW_region ?_
      refine AL_cons (LR_move (at_tmp 1 _) rfl) (sS (sT1 rfl) sB0 sF0) ?_
      refine AL_cons (LR_bin (at_tmp 9 _) (at_c (v' := U8 (2#8)) rfl) (eql_U8 a1 (2#8)) rfl) (sS (sA (sT1 rfl) sT0) sB0 sF0) ?_
      refine AL_cons (LR_assign (at_tmp 10 _) rfl) (sS (sT1 rfl) sB0 sF0) ?_
      refine AL_nil ?_
      exact thenN (cutLeaf (v := a1 == (2#8)) hr (weak0 ((sT rfl (sT rfl (sT rfl (sT rfl sT0))))) (sub_keep sub_nil)))
    · rintro x2 hr
      show AW Hfaa.prog _ _ _ ⟨[(1, .inl (is (U8 a1))), (2, .inl (is (Bl a2))), (3, .inr (.inl (3, 0))), (8, .inl (is (Bl x2)))], [(3, pb 23 [is (U8 a0_0), is (U8 a0_1)])]⟩
      have hr : r = F252_2 a0_0 a0_1 a1 a2 x2 := hr
      refine AW_condT (b := x2) rfl (fun h => ?_) (fun h => ?_)
      · have hr := hr.trans (cond_t h)
        clear h
        refine AW_skip ?_
        exact thenN (cutLeaf (v := x2) hr (weak0 ((sT rfl (sT rfl (sT rfl sT0)))) (sub_keep sub_nil)))
      · have hr := hr.trans (cond_f h)
        clear h
        refine AW_cut (σ := Bool) (fun v => ⟨[(1, .inl (is (U8 a1))), (2, .inl (is (Bl a2))), (3, .inr (.inl (3, 0))), (8, .inl (is (Bl v)))], [(3, pb 23 [is (U8 a0_0), is (U8 a0_1)])]⟩) (fun v => r = F252_3 a0_0 a0_1 a1 a2 v) ?_ ?_
        · skip
          refine AW_region ?_
          refine AL_cons (LR_move (at_tmp 1 _) rfl) (sS (sT1 rfl) sB0 sF0) ?_
          refine AL_cons (LR_bin (at_tmp 11 _) (at_c (v' := U8 (3#8)) rfl) (eql_U8 a1 (3#8)) rfl) (sS (sA (sT1 rfl) sT0) sB0 sF0) ?_
          refine AL_cons (LR_move (at_tmp 12 _) rfl) (sS (sT1 rfl) sB0 sF0) ?_
          refine AL_cutAt 2 ⟨[(1, .inl (is (U8 a1))), (2, .inl (is (Bl a2))), (3, .inr (.inl (3, 0))), (8, .inl (is (Bl x2))), (11, .inl (is (U8 a1))), (12, .inl (is (Bl (a1 == (3#8))))), (13, .inl (is (Bl (a1 == (3#8))))), (15, .inl (is (Bl ((a1 == (3#8)) && a2))))], [(3, pb 23 [is (U8 a0_0), is (U8 a0_1)])]⟩ ?_ ?_
          · cases hb : a1 == (3#8)
            · skip
              refine AL_cons (LR_off (b := false) rfl rfl rfl rfl) (sS (sT1 rfl) sB0 sF0) ?_
              refine AL_cons (LR_pick (b := false) (at_tmp 13 _) (at_tmp 14 _) (at_c (v' := Bl false) rfl) rfl) (sS (sA (sT1 rfl) (sA (sT1 rfl) sT0)) sB0 sF0) ?_
              exact AL_nil ⟨rfl, weak0 ((sT rfl (sT rfl (sT rfl (sT rfl (sT rfl (sT rfl (sT rfl (sT rfl sT0))))))))) (sub_keep sub_nil)⟩
            · skip
              refine AL_cons (LR_on rfl rfl rfl (LR_move (at_tmp 2 _) rfl)) (sS (sT rfl (sT1 rfl)) sB0 sF0) ?_
              refine AL_cons (LR_pick (b := true) (at_tmp 13 _) (at_tmp 14 _) (at_c (v' := Bl false) rfl) rfl) (sS (sA (sT1 rfl) (sA (sT1 rfl) sT0)) sB0 sF0) ?_
              exact AL_nil ⟨rfl, weak0 ((sT rfl (sT rfl (sT rfl (sT rfl (sT rfl (sT rfl (sT rfl (sT rfl sT0))))))))) (sub_keep sub_nil)⟩
          refine AL_cons (LR_assign (at_tmp 15 _) rfl) (sS (sT1 rfl) sB0 sF0) ?_
          refine AL_nil ?_
          exact thenN (cutLeaf (v := (a1 == (3#8)) && a2) hr (weak0 ((sT rfl (sT rfl (sT rfl (sT rfl sT0))))) (sub_keep sub_nil)))
        · rintro x3 hr
          show AW Hfaa.prog _ _ _ ⟨[(1, .inl (is (U8 a1))), (2, .inl (is (Bl a2))), (3, .inr (.inl (3, 0))), (8, .inl (is (Bl x3)))], [(3, pb 23 [is (U8 a0_0), is (U8 a0_1)])]⟩
          have hr : r = F252_3 a0_0 a0_1 a1 a2 x3 := hr
          refine AW_condT (b := x3) rfl (fun h => ?_) (fun h => ?_)
          · have hr := hr.trans (cond_t h)
            clear h
            refine AW_skip ?_
            exact thenN (cutLeaf (v := x3) hr (weak0 ((sT rfl (sT rfl (sT rfl sT0)))) (sub_keep sub_nil)))
          · have hr := hr.trans (cond_f h)
            clear h
            refine AW_region ?_
            refine AL_cons (LR_move (at_tmp 1 _) rfl) (sS (sT1 rfl) sB0 sF0) ?_
            refine AL_cons (LR_bin (at_tmp 16 _) (at_c (v' := U8 (4#8)) rfl) (eql_U8 a1 (4#8)) rfl) (sS (sA (sT1 rfl) sT0) sB0 sF0) ?_
            refine AL_cons (LR_move (at_tmp 17 _) rfl) (sS (sT1 rfl) sB0 sF0) ?_
            refine AL_cutAt 3 ⟨[(1, .inl (is (U8 a1))), (2, .inl (is (Bl a2))), (3, .inr (.inl (3, 0))), (8, .inl (is (Bl x3))), (16, .inl (is (U8 a1))), (17, .inl (is (Bl (a1 == (4#8))))), (18, .inl (is (Bl (a1 == (4#8))))), (21, .inl (is (Bl ((a1 == (4#8)) && (!a2)))))], [(3, pb 23 [is (U8 a0_0), is (U8 a0_1)])]⟩ ?_ ?_
            · cases hb : a1 == (4#8)
              · skip
                refine AL_cons (LR_off (b := false) rfl rfl rfl rfl) (sS (sT1 rfl) sB0 sF0) ?_
                refine AL_cons (LR_off (b := false) rfl rfl rfl rfl) (sS (sT1 rfl) sB0 sF0) ?_
                refine AL_cons (LR_pick (b := false) (at_tmp 18 _) (at_tmp 20 _) (at_c (v' := Bl false) rfl) rfl) (sS (sA (sT1 rfl) (sA (sT1 rfl) sT0)) sB0 sF0) ?_
                exact AL_nil ⟨rfl, weak0 ((sT rfl (sT rfl (sT rfl (sT rfl (sT rfl (sT rfl (sT rfl (sT rfl sT0))))))))) (sub_keep sub_nil)⟩
              · skip
                refine AL_cons (LR_on rfl rfl rfl (LR_move (at_tmp 2 _) rfl)) (sS (sT rfl (sT1 rfl)) sB0 sF0) ?_
                refine AL_cons (LR_on rfl rfl rfl (LR_un (at_tmp 19 _) (not_Bl a2) rfl)) (sS (sT rfl (sT1 rfl)) sB0 sF0) ?_
                refine AL_cons (LR_pick (b := true) (at_tmp 18 _) (at_tmp 20 _) (at_c (v' := Bl false) rfl) rfl) (sS (sA (sT1 rfl) (sA (sT1 rfl) sT0)) sB0 sF0) ?_
                exact AL_nil ⟨rfl, weak0 ((sT rfl (sT rfl (sT rfl (sT rfl (sT rfl (sT rfl (sT rfl (sT rfl sT0))))))))) (sub_keep sub_nil)⟩
            refine AL_cons (LR_assign (at_tmp 21 _) rfl) (sS (sT1 rfl) sB0 sF0) ?_
            refine AL_nil ?_
            exact thenN (cutLeaf (v := (a1 == (4#8)) && (!a2)) hr (weak0 ((sT rfl (sT rfl (sT rfl sT0)))) (sub_keep sub_nil)))
  · rintro x1 hr
    show AW Hfaa.prog _ _ _ ⟨[(2, .inl (is (Bl a2))), (3, .inr (.inl (3, 0))), (8, .inl (is (Bl x1)))], [(3, pb 23 [is (U8 a0_0), is (U8 a0_1)])]⟩
    have hr : r = F252_1 a0_0 a0_1 a2 x1 := hr
    refine AW_condT (b := x1) rfl (fun h => ?_) (fun h => ?_)
    · have hr := hr.trans (cond_t h)
      clear h
      refine AW_seq1 ?_
      refine AW_region ?_
      refine AL_cons (LR_loads (at_tmp 3 _) ag23 sz23 rfl rfl rfl) (sS (sT1 rfl) (sB1 rfl) sF0) ?_
      refine AL_cons (LR_move (at_tmp 2 _) rfl) (sS (sT1 rfl) sB0 sF0) ?_
      obtain ⟨y4, hy4, hr⟩ := lt_some hr
      refine AL_cons (LR_call Hfaa.func68 rfl rfl (C68 a0_0 a0_1 a2 y4 hy4) (all_cons (at_tmp 22 _) (all_cons (at_tmp 23 _) all_nil)) rfl) (sS (sA (sT1 rfl) (sA (sT1 rfl) sT0)) sB0 sF0) ?_
      refine AL_cons (LR_assign (at_tmp 24 _) rfl) (sS (sT1 rfl) sB0 sF0) ?_
      refine AL_cons (LR_assign (at_c (v' := U8 (20#8)) rfl) rfl) (sS sT0 sB0 sF0) ?_
      refine AL_nil ?_
      refine thenN ?_
      refine AW_ret ?_
      refine blR ?_
      refine thenR ?_
      subst hr
      exact res2 rfl (rvT rfl) (rvT rfl)
    · have hr := hr.trans (cond_f h)
      clear h
      refine AW_skip ?_
      refine blN ?_
      refine thenN ?_
      refine AW_seq1 ?_
      refine AW_region ?_
      refine AL_cons (LR_loads (at_tmp 3 _) ag23 sz23 rfl rfl rfl) (sS (sT1 rfl) (sB1 rfl) sF0) ?_
      refine AL_cons (LR_move (at_tmp 2 _) rfl) (sS (sT1 rfl) sB0 sF0) ?_
      obtain ⟨y6, hy6, hr⟩ := lt_some hr
      refine AL_cons (LR_call Hfaa.func67 rfl rfl (C67 a0_0 a0_1 a2 y6 hy6) (all_cons (at_tmp 25 _) (all_cons (at_tmp 26 _) all_nil)) rfl) (sS (sA (sT1 rfl) (sA (sT1 rfl) sT0)) sB0 sF0) ?_
      refine AL_cons (LR_assign (at_tmp 27 _) rfl) (sS (sT1 rfl) sB0 sF0) ?_
      refine AL_cons (LR_assign (at_c (v' := U8 (20#8)) rfl) rfl) (sS sT0 sB0 sF0) ?_
      refine AL_nil ?_
      refine thenN ?_
      refine AW_ret ?_
      subst hr
      exact res2 rfl (rvT rfl) (rvT rfl)
/-- exact.floor -/
def F209_1 (N : Nat) (a1 : Nat) (x1 : Nat) (x2 : Nat) : Option (Nat × Int × Bool) := bif lim x2 then bif lim (x2 * 2 ^ (1#16).toNat) && lim a1 then some ((x1, ncmp (x2 * 2 ^ (1#16).toNat) a1, x2 != 0)) else none else none
def F209 (N : Nat) (a0 : Nat) (a1 : Nat) : Option (Nat × Int × Bool) := bif lim a0 && lim a1 then F209_1 N a1 (a0 / a1) (nmod a0 a1) else none
theorem C209 (N : Nat) (a0 : Nat) (a1 : Nat) (r : Nat × Int × Bool) (hr : some r = F209 N a0 a1) : Aw.Fn Hfaa.prog 209 [big a0, big a1] (tup [big r.1, agg [is (I8 r.2.1), is (Bl r.2.2)]]) := by
  refine fn_intro Hfaa.func209 rfl rfl rfl ?_
  intro bn0 w0 H0
  refine AW_seq1 ?_
  refine AW_region ?_
  refine AL_cons (LR_assign at_nil rfl) (sS sT0 sB0 sF0) ?_
  refine AL_cons (zl181 rfl) (sS sT0 sB0 (sF1 rfl)) ?_
  refine AL_nil ?_
  refine thenN ?_
  refine AW_cut (σ := Nat × Nat) (fun v => ⟨[(1, .inl (big a1)), (5, .inr (.inl (5, 0))), (6, .inl (big v.1)), (7, .inl (big v.2))], [(5, pb 181 [is (I8 0), is (Bl false)])]⟩) (fun v => some r = F209_1 N a1 v.1 v.2) ?_ ?_
  · skip
    refine AW_region ?_
    refine AL_cons (LR_move (at_tmp 0 _) rfl) (sS (sT1 rfl) sB0 sF0) ?_
    refine AL_cons (LR_move (at_tmp 1 _) rfl) (sS (sT1 rfl) sB0 sF0) ?_
    obtain ⟨hg6, hr⟩ := guard_some hr
    refine AL_cons (LR_call Hfaa.func35 rfl rfl (B35 a0 a1 hg6) (all_cons (at_tmp 10 _) (all_cons (at_tmp 11 _) all_nil)) rfl) (sS (sA (sT1 rfl) (sA (sT1 rfl) sT0)) sB0 sF0) ?_
    refine AL_cons (LR_move (at_tmp 12 _) rfl) (sS (sT1 rfl) sB0 sF0) ?_
    refine AL_cons (LR_extract (at_tmp 9 _) rfl rfl) (sS (sT1 rfl) sB0 sF0) ?_
    refine AL_cons (LR_extract (at_tmp 9 _) rfl rfl) (sS (sT1 rfl) sB0 sF0) ?_
    refine AL_cons (LR_extract (at_tmp 9 _) rfl rfl) (sS (sT1 rfl) sB0 sF0) ?_
    refine AL_cons (LR_assign (at_tmp 13 _) rfl) (sS (sT1 rfl) sB0 sF0) ?_
    refine AL_cons (LR_assign (at_tmp 14 _) rfl) (sS (sT1 rfl) sB0 sF0) ?_
    refine AL_cons (LR_assign (at_tmp 15 _) rfl) (sS (sT1 rfl) sB0 sF0) ?_
    refine AL_nil ?_
    exact thenN (cutLeaf (v := (a0 / a1, nmod a0 a1)) hr (weak0 ((sT rfl (sT rfl (sT rfl (sT rfl sT0))))) (sub_keep sub_nil)))
  · rintro ⟨x1, x2⟩ hr
    show AW Hfaa.prog _ _ _ ⟨[(1, .inl (big a1)), (5, .inr (.inl (5, 0))), (6, .inl (big x1)), (7, .inl (big x2))], [(5, pb 181 [is (I8 0), is (Bl false)])]⟩
    have hr : some r = F209_1 N a1 x1 x2 := hr
    refine AW_seq1 ?_
    refine AW_region ?_
    refine AL_cons (LR_move (at_tmp 6 _) rfl) (sS (sT1 rfl) sB0 sF0) ?_
    refine AL_cons (LR_move (at_tmp 7 _) rfl) (sS (sT1 rfl) sB0 sF0) ?_
    obtain ⟨hg4, hr⟩ := guard_some hr
    refine AL_cons (LR_call Hfaa.func36 rfl rfl (B36 x2 (1#16) hg4) (all_cons (at_tmp 17 _) (all_cons (at_c (v' := U16 (1#16)) rfl) all_nil)) rfl) (sS (sA (sT1 rfl) (sA sT0 sT0)) sB0 sF0) ?_
    refine AL_cons (LR_move (at_tmp 1 _) rfl) (sS (sT1 rfl) sB0 sF0) ?_
    obtain ⟨hg5, hr⟩ := guard_some hr
    refine AL_cons (LR_call Hfaa.func60 rfl rfl (B60 (x2 * 2 ^ (1#16).toNat) a1 hg5) (all_cons (at_tmp 18 _) (all_cons (at_tmp 19 _) all_nil)) rfl) (sS (sA (sT1 rfl) (sA (sT1 rfl) sT0)) sB0 sF0) ?_
    refine AL_cons (LR_move (at_tmp 7 _) rfl) (sS (sT1 rfl) sB0 sF0) ?_
    refine AL_cons (LR_binA (at_tmp 21 _) at_nil (neqNil Hfaa.underlying49 x2) rfl) (sS (sA (sT1 rfl) sT0) sB0 sF0) ?_
    refine AL_cons (bl181 (parts_cons (i := 0) (off := 0) (at_tmp 20 _) (cells_one (one_is rfl)) rfl rfl (parts_cons (i := 1) (off := 1) (at_tmp 22 _) (cells_one (one_is rfl)) rfl rfl parts_nil)) rfl rfl) (sS (sA (sT1 rfl) (sA (sT1 rfl) sT0)) sB0 sF0) ?_
    refine AL_cons (LR_assign (at_tmp 16 _) rfl) (sS (sT1 rfl) sB0 sF0) ?_
    refine AL_cons (LR_store (at_tmp 5 _) (at_tmp 23 _) (cells_agg _) (onC (one_is rfl) (onC (one_is rfl) onN)) sz181 rfl rfl) (sS (sA (sT1 rfl) (sT1 rfl)) (sB1 rfl) sF0) ?_
    refine AL_nil ?_
    refine thenN ?_
    refine AW_ret ?_
    obtain rfl := Option.some.inj hr
    exact res2 rfl (rvT rfl) (rvC rfl rfl ag181 sz181 rfl)
/-- exact.raises -/
def F358_4 (a1 : Bool) (a2 : Bool) (a3_0 : Int) (a3_1 : Bool) (x4 : Bool) : Bool := bif x4 then a3_1 && a1 else (decide (a3_0 > 0)) || ((a3_0 == 0) && a2)
def F358_3 (a0 : BitVec 8) (a1 : Bool) (a2 : Bool) (a3_0 : Int) (a3_1 : Bool) (x3 : Bool) : Bool := bif x3 then a3_1 && (!a1) else F358_4 a1 a2 a3_0 a3_1 (a0 == (4#8))
def F358_2 (a0 : BitVec 8) (a1 : Bool) (a2 : Bool) (a3_0 : Int) (a3_1 : Bool) (x2 : Bool) : Bool := bif x2 then false else F358_3 a0 a1 a2 a3_0 a3_1 (a0 == (3#8))
def F358_1 (a0 : BitVec 8) (a1 : Bool) (a2 : Bool) (a3_0 : Int) (a3_1 : Bool) (x1 : Bool) : Bool := bif x1 then decide (a3_0 ≥ 0) else F358_2 a0 a1 a2 a3_0 a3_1 (a0 == (2#8))
def F358 (a0 : BitVec 8) (a1 : Bool) (a2 : Bool) (a3_0 : Int) (a3_1 : Bool) : Bool := F358_1 a0 a1 a2 a3_0 a3_1 (a0 == (1#8))
theorem C358 (a0 : BitVec 8) (a1 : Bool) (a2 : Bool) (a3_0 : Int) (a3_1 : Bool) (r : Bool) (hr : r = F358 a0 a1 a2 a3_0 a3_1) : Aw.Fn Hfaa.prog 358 [is (U8 a0), is (Bl a1), is (Bl a2), agg [is (I8 a3_0), is (Bl a3_1)]] (is (Bl r)) := by
  refine fn_intro Hfaa.func358 rfl rfl rfl ?_
  intro bn0 w0 H0
  refine AW_seq1 ?_
  refine AW_region ?_
  refine AL_cons (LR_box (at_tmp 3 _) (cells_agg _) rfl) (sS (sT1 rfl) sB0 (sF1 rfl)) ?_
  refine AL_cons (LR_assign (at_c (v' := Bl false) rfl) rfl) (sS sT0 sB0 sF0) ?_
  refine AL_nil ?_
  refine thenN ?_
  refine AW_seq1 ?_
  refine AW_seq1 ?_
  refine AW_region ?_
  refine AL_cons (LR_move (at_tmp 0 _) rfl) (sS (sT1 rfl) sB0 sF0) ?_
  refine AL_nil ?_
  refine thenN ?_
  refine AW_block ?_
  refine AW_cut (σ := Bool) (fun v => ⟨[(1, .inl (is (Bl a1))), (2, .inl (is (Bl a2))), (7, .inr (.inl (7, 0))), (9, .inl (is (U8 a0))), (10, .inl (is (Bl v)))], [(7, pb 181 [is (I8 a3_0), is (Bl a3_1)])]⟩) (fun v => r = F358_1 a0 a1 a2 a3_0 a3_1 v) ?_ ?_
  · skip
    refine AW_region ?_
    refine AL_cons (LR_bin (at_tmp 9 _) (at_c (v' := U8 (1#8)) rfl) (eql_U8 a0 (1#8)) rfl) (sS (sA (sT1 rfl) sT0) sB0 sF0) ?_
    refine AL_cons (LR_assign (at_tmp 11 _) rfl) (sS (sT1 rfl) sB0 sF0) ?_
    refine AL_nil ?_
    exact thenN (cutLeaf (v := a0 == (1#8)) hr (weak0 ((sT rfl (sT rfl (sT rfl (sT rfl (sT rfl sT0)))))) (sub_keep sub_nil)))
  · rintro x1 hr
    show AW Hfaa.prog _ _ _ ⟨[(1, .inl (is (Bl a1))), (2, .inl (is (Bl a2))), (7, .inr (.inl (7, 0))), (9, .inl (is (U8 a0))), (10, .inl (is (Bl x1)))], [(7, pb 181 [is (I8 a3_0), is (Bl a3_1)])]⟩
    have hr : r = F358_1 a0 a1 a2 a3_0 a3_1 x1 := hr
    refine AW_condT (b := x1) rfl (fun h => ?_) (fun h => ?_)
    · have hr := hr.trans (cond_t h)
      clear h
      refine AW_seq1 ?_
      refine AW_region ?_
      refine AL_cons (LR_fieldAddr (off := 0) (o := 0) (at_tmp 7 _) (fun b w => fa181_0 b 0 w) rfl) (sS (sT1 rfl) sB0 sF0) ?_
      refine AL_cons (LR_load (at_tmp 12 _) na101 rfl rfl) (sS (sT1 rfl) (sB1 rfl) sF0) ?_
      refine AL_cons (LR_bin (at_tmp 13 _) (at_c (v' := I8 0) rfl) (geq_I8 a3_0 0) rfl) (sS (sA (sT1 rfl) sT0) sB0 sF0) ?_
      refine AL_cons (LR_assign (at_tmp 14 _) rfl) (sS (sT1 rfl) sB0 sF0) ?_
      refine AL_nil ?_
      refine thenN ?_
      refine AW_ret ?_
      refine blR ?_
      refine thenR ?_
      subst hr
      exact res1 rfl (rvT rfl)
    · have hr := hr.trans (cond_f h)
      clear h
      refine AW_cut (σ := Bool) (fun v => ⟨[(1, .inl (is (Bl a1))), (2, .inl (is (Bl a2))), (7, .inr (.inl (7, 0))), (9, .inl (is (U8 a0))), (15, .inl (is (Bl v)))], [(7, pb 181 [is (I8 a3_0), is (Bl a3_1)])]⟩) (fun v => r = F358_2 a0 a1 a2 a3_0 a3_1 v) ?_ ?_
      · skip
        refine AW_region ?_
        refine AL_cons (LR_bin (at_tmp 9 _) (at_c (v' := U8 (2#8)) rfl) (eql_U8 a0 (2#8)) rfl) (sS (sA (sT1 rfl) sT0) sB0 sF0) ?_
        refine AL_cons (LR_assign (at_tmp 16 _) rfl) (sS (sT1 rfl) sB0 sF0) ?_
        refine AL_nil ?_
        exact thenN (cutLeaf (v := a0 == (2#8)) hr (weak0 ((sT rfl (sT rfl (sT rfl (sT rfl (sT rfl sT0)))))) (sub_keep sub_nil)))
      · rintro x2 hr
        show AW Hfaa.prog _ _ _ ⟨[(1, .inl (is (Bl a1))), (2, .inl (is (Bl a2))), (7, .inr (.inl (7, 0))), (9, .inl (is (U8 a0))), (15, .inl (is (Bl x2)))], [(7, pb 181 [is (I8 a3_0), is (Bl a3_1)])]⟩
        have hr : r = F358_2 a0 a1 a2 a3_0 a3_1 x2 := hr
        refine AW_condT (b := x2) rfl (fun h => ?_) (fun h => ?_)
        · have hr := hr.trans (cond_t h)
          clear h
          refine AW_seq1 ?_
          refine AW_region ?_
          refine AL_cons (LR_assign (at_c (v' := Bl false) rfl) rfl) (sS sT0 sB0 sF0) ?_
          refine AL_nil ?_
          refine thenN ?_
          refine AW_ret ?_
          refine blR ?_
          refine thenR ?_
          subst hr
          exact res1 rfl (rvT rfl)
        · have hr := hr.trans (cond_f h)
          clear h
          refine AW_cut (σ := Bool) (fun v => ⟨[(1, .inl (is (Bl a1))), (2, .inl (is (Bl a2))), (7, .inr (.inl (7, 0))), (9, .inl (is (U8 a0))), (17, .inl (is (Bl v)))], [(7, pb 181 [is (I8 a3_0), is (Bl a3_1)])]⟩) (fun v => r = F358_3 a0 a1 a2 a3_0 a3_1 v) ?_ ?_
          · skip
            refine AW_region ?_
            refine AL_cons (LR_bin (at_tmp 9 _) (at_c (v' := U8 (3#8)) rfl) (eql_U8 a0 (3#8)) rfl) (sS (sA (sT1 rfl) sT0) sB0 sF0) ?_
            refine AL_cons (LR_assign (at_tmp 18 _) rfl) (sS (sT1 rfl) sB0 sF0) ?_
            refine AL_nil ?_
            exact thenN (cutLeaf (v := a0 == (3#8)) hr (weak0 ((sT rfl (sT rfl (sT rfl (sT rfl (sT rfl sT0)))))) (sub_keep sub_nil)))
          · rintro x3 hr
            show AW Hfaa.prog _ _ _ ⟨[(1, .inl (is (Bl a1))), (2, .inl (is (Bl a2))), (7, .inr (.inl (7, 0))), (9, .inl (is (U8 a0))), (17, .inl (is (Bl x3)))], [(7, pb 181 [is (I8 a3_0), is (Bl a3_1)])]⟩
            have hr : r = F358_3 a0 a1 a2 a3_0 a3_1 x3 := hr
            refine AW_condT (b := x3) rfl (fun h => ?_) (fun h => ?_)
            · have hr := hr.trans (cond_t h)
              clear h
              refine AW_seq1 ?_
              refine AW_region ?_
              refine AL_cons (LR_fieldAddr (off := 0) (o := 1) (at_tmp 7 _) (fun b w => fa181_1 b 0 w) rfl) (sS (sT1 rfl) sB0 sF0) ?_
              refine AL_cons (LR_load (at_tmp 19 _) na4 rfl rfl) (sS (sT1 rfl) (sB1 rfl) sF0) ?_
              refine AL_cons (LR_move (at_tmp 20 _) rfl) (sS (sT1 rfl) sB0 sF0) ?_
              refine AL_cutAt 3 ⟨[(1, .inl (is (Bl a1))), (2, .inl (is (Bl a2))), (7, .inr (.inl (7, 0))), (9, .inl (is (U8 a0))), (17, .inl (is (Bl x3))), (19, .inr (.inl (7, 1))), (20, .inl (is (Bl a3_1))), (21, .inl (is (Bl a3_1))), (24, .inl (is (Bl (a3_1 && (!a1)))))], [(7, pb 181 [is (I8 a3_0), is (Bl a3_1)])]⟩ ?_ ?_
              · cases hb : a3_1
                · skip
                  refine AL_cons (LR_off (b := false) rfl rfl rfl rfl) (sS (sT1 rfl) sB0 sF0) ?_
                  refine AL_cons (LR_off (b := false) rfl rfl rfl rfl) (sS (sT1 rfl) sB0 sF0) ?_
                  refine AL_cons (LR_pick (b := false) (at_tmp 21 _) (at_tmp 23 _) (at_c (v' := Bl false) rfl) rfl) (sS (sA (sT1 rfl) (sA (sT1 rfl) sT0)) sB0 sF0) ?_
                  exact AL_nil ⟨rfl, weak0 ((sT rfl (sT rfl (sT rfl (sT rfl (sT rfl (sT rfl (sT rfl (sT rfl (sT rfl sT0)))))))))) (sub_keep sub_nil)⟩
                · skip
                  refine AL_cons (LR_on rfl rfl rfl (LR_move (at_tmp 1 _) rfl)) (sS (sT rfl (sT1 rfl)) sB0 sF0) ?_
                  refine AL_cons (LR_on rfl rfl rfl (LR_un (at_tmp 22 _) (not_Bl a1) rfl)) (sS (sT rfl (sT1 rfl)) sB0 sF0) ?_
                  refine AL_cons (LR_pick (b := true) (at_tmp 21 _) (at_tmp 23 _) (at_c (v' := Bl false) rfl) rfl) (sS (sA (sT1 rfl) (sA (sT1 rfl) sT0)) sB0 sF0) ?_
                  exact AL_nil ⟨rfl, weak0 ((sT rfl (sT rfl (sT rfl (sT rfl (sT rfl (sT rfl (sT rfl (sT rfl (sT rfl sT0)))))))))) (sub_keep sub_nil)⟩
              refine AL_cons (LR_assign (at_tmp 24 _) rfl) (sS (sT1 rfl) sB0 sF0) ?_
              refine AL_nil ?_
              refine thenN ?_
              refine AW_ret ?_
              refine blR ?_
              refine thenR ?_
              subst hr
              exact res1 rfl (rvT rfl)
            · have hr := hr.trans (cond_f h)
              clear h
              refine AW_cut (σ := Bool) (fun v => ⟨[(1, .inl (is (Bl a1))), (2, .inl (is (Bl a2))), (7, .inr (.inl (7, 0))), (25, .inl (is (Bl v)))], [(7, pb 181 [is (I8 a3_0), is (Bl a3_1)])]⟩) (fun v => r = F358_4 a1 a2 a3_0 a3_1 v) ?_ ?_
              · skip
                refine AW_region ?_
                refine AL_cons (LR_bin (at_tmp 9 _) (at_c (v' := U8 (4#8)) rfl) (eql_U8 a0 (4#8)) rfl) (sS (sA (sT1 rfl) sT0) sB0 sF0) ?_
                refine AL_cons (LR_assign (at_tmp 26 _) rfl) (sS (sT1 rfl) sB0 sF0) ?_
                refine AL_nil ?_
                exact thenN (cutLeaf (v := a0 == (4#8)) hr (weak0 ((sT rfl (sT rfl (sT rfl (sT rfl sT0))))) (sub_keep sub_nil)))
              · rintro x4 hr
                show AW Hfaa.prog _ _ _ ⟨[(1, .inl (is (Bl a1))), (2, .inl (is (Bl a2))), (7, .inr (.inl (7, 0))), (25, .inl (is (Bl x4)))], [(7, pb 181 [is (I8 a3_0), is (Bl a3_1)])]⟩
                have hr : r = F358_4 a1 a2 a3_0 a3_1 x4 := hr
                refine AW_condT (b := x4) rfl (fun h => ?_) (fun h => ?_)
                · have hr := hr.trans (cond_t h)
                  clear h
                  refine AW_seq1 ?_
                  refine AW_region ?_
                  refine AL_cons (LR_fieldAddr (off := 0) (o := 1) (at_tmp 7 _) (fun b w => fa181_1 b 0 w) rfl) (sS (sT1 rfl) sB0 sF0) ?_
                  refine AL_cons (LR_load (at_tmp 27 _) na4 rfl rfl) (sS (sT1 rfl) (sB1 rfl) sF0) ?_
                  refine AL_cons (LR_move (at_tmp 28 _) rfl) (sS (sT1 rfl) sB0 sF0) ?_
                  refine AL_cutAt 2 ⟨[(1, .inl (is (Bl a1))), (2, .inl (is (Bl a2))), (7, .inr (.inl (7, 0))), (25, .inl (is (Bl x4))), (27, .inr (.inl (7, 1))), (28, .inl (is (Bl a3_1))), (29, .inl (is (Bl a3_1))), (31, .inl (is (Bl (a3_1 && a1))))], [(7, pb 181 [is (I8 a3_0), is (Bl a3_1)])]⟩ ?_ ?_
                  · cases hb : a3_1
                    · skip
                      refine AL_cons (LR_off (b := false) rfl rfl rfl rfl) (sS (sT1 rfl) sB0 sF0) ?_
                      refine AL_cons (LR_pick (b := false) (at_tmp 29 _) (at_tmp 30 _) (at_c (v' := Bl false) rfl) rfl) (sS (sA (sT1 rfl) (sA (sT1 rfl) sT0)) sB0 sF0) ?_
                      exact AL_nil ⟨rfl, weak0 ((sT rfl (sT rfl (sT rfl (sT rfl (sT rfl (sT rfl (sT rfl (sT rfl sT0))))))))) (sub_keep sub_nil)⟩
                    · skip
                      refine AL_cons (LR_on rfl rfl rfl (LR_move (at_tmp 1 _) rfl)) (sS (sT rfl (sT1 rfl)) sB0 sF0) ?_
                      refine AL_cons (LR_pick (b := true) (at_tmp 29 _) (at_tmp 30 _) (at_c (v' := Bl false) rfl) rfl) (sS (sA (sT1 rfl) (sA (sT1 rfl) sT0)) sB0 sF0) ?_
                      exact AL_nil ⟨rfl, weak0 ((sT rfl (sT rfl (sT rfl (sT rfl (sT rfl (sT rfl (sT rfl (sT rfl sT0))))))))) (sub_keep sub_nil)⟩
                  refine AL_cons (LR_assign (at_tmp 31 _) rfl) (sS (sT1 rfl) sB0 sF0) ?_
                  refine AL_nil ?_
                  refine thenN ?_
                  refine AW_ret ?_
                  refine blR ?_
                  refine thenR ?_
                  subst hr
                  exact res1 rfl (rvT rfl)
                · have hr := hr.trans (cond_f h)
                  clear h
                  refine AW_skip ?_
                  refine blN ?_
                  refine thenN ?_
                  refine AW_seq1 ?_
                  refine AW_region ?_
                  refine AL_cons (LR_fieldAddr (off := 0) (o := 0) (at_tmp 7 _) (fun b w => fa181_0 b 0 w) rfl) (sS (sT1 rfl) sB0 sF0) ?_
                  refine AL_cons (LR_load (at_tmp 32 _) na101 rfl rfl) (sS (sT1 rfl) (sB1 rfl) sF0) ?_
                  refine AL_cons (LR_bin (at_tmp 33 _) (at_c (v' := I8 0) rfl) (gtr_I8 a3_0 0) rfl) (sS (sA (sT1 rfl) sT0) sB0 sF0) ?_
                  refine AL_cons (LR_move (at_tmp 34 _) rfl) (sS (sT1 rfl) sB0 sF0) ?_
                  refine AL_cutAt 7 ⟨[(1, .inl (is (Bl a1))), (2, .inl (is (Bl a2))), (7, .inr (.inl (7, 0))), (25, .inl (is (Bl x4))), (32, .inr (.inl (7, 0))), (33, .inl (is (I8 a3_0))), (34, .inl (is (Bl (decide (a3_0 > 0))))), (35, .inl (is (Bl (decide (a3_0 > 0))))), (42, .inl (is (Bl ((decide (a3_0 > 0)) || ((a3_0 == 0) && a2)))))], [(7, pb 181 [is (I8 a3_0), is (Bl a3_1)])]⟩ ?_ ?_
                  · cases hb : decide (a3_0 > 0)
                    · skip
                      refine AL_cons (LR_on rfl rfl rfl (LR_fieldAddr (off := 0) (o := 0) (at_tmp 7 _) (fun b w => fa181_0 b 0 w) rfl)) (sS (sT rfl (sT1 rfl)) sB0 sF0) ?_
                      refine AL_cons (LR_on rfl rfl rfl (LR_load (at_tmp 36 _) na101 rfl rfl)) (sS (sT rfl (sT1 rfl)) (sB1 rfl) sF0) ?_
                      refine AL_cons (LR_on rfl rfl rfl (LR_bin (at_tmp 37 _) (at_c (v' := I8 0) rfl) (eql_I8 a3_0 0) rfl)) (sS (sT rfl (sA (sT1 rfl) sT0)) sB0 sF0) ?_
                      refine AL_cons (LR_on rfl rfl rfl (LR_move (at_tmp 38 _) rfl)) (sS (sT rfl (sT1 rfl)) sB0 sF0) ?_
                      refine AL_cutAt 2 ⟨[(1, .inl (is (Bl a1))), (2, .inl (is (Bl a2))), (7, .inr (.inl (7, 0))), (25, .inl (is (Bl x4))), (32, .inr (.inl (7, 0))), (33, .inl (is (I8 a3_0))), (34, .inl (is (Bl false))), (35, .inl (is (Bl false))), (36, .inr (.inl (7, 0))), (37, .inl (is (I8 a3_0))), (38, .inl (is (Bl (a3_0 == 0)))), (39, .inl (is (Bl (a3_0 == 0)))), (41, .inl (is (Bl ((a3_0 == 0) && a2))))], [(7, pb 181 [is (I8 a3_0), is (Bl a3_1)])]⟩ ?_ ?_
                      · cases hb : a3_0 == 0
                        · skip
                          refine AL_cons (LR_off (b := false) rfl rfl rfl rfl) (sS (sT1 rfl) sB0 sF0) ?_
                          refine AL_cons (LR_on rfl rfl rfl (LR_pick (b := false) (at_tmp 39 _) (at_tmp 40 _) (at_c (v' := Bl false) rfl) rfl)) (sS (sT rfl (sA (sT1 rfl) (sA (sT1 rfl) sT0))) sB0 sF0) ?_
                          exact AL_nil ⟨rfl, weak0 ((sT rfl (sT rfl (sT rfl (sT rfl (sT rfl (sT rfl (sT rfl (sT rfl (sT rfl (sT rfl (sT rfl (sT rfl (sT rfl sT0)))))))))))))) (sub_keep sub_nil)⟩
                        · skip
                          refine AL_cons (LR_on rfl rfl rfl (LR_move (at_tmp 2 _) rfl)) (sS (sT rfl (sT1 rfl)) sB0 sF0) ?_
                          refine AL_cons (LR_on rfl rfl rfl (LR_pick (b := true) (at_tmp 39 _) (at_tmp 40 _) (at_c (v' := Bl false) rfl) rfl)) (sS (sT rfl (sA (sT1 rfl) (sA (sT1 rfl) sT0))) sB0 sF0) ?_
                          exact AL_nil ⟨rfl, weak0 ((sT rfl (sT rfl (sT rfl (sT rfl (sT rfl (sT rfl (sT rfl (sT rfl (sT rfl (sT rfl (sT rfl (sT rfl (sT rfl sT0)))))))))))))) (sub_keep sub_nil)⟩
                      refine AL_cons (LR_pick (b := false) (at_tmp 35 _) (at_c (v' := Bl true) rfl) (at_tmp 41 _) rfl) (sS (sA (sT1 rfl) (sA sT0 (sT1 rfl))) sB0 sF0) ?_
                      exact AL_nil ⟨rfl, weak0 ((sT rfl (sT rfl (sT rfl (sT rfl (sT rfl (sT rfl (sT rfl (sT rfl (sT rfl sT0)))))))))) (sub_keep sub_nil)⟩
                    · skip
                      refine AL_cons (LR_off (b := true) rfl rfl rfl rfl) (sS (sT1 rfl) sB0 sF0) ?_
                      refine AL_cons (LR_off (b := true) rfl rfl rfl rfl) (sS (sT1 rfl) sB0 sF0) ?_
                      refine AL_cons (LR_off (b := true) rfl rfl rfl rfl) (sS (sT1 rfl) sB0 sF0) ?_
                      refine AL_cons (LR_off (b := true) rfl rfl rfl rfl) (sS (sT1 rfl) sB0 sF0) ?_
                      refine AL_cons (LR_offU rfl rfl rfl rfl) (sS (sT1 rfl) sB0 sF0) ?_
                      refine AL_cons (LR_off (b := true) rfl rfl rfl rfl) (sS (sT1 rfl) sB0 sF0) ?_
                      refine AL_cons (LR_pick (b := true) (at_tmp 35 _) (at_c (v' := Bl true) rfl) (at_tmp 41 _) rfl) (sS (sA (sT1 rfl) (sA sT0 (sT1 rfl))) sB0 sF0) ?_
                      exact AL_nil ⟨rfl, weak0 ((sT rfl (sT rfl (sT rfl (sT rfl (sT rfl (sT rfl (sT rfl (sT rfl (sT rfl sT0)))))))))) (sub_keep sub_nil)⟩
                  refine AL_cons (LR_assign (at_tmp 42 _) rfl) (sS (sT1 rfl) sB0 sF0) ?_
                  refine AL_nil ?_
                  refine thenN ?_
                  refine AW_ret ?_
                  subst hr
                  exact res1 rfl (rvT rfl)
/-- exact.raised -/
def F245_2 (N : Nat) (x2 : Int) (x3 : Bool) (x4 : Nat) : Option (Nat × Int × Bool) := some (x4, x2, x3)
def F245_3 (N : Nat) (x1 : Nat) (x2 : Int) (x3 : Bool) (x5 : Bool) : Option (Nat × Int × Bool) := bif x5 then bif lim x1 then F245_2 N x2 x3 (x1 + 1) else none else F245_2 N x2 x3 x1
def F245_1 (N : Nat) (a0 : BitVec 8) (a1 : Bool) (x1 : Nat) (x2 : Int) (x3 : Bool) : Option (Nat × Int × Bool) := bif lim x1 && i64ok 0 then lt (F358 a0 a1 (nbit x1 0) x2 x3) fun y5 => F245_3 N x1 x2 x3 y5 else none
def F245 (N : Nat) (a0 : BitVec 8) (a1 : Bool) (a2 : Nat) (a3 : Nat) : Option (Nat × Int × Bool) := (F209 N a2 a3).bind fun y6 => F245_1 N a0 a1 y6.1 y6.2.1 y6.2.2
theorem C245 (N : Nat) (a0 : BitVec 8) (a1 : Bool) (a2 : Nat) (a3 : Nat) (r : Nat × Int × Bool) (hr : some r = F245 N a0 a1 a2 a3) : Aw.Fn Hfaa.prog 245 [is (U8 a0), is (Bl a1), big a2, big a3] (tup [big r.1, agg [is (I8 r.2.1), is (Bl r.2.2)]]) := by
  refine fn_intro Hfaa.func245 rfl rfl rfl ?_
  intro bn0 w0 H0
  refine AW_seq1 ?_
  refine AW_region ?_
  refine AL_cons (LR_assign at_nil rfl) (sS sT0 sB0 sF0) ?_
  refine AL_cons (zl181 rfl) (sS sT0 sB0 (sF1 rfl)) ?_
  refine AL_nil ?_
  refine thenN ?_
  refine AW_cut (σ := Nat × Int × Bool) (fun v => ⟨[(0, .inl (is (U8 a0))), (1, .inl (is (Bl a1))), (9, .inr (.inl (9, 0))), (11, .inr (.inl (11, 0))), (10, .inl (big v.1))], [(9, pb 181 [is (I8 0), is (Bl false)]), (11, pb 181 [is (I8 v.2.1), is (Bl v.2.2)])]⟩) (fun v => some r = F245_1 N a0 a1 v.1 v.2.1 v.2.2) ?_ ?_
  · skip
    refine AW_region ?_
    refine AL_cons (LR_move (at_tmp 2 _) rfl) (sS (sT1 rfl) sB0 sF0) ?_
    refine AL_cons (LR_move (at_tmp 3 _) rfl) (sS (sT1 rfl) sB0 sF0) ?_
    obtain ⟨y6, hy6, hr⟩ := bind_some hr
    refine AL_cons (LR_call Hfaa.func209 rfl rfl (C209 N a2 a3 y6 hy6) (all_cons (at_tmp 13 _) (all_cons (at_tmp 14 _) all_nil)) rfl) (sS (sA (sT1 rfl) (sA (sT1 rfl) sT0)) sB0 sF0) ?_
    refine AL_cons (LR_move (at_tmp 15 _) rfl) (sS (sT1 rfl) sB0 sF0) ?_
    refine AL_cons (LR_extract (at_tmp 12 _) rfl rfl) (sS (sT1 rfl) sB0 sF0) ?_
    refine AL_cons (LR_extract (at_tmp 12 _) rfl rfl) (sS (sT1 rfl) sB0 sF0) ?_
    refine AL_cons (zl181 rfl) (sS sT0 sB0 (sF1 rfl)) ?_
    refine AL_cons (LR_assign (at_tmp 16 _) rfl) (sS (sT1 rfl) sB0 sF0) ?_
    refine AL_cons (LR_store (at_tmp 11 _) (at_tmp 17 _) (cells_agg _) (onC (one_is rfl) (onC (one_is rfl) onN)) sz181 rfl rfl) (sS (sA (sT1 rfl) (sT1 rfl)) (sB1 rfl) sF0) ?_
    refine AL_nil ?_
    exact thenN (cutLeaf (v := (y6.1, y6.2.1, y6.2.2)) hr (weak0 ((sT rfl (sT rfl (sT rfl (sT rfl (sT rfl sT0)))))) (sub_keep (sub_keep sub_nil))))
  · rintro ⟨x1, x2, x3⟩ hr
    show AW Hfaa.prog _ _ _ ⟨[(0, .inl (is (U8 a0))), (1, .inl (is (Bl a1))), (9, .inr (.inl (9, 0))), (11, .inr (.inl (11, 0))), (10, .inl (big x1))], [(9, pb 181 [is (I8 0), is (Bl false)]), (11, pb 181 [is (I8 x2), is (Bl x3)])]⟩
    have hr : some r = F245_1 N a0 a1 x1 x2 x3 := hr
    refine AW_cut (σ := Nat) (fun v => ⟨[(9, .inr (.inl (9, 0))), (11, .inr (.inl (11, 0))), (10, .inl (big v))], [(9, pb 181 [is (I8 0), is (Bl false)]), (11, pb 181 [is (I8 x2), is (Bl x3)])]⟩) (fun v => some r = F245_2 N x2 x3 v) ?_ ?_
    · skip
      refine AW_cut (σ := Bool) (fun v => ⟨[(9, .inr (.inl (9, 0))), (11, .inr (.inl (11, 0))), (10, .inl (big x1)), (23, .inl (is (Bl v)))], [(9, pb 181 [is (I8 0), is (Bl false)]), (11, pb 181 [is (I8 x2), is (Bl x3)])]⟩) (fun v => some r = F245_3 N x1 x2 x3 v) ?_ ?_
      · skip
        obtain ⟨hg6, hr⟩ := guard_some hr
        obtain ⟨y5, hy5, hr⟩ := lt_some hr
        refine AW_draw mixed
          (lrC (LR_move (at_tmp 0 _) rfl)
          (lrC (LR_move (at_tmp 1 _) rfl)
          (lrC (LR_move (at_tmp 10 _) rfl)
          (lrC (LR_call Hfaa.func278 rfl rfl (B278 x1 0 hg6) (all_cons (at_tmp 20 _) (all_cons (at_c (v' := I64 0) rfl) all_nil)) rfl)
          (lrC (LR_loads (at_tmp 11 _) ag181 sz181 rfl rfl rfl)
          (lrC (LR_call Hfaa.func358 rfl rfl (C358 a0 a1 (nbit x1 0) x2 x3 y5 hy5) (all_cons (at_tmp 18 _) (all_cons (at_tmp 19 _) (all_cons (at_tmp 21 _) (all_cons (at_tmp 22 _) all_nil)))) rfl)
          lrN))))))
          (by kernel_rfl)
          (saC (sS (sT1 rfl) sB0 sF0) (saC (sS (sT1 rfl) sB0 sF0) (saC (sS (sT1 rfl) sB0 sF0) (saC (sS (sA (sT1 rfl) (sA sT0 sT0)) sB0 sF0) (saC (sS (sT1 rfl) (sB1 rfl) sF0) (saC (sS (sA (sT1 rfl) (sA (sT1 rfl) (sA (sT1 rfl) (sA (sT1 rfl) sT0)))) sB0 sF0) saN)))))) ?_
        exact thenN (cutLeaf (v := y5) hr (weak0 ((sT rfl (sT rfl (sT rfl (sT rfl sT0))))) (sub_keep (sub_keep sub_nil))))
      · rintro x5 hr
        show AW Hfaa.prog _ _ _ ⟨[(9, .inr (.inl (9, 0))), (11, .inr (.inl (11, 0))), (10, .inl (big x1)), (23, .inl (is (Bl x5)))], [(9, pb 181 [is (I8 0), is (Bl false)]), (11, pb 181 [is (I8 x2), is (Bl x3)])]⟩
        have hr : some r = F245_3 N x1 x2 x3 x5 := hr
        refine AW_condT (b := x5) rfl (fun h => ?_) (fun h => ?_)
        · have hr := hr.trans (cond_t h)
          clear h
          refine AW_region ?_
          refine AL_cons (LR_move (at_tmp 10 _) rfl) (sS (sT1 rfl) sB0 sF0) ?_
          obtain ⟨hg5, hr⟩ := guard_some hr
          refine AL_cons (LR_call Hfaa.func359 rfl rfl (B359 x1 hg5) (all_cons (at_tmp 24 _) all_nil) rfl) (sS (sA (sT1 rfl) sT0) sB0 sF0) ?_
          refine AL_cons (LR_assign (at_tmp 25 _) rfl) (sS (sT1 rfl) sB0 sF0) ?_
          refine AL_nil ?_
          exact thenN (cutLeaf (v := x1 + 1) hr (weak0 ((sT rfl (sT rfl (sT rfl sT0)))) (sub_keep (sub_keep sub_nil))))
        · have hr := hr.trans (cond_f h)
          clear h
          refine AW_skip ?_
          exact thenN (cutLeaf (v := x1) hr (weak0 ((sT rfl (sT rfl (sT rfl sT0)))) (sub_keep (sub_keep sub_nil))))
    · rintro x4 hr
      show AW Hfaa.prog _ _ _ ⟨[(9, .inr (.inl (9, 0))), (11, .inr (.inl (11, 0))), (10, .inl (big x4))], [(9, pb 181 [is (I8 0), is (Bl false)]), (11, pb 181 [is (I8 x2), is (Bl x3)])]⟩
      have hr : some r = F245_2 N x2 x3 x4 := hr
      refine AW_seq1 ?_
      refine AW_draw mixed
        (lrC (LR_move (at_tmp 10 _) rfl)
        (lrC (LR_loads (at_tmp 11 _) ag181 sz181 rfl rfl rfl)
        (lrC (LR_assign (at_tmp 26 _) rfl)
        (lrC (LR_store (at_tmp 9 _) (at_tmp 27 _) (cells_agg _) (onC (one_is rfl) (onC (one_is rfl) onN)) sz181 rfl rfl)
        lrN))))
        (by kernel_rfl)
        (saC (sS (sT1 rfl) sB0 sF0) (saC (sS (sT1 rfl) (sB1 rfl) sF0) (saC (sS (sT1 rfl) sB0 sF0) (saC (sS (sA (sT1 rfl) (sT1 rfl)) (sB1 rfl) sF0) saN)))) ?_
      refine thenN ?_
      refine AW_ret ?_
      obtain rfl := Option.some.inj hr
      exact res2 rfl (rvT rfl) (rvC rfl rfl ag181 sz181 rfl)
end Go.Proofs.YfwaawGreat
