import Derived.Test.YfwaawGreatG1
import Derived.Test.YfwaawGreatG2
import Derived.Test.YfwaawGreatG3
import Derived.Test.YfwaawGreatG4
import Derived.Test.YfwaawGreatG13
namespace Go.Proofs.YfwaawGreat
open Go.Aw
set_option linter.unusedVariables false
set_option maxRecDepth 100000
set_option maxHeartbeats 1000000
/-- exact.FMA -/
def F294_1 (N : Nat) (x1 : BitVec 64) : Option (BitVec 64) := some x1
def F294 (N : Nat) (a0_0 : BitVec 8) (a0_1 : BitVec 8) (a1 : BitVec 8) (a2 : BitVec 64) (a3 : BitVec 64) (a4 : BitVec 64) : Option (BitVec 64) := (F180 N a0_0 a0_1 a1 a2 a3 a4).bind fun y2 => F294_1 N y2.1
theorem C294 (N : Nat) (a0_0 : BitVec 8) (a0_1 : BitVec 8) (a1 : BitVec 8) (a2 : BitVec 64) (a3 : BitVec 64) (a4 : BitVec 64) (r : BitVec 64) (hr : some r = F294 N a0_0 a0_1 a1 a2 a3 a4) : Aw.Fn Hfaa.prog 294 [agg [is (U8 a0_0), is (U8 a0_1)], is (U8 a1), is (U64 a2), is (U64 a3), is (U64 a4)] (is (U64 r)) := by
  refine fn_intro Hfaa.func294 rfl rfl rfl ?_
  intro bn0 w0 H0
  refine AW_seq1 ?_
  refine AW_region ?_
  refine AL_cons (LR_box (at_tmp 0 _) (cells_agg _) rfl) (sS (sT1 rfl) sB0 (sF1 rfl)) ?_
  refine AL_cons (LR_assign (at_c (v' := U64 (0#64)) rfl) rfl) (sS sT0 sB0 sF0) ?_
  refine AL_nil ?_
  refine thenN ?_
  refine AW_cut (σ := BitVec 64) (fun v => ⟨[(11, .inl (is (U64 v)))], []⟩) (fun v => some r = F294_1 N v) ?_ ?_
  · skip
    refine AW_region ?_
    refine AL_cons (LR_loads (at_tmp 5 _) ag23 sz23 rfl rfl rfl) (sS (sT1 rfl) (sB1 rfl) sF0) ?_
    refine AL_cons (LR_move (at_tmp 1 _) rfl) (sS (sT1 rfl) sB0 sF0) ?_
    refine AL_cons (LR_move (at_tmp 2 _) rfl) (sS (sT1 rfl) sB0 sF0) ?_
    refine AL_cons (LR_move (at_tmp 3 _) rfl) (sS (sT1 rfl) sB0 sF0) ?_
    refine AL_cons (LR_move (at_tmp 4 _) rfl) (sS (sT1 rfl) sB0 sF0) ?_
    obtain ⟨y2, hy2, hr⟩ := bind_some hr
    refine AL_cons (LR_call Hfaa.func180 rfl rfl (C180 N a0_0 a0_1 a1 a2 a3 a4 y2 hy2) (all_cons (at_tmp 14 _) (all_cons (at_tmp 15 _) (all_cons (at_tmp 16 _) (all_cons (at_tmp 17 _) (all_cons (at_tmp 18 _) all_nil))))) rfl) (sS (sA (sT1 rfl) (sA (sT1 rfl) (sA (sT1 rfl) (sA (sT1 rfl) (sA (sT1 rfl) sT0))))) sB0 sF0) ?_
    refine AL_cons (LR_move (at_tmp 19 _) rfl) (sS (sT1 rfl) sB0 sF0) ?_
    refine AL_cons (LR_extract (at_tmp 13 _) rfl rfl) (sS (sT1 rfl) sB0 sF0) ?_
    refine AL_cons (LR_extract (at_tmp 13 _) rfl rfl) (sS (sT1 rfl) sB0 sF0) ?_
    refine AL_cons (LR_assign (at_tmp 20 _) rfl) (sS (sT1 rfl) sB0 sF0) ?_
    refine AL_cons (LR_assign (at_tmp 21 _) rfl) (sS (sT1 rfl) sB0 sF0) ?_
    refine AL_nil ?_
    exact thenN (cutLeaf (v := y2.1) hr (weak0 ((sT rfl sT0)) (sub_drop sub_nil)))
  · rintro x1 hr
    show AW Hfaa.prog _ _ _ ⟨[(11, .inl (is (U64 x1)))], []⟩
    have hr : some r = F294_1 N x1 := hr
    refine AW_seq1 ?_
    refine AW_region ?_
    refine AL_cons (LR_move (at_tmp 11 _) rfl) (sS (sT1 rfl) sB0 sF0) ?_
    refine AL_cons (LR_assign (at_tmp 22 _) rfl) (sS (sT1 rfl) sB0 sF0) ?_
    refine AL_nil ?_
    refine thenN ?_
    refine AW_ret ?_
    obtain rfl := Option.some.inj hr
    exact res1 rfl (rvT rfl)
/-- exact.RemFlags -/
def F181_11 (N : Nat) (a0_0 : BitVec 8) (a0_1 : BitVec 8) (x2 : BitVec 64) (x3 : Bool) (x4 : Int) (x5 : Bool) (x6 : Nat) (x7 : Nat) (x19 : Nat) (x24 : Nat) : Option (BitVec 64 × BitVec 8) := (F136 N a0_0 a0_1 (0#8) (!x3) x24 x19).bind fun y21 => some (y21.1, y21.2)
def F181_10 (N : Nat) (a0_0 : BitVec 8) (a0_1 : BitVec 8) (x2 : BitVec 64) (x3 : Bool) (x4 : Int) (x5 : Bool) (x6 : Nat) (x7 : Nat) (x18 : Nat) (x19 : Nat) (x21 : Nat) (x23 : Bool) : Option (BitVec 64 × BitVec 8) := bif x23 then bif lim x18 && lim x21 then F181_11 N a0_0 a0_1 x2 x3 x4 x5 x6 x7 x19 (x18 - x21) else none else (F136 N a0_0 a0_1 (0#8) x3 x21 x19).bind fun y23 => some (y23.1, y23.2)
def F181_9 (N : Nat) (a0_0 : BitVec 8) (a0_1 : BitVec 8) (x2 : BitVec 64) (x3 : Bool) (x4 : Int) (x5 : Bool) (x6 : Nat) (x7 : Nat) (x18 : Nat) (x19 : Nat) (x20 : Nat) (x21 : Nat) (x22 : Int) : Option (BitVec 64 × BitVec 8) := bif decide (x22 > 0) then F181_10 N a0_0 a0_1 x2 x3 x4 x5 x6 x7 x18 x19 x21 true else bif x22 == 0 then bif lim x20 && i64ok 0 then F181_10 N a0_0 a0_1 x2 x3 x4 x5 x6 x7 x18 x19 x21 (nbit x20 0) else none else F181_10 N a0_0 a0_1 x2 x3 x4 x5 x6 x7 x18 x19 x21 false
def F181_8 (N : Nat) (a0_0 : BitVec 8) (a0_1 : BitVec 8) (x2 : BitVec 64) (x3 : Bool) (x4 : Int) (x5 : Bool) (x6 : Nat) (x7 : Nat) (x18 : Nat) (x19 : Nat) (x20 : Nat) (x21 : Nat) : Option (BitVec 64 × BitVec 8) := bif lim x21 then bif lim (x21 * 2 ^ (1#16).toNat) && lim x18 then F181_9 N a0_0 a0_1 x2 x3 x4 x5 x6 x7 x18 x19 x20 x21 (ncmp (x21 * 2 ^ (1#16).toNat) x18) else none else none
def F181_7 (N : Nat) (a0_0 : BitVec 8) (a0_1 : BitVec 8) (x2 : BitVec 64) (x3 : Bool) (x4 : Int) (x5 : Bool) (x6 : Nat) (x7 : Nat) (x17 : Nat) (x18 : Nat) (x19 : Nat) : Option (BitVec 64 × BitVec 8) := bif lim x17 && lim x18 then F181_8 N a0_0 a0_1 x2 x3 x4 x5 x6 x7 x18 x19 (x17 / x18) (nmod x17 x18) else none
def F181_6 (N : Nat) (a0_0 : BitVec 8) (a0_1 : BitVec 8) (x2 : BitVec 64) (x3 : Bool) (x4 : Int) (x5 : Bool) (x6 : Nat) (x7 : Nat) (x8 : BitVec 64) (x9 : Bool) (x10 : Int) (x11 : Bool) (x12 : Nat) (x13 : Nat) (x17 : Nat) (x18 : Nat) : Option (BitVec 64 × BitVec 8) := bif lim x7 && lim x13 then F181_7 N a0_0 a0_1 x2 x3 x4 x5 x6 x7 x17 x18 (x7 * x13) else none
def F181_5 (N : Nat) (a0_0 : BitVec 8) (a0_1 : BitVec 8) (x2 : BitVec 64) (x3 : Bool) (x4 : Int) (x5 : Bool) (x6 : Nat) (x7 : Nat) (x8 : BitVec 64) (x9 : Bool) (x10 : Int) (x11 : Bool) (x12 : Nat) (x13 : Nat) (x16 : Bool) : Option (BitVec 64 × BitVec 8) := bif x16 then some (x2, 0#8) else bif lim x6 && lim x13 then bif lim x12 && lim x7 then F181_6 N a0_0 a0_1 x2 x3 x4 x5 x6 x7 x8 x9 x10 x11 x12 x13 (x6 * x13) (x12 * x7) else none else none
def F181_4 (N : Nat) (a0_0 : BitVec 8) (a0_1 : BitVec 8) (x2 : BitVec 64) (x3 : Bool) (x4 : Int) (x5 : Bool) (x6 : Nat) (x7 : Nat) (x8 : BitVec 64) (x9 : Bool) (x10 : Int) (x11 : Bool) (x12 : Nat) (x13 : Nat) (x15 : Bool) : Option (BitVec 64 × BitVec 8) := bif x15 then lt (F66 a0_0 a0_1) fun y17 => some (y17, 1#8) else F181_5 N a0_0 a0_1 x2 x3 x4 x5 x6 x7 x8 x9 x10 x11 x12 x13 ((x10 == 3) || (x4 == 0))
def F181_3 (N : Nat) (a0_0 : BitVec 8) (a0_1 : BitVec 8) (a1 : BitVec 64) (a2 : BitVec 64) (x2 : BitVec 64) (x3 : Bool) (x4 : Int) (x5 : Bool) (x6 : Nat) (x7 : Nat) (x8 : BitVec 64) (x9 : Bool) (x10 : Int) (x11 : Bool) (x12 : Nat) (x13 : Nat) (x14 : Bool) : Option (BitVec 64 × BitVec 8) := bif x14 then lt (F66 a0_0 a0_1) fun y14 => lt (F216 a0_0 a0_1 a1 a2) fun y15 => some (y14, y15) else F181_4 N a0_0 a0_1 x2 x3 x4 x5 x6 x7 x8 x9 x10 x11 x12 x13 ((x4 == 3) || (x10 == 0))
def F181_2 (N : Nat) (a0_0 : BitVec 8) (a0_1 : BitVec 8) (a1 : BitVec 64) (a2 : BitVec 64) (x2 : BitVec 64) (x3 : Bool) (x4 : Int) (x5 : Bool) (x6 : Nat) (x7 : Nat) (x8 : BitVec 64) (x9 : Bool) (x10 : Int) (x11 : Bool) (x12 : Nat) (x13 : Nat) : Option (BitVec 64 × BitVec 8) := F181_3 N a0_0 a0_1 a1 a2 x2 x3 x4 x5 x6 x7 x8 x9 x10 x11 x12 x13 ((x4 == 4) || (x10 == 4))
def F181_1 (N : Nat) (a0_0 : BitVec 8) (a0_1 : BitVec 8) (a1 : BitVec 64) (a2 : BitVec 64) (x1 : Bool) : Option (BitVec 64 × BitVec 8) := bif x1 then some (0#64, 0#8) else (F144 N a0_0 a0_1 a1).bind fun y24 => (F144 N a0_0 a0_1 a2).bind fun y25 => F181_2 N a0_0 a0_1 a1 a2 y24.1 y24.2.1 y24.2.2.1 y24.2.2.2.1 y24.2.2.2.2.1 y24.2.2.2.2.2 y25.1 y25.2.1 y25.2.2.1 y25.2.2.2.1 y25.2.2.2.2.1 y25.2.2.2.2.2
def F181 (N : Nat) (a0_0 : BitVec 8) (a0_1 : BitVec 8) (a1 : BitVec 64) (a2 : BitVec 64) : Option (BitVec 64 × BitVec 8) := lt (F40 a0_0 a0_1) fun y26 => F181_1 N a0_0 a0_1 a1 a2 (!y26)
theorem C181 (N : Nat) (a0_0 : BitVec 8) (a0_1 : BitVec 8) (a1 : BitVec 64) (a2 : BitVec 64) (r : BitVec 64 × BitVec 8) (hr : some r = F181 N a0_0 a0_1 a1 a2) : Aw.Fn Hfaa.prog 181 [agg [is (U8 a0_0), is (U8 a0_1)], is (U64 a1), is (U64 a2)] (tup [is (U64 r.1), is (U8 r.2)]) := by
  refine fn_intro Hfaa.func181 rfl rfl rfl ?_
  intro bn0 w0 H0
  refine AW_seq1 ?_
  refine AW_region ?_
  refine AL_cons (LR_box (at_tmp 0 _) (cells_agg _) rfl) (sS (sT1 rfl) sB0 (sF1 rfl)) ?_
  refine AL_cons (LR_assign (at_c (v' := U64 (0#64)) rfl) rfl) (sS sT0 sB0 sF0) ?_
  refine AL_cons (LR_assign (at_c (v' := U8 (0#8)) rfl) rfl) (sS sT0 sB0 sF0) ?_
  refine AL_nil ?_
  refine thenN ?_
  refine AW_seq1 ?_
  refine AW_cut (σ := Bool) (fun v => ⟨[(1, .inl (is (U64 a1))), (2, .inl (is (U64 a2))), (3, .inr (.inl (3, 0))), (19, .inl (is (Bl v)))], [(3, pb 23 [is (U8 a0_0), is (U8 a0_1)])]⟩) (fun v => some r = F181_1 N a0_0 a0_1 a1 a2 v) ?_ ?_
  · skip
    refine AW_region ?_
    refine AL_cons (LR_loads (at_tmp 3 _) ag23 sz23 rfl rfl rfl) (sS (sT1 rfl) (sB1 rfl) sF0) ?_
    obtain ⟨y26, hy26, hr⟩ := lt_some hr
    refine AL_cons (LR_call Hfaa.func40 rfl rfl (C40 a0_0 a0_1 y26 hy26) (all_cons (at_tmp 17 _) all_nil) rfl) (sS (sA (sT1 rfl) sT0) sB0 sF0) ?_
    refine AL_cons (LR_un (at_tmp 18 _) (not_Bl y26) rfl) (sS (sT1 rfl) sB0 sF0) ?_
    refine AL_nil ?_
    exact thenN (cutLeaf (v := !y26) hr (weak0 ((sT rfl (sT rfl (sT rfl (sT rfl sT0))))) (sub_keep sub_nil)))
  · rintro x1 hr
    show AW Hfaa.prog _ _ _ ⟨[(1, .inl (is (U64 a1))), (2, .inl (is (U64 a2))), (3, .inr (.inl (3, 0))), (19, .inl (is (Bl x1)))], [(3, pb 23 [is (U8 a0_0), is (U8 a0_1)])]⟩
    have hr : some r = F181_1 N a0_0 a0_1 a1 a2 x1 := hr
    refine AW_condT (b := x1) rfl (fun h => ?_) (fun h => ?_)
    · have hr := hr.trans (cond_t h)
      clear h
      refine AW_seq1 ?_
      refine AW_region ?_
      refine AL_cons (LR_assign (at_c (v' := U64 (0#64)) rfl) rfl) (sS sT0 sB0 sF0) ?_
      refine AL_cons (LR_assign (at_c (v' := U8 (0#8)) rfl) rfl) (sS sT0 sB0 sF0) ?_
      refine AL_nil ?_
      refine thenN ?_
      refine AW_ret ?_
      refine thenR ?_
      obtain rfl := Option.some.inj hr
      exact res2 rfl (rvT rfl) (rvT rfl)
    · have hr := hr.trans (cond_f h)
      clear h
      refine AW_skip ?_
      refine thenN ?_
      refine AW_cut (σ := BitVec 64 × Bool × Int × Bool × Nat × Nat × BitVec 64 × Bool × Int × Bool × Nat × Nat) (fun v => ⟨[(1, .inl (is (U64 a1))), (2, .inl (is (U64 a2))), (3, .inr (.inl (3, 0))), (8, .inr (.inl (8, 0))), (9, .inr (.inl (9, 0)))], [(3, pb 23 [is (U8 a0_0), is (U8 a0_1)]), (8, pb 175 [is (U64 v.1), is (Bl v.2.1), is (I8 v.2.2.1), is (Bl v.2.2.2.1), big v.2.2.2.2.1, big v.2.2.2.2.2.1]), (9, pb 175 [is (U64 v.2.2.2.2.2.2.1), is (Bl v.2.2.2.2.2.2.2.1), is (I8 v.2.2.2.2.2.2.2.2.1), is (Bl v.2.2.2.2.2.2.2.2.2.1), big v.2.2.2.2.2.2.2.2.2.2.1, big v.2.2.2.2.2.2.2.2.2.2.2])]⟩) (fun v => some r = F181_2 N a0_0 a0_1 a1 a2 v.1 v.2.1 v.2.2.1 v.2.2.2.1 v.2.2.2.2.1 v.2.2.2.2.2.1 v.2.2.2.2.2.2.1 v.2.2.2.2.2.2.2.1 v.2.2.2.2.2.2.2.2.1 v.2.2.2.2.2.2.2.2.2.1 v.2.2.2.2.2.2.2.2.2.2.1 v.2.2.2.2.2.2.2.2.2.2.2) ?_ ?_
      · skip
        obtain ⟨y24, hy24, hr⟩ := bind_some hr
        obtain ⟨y25, hy25, hr⟩ := bind_some hr
        refine AW_draw mixed
          (lrC (LR_loads (at_tmp 3 _) ag23 sz23 rfl rfl rfl)
          (lrC (LR_move (at_tmp 1 _) rfl)
          (lrC (LR_call Hfaa.func144 rfl rfl (C144 N a0_0 a0_1 a1 y24 hy24) (all_cons (at_tmp 20 _) (all_cons (at_tmp 21 _) all_nil)) rfl)
          (lrC (LR_loads (at_tmp 3 _) ag23 sz23 rfl rfl rfl)
          (lrC (LR_move (at_tmp 2 _) rfl)
          (lrC (LR_call Hfaa.func144 rfl rfl (C144 N a0_0 a0_1 a2 y25 hy25) (all_cons (at_tmp 23 _) (all_cons (at_tmp 24 _) all_nil)) rfl)
          (lrC (zl175 rfl)
          (lrC (zl175 rfl)
          (lrC (LR_store (at_tmp 8 _) (at_tmp 22 _) (cells_agg _) (onC (one_is rfl) (onC (one_is rfl) (onC (one_is rfl) (onC (one_is rfl) (onC (one_big _) (onC (one_big _) onN)))))) sz175 rfl rfl)
          (lrC (LR_store (at_tmp 9 _) (at_tmp 25 _) (cells_agg _) (onC (one_is rfl) (onC (one_is rfl) (onC (one_is rfl) (onC (one_is rfl) (onC (one_big _) (onC (one_big _) onN)))))) sz175 rfl rfl)
          lrN))))))))))
          (by kernel_rfl)
          (saC (sS (sT1 rfl) (sB1 rfl) sF0) (saC (sS (sT1 rfl) sB0 sF0) (saC (sS (sA (sT1 rfl) (sA (sT1 rfl) sT0)) sB0 sF0) (saC (sS (sT1 rfl) (sB1 rfl) sF0) (saC (sS (sT1 rfl) sB0 sF0) (saC (sS (sA (sT1 rfl) (sA (sT1 rfl) sT0)) sB0 sF0) (saC (sS sT0 sB0 (sF1 rfl)) (saC (sS sT0 sB0 (sF1 rfl)) (saC (sS (sA (sT1 rfl) (sT1 rfl)) (sB1 rfl) sF0) (saC (sS (sA (sT1 rfl) (sT1 rfl)) (sB1 rfl) sF0) saN)))))))))) ?_
        exact thenN (cutLeaf (v := (y24.1, y24.2.1, y24.2.2.1, y24.2.2.2.1, y24.2.2.2.2.1, y24.2.2.2.2.2, y25.1, y25.2.1, y25.2.2.1, y25.2.2.2.1, y25.2.2.2.2.1, y25.2.2.2.2.2)) hr (weak0 ((sT rfl (sT rfl (sT rfl (sT rfl (sT rfl sT0)))))) (sub_keep (sub_keep (sub_keep sub_nil)))))
      · rintro ⟨x2, x3, x4, x5, x6, x7, x8, x9, x10, x11, x12, x13⟩ hr
        show AW Hfaa.prog _ _ _ ⟨[(1, .inl (is (U64 a1))), (2, .inl (is (U64 a2))), (3, .inr (.inl (3, 0))), (8, .inr (.inl (8, 0))), (9, .inr (.inl (9, 0)))], [(3, pb 23 [is (U8 a0_0), is (U8 a0_1)]), (8, pb 175 [is (U64 x2), is (Bl x3), is (I8 x4), is (Bl x5), big x6, big x7]), (9, pb 175 [is (U64 x8), is (Bl x9), is (I8 x10), is (Bl x11), big x12, big x13])]⟩
        have hr : some r = F181_2 N a0_0 a0_1 a1 a2 x2 x3 x4 x5 x6 x7 x8 x9 x10 x11 x12 x13 := hr
        refine AW_seq1 ?_
        refine AW_block ?_
        refine AW_cut (σ := Bool) (fun v => ⟨[(1, .inl (is (U64 a1))), (2, .inl (is (U64 a2))), (3, .inr (.inl (3, 0))), (8, .inr (.inl (8, 0))), (9, .inr (.inl (9, 0))), (26, .inl (is (Bl v)))], [(3, pb 23 [is (U8 a0_0), is (U8 a0_1)]), (8, pb 175 [is (U64 x2), is (Bl x3), is (I8 x4), is (Bl x5), big x6, big x7]), (9, pb 175 [is (U64 x8), is (Bl x9), is (I8 x10), is (Bl x11), big x12, big x13])]⟩) (fun v => some r = F181_3 N a0_0 a0_1 a1 a2 x2 x3 x4 x5 x6 x7 x8 x9 x10 x11 x12 x13 v) ?_ ?_
        · skip
          refine AW_region ?_
          refine AL_cons (LR_fieldAddr (off := 0) (o := 2) (at_tmp 8 _) (fun b w => fa175_2 b 0 w) rfl) (sS (sT1 rfl) sB0 sF0) ?_
          refine AL_cons (LR_load (at_tmp 27 _) na110 rfl rfl) (sS (sT1 rfl) (sB1 rfl) sF0) ?_
          refine AL_cons (LR_bin (at_tmp 28 _) (at_c (v' := I8 4) rfl) (eql_I8 x4 4) rfl) (sS (sA (sT1 rfl) sT0) sB0 sF0) ?_
          refine AL_cons (LR_move (at_tmp 29 _) rfl) (sS (sT1 rfl) sB0 sF0) ?_
          refine AL_cutAt 4 ⟨[(1, .inl (is (U64 a1))), (2, .inl (is (U64 a2))), (3, .inr (.inl (3, 0))), (8, .inr (.inl (8, 0))), (9, .inr (.inl (9, 0))), (27, .inr (.inl (8, 2))), (28, .inl (is (I8 x4))), (29, .inl (is (Bl (x4 == 4)))), (30, .inl (is (Bl (x4 == 4)))), (34, .inl (is (Bl ((x4 == 4) || (x10 == 4)))))], [(3, pb 23 [is (U8 a0_0), is (U8 a0_1)]), (8, pb 175 [is (U64 x2), is (Bl x3), is (I8 x4), is (Bl x5), big x6, big x7]), (9, pb 175 [is (U64 x8), is (Bl x9), is (I8 x10), is (Bl x11), big x12, big x13])]⟩ ?_ ?_
          · cases hb : x4 == 4
            · skip
              refine AL_cons (LR_on rfl rfl rfl (LR_fieldAddr (off := 0) (o := 2) (at_tmp 9 _) (fun b w => fa175_2 b 0 w) rfl)) (sS (sT rfl (sT1 rfl)) sB0 sF0) ?_
              refine AL_cons (LR_on rfl rfl rfl (LR_load (at_tmp 31 _) na110 rfl rfl)) (sS (sT rfl (sT1 rfl)) (sB1 rfl) sF0) ?_
              refine AL_cons (LR_on rfl rfl rfl (LR_bin (at_tmp 32 _) (at_c (v' := I8 4) rfl) (eql_I8 x10 4) rfl)) (sS (sT rfl (sA (sT1 rfl) sT0)) sB0 sF0) ?_
              refine AL_cons (LR_pick (b := false) (at_tmp 30 _) (at_c (v' := Bl true) rfl) (at_tmp 33 _) rfl) (sS (sA (sT1 rfl) (sA sT0 (sT1 rfl))) sB0 sF0) ?_
              exact AL_nil ⟨rfl, weak0 ((sT rfl (sT rfl (sT rfl (sT rfl (sT rfl (sT rfl (sT rfl (sT rfl (sT rfl (sT rfl sT0))))))))))) (sub_keep (sub_keep (sub_keep sub_nil)))⟩
            · skip
              refine AL_cons (LR_off (b := true) rfl rfl rfl rfl) (sS (sT1 rfl) sB0 sF0) ?_
              refine AL_cons (LR_off (b := true) rfl rfl rfl rfl) (sS (sT1 rfl) sB0 sF0) ?_
              refine AL_cons (LR_off (b := true) rfl rfl rfl rfl) (sS (sT1 rfl) sB0 sF0) ?_
              refine AL_cons (LR_pick (b := true) (at_tmp 30 _) (at_c (v' := Bl true) rfl) (at_tmp 33 _) rfl) (sS (sA (sT1 rfl) (sA sT0 (sT1 rfl))) sB0 sF0) ?_
              exact AL_nil ⟨rfl, weak0 ((sT rfl (sT rfl (sT rfl (sT rfl (sT rfl (sT rfl (sT rfl (sT rfl (sT rfl (sT rfl sT0))))))))))) (sub_keep (sub_keep (sub_keep sub_nil)))⟩
          refine AL_cons (LR_assign (at_tmp 34 _) rfl) (sS (sT1 rfl) sB0 sF0) ?_
          refine AL_nil ?_
          exact thenN (cutLeaf (v := (x4 == 4) || (x10 == 4)) hr (weak0 ((sT rfl (sT rfl (sT rfl (sT rfl (sT rfl (sT rfl sT0))))))) (sub_keep (sub_keep (sub_keep sub_nil)))))
        · rintro x14 hr
          show AW Hfaa.prog _ _ _ ⟨[(1, .inl (is (U64 a1))), (2, .inl (is (U64 a2))), (3, .inr (.inl (3, 0))), (8, .inr (.inl (8, 0))), (9, .inr (.inl (9, 0))), (26, .inl (is (Bl x14)))], [(3, pb 23 [is (U8 a0_0), is (U8 a0_1)]), (8, pb 175 [is (U64 x2), is (Bl x3), is (I8 x4), is (Bl x5), big x6, big x7]), (9, pb 175 [is (U64 x8), is (Bl x9), is (I8 x10), is (Bl x11), big x12, big x13])]⟩
          have hr : some r = F181_3 N a0_0 a0_1 a1 a2 x2 x3 x4 x5 x6 x7 x8 x9 x10 x11 x12 x13 x14 := hr
          refine AW_condT (b := x14) rfl (fun h => ?_) (fun h => ?_)
          · have hr := hr.trans (cond_t h)
            clear h
            refine AW_seq1 ?_
            obtain ⟨y14, hy14, hr⟩ := lt_some hr
            obtain ⟨y15, hy15, hr⟩ := lt_some hr
            refine AW_draw mixed
              (lrC (LR_loads (at_tmp 3 _) ag23 sz23 rfl rfl rfl)
              (lrC (LR_call Hfaa.func66 rfl rfl (C66 a0_0 a0_1 y14 hy14) (all_cons (at_tmp 35 _) all_nil) rfl)
              (lrC (LR_loads (at_tmp 3 _) ag23 sz23 rfl rfl rfl)
              (lrC (LR_move (at_tmp 1 _) rfl)
              (lrC (LR_move (at_tmp 2 _) rfl)
              (lrC (LR_call Hfaa.func216 rfl rfl (C216 a0_0 a0_1 a1 a2 y15 hy15) (all_cons (at_tmp 37 _) (all_cons (at_tmp 38 _) (all_cons (at_tmp 39 _) all_nil))) rfl)
              (lrC (LR_assign (at_tmp 36 _) rfl)
              (lrC (LR_assign (at_tmp 40 _) rfl)
              lrN))))))))
              (by kernel_rfl)
              (saC (sS (sT1 rfl) (sB1 rfl) sF0) (saC (sS (sA (sT1 rfl) sT0) sB0 sF0) (saC (sS (sT1 rfl) (sB1 rfl) sF0) (saC (sS (sT1 rfl) sB0 sF0) (saC (sS (sT1 rfl) sB0 sF0) (saC (sS (sA (sT1 rfl) (sA (sT1 rfl) (sA (sT1 rfl) sT0))) sB0 sF0) (saC (sS (sT1 rfl) sB0 sF0) (saC (sS (sT1 rfl) sB0 sF0) saN)))))))) ?_
            refine thenN ?_
            refine AW_ret ?_
            refine blR ?_
            refine thenR ?_
            obtain rfl := Option.some.inj hr
            exact res2 rfl (rvT rfl) (rvT rfl)
          · have hr := hr.trans (cond_f h)
            clear h
            refine AW_cut (σ := Bool) (fun v => ⟨[(3, .inr (.inl (3, 0))), (8, .inr (.inl (8, 0))), (9, .inr (.inl (9, 0))), (41, .inl (is (Bl v)))], [(3, pb 23 [is (U8 a0_0), is (U8 a0_1)]), (8, pb 175 [is (U64 x2), is (Bl x3), is (I8 x4), is (Bl x5), big x6, big x7]), (9, pb 175 [is (U64 x8), is (Bl x9), is (I8 x10), is (Bl x11), big x12, big x13])]⟩) (fun v => some r = F181_4 N a0_0 a0_1 x2 x3 x4 x5 x6 x7 x8 x9 x10 x11 x12 x13 v) ?_ ?_
            · skip
              refine AW_region ?_
              refine AL_cons (LR_fieldAddr (off := 0) (o := 2) (at_tmp 8 _) (fun b w => fa175_2 b 0 w) rfl) (sS (sT1 rfl) sB0 sF0) ?_
              refine AL_cons (LR_load (at_tmp 42 _) na110 rfl rfl) (sS (sT1 rfl) (sB1 rfl) sF0) ?_
              refine AL_cons (LR_bin (at_tmp 43 _) (at_c (v' := I8 3) rfl) (eql_I8 x4 3) rfl) (sS (sA (sT1 rfl) sT0) sB0 sF0) ?_
              refine AL_cons (LR_move (at_tmp 44 _) rfl) (sS (sT1 rfl) sB0 sF0) ?_
              refine AL_cutAt 4 ⟨[(1, .inl (is (U64 a1))), (2, .inl (is (U64 a2))), (3, .inr (.inl (3, 0))), (8, .inr (.inl (8, 0))), (9, .inr (.inl (9, 0))), (26, .inl (is (Bl x14))), (42, .inr (.inl (8, 2))), (43, .inl (is (I8 x4))), (44, .inl (is (Bl (x4 == 3)))), (45, .inl (is (Bl (x4 == 3)))), (49, .inl (is (Bl ((x4 == 3) || (x10 == 0)))))], [(3, pb 23 [is (U8 a0_0), is (U8 a0_1)]), (8, pb 175 [is (U64 x2), is (Bl x3), is (I8 x4), is (Bl x5), big x6, big x7]), (9, pb 175 [is (U64 x8), is (Bl x9), is (I8 x10), is (Bl x11), big x12, big x13])]⟩ ?_ ?_
              · cases hb : x4 == 3
                · skip
                  refine AL_cons (LR_on rfl rfl rfl (LR_fieldAddr (off := 0) (o := 2) (at_tmp 9 _) (fun b w => fa175_2 b 0 w) rfl)) (sS (sT rfl (sT1 rfl)) sB0 sF0) ?_
                  refine AL_cons (LR_on rfl rfl rfl (LR_load (at_tmp 46 _) na110 rfl rfl)) (sS (sT rfl (sT1 rfl)) (sB1 rfl) sF0) ?_
                  refine AL_cons (LR_on rfl rfl rfl (LR_bin (at_tmp 47 _) (at_c (v' := I8 0) rfl) (eql_I8 x10 0) rfl)) (sS (sT rfl (sA (sT1 rfl) sT0)) sB0 sF0) ?_
                  refine AL_cons (LR_pick (b := false) (at_tmp 45 _) (at_c (v' := Bl true) rfl) (at_tmp 48 _) rfl) (sS (sA (sT1 rfl) (sA sT0 (sT1 rfl))) sB0 sF0) ?_
                  exact AL_nil ⟨rfl, weak0 ((sT rfl (sT rfl (sT rfl (sT rfl (sT rfl (sT rfl (sT rfl (sT rfl (sT rfl (sT rfl (sT rfl sT0)))))))))))) (sub_keep (sub_keep (sub_keep sub_nil)))⟩
                · skip
                  refine AL_cons (LR_off (b := true) rfl rfl rfl rfl) (sS (sT1 rfl) sB0 sF0) ?_
                  refine AL_cons (LR_off (b := true) rfl rfl rfl rfl) (sS (sT1 rfl) sB0 sF0) ?_
                  refine AL_cons (LR_off (b := true) rfl rfl rfl rfl) (sS (sT1 rfl) sB0 sF0) ?_
                  refine AL_cons (LR_pick (b := true) (at_tmp 45 _) (at_c (v' := Bl true) rfl) (at_tmp 48 _) rfl) (sS (sA (sT1 rfl) (sA sT0 (sT1 rfl))) sB0 sF0) ?_
                  exact AL_nil ⟨rfl, weak0 ((sT rfl (sT rfl (sT rfl (sT rfl (sT rfl (sT rfl (sT rfl (sT rfl (sT rfl (sT rfl (sT rfl sT0)))))))))))) (sub_keep (sub_keep (sub_keep sub_nil)))⟩
              refine AL_cons (LR_assign (at_tmp 49 _) rfl) (sS (sT1 rfl) sB0 sF0) ?_
              refine AL_nil ?_
              exact thenN (cutLeaf (v := (x4 == 3) || (x10 == 0)) hr (weak0 ((sT rfl (sT rfl (sT rfl (sT rfl sT0))))) (sub_keep (sub_keep (sub_keep sub_nil)))))
            · rintro x15 hr
              show AW Hfaa.prog _ _ _ ⟨[(3, .inr (.inl (3, 0))), (8, .inr (.inl (8, 0))), (9, .inr (.inl (9, 0))), (41, .inl (is (Bl x15)))], [(3, pb 23 [is (U8 a0_0), is (U8 a0_1)]), (8, pb 175 [is (U64 x2), is (Bl x3), is (I8 x4), is (Bl x5), big x6, big x7]), (9, pb 175 [is (U64 x8), is (Bl x9), is (I8 x10), is (Bl x11), big x12, big x13])]⟩
              have hr : some r = F181_4 N a0_0 a0_1 x2 x3 x4 x5 x6 x7 x8 x9 x10 x11 x12 x13 x15 := hr
              refine AW_condT (b := x15) rfl (fun h => ?_) (fun h => ?_)
              · have hr := hr.trans (cond_t h)
                clear h
                refine AW_seq1 ?_
                refine AW_region ?_
                refine AL_cons (LR_loads (at_tmp 3 _) ag23 sz23 rfl rfl rfl) (sS (sT1 rfl) (sB1 rfl) sF0) ?_
                obtain ⟨y17, hy17, hr⟩ := lt_some hr
                refine AL_cons (LR_call Hfaa.func66 rfl rfl (C66 a0_0 a0_1 y17 hy17) (all_cons (at_tmp 50 _) all_nil) rfl) (sS (sA (sT1 rfl) sT0) sB0 sF0) ?_
                refine AL_cons (LR_assign (at_tmp 51 _) rfl) (sS (sT1 rfl) sB0 sF0) ?_
                refine AL_cons (LR_assign (at_c (v' := U8 (1#8)) rfl) rfl) (sS sT0 sB0 sF0) ?_
                refine AL_nil ?_
                refine thenN ?_
                refine AW_ret ?_
                refine blR ?_
                refine thenR ?_
                obtain rfl := Option.some.inj hr
                exact res2 rfl (rvT rfl) (rvT rfl)
              · have hr := hr.trans (cond_f h)
                clear h
                refine AW_cut (σ := Bool) (fun v => ⟨[(3, .inr (.inl (3, 0))), (8, .inr (.inl (8, 0))), (9, .inr (.inl (9, 0))), (52, .inl (is (Bl v)))], [(3, pb 23 [is (U8 a0_0), is (U8 a0_1)]), (8, pb 175 [is (U64 x2), is (Bl x3), is (I8 x4), is (Bl x5), big x6, big x7]), (9, pb 175 [is (U64 x8), is (Bl x9), is (I8 x10), is (Bl x11), big x12, big x13])]⟩) (fun v => some r = F181_5 N a0_0 a0_1 x2 x3 x4 x5 x6 x7 x8 x9 x10 x11 x12 x13 v) ?_ ?_
                · skip
                  refine AW_region ?_
                  refine AL_cons (LR_fieldAddr (off := 0) (o := 2) (at_tmp 9 _) (fun b w => fa175_2 b 0 w) rfl) (sS (sT1 rfl) sB0 sF0) ?_
                  refine AL_cons (LR_load (at_tmp 53 _) na110 rfl rfl) (sS (sT1 rfl) (sB1 rfl) sF0) ?_
                  refine AL_cons (LR_bin (at_tmp 54 _) (at_c (v' := I8 3) rfl) (eql_I8 x10 3) rfl) (sS (sA (sT1 rfl) sT0) sB0 sF0) ?_
                  refine AL_cons (LR_move (at_tmp 55 _) rfl) (sS (sT1 rfl) sB0 sF0) ?_
                  refine AL_cutAt 4 ⟨[(3, .inr (.inl (3, 0))), (8, .inr (.inl (8, 0))), (9, .inr (.inl (9, 0))), (41, .inl (is (Bl x15))), (53, .inr (.inl (9, 2))), (54, .inl (is (I8 x10))), (55, .inl (is (Bl (x10 == 3)))), (56, .inl (is (Bl (x10 == 3)))), (60, .inl (is (Bl ((x10 == 3) || (x4 == 0)))))], [(3, pb 23 [is (U8 a0_0), is (U8 a0_1)]), (8, pb 175 [is (U64 x2), is (Bl x3), is (I8 x4), is (Bl x5), big x6, big x7]), (9, pb 175 [is (U64 x8), is (Bl x9), is (I8 x10), is (Bl x11), big x12, big x13])]⟩ ?_ ?_
                  · cases hb : x10 == 3
                    · skip
                      refine AL_cons (LR_on rfl rfl rfl (LR_fieldAddr (off := 0) (o := 2) (at_tmp 8 _) (fun b w => fa175_2 b 0 w) rfl)) (sS (sT rfl (sT1 rfl)) sB0 sF0) ?_
                      refine AL_cons (LR_on rfl rfl rfl (LR_load (at_tmp 57 _) na110 rfl rfl)) (sS (sT rfl (sT1 rfl)) (sB1 rfl) sF0) ?_
                      refine AL_cons (LR_on rfl rfl rfl (LR_bin (at_tmp 58 _) (at_c (v' := I8 0) rfl) (eql_I8 x4 0) rfl)) (sS (sT rfl (sA (sT1 rfl) sT0)) sB0 sF0) ?_
                      refine AL_cons (LR_pick (b := false) (at_tmp 56 _) (at_c (v' := Bl true) rfl) (at_tmp 59 _) rfl) (sS (sA (sT1 rfl) (sA sT0 (sT1 rfl))) sB0 sF0) ?_
                      exact AL_nil ⟨rfl, weak0 ((sT rfl (sT rfl (sT rfl (sT rfl (sT rfl (sT rfl (sT rfl (sT rfl (sT rfl sT0)))))))))) (sub_keep (sub_keep (sub_keep sub_nil)))⟩
                    · skip
                      refine AL_cons (LR_off (b := true) rfl rfl rfl rfl) (sS (sT1 rfl) sB0 sF0) ?_
                      refine AL_cons (LR_off (b := true) rfl rfl rfl rfl) (sS (sT1 rfl) sB0 sF0) ?_
                      refine AL_cons (LR_off (b := true) rfl rfl rfl rfl) (sS (sT1 rfl) sB0 sF0) ?_
                      refine AL_cons (LR_pick (b := true) (at_tmp 56 _) (at_c (v' := Bl true) rfl) (at_tmp 59 _) rfl) (sS (sA (sT1 rfl) (sA sT0 (sT1 rfl))) sB0 sF0) ?_
                      exact AL_nil ⟨rfl, weak0 ((sT rfl (sT rfl (sT rfl (sT rfl (sT rfl (sT rfl (sT rfl (sT rfl (sT rfl sT0)))))))))) (sub_keep (sub_keep (sub_keep sub_nil)))⟩
                  refine AL_cons (LR_assign (at_tmp 60 _) rfl) (sS (sT1 rfl) sB0 sF0) ?_
                  refine AL_nil ?_
                  exact thenN (cutLeaf (v := (x10 == 3) || (x4 == 0)) hr (weak0 ((sT rfl (sT rfl (sT rfl (sT rfl sT0))))) (sub_keep (sub_keep (sub_keep sub_nil)))))
                · rintro x16 hr
                  show AW Hfaa.prog _ _ _ ⟨[(3, .inr (.inl (3, 0))), (8, .inr (.inl (8, 0))), (9, .inr (.inl (9, 0))), (52, .inl (is (Bl x16)))], [(3, pb 23 [is (U8 a0_0), is (U8 a0_1)]), (8, pb 175 [is (U64 x2), is (Bl x3), is (I8 x4), is (Bl x5), big x6, big x7]), (9, pb 175 [is (U64 x8), is (Bl x9), is (I8 x10), is (Bl x11), big x12, big x13])]⟩
                  have hr : some r = F181_5 N a0_0 a0_1 x2 x3 x4 x5 x6 x7 x8 x9 x10 x11 x12 x13 x16 := hr
                  refine AW_condT (b := x16) rfl (fun h => ?_) (fun h => ?_)
                  · have hr := hr.trans (cond_t h)
                    clear h
                    refine AW_seq1 ?_
                    refine AW_region ?_
                    refine AL_cons (LR_fieldAddr (off := 0) (o := 0) (at_tmp 8 _) (fun b w => fa175_0 b 0 w) rfl) (sS (sT1 rfl) sB0 sF0) ?_
                    refine AL_cons (LR_load (at_tmp 61 _) na30 rfl rfl) (sS (sT1 rfl) (sB1 rfl) sF0) ?_
                    refine AL_cons (LR_assign (at_tmp 62 _) rfl) (sS (sT1 rfl) sB0 sF0) ?_
                    refine AL_cons (LR_assign (at_c (v' := U8 (0#8)) rfl) rfl) (sS sT0 sB0 sF0) ?_
                    refine AL_nil ?_
                    refine thenN ?_
                    refine AW_ret ?_
                    refine blR ?_
                    refine thenR ?_
                    obtain rfl := Option.some.inj hr
                    exact res2 rfl (rvT rfl) (rvT rfl)
                  · have hr := hr.trans (cond_f h)
                    clear h
                    refine AW_skip ?_
                    refine blN ?_
                    refine thenN ?_
                    refine AW_cut (σ := Nat × Nat) (fun v => ⟨[(3, .inr (.inl (3, 0))), (8, .inr (.inl (8, 0))), (9, .inr (.inl (9, 0))), (10, .inl (big v.1)), (11, .inl (big v.2))], [(3, pb 23 [is (U8 a0_0), is (U8 a0_1)]), (8, pb 175 [is (U64 x2), is (Bl x3), is (I8 x4), is (Bl x5), big x6, big x7]), (9, pb 175 [is (U64 x8), is (Bl x9), is (I8 x10), is (Bl x11), big x12, big x13])]⟩) (fun v => some r = F181_6 N a0_0 a0_1 x2 x3 x4 x5 x6 x7 x8 x9 x10 x11 x12 x13 v.1 v.2) ?_ ?_
                    · skip
                      obtain ⟨hg27, hr⟩ := guard_some hr
                      obtain ⟨hg28, hr⟩ := guard_some hr
                      refine AW_draw mixed
                        (lrC (LR_fieldAddr (off := 0) (o := 3) (at_tmp 8 _) (fun b w => fa175_3 b 0 w) rfl)
                        (lrC (LR_fieldAddr (off := 3) (o := 4) (at_tmp 63 _) (fun b w => fa119_1 b 3 w) rfl)
                        (lrC (LR_load (at_tmp 64 _) na49 rfl rfl)
                        (lrC (LR_fieldAddr (off := 0) (o := 3) (at_tmp 9 _) (fun b w => fa175_3 b 0 w) rfl)
                        (lrC (LR_fieldAddr (off := 3) (o := 5) (at_tmp 66 _) (fun b w => fa119_2 b 3 w) rfl)
                        (lrC (LR_load (at_tmp 67 _) na49 rfl rfl)
                        (lrC (LR_call Hfaa.func22 rfl rfl (B22 x6 x13 hg27) (all_cons (at_tmp 65 _) (all_cons (at_tmp 68 _) all_nil)) rfl)
                        (lrC (LR_fieldAddr (off := 0) (o := 3) (at_tmp 9 _) (fun b w => fa175_3 b 0 w) rfl)
                        (lrC (LR_fieldAddr (off := 3) (o := 4) (at_tmp 70 _) (fun b w => fa119_1 b 3 w) rfl)
                        (lrC (LR_load (at_tmp 71 _) na49 rfl rfl)
                        (lrC (LR_fieldAddr (off := 0) (o := 3) (at_tmp 8 _) (fun b w => fa175_3 b 0 w) rfl)
                        (lrC (LR_fieldAddr (off := 3) (o := 5) (at_tmp 73 _) (fun b w => fa119_2 b 3 w) rfl)
                        (lrC (LR_load (at_tmp 74 _) na49 rfl rfl)
                        (lrC (LR_call Hfaa.func22 rfl rfl (B22 x12 x7 hg28) (all_cons (at_tmp 72 _) (all_cons (at_tmp 75 _) all_nil)) rfl)
                        (lrC (LR_assign (at_tmp 69 _) rfl)
                        (lrC (LR_assign (at_tmp 76 _) rfl)
                        lrN))))))))))))))))
                        (by kernel_rfl)
                        (saC (sS (sT1 rfl) sB0 sF0) (saC (sS (sT1 rfl) sB0 sF0) (saC (sS (sT1 rfl) (sB1 rfl) sF0) (saC (sS (sT1 rfl) sB0 sF0) (saC (sS (sT1 rfl) sB0 sF0) (saC (sS (sT1 rfl) (sB1 rfl) sF0) (saC (sS (sA (sT1 rfl) (sA (sT1 rfl) sT0)) sB0 sF0) (saC (sS (sT1 rfl) sB0 sF0) (saC (sS (sT1 rfl) sB0 sF0) (saC (sS (sT1 rfl) (sB1 rfl) sF0) (saC (sS (sT1 rfl) sB0 sF0) (saC (sS (sT1 rfl) sB0 sF0) (saC (sS (sT1 rfl) (sB1 rfl) sF0) (saC (sS (sA (sT1 rfl) (sA (sT1 rfl) sT0)) sB0 sF0) (saC (sS (sT1 rfl) sB0 sF0) (saC (sS (sT1 rfl) sB0 sF0) saN)))))))))))))))) ?_
                      exact thenN (cutLeaf (v := (x6 * x13, x12 * x7)) hr (weak0 ((sT rfl (sT rfl (sT rfl (sT rfl (sT rfl sT0)))))) (sub_keep (sub_keep (sub_keep sub_nil)))))
                    · rintro ⟨x17, x18⟩ hr
                      show AW Hfaa.prog _ _ _ ⟨[(3, .inr (.inl (3, 0))), (8, .inr (.inl (8, 0))), (9, .inr (.inl (9, 0))), (10, .inl (big x17)), (11, .inl (big x18))], [(3, pb 23 [is (U8 a0_0), is (U8 a0_1)]), (8, pb 175 [is (U64 x2), is (Bl x3), is (I8 x4), is (Bl x5), big x6, big x7]), (9, pb 175 [is (U64 x8), is (Bl x9), is (I8 x10), is (Bl x11), big x12, big x13])]⟩
                      have hr : some r = F181_6 N a0_0 a0_1 x2 x3 x4 x5 x6 x7 x8 x9 x10 x11 x12 x13 x17 x18 := hr
                      refine AW_cut (σ := Nat) (fun v => ⟨[(3, .inr (.inl (3, 0))), (8, .inr (.inl (8, 0))), (10, .inl (big x17)), (11, .inl (big x18)), (12, .inl (big v))], [(3, pb 23 [is (U8 a0_0), is (U8 a0_1)]), (8, pb 175 [is (U64 x2), is (Bl x3), is (I8 x4), is (Bl x5), big x6, big x7])]⟩) (fun v => some r = F181_7 N a0_0 a0_1 x2 x3 x4 x5 x6 x7 x17 x18 v) ?_ ?_
                      · skip
                        refine AW_region ?_
                        refine AL_cons (LR_fieldAddr (off := 0) (o := 3) (at_tmp 8 _) (fun b w => fa175_3 b 0 w) rfl) (sS (sT1 rfl) sB0 sF0) ?_
                        refine AL_cons (LR_fieldAddr (off := 3) (o := 5) (at_tmp 77 _) (fun b w => fa119_2 b 3 w) rfl) (sS (sT1 rfl) sB0 sF0) ?_
                        refine AL_cons (LR_load (at_tmp 78 _) na49 rfl rfl) (sS (sT1 rfl) (sB1 rfl) sF0) ?_
                        refine AL_cons (LR_fieldAddr (off := 0) (o := 3) (at_tmp 9 _) (fun b w => fa175_3 b 0 w) rfl) (sS (sT1 rfl) sB0 sF0) ?_
                        refine AL_cons (LR_fieldAddr (off := 3) (o := 5) (at_tmp 80 _) (fun b w => fa119_2 b 3 w) rfl) (sS (sT1 rfl) sB0 sF0) ?_
                        refine AL_cons (LR_load (at_tmp 81 _) na49 rfl rfl) (sS (sT1 rfl) (sB1 rfl) sF0) ?_
                        obtain ⟨hg26, hr⟩ := guard_some hr
                        refine AL_cons (LR_call Hfaa.func22 rfl rfl (B22 x7 x13 hg26) (all_cons (at_tmp 79 _) (all_cons (at_tmp 82 _) all_nil)) rfl) (sS (sA (sT1 rfl) (sA (sT1 rfl) sT0)) sB0 sF0) ?_
                        refine AL_cons (LR_assign (at_tmp 83 _) rfl) (sS (sT1 rfl) sB0 sF0) ?_
                        refine AL_nil ?_
                        exact thenN (cutLeaf (v := x7 * x13) hr (weak0 ((sT rfl (sT rfl (sT rfl (sT rfl (sT rfl sT0)))))) (sub_keep (sub_keep (sub_drop sub_nil)))))
                      · rintro x19 hr
                        show AW Hfaa.prog _ _ _ ⟨[(3, .inr (.inl (3, 0))), (8, .inr (.inl (8, 0))), (10, .inl (big x17)), (11, .inl (big x18)), (12, .inl (big x19))], [(3, pb 23 [is (U8 a0_0), is (U8 a0_1)]), (8, pb 175 [is (U64 x2), is (Bl x3), is (I8 x4), is (Bl x5), big x6, big x7])]⟩
                        have hr : some r = F181_7 N a0_0 a0_1 x2 x3 x4 x5 x6 x7 x17 x18 x19 := hr
                        refine AW_cut (σ := Nat × Nat) (fun v => ⟨[(3, .inr (.inl (3, 0))), (8, .inr (.inl (8, 0))), (11, .inl (big x18)), (12, .inl (big x19)), (13, .inl (big v.1)), (14, .inl (big v.2))], [(3, pb 23 [is (U8 a0_0), is (U8 a0_1)]), (8, pb 175 [is (U64 x2), is (Bl x3), is (I8 x4), is (Bl x5), big x6, big x7])]⟩) (fun v => some r = F181_8 N a0_0 a0_1 x2 x3 x4 x5 x6 x7 x18 x19 v.1 v.2) ?_ ?_
                        · skip
                          refine AW_region ?_
                          refine AL_cons (LR_move (at_tmp 10 _) rfl) (sS (sT1 rfl) sB0 sF0) ?_
                          refine AL_cons (LR_move (at_tmp 11 _) rfl) (sS (sT1 rfl) sB0 sF0) ?_
                          obtain ⟨hg25, hr⟩ := guard_some hr
                          refine AL_cons (LR_call Hfaa.func35 rfl rfl (B35 x17 x18 hg25) (all_cons (at_tmp 85 _) (all_cons (at_tmp 86 _) all_nil)) rfl) (sS (sA (sT1 rfl) (sA (sT1 rfl) sT0)) sB0 sF0) ?_
                          refine AL_cons (LR_move (at_tmp 87 _) rfl) (sS (sT1 rfl) sB0 sF0) ?_
                          refine AL_cons (LR_extract (at_tmp 84 _) rfl rfl) (sS (sT1 rfl) sB0 sF0) ?_
                          refine AL_cons (LR_extract (at_tmp 84 _) rfl rfl) (sS (sT1 rfl) sB0 sF0) ?_
                          refine AL_cons (LR_extract (at_tmp 84 _) rfl rfl) (sS (sT1 rfl) sB0 sF0) ?_
                          refine AL_cons (LR_assign (at_tmp 88 _) rfl) (sS (sT1 rfl) sB0 sF0) ?_
                          refine AL_cons (LR_assign (at_tmp 89 _) rfl) (sS (sT1 rfl) sB0 sF0) ?_
                          refine AL_cons (LR_assign (at_tmp 90 _) rfl) (sS (sT1 rfl) sB0 sF0) ?_
                          refine AL_nil ?_
                          exact thenN (cutLeaf (v := (x17 / x18, nmod x17 x18)) hr (weak0 ((sT rfl (sT rfl (sT rfl (sT rfl (sT rfl (sT rfl sT0))))))) (sub_keep (sub_keep sub_nil))))
                        · rintro ⟨x20, x21⟩ hr
                          show AW Hfaa.prog _ _ _ ⟨[(3, .inr (.inl (3, 0))), (8, .inr (.inl (8, 0))), (11, .inl (big x18)), (12, .inl (big x19)), (13, .inl (big x20)), (14, .inl (big x21))], [(3, pb 23 [is (U8 a0_0), is (U8 a0_1)]), (8, pb 175 [is (U64 x2), is (Bl x3), is (I8 x4), is (Bl x5), big x6, big x7])]⟩
                          have hr : some r = F181_8 N a0_0 a0_1 x2 x3 x4 x5 x6 x7 x18 x19 x20 x21 := hr
                          refine AW_cut (σ := Int) (fun v => ⟨[(3, .inr (.inl (3, 0))), (8, .inr (.inl (8, 0))), (11, .inl (big x18)), (12, .inl (big x19)), (13, .inl (big x20)), (14, .inl (big x21)), (16, .inl (is (I8 v)))], [(3, pb 23 [is (U8 a0_0), is (U8 a0_1)]), (8, pb 175 [is (U64 x2), is (Bl x3), is (I8 x4), is (Bl x5), big x6, big x7])]⟩) (fun v => some r = F181_9 N a0_0 a0_1 x2 x3 x4 x5 x6 x7 x18 x19 x20 x21 v) ?_ ?_
                          · skip
                            refine AW_region ?_
                            refine AL_cons (LR_move (at_tmp 14 _) rfl) (sS (sT1 rfl) sB0 sF0) ?_
                            obtain ⟨hg23, hr⟩ := guard_some hr
                            refine AL_cons (LR_call Hfaa.func36 rfl rfl (B36 x21 (1#16) hg23) (all_cons (at_tmp 91 _) (all_cons (at_c (v' := U16 (1#16)) rfl) all_nil)) rfl) (sS (sA (sT1 rfl) (sA sT0 sT0)) sB0 sF0) ?_
                            refine AL_cons (LR_move (at_tmp 11 _) rfl) (sS (sT1 rfl) sB0 sF0) ?_
                            obtain ⟨hg24, hr⟩ := guard_some hr
                            refine AL_cons (LR_call Hfaa.func60 rfl rfl (B60 (x21 * 2 ^ (1#16).toNat) x18 hg24) (all_cons (at_tmp 92 _) (all_cons (at_tmp 93 _) all_nil)) rfl) (sS (sA (sT1 rfl) (sA (sT1 rfl) sT0)) sB0 sF0) ?_
                            refine AL_cons (LR_assign (at_tmp 94 _) rfl) (sS (sT1 rfl) sB0 sF0) ?_
                            refine AL_nil ?_
                            exact thenN (cutLeaf (v := ncmp (x21 * 2 ^ (1#16).toNat) x18) hr (weak0 ((sT rfl (sT rfl (sT rfl (sT rfl (sT rfl (sT rfl (sT rfl sT0)))))))) (sub_keep (sub_keep sub_nil))))
                          · rintro x22 hr
                            show AW Hfaa.prog _ _ _ ⟨[(3, .inr (.inl (3, 0))), (8, .inr (.inl (8, 0))), (11, .inl (big x18)), (12, .inl (big x19)), (13, .inl (big x20)), (14, .inl (big x21)), (16, .inl (is (I8 x22)))], [(3, pb 23 [is (U8 a0_0), is (U8 a0_1)]), (8, pb 175 [is (U64 x2), is (Bl x3), is (I8 x4), is (Bl x5), big x6, big x7])]⟩
                            have hr : some r = F181_9 N a0_0 a0_1 x2 x3 x4 x5 x6 x7 x18 x19 x20 x21 x22 := hr
                            refine AW_seq1 ?_
                            refine AW_cut (σ := Bool) (fun v => ⟨[(3, .inr (.inl (3, 0))), (8, .inr (.inl (8, 0))), (11, .inl (big x18)), (12, .inl (big x19)), (14, .inl (big x21)), (104, .inl (is (Bl v)))], [(3, pb 23 [is (U8 a0_0), is (U8 a0_1)]), (8, pb 175 [is (U64 x2), is (Bl x3), is (I8 x4), is (Bl x5), big x6, big x7])]⟩) (fun v => some r = F181_10 N a0_0 a0_1 x2 x3 x4 x5 x6 x7 x18 x19 x21 v) ?_ ?_
                            · skip
                              refine AW_region ?_
                              refine AL_cons (LR_move (at_tmp 16 _) rfl) (sS (sT1 rfl) sB0 sF0) ?_
                              refine AL_cons (LR_bin (at_tmp 95 _) (at_c (v' := I8 0) rfl) (gtr_I8 x22 0) rfl) (sS (sA (sT1 rfl) sT0) sB0 sF0) ?_
                              refine AL_cons (LR_move (at_tmp 96 _) rfl) (sS (sT1 rfl) sB0 sF0) ?_
                              cases hb : decide (x22 > 0)
                              · have hr := hr.trans (cond_f hb)
                                refine AL_cons (LR_on rfl rfl rfl (LR_move (at_tmp 16 _) rfl)) (sS (sT rfl (sT1 rfl)) sB0 sF0) ?_
                                refine AL_cons (LR_on rfl rfl rfl (LR_bin (at_tmp 98 _) (at_c (v' := I8 0) rfl) (eql_I8 x22 0) rfl)) (sS (sT rfl (sA (sT1 rfl) sT0)) sB0 sF0) ?_
                                refine AL_cons (LR_on rfl rfl rfl (LR_move (at_tmp 99 _) rfl)) (sS (sT rfl (sT1 rfl)) sB0 sF0) ?_
                                cases hb : x22 == 0
                                · have hr := hr.trans (cond_f hb)
                                  refine AL_cons (LR_off (b := false) rfl rfl rfl rfl) (sS (sT1 rfl) sB0 sF0) ?_
                                  refine AL_cons (LR_off (b := false) rfl rfl rfl rfl) (sS (sT1 rfl) sB0 sF0) ?_
                                  refine AL_cons (LR_on rfl rfl rfl (LR_pick (b := false) (at_tmp 100 _) (at_tmp 102 _) (at_c (v' := Bl false) rfl) rfl)) (sS (sT rfl (sA (sT1 rfl) (sA (sT1 rfl) sT0))) sB0 sF0) ?_
                                  refine AL_cons (LR_pick (b := false) (at_tmp 97 _) (at_c (v' := Bl true) rfl) (at_tmp 103 _) rfl) (sS (sA (sT1 rfl) (sA sT0 (sT1 rfl))) sB0 sF0) ?_
                                  refine AL_nil ?_
                                  exact thenN (cutLeaf (v := false) hr (weak0 ((sT rfl (sT rfl (sT rfl (sT rfl (sT rfl (sT rfl sT0))))))) (sub_keep (sub_keep sub_nil))))
                                · have hr := hr.trans (cond_t hb)
                                  refine AL_cons (LR_on rfl rfl rfl (LR_move (at_tmp 13 _) rfl)) (sS (sT rfl (sT1 rfl)) sB0 sF0) ?_
                                  obtain ⟨hg22, hr⟩ := guard_some hr
                                  refine AL_cons (LR_on rfl rfl rfl (LR_call Hfaa.func278 rfl rfl (B278 x20 0 hg22) (all_cons (at_tmp 101 _) (all_cons (at_c (v' := I64 0) rfl) all_nil)) rfl)) (sS (sT rfl (sA (sT1 rfl) (sA sT0 sT0))) sB0 sF0) ?_
                                  refine AL_cons (LR_on rfl rfl rfl (LR_pick (b := true) (at_tmp 100 _) (at_tmp 102 _) (at_c (v' := Bl false) rfl) rfl)) (sS (sT rfl (sA (sT1 rfl) (sA (sT1 rfl) sT0))) sB0 sF0) ?_
                                  refine AL_cons (LR_pick (b := false) (at_tmp 97 _) (at_c (v' := Bl true) rfl) (at_tmp 103 _) rfl) (sS (sA (sT1 rfl) (sA sT0 (sT1 rfl))) sB0 sF0) ?_
                                  refine AL_nil ?_
                                  exact thenN (cutLeaf (v := nbit x20 0) hr (weak0 ((sT rfl (sT rfl (sT rfl (sT rfl (sT rfl (sT rfl sT0))))))) (sub_keep (sub_keep sub_nil))))
                              · have hr := hr.trans (cond_t hb)
                                refine AL_cons (LR_off (b := true) rfl rfl rfl rfl) (sS (sT1 rfl) sB0 sF0) ?_
                                refine AL_cons (LR_off (b := true) rfl rfl rfl rfl) (sS (sT1 rfl) sB0 sF0) ?_
                                refine AL_cons (LR_off (b := true) rfl rfl rfl rfl) (sS (sT1 rfl) sB0 sF0) ?_
                                refine AL_cons (LR_offU rfl rfl rfl rfl) (sS (sT1 rfl) sB0 sF0) ?_
                                refine AL_cons (LR_offU rfl rfl rfl rfl) (sS (sT1 rfl) sB0 sF0) ?_
                                refine AL_cons (LR_off (b := true) rfl rfl rfl rfl) (sS (sT1 rfl) sB0 sF0) ?_
                                refine AL_cons (LR_pick (b := true) (at_tmp 97 _) (at_c (v' := Bl true) rfl) (at_tmp 103 _) rfl) (sS (sA (sT1 rfl) (sA sT0 (sT1 rfl))) sB0 sF0) ?_
                                refine AL_nil ?_
                                exact thenN (cutLeaf (v := true) hr (weak0 ((sT rfl (sT rfl (sT rfl (sT rfl (sT rfl (sT rfl sT0))))))) (sub_keep (sub_keep sub_nil))))
                            · rintro x23 hr
                              show AW Hfaa.prog _ _ _ ⟨[(3, .inr (.inl (3, 0))), (8, .inr (.inl (8, 0))), (11, .inl (big x18)), (12, .inl (big x19)), (14, .inl (big x21)), (104, .inl (is (Bl x23)))], [(3, pb 23 [is (U8 a0_0), is (U8 a0_1)]), (8, pb 175 [is (U64 x2), is (Bl x3), is (I8 x4), is (Bl x5), big x6, big x7])]⟩
                              have hr : some r = F181_10 N a0_0 a0_1 x2 x3 x4 x5 x6 x7 x18 x19 x21 x23 := hr
                              refine AW_condT (b := x23) rfl (fun h => ?_) (fun h => ?_)
                              · have hr := hr.trans (cond_t h)
                                clear h
                                refine AW_cut (σ := Nat) (fun v => ⟨[(3, .inr (.inl (3, 0))), (8, .inr (.inl (8, 0))), (12, .inl (big x19)), (14, .inl (big v))], [(3, pb 23 [is (U8 a0_0), is (U8 a0_1)]), (8, pb 175 [is (U64 x2), is (Bl x3), is (I8 x4), is (Bl x5), big x6, big x7])]⟩) (fun v => some r = F181_11 N a0_0 a0_1 x2 x3 x4 x5 x6 x7 x19 v) ?_ ?_
                                · skip
                                  refine AW_region ?_
                                  refine AL_cons (LR_move (at_tmp 11 _) rfl) (sS (sT1 rfl) sB0 sF0) ?_
                                  refine AL_cons (LR_move (at_tmp 14 _) rfl) (sS (sT1 rfl) sB0 sF0) ?_
                                  obtain ⟨hg19, hr⟩ := guard_some hr
                                  refine AL_cons (LR_call Hfaa.func254 rfl rfl (B254 x18 x21 hg19) (all_cons (at_tmp 106 _) (all_cons (at_tmp 107 _) all_nil)) rfl) (sS (sA (sT1 rfl) (sA (sT1 rfl) sT0)) sB0 sF0) ?_
                                  refine AL_cons (LR_move (at_tmp 108 _) rfl) (sS (sT1 rfl) sB0 sF0) ?_
                                  refine AL_cons (LR_extract (at_tmp 105 _) rfl rfl) (sS (sT1 rfl) sB0 sF0) ?_
                                  refine AL_cons (LR_extract (at_tmp 105 _) rfl rfl) (sS (sT1 rfl) sB0 sF0) ?_
                                  refine AL_cons (LR_assign (at_tmp 109 _) rfl) (sS (sT1 rfl) sB0 sF0) ?_
                                  refine AL_nil ?_
                                  exact thenN (cutLeaf (v := x18 - x21) hr (weak0 ((sT rfl (sT rfl (sT rfl (sT rfl sT0))))) (sub_keep (sub_keep sub_nil))))
                                · rintro x24 hr
                                  show AW Hfaa.prog _ _ _ ⟨[(3, .inr (.inl (3, 0))), (8, .inr (.inl (8, 0))), (12, .inl (big x19)), (14, .inl (big x24))], [(3, pb 23 [is (U8 a0_0), is (U8 a0_1)]), (8, pb 175 [is (U64 x2), is (Bl x3), is (I8 x4), is (Bl x5), big x6, big x7])]⟩
                                  have hr : some r = F181_11 N a0_0 a0_1 x2 x3 x4 x5 x6 x7 x19 x24 := hr
                                  refine AW_seq1 ?_
                                  refine AW_region ?_
                                  refine AL_cons (LR_loads (at_tmp 3 _) ag23 sz23 rfl rfl rfl) (sS (sT1 rfl) (sB1 rfl) sF0) ?_
                                  refine AL_cons (LR_fieldAddr (off := 0) (o := 1) (at_tmp 8 _) (fun b w => fa175_1 b 0 w) rfl) (sS (sT1 rfl) sB0 sF0) ?_
                                  refine AL_cons (LR_load (at_tmp 112 _) na4 rfl rfl) (sS (sT1 rfl) (sB1 rfl) sF0) ?_
                                  refine AL_cons (LR_un (at_tmp 113 _) (not_Bl x3) rfl) (sS (sT1 rfl) sB0 sF0) ?_
                                  refine AL_cons (LR_move (at_tmp 14 _) rfl) (sS (sT1 rfl) sB0 sF0) ?_
                                  refine AL_cons (LR_move (at_tmp 12 _) rfl) (sS (sT1 rfl) sB0 sF0) ?_
                                  refine AL_cons (bl119 (parts_cons (i := 0) (off := 0) (at_tmp 114 _) (cells_one (one_is rfl)) rfl rfl (parts_cons (i := 1) (off := 1) (at_tmp 115 _) (cells_one (one_big _)) rfl rfl (parts_cons (i := 2) (off := 2) (at_tmp 116 _) (cells_one (one_big _)) rfl rfl parts_nil))) rfl rfl) (sS (sA (sT1 rfl) (sA (sT1 rfl) (sA (sT1 rfl) sT0))) sB0 sF0) ?_
                                  obtain ⟨y21, hy21, hr⟩ := bind_some hr
                                  refine AL_cons (LR_call Hfaa.func136 rfl rfl (C136 N a0_0 a0_1 (0#8) (!x3) x24 x19 y21 hy21) (all_cons (at_tmp 111 _) (all_cons (at_c (v' := U8 (0#8)) rfl) (all_cons (at_tmp 117 _) all_nil))) rfl) (sS (sA (sT1 rfl) (sA sT0 (sA (sT1 rfl) sT0))) sB0 sF0) ?_
                                  refine AL_cons (LR_extract (at_tmp 118 _) rfl rfl) (sS (sT1 rfl) sB0 sF0) ?_
                                  refine AL_cons (LR_extract (at_tmp 118 _) rfl rfl) (sS (sT1 rfl) sB0 sF0) ?_
                                  refine AL_cons (LR_assign (at_tmp 119 _) rfl) (sS (sT1 rfl) sB0 sF0) ?_
                                  refine AL_cons (LR_assign (at_tmp 120 _) rfl) (sS (sT1 rfl) sB0 sF0) ?_
                                  refine AL_nil ?_
                                  refine thenN ?_
                                  refine AW_ret ?_
                                  refine thenR ?_
                                  obtain rfl := Option.some.inj hr
                                  exact res2 rfl (rvT rfl) (rvT rfl)
                              · have hr := hr.trans (cond_f h)
                                clear h
                                refine AW_skip ?_
                                refine thenN ?_
                                refine AW_seq1 ?_
                                refine AW_region ?_
                                refine AL_cons (LR_loads (at_tmp 3 _) ag23 sz23 rfl rfl rfl) (sS (sT1 rfl) (sB1 rfl) sF0) ?_
                                refine AL_cons (LR_fieldAddr (off := 0) (o := 1) (at_tmp 8 _) (fun b w => fa175_1 b 0 w) rfl) (sS (sT1 rfl) sB0 sF0) ?_
                                refine AL_cons (LR_load (at_tmp 122 _) na4 rfl rfl) (sS (sT1 rfl) (sB1 rfl) sF0) ?_
                                refine AL_cons (LR_move (at_tmp 14 _) rfl) (sS (sT1 rfl) sB0 sF0) ?_
                                refine AL_cons (LR_move (at_tmp 12 _) rfl) (sS (sT1 rfl) sB0 sF0) ?_
                                refine AL_cons (bl119 (parts_cons (i := 0) (off := 0) (at_tmp 123 _) (cells_one (one_is rfl)) rfl rfl (parts_cons (i := 1) (off := 1) (at_tmp 124 _) (cells_one (one_big _)) rfl rfl (parts_cons (i := 2) (off := 2) (at_tmp 125 _) (cells_one (one_big _)) rfl rfl parts_nil))) rfl rfl) (sS (sA (sT1 rfl) (sA (sT1 rfl) (sA (sT1 rfl) sT0))) sB0 sF0) ?_
                                obtain ⟨y23, hy23, hr⟩ := bind_some hr
                                refine AL_cons (LR_call Hfaa.func136 rfl rfl (C136 N a0_0 a0_1 (0#8) x3 x21 x19 y23 hy23) (all_cons (at_tmp 121 _) (all_cons (at_c (v' := U8 (0#8)) rfl) (all_cons (at_tmp 126 _) all_nil))) rfl) (sS (sA (sT1 rfl) (sA sT0 (sA (sT1 rfl) sT0))) sB0 sF0) ?_
                                refine AL_cons (LR_extract (at_tmp 127 _) rfl rfl) (sS (sT1 rfl) sB0 sF0) ?_
                                refine AL_cons (LR_extract (at_tmp 127 _) rfl rfl) (sS (sT1 rfl) sB0 sF0) ?_
                                refine AL_cons (LR_assign (at_tmp 128 _) rfl) (sS (sT1 rfl) sB0 sF0) ?_
                                refine AL_cons (LR_assign (at_tmp 129 _) rfl) (sS (sT1 rfl) sB0 sF0) ?_
                                refine AL_nil ?_
                                refine thenN ?_
                                refine AW_ret ?_
                                obtain rfl := Option.some.inj hr
                                exact res2 rfl (rvT rfl) (rvT rfl)
/-- exact.Rem -/
def F295_1 (N : Nat) (x1 : BitVec 64) : Option (BitVec 64) := some x1
def F295 (N : Nat) (a0_0 : BitVec 8) (a0_1 : BitVec 8) (a1 : BitVec 64) (a2 : BitVec 64) : Option (BitVec 64) := (F181 N a0_0 a0_1 a1 a2).bind fun y2 => F295_1 N y2.1
theorem C295 (N : Nat) (a0_0 : BitVec 8) (a0_1 : BitVec 8) (a1 : BitVec 64) (a2 : BitVec 64) (r : BitVec 64) (hr : some r = F295 N a0_0 a0_1 a1 a2) : Aw.Fn Hfaa.prog 295 [agg [is (U8 a0_0), is (U8 a0_1)], is (U64 a1), is (U64 a2)] (is (U64 r)) := by
  refine fn_intro Hfaa.func295 rfl rfl rfl ?_
  intro bn0 w0 H0
  refine AW_seq1 ?_
  refine AW_region ?_
  refine AL_cons (LR_box (at_tmp 0 _) (cells_agg _) rfl) (sS (sT1 rfl) sB0 (sF1 rfl)) ?_
  refine AL_cons (LR_assign (at_c (v' := U64 (0#64)) rfl) rfl) (sS sT0 sB0 sF0) ?_
  refine AL_nil ?_
  refine thenN ?_
  refine AW_cut (σ := BitVec 64) (fun v => ⟨[(7, .inl (is (U64 v)))], []⟩) (fun v => some r = F295_1 N v) ?_ ?_
  · skip
    refine AW_region ?_
    refine AL_cons (LR_loads (at_tmp 3 _) ag23 sz23 rfl rfl rfl) (sS (sT1 rfl) (sB1 rfl) sF0) ?_
    refine AL_cons (LR_move (at_tmp 1 _) rfl) (sS (sT1 rfl) sB0 sF0) ?_
    refine AL_cons (LR_move (at_tmp 2 _) rfl) (sS (sT1 rfl) sB0 sF0) ?_
    obtain ⟨y2, hy2, hr⟩ := bind_some hr
    refine AL_cons (LR_call Hfaa.func181 rfl rfl (C181 N a0_0 a0_1 a1 a2 y2 hy2) (all_cons (at_tmp 10 _) (all_cons (at_tmp 11 _) (all_cons (at_tmp 12 _) all_nil))) rfl) (sS (sA (sT1 rfl) (sA (sT1 rfl) (sA (sT1 rfl) sT0))) sB0 sF0) ?_
    refine AL_cons (LR_move (at_tmp 13 _) rfl) (sS (sT1 rfl) sB0 sF0) ?_
    refine AL_cons (LR_extract (at_tmp 9 _) rfl rfl) (sS (sT1 rfl) sB0 sF0) ?_
    refine AL_cons (LR_extract (at_tmp 9 _) rfl rfl) (sS (sT1 rfl) sB0 sF0) ?_
    refine AL_cons (LR_assign (at_tmp 14 _) rfl) (sS (sT1 rfl) sB0 sF0) ?_
    refine AL_cons (LR_assign (at_tmp 15 _) rfl) (sS (sT1 rfl) sB0 sF0) ?_
    refine AL_nil ?_
    exact thenN (cutLeaf (v := y2.1) hr (weak0 ((sT rfl sT0)) (sub_drop sub_nil)))
  · rintro x1 hr
    show AW Hfaa.prog _ _ _ ⟨[(7, .inl (is (U64 x1)))], []⟩
    have hr : some r = F295_1 N x1 := hr
    refine AW_seq1 ?_
    refine AW_region ?_
    refine AL_cons (LR_move (at_tmp 7 _) rfl) (sS (sT1 rfl) sB0 sF0) ?_
    refine AL_cons (LR_assign (at_tmp 16 _) rfl) (sS (sT1 rfl) sB0 sF0) ?_
    refine AL_nil ?_
    refine thenN ?_
    refine AW_ret ?_
    obtain rfl := Option.some.inj hr
    exact res1 rfl (rvT rfl)
/-- exact.RoundIntFlags -/
def F182_7 (N : Nat) (x13 : BitVec 64) (x15 : BitVec 8) : Option (BitVec 64 × BitVec 8) := some (x13, x15)
def F182_6 (N : Nat) (x11 : Int) (x12 : Bool) (x13 : BitVec 64) (x14 : BitVec 8) : Option (BitVec 64 × BitVec 8) := bif x12 then F182_7 N x13 (x14 ||| (16#8)) else F182_7 N x13 x14
def F182_5 (N : Nat) (a0_0 : BitVec 8) (a0_1 : BitVec 8) (a1 : BitVec 8) (x2 : BitVec 64) (x3 : Bool) (x4 : Int) (x5 : Bool) (x6 : Nat) (x7 : Nat) (x10 : Nat) (x11 : Int) (x12 : Bool) : Option (BitVec 64 × BitVec 8) := lt (F129 x3 x10) fun y16 => (F136 N a0_0 a0_1 a1 y16.1 y16.2.1 y16.2.2).bind fun y17 => F182_6 N x11 x12 y17.1 y17.2
def F182_4 (N : Nat) (a0_0 : BitVec 8) (a0_1 : BitVec 8) (a1 : BitVec 8) (x2 : BitVec 64) (x3 : Bool) (x4 : Int) (x5 : Bool) (x6 : Nat) (x7 : Nat) (x9 : Bool) : Option (BitVec 64 × BitVec 8) := bif x9 then some (x2, 0#8) else (F245 N a1 x3 x6 x7).bind fun y18 => F182_5 N a0_0 a0_1 a1 x2 x3 x4 x5 x6 x7 y18.1 y18.2.1 y18.2.2
def F182_3 (N : Nat) (a0_0 : BitVec 8) (a0_1 : BitVec 8) (a1 : BitVec 8) (a2 : BitVec 64) (x2 : BitVec 64) (x3 : Bool) (x4 : Int) (x5 : Bool) (x6 : Nat) (x7 : Nat) (x8 : Bool) : Option (BitVec 64 × BitVec 8) := bif x8 then lt (F66 a0_0 a0_1) fun y11 => lt (F216 a0_0 a0_1 a2 a2) fun y12 => some (y11, y12) else F182_4 N a0_0 a0_1 a1 x2 x3 x4 x5 x6 x7 (x4 == 3)
def F182_2 (N : Nat) (a0_0 : BitVec 8) (a0_1 : BitVec 8) (a1 : BitVec 8) (a2 : BitVec 64) (x2 : BitVec 64) (x3 : Bool) (x4 : Int) (x5 : Bool) (x6 : Nat) (x7 : Nat) : Option (BitVec 64 × BitVec 8) := F182_3 N a0_0 a0_1 a1 a2 x2 x3 x4 x5 x6 x7 (x4 == 4)
def F182_1 (N : Nat) (a0_0 : BitVec 8) (a0_1 : BitVec 8) (a1 : BitVec 8) (a2 : BitVec 64) (x1 : Bool) : Option (BitVec 64 × BitVec 8) := bif x1 then some (0#64, 0#8) else (F144 N a0_0 a0_1 a2).bind fun y19 => F182_2 N a0_0 a0_1 a1 a2 y19.1 y19.2.1 y19.2.2.1 y19.2.2.2.1 y19.2.2.2.2.1 y19.2.2.2.2.2
def F182 (N : Nat) (a0_0 : BitVec 8) (a0_1 : BitVec 8) (a1 : BitVec 8) (a2 : BitVec 64) : Option (BitVec 64 × BitVec 8) := lt (F40 a0_0 a0_1) fun y20 => F182_1 N a0_0 a0_1 a1 a2 (!y20)
theorem C182 (N : Nat) (a0_0 : BitVec 8) (a0_1 : BitVec 8) (a1 : BitVec 8) (a2 : BitVec 64) (r : BitVec 64 × BitVec 8) (hr : some r = F182 N a0_0 a0_1 a1 a2) : Aw.Fn Hfaa.prog 182 [agg [is (U8 a0_0), is (U8 a0_1)], is (U8 a1), is (U64 a2)] (tup [is (U64 r.1), is (U8 r.2)]) := by
  refine fn_intro Hfaa.func182 rfl rfl rfl ?_
  intro bn0 w0 H0
  refine AW_seq1 ?_
  refine AW_region ?_
  refine AL_cons (LR_box (at_tmp 0 _) (cells_agg _) rfl) (sS (sT1 rfl) sB0 (sF1 rfl)) ?_
  refine AL_cons (LR_assign (at_c (v' := U64 (0#64)) rfl) rfl) (sS sT0 sB0 sF0) ?_
  refine AL_cons (LR_assign (at_c (v' := U8 (0#8)) rfl) rfl) (sS sT0 sB0 sF0) ?_
  refine AL_nil ?_
  refine thenN ?_
  refine AW_seq1 ?_
  refine AW_cut (σ := Bool) (fun v => ⟨[(1, .inl (is (U8 a1))), (2, .inl (is (U64 a2))), (3, .inr (.inl (3, 0))), (15, .inl (is (Bl v)))], [(3, pb 23 [is (U8 a0_0), is (U8 a0_1)])]⟩) (fun v => some r = F182_1 N a0_0 a0_1 a1 a2 v) ?_ ?_
  · skip
    refine AW_region ?_
    refine AL_cons (LR_loads (at_tmp 3 _) ag23 sz23 rfl rfl rfl) (sS (sT1 rfl) (sB1 rfl) sF0) ?_
    obtain ⟨y20, hy20, hr⟩ := lt_some hr
    refine AL_cons (LR_call Hfaa.func40 rfl rfl (C40 a0_0 a0_1 y20 hy20) (all_cons (at_tmp 13 _) all_nil) rfl) (sS (sA (sT1 rfl) sT0) sB0 sF0) ?_
    refine AL_cons (LR_un (at_tmp 14 _) (not_Bl y20) rfl) (sS (sT1 rfl) sB0 sF0) ?_
    refine AL_nil ?_
    exact thenN (cutLeaf (v := !y20) hr (weak0 ((sT rfl (sT rfl (sT rfl (sT rfl sT0))))) (sub_keep sub_nil)))
  · rintro x1 hr
    show AW Hfaa.prog _ _ _ ⟨[(1, .inl (is (U8 a1))), (2, .inl (is (U64 a2))), (3, .inr (.inl (3, 0))), (15, .inl (is (Bl x1)))], [(3, pb 23 [is (U8 a0_0), is (U8 a0_1)])]⟩
    have hr : some r = F182_1 N a0_0 a0_1 a1 a2 x1 := hr
    refine AW_condT (b := x1) rfl (fun h => ?_) (fun h => ?_)
    · have hr := hr.trans (cond_t h)
      clear h
      refine AW_seq1 ?_
      refine AW_region ?_
      refine AL_cons (LR_assign (at_c (v' := U64 (0#64)) rfl) rfl) (sS sT0 sB0 sF0) ?_
      refine AL_cons (LR_assign (at_c (v' := U8 (0#8)) rfl) rfl) (sS sT0 sB0 sF0) ?_
      refine AL_nil ?_
      refine thenN ?_
      refine AW_ret ?_
      refine thenR ?_
      obtain rfl := Option.some.inj hr
      exact res2 rfl (rvT rfl) (rvT rfl)
    · have hr := hr.trans (cond_f h)
      clear h
      refine AW_skip ?_
      refine thenN ?_
      refine AW_cut (σ := BitVec 64 × Bool × Int × Bool × Nat × Nat) (fun v => ⟨[(1, .inl (is (U8 a1))), (2, .inl (is (U64 a2))), (3, .inr (.inl (3, 0))), (8, .inr (.inl (8, 0)))], [(3, pb 23 [is (U8 a0_0), is (U8 a0_1)]), (8, pb 175 [is (U64 v.1), is (Bl v.2.1), is (I8 v.2.2.1), is (Bl v.2.2.2.1), big v.2.2.2.2.1, big v.2.2.2.2.2])]⟩) (fun v => some r = F182_2 N a0_0 a0_1 a1 a2 v.1 v.2.1 v.2.2.1 v.2.2.2.1 v.2.2.2.2.1 v.2.2.2.2.2) ?_ ?_
      · skip
        refine AW_region ?_
        refine AL_cons (LR_loads (at_tmp 3 _) ag23 sz23 rfl rfl rfl) (sS (sT1 rfl) (sB1 rfl) sF0) ?_
        refine AL_cons (LR_move (at_tmp 2 _) rfl) (sS (sT1 rfl) sB0 sF0) ?_
        obtain ⟨y19, hy19, hr⟩ := bind_some hr
        refine AL_cons (LR_call Hfaa.func144 rfl rfl (C144 N a0_0 a0_1 a2 y19 hy19) (all_cons (at_tmp 16 _) (all_cons (at_tmp 17 _) all_nil)) rfl) (sS (sA (sT1 rfl) (sA (sT1 rfl) sT0)) sB0 sF0) ?_
        refine AL_cons (zl175 rfl) (sS sT0 sB0 (sF1 rfl)) ?_
        refine AL_cons (LR_store (at_tmp 8 _) (at_tmp 18 _) (cells_agg _) (onC (one_is rfl) (onC (one_is rfl) (onC (one_is rfl) (onC (one_is rfl) (onC (one_big _) (onC (one_big _) onN)))))) sz175 rfl rfl) (sS (sA (sT1 rfl) (sT1 rfl)) (sB1 rfl) sF0) ?_
        refine AL_nil ?_
        exact thenN (cutLeaf (v := (y19.1, y19.2.1, y19.2.2.1, y19.2.2.2.1, y19.2.2.2.2.1, y19.2.2.2.2.2)) hr (weak0 ((sT rfl (sT rfl (sT rfl (sT rfl sT0))))) (sub_keep (sub_keep sub_nil))))
      · rintro ⟨x2, x3, x4, x5, x6, x7⟩ hr
        show AW Hfaa.prog _ _ _ ⟨[(1, .inl (is (U8 a1))), (2, .inl (is (U64 a2))), (3, .inr (.inl (3, 0))), (8, .inr (.inl (8, 0)))], [(3, pb 23 [is (U8 a0_0), is (U8 a0_1)]), (8, pb 175 [is (U64 x2), is (Bl x3), is (I8 x4), is (Bl x5), big x6, big x7])]⟩
        have hr : some r = F182_2 N a0_0 a0_1 a1 a2 x2 x3 x4 x5 x6 x7 := hr
        refine AW_seq1 ?_
        refine AW_seq1 ?_
        refine AW_region ?_
        refine AL_cons (LR_fieldAddr (off := 0) (o := 2) (at_tmp 8 _) (fun b w => fa175_2 b 0 w) rfl) (sS (sT1 rfl) sB0 sF0) ?_
        refine AL_cons (LR_load (at_tmp 19 _) na110 rfl rfl) (sS (sT1 rfl) (sB1 rfl) sF0) ?_
        refine AL_nil ?_
        refine thenN ?_
        refine AW_block ?_
        refine AW_cut (σ := Bool) (fun v => ⟨[(1, .inl (is (U8 a1))), (2, .inl (is (U64 a2))), (3, .inr (.inl (3, 0))), (8, .inr (.inl (8, 0))), (20, .inl (is (I8 x4))), (21, .inl (is (Bl v)))], [(3, pb 23 [is (U8 a0_0), is (U8 a0_1)]), (8, pb 175 [is (U64 x2), is (Bl x3), is (I8 x4), is (Bl x5), big x6, big x7])]⟩) (fun v => some r = F182_3 N a0_0 a0_1 a1 a2 x2 x3 x4 x5 x6 x7 v) ?_ ?_
        · skip
          refine AW_region ?_
          refine AL_cons (LR_bin (at_tmp 20 _) (at_c (v' := I8 4) rfl) (eql_I8 x4 4) rfl) (sS (sA (sT1 rfl) sT0) sB0 sF0) ?_
          refine AL_cons (LR_assign (at_tmp 22 _) rfl) (sS (sT1 rfl) sB0 sF0) ?_
          refine AL_nil ?_
          exact thenN (cutLeaf (v := x4 == 4) hr (weak0 ((sT rfl (sT rfl (sT rfl (sT rfl (sT rfl (sT rfl sT0))))))) (sub_keep (sub_keep sub_nil))))
        · rintro x8 hr
          show AW Hfaa.prog _ _ _ ⟨[(1, .inl (is (U8 a1))), (2, .inl (is (U64 a2))), (3, .inr (.inl (3, 0))), (8, .inr (.inl (8, 0))), (20, .inl (is (I8 x4))), (21, .inl (is (Bl x8)))], [(3, pb 23 [is (U8 a0_0), is (U8 a0_1)]), (8, pb 175 [is (U64 x2), is (Bl x3), is (I8 x4), is (Bl x5), big x6, big x7])]⟩
          have hr : some r = F182_3 N a0_0 a0_1 a1 a2 x2 x3 x4 x5 x6 x7 x8 := hr
          refine AW_condT (b := x8) rfl (fun h => ?_) (fun h => ?_)
          · have hr := hr.trans (cond_t h)
            clear h
            refine AW_seq1 ?_
            obtain ⟨y11, hy11, hr⟩ := lt_some hr
            obtain ⟨y12, hy12, hr⟩ := lt_some hr
            refine AW_draw mixed
              (lrC (LR_loads (at_tmp 3 _) ag23 sz23 rfl rfl rfl)
              (lrC (LR_call Hfaa.func66 rfl rfl (C66 a0_0 a0_1 y11 hy11) (all_cons (at_tmp 23 _) all_nil) rfl)
              (lrC (LR_loads (at_tmp 3 _) ag23 sz23 rfl rfl rfl)
              (lrC (LR_move (at_tmp 2 _) rfl)
              (lrC (LR_move (at_tmp 2 _) rfl)
              (lrC (LR_call Hfaa.func216 rfl rfl (C216 a0_0 a0_1 a2 a2 y12 hy12) (all_cons (at_tmp 25 _) (all_cons (at_tmp 26 _) (all_cons (at_tmp 27 _) all_nil))) rfl)
              (lrC (LR_assign (at_tmp 24 _) rfl)
              (lrC (LR_assign (at_tmp 28 _) rfl)
              lrN))))))))
              (by kernel_rfl)
              (saC (sS (sT1 rfl) (sB1 rfl) sF0) (saC (sS (sA (sT1 rfl) sT0) sB0 sF0) (saC (sS (sT1 rfl) (sB1 rfl) sF0) (saC (sS (sT1 rfl) sB0 sF0) (saC (sS (sT1 rfl) sB0 sF0) (saC (sS (sA (sT1 rfl) (sA (sT1 rfl) (sA (sT1 rfl) sT0))) sB0 sF0) (saC (sS (sT1 rfl) sB0 sF0) (saC (sS (sT1 rfl) sB0 sF0) saN)))))))) ?_
            refine thenN ?_
            refine AW_ret ?_
            refine blR ?_
            refine thenR ?_
            obtain rfl := Option.some.inj hr
            exact res2 rfl (rvT rfl) (rvT rfl)
          · have hr := hr.trans (cond_f h)
            clear h
            refine AW_cut (σ := Bool) (fun v => ⟨[(1, .inl (is (U8 a1))), (3, .inr (.inl (3, 0))), (8, .inr (.inl (8, 0))), (29, .inl (is (Bl v)))], [(3, pb 23 [is (U8 a0_0), is (U8 a0_1)]), (8, pb 175 [is (U64 x2), is (Bl x3), is (I8 x4), is (Bl x5), big x6, big x7])]⟩) (fun v => some r = F182_4 N a0_0 a0_1 a1 x2 x3 x4 x5 x6 x7 v) ?_ ?_
            · skip
              refine AW_region ?_
              refine AL_cons (LR_bin (at_tmp 20 _) (at_c (v' := I8 3) rfl) (eql_I8 x4 3) rfl) (sS (sA (sT1 rfl) sT0) sB0 sF0) ?_
              refine AL_cons (LR_assign (at_tmp 30 _) rfl) (sS (sT1 rfl) sB0 sF0) ?_
              refine AL_nil ?_
              exact thenN (cutLeaf (v := x4 == 3) hr (weak0 ((sT rfl (sT rfl (sT rfl (sT rfl sT0))))) (sub_keep (sub_keep sub_nil))))
            · rintro x9 hr
              show AW Hfaa.prog _ _ _ ⟨[(1, .inl (is (U8 a1))), (3, .inr (.inl (3, 0))), (8, .inr (.inl (8, 0))), (29, .inl (is (Bl x9)))], [(3, pb 23 [is (U8 a0_0), is (U8 a0_1)]), (8, pb 175 [is (U64 x2), is (Bl x3), is (I8 x4), is (Bl x5), big x6, big x7])]⟩
              have hr : some r = F182_4 N a0_0 a0_1 a1 x2 x3 x4 x5 x6 x7 x9 := hr
              refine AW_condT (b := x9) rfl (fun h => ?_) (fun h => ?_)
              · have hr := hr.trans (cond_t h)
                clear h
                refine AW_seq1 ?_
                refine AW_region ?_
                refine AL_cons (LR_fieldAddr (off := 0) (o := 0) (at_tmp 8 _) (fun b w => fa175_0 b 0 w) rfl) (sS (sT1 rfl) sB0 sF0) ?_
                refine AL_cons (LR_load (at_tmp 31 _) na30 rfl rfl) (sS (sT1 rfl) (sB1 rfl) sF0) ?_
                refine AL_cons (LR_assign (at_tmp 32 _) rfl) (sS (sT1 rfl) sB0 sF0) ?_
                refine AL_cons (LR_assign (at_c (v' := U8 (0#8)) rfl) rfl) (sS sT0 sB0 sF0) ?_
                refine AL_nil ?_
                refine thenN ?_
                refine AW_ret ?_
                refine blR ?_
                refine thenR ?_
                obtain rfl := Option.some.inj hr
                exact res2 rfl (rvT rfl) (rvT rfl)
              · have hr := hr.trans (cond_f h)
                clear h
                refine AW_skip ?_
                refine blN ?_
                refine thenN ?_
                refine AW_cut (σ := Nat × Int × Bool) (fun v => ⟨[(1, .inl (is (U8 a1))), (3, .inr (.inl (3, 0))), (8, .inr (.inl (8, 0))), (10, .inr (.inl (10, 0))), (9, .inl (big v.1))], [(3, pb 23 [is (U8 a0_0), is (U8 a0_1)]), (8, pb 175 [is (U64 x2), is (Bl x3), is (I8 x4), is (Bl x5), big x6, big x7]), (10, pb 181 [is (I8 v.2.1), is (Bl v.2.2)])]⟩) (fun v => some r = F182_5 N a0_0 a0_1 a1 x2 x3 x4 x5 x6 x7 v.1 v.2.1 v.2.2) ?_ ?_
                · skip
                  refine AW_region ?_
                  refine AL_cons (LR_move (at_tmp 1 _) rfl) (sS (sT1 rfl) sB0 sF0) ?_
                  refine AL_cons (LR_fieldAddr (off := 0) (o := 1) (at_tmp 8 _) (fun b w => fa175_1 b 0 w) rfl) (sS (sT1 rfl) sB0 sF0) ?_
                  refine AL_cons (LR_load (at_tmp 35 _) na4 rfl rfl) (sS (sT1 rfl) (sB1 rfl) sF0) ?_
                  refine AL_cons (LR_fieldAddr (off := 0) (o := 3) (at_tmp 8 _) (fun b w => fa175_3 b 0 w) rfl) (sS (sT1 rfl) sB0 sF0) ?_
                  refine AL_cons (LR_fieldAddr (off := 3) (o := 4) (at_tmp 37 _) (fun b w => fa119_1 b 3 w) rfl) (sS (sT1 rfl) sB0 sF0) ?_
                  refine AL_cons (LR_load (at_tmp 38 _) na49 rfl rfl) (sS (sT1 rfl) (sB1 rfl) sF0) ?_
                  refine AL_cons (LR_fieldAddr (off := 0) (o := 3) (at_tmp 8 _) (fun b w => fa175_3 b 0 w) rfl) (sS (sT1 rfl) sB0 sF0) ?_
                  refine AL_cons (LR_fieldAddr (off := 3) (o := 5) (at_tmp 40 _) (fun b w => fa119_2 b 3 w) rfl) (sS (sT1 rfl) sB0 sF0) ?_
                  refine AL_cons (LR_load (at_tmp 41 _) na49 rfl rfl) (sS (sT1 rfl) (sB1 rfl) sF0) ?_
                  obtain ⟨y18, hy18, hr⟩ := bind_some hr
                  refine AL_cons (LR_call Hfaa.func245 rfl rfl (C245 N a1 x3 x6 x7 y18 hy18) (all_cons (at_tmp 34 _) (all_cons (at_tmp 36 _) (all_cons (at_tmp 39 _) (all_cons (at_tmp 42 _) all_nil)))) rfl) (sS (sA (sT1 rfl) (sA (sT1 rfl) (sA (sT1 rfl) (sA (sT1 rfl) sT0)))) sB0 sF0) ?_
                  refine AL_cons (LR_move (at_tmp 43 _) rfl) (sS (sT1 rfl) sB0 sF0) ?_
                  refine AL_cons (LR_extract (at_tmp 33 _) rfl rfl) (sS (sT1 rfl) sB0 sF0) ?_
                  refine AL_cons (LR_extract (at_tmp 33 _) rfl rfl) (sS (sT1 rfl) sB0 sF0) ?_
                  refine AL_cons (zl181 rfl) (sS sT0 sB0 (sF1 rfl)) ?_
                  refine AL_cons (LR_assign (at_tmp 44 _) rfl) (sS (sT1 rfl) sB0 sF0) ?_
                  refine AL_cons (LR_store (at_tmp 10 _) (at_tmp 45 _) (cells_agg _) (onC (one_is rfl) (onC (one_is rfl) onN)) sz181 rfl rfl) (sS (sA (sT1 rfl) (sT1 rfl)) (sB1 rfl) sF0) ?_
                  refine AL_nil ?_
                  exact thenN (cutLeaf (v := (y18.1, y18.2.1, y18.2.2)) hr (weak0 ((sT rfl (sT rfl (sT rfl (sT rfl (sT rfl sT0)))))) (sub_keep (sub_keep (sub_keep sub_nil)))))
                · rintro ⟨x10, x11, x12⟩ hr
                  show AW Hfaa.prog _ _ _ ⟨[(1, .inl (is (U8 a1))), (3, .inr (.inl (3, 0))), (8, .inr (.inl (8, 0))), (10, .inr (.inl (10, 0))), (9, .inl (big x10))], [(3, pb 23 [is (U8 a0_0), is (U8 a0_1)]), (8, pb 175 [is (U64 x2), is (Bl x3), is (I8 x4), is (Bl x5), big x6, big x7]), (10, pb 181 [is (I8 x11), is (Bl x12)])]⟩
                  have hr : some r = F182_5 N a0_0 a0_1 a1 x2 x3 x4 x5 x6 x7 x10 x11 x12 := hr
                  refine AW_cut (σ := BitVec 64 × BitVec 8) (fun v => ⟨[(10, .inr (.inl (10, 0))), (11, .inl (is (U64 v.1))), (12, .inl (is (U8 v.2)))], [(10, pb 181 [is (I8 x11), is (Bl x12)])]⟩) (fun v => some r = F182_6 N x11 x12 v.1 v.2) ?_ ?_
                  · skip
                    obtain ⟨y16, hy16, hr⟩ := lt_some hr
                    obtain ⟨y17, hy17, hr⟩ := bind_some hr
                    refine AW_draw mixed
                      (lrC (LR_loads (at_tmp 3 _) ag23 sz23 rfl rfl rfl)
                      (lrC (LR_move (at_tmp 1 _) rfl)
                      (lrC (LR_fieldAddr (off := 0) (o := 1) (at_tmp 8 _) (fun b w => fa175_1 b 0 w) rfl)
                      (lrC (LR_load (at_tmp 49 _) na4 rfl rfl)
                      (lrC (LR_move (at_tmp 9 _) rfl)
                      (lrC (LR_call Hfaa.func129 rfl rfl (C129 x3 x10 y16 hy16) (all_cons (at_tmp 50 _) (all_cons (at_tmp 51 _) all_nil)) rfl)
                      (lrC (LR_call Hfaa.func136 rfl rfl (C136 N a0_0 a0_1 a1 y16.1 y16.2.1 y16.2.2 y17 hy17) (all_cons (at_tmp 47 _) (all_cons (at_tmp 48 _) (all_cons (at_tmp 52 _) all_nil))) rfl)
                      (lrC (LR_move (at_tmp 53 _) rfl)
                      (lrC (LR_extract (at_tmp 46 _) rfl rfl)
                      (lrC (LR_extract (at_tmp 46 _) rfl rfl)
                      (lrC (LR_assign (at_tmp 54 _) rfl)
                      (lrC (LR_assign (at_tmp 55 _) rfl)
                      lrN))))))))))))
                      (by kernel_rfl)
                      (saC (sS (sT1 rfl) (sB1 rfl) sF0) (saC (sS (sT1 rfl) sB0 sF0) (saC (sS (sT1 rfl) sB0 sF0) (saC (sS (sT1 rfl) (sB1 rfl) sF0) (saC (sS (sT1 rfl) sB0 sF0) (saC (sS (sA (sT1 rfl) (sA (sT1 rfl) sT0)) sB0 sF0) (saC (sS (sA (sT1 rfl) (sA (sT1 rfl) (sA (sT1 rfl) sT0))) sB0 sF0) (saC (sS (sT1 rfl) sB0 sF0) (saC (sS (sT1 rfl) sB0 sF0) (saC (sS (sT1 rfl) sB0 sF0) (saC (sS (sT1 rfl) sB0 sF0) (saC (sS (sT1 rfl) sB0 sF0) saN)))))))))))) ?_
                    exact thenN (cutLeaf (v := (y17.1, y17.2)) hr (weak0 ((sT rfl (sT rfl (sT rfl sT0)))) (sub_drop (sub_drop (sub_keep sub_nil)))))
                  · rintro ⟨x13, x14⟩ hr
                    show AW Hfaa.prog _ _ _ ⟨[(10, .inr (.inl (10, 0))), (11, .inl (is (U64 x13))), (12, .inl (is (U8 x14)))], [(10, pb 181 [is (I8 x11), is (Bl x12)])]⟩
                    have hr : some r = F182_6 N x11 x12 x13 x14 := hr
                    refine AW_cut (σ := BitVec 8) (fun v => ⟨[(11, .inl (is (U64 x13))), (12, .inl (is (U8 v)))], []⟩) (fun v => some r = F182_7 N x13 v) ?_ ?_
                    · skip
                      refine AW_seq1 ?_
                      refine AW_region ?_
                      refine AL_cons (LR_fieldAddr (off := 0) (o := 1) (at_tmp 10 _) (fun b w => fa181_1 b 0 w) rfl) (sS (sT1 rfl) sB0 sF0) ?_
                      refine AL_cons (LR_load (at_tmp 56 _) na4 rfl rfl) (sS (sT1 rfl) (sB1 rfl) sF0) ?_
                      refine AL_nil ?_
                      refine thenN ?_
                      refine AW_condT (b := x12) rfl (fun h => ?_) (fun h => ?_)
                      · have hr := hr.trans (cond_t h)
                        clear h
                        refine AW_region ?_
                        refine AL_cons (LR_move (at_tmp 12 _) rfl) (sS (sT1 rfl) sB0 sF0) ?_
                        refine AL_cons (LR_bin (at_tmp 58 _) (at_c (v' := U8 (16#8)) rfl) (or_U8 x14 (16#8)) rfl) (sS (sA (sT1 rfl) sT0) sB0 sF0) ?_
                        refine AL_cons (LR_assign (at_tmp 59 _) rfl) (sS (sT1 rfl) sB0 sF0) ?_
                        refine AL_nil ?_
                        exact thenN (cutLeaf (v := x14 ||| (16#8)) hr (weak0 ((sT rfl (sT rfl sT0))) (sub_drop sub_nil)))
                      · have hr := hr.trans (cond_f h)
                        clear h
                        refine AW_skip ?_
                        exact thenN (cutLeaf (v := x14) hr (weak0 ((sT rfl (sT rfl sT0))) (sub_drop sub_nil)))
                    · rintro x15 hr
                      show AW Hfaa.prog _ _ _ ⟨[(11, .inl (is (U64 x13))), (12, .inl (is (U8 x15)))], []⟩
                      have hr : some r = F182_7 N x13 x15 := hr
                      refine AW_seq1 ?_
                      refine AW_region ?_
                      refine AL_cons (LR_move (at_tmp 11 _) rfl) (sS (sT1 rfl) sB0 sF0) ?_
                      refine AL_cons (LR_move (at_tmp 12 _) rfl) (sS (sT1 rfl) sB0 sF0) ?_
                      refine AL_cons (LR_assign (at_tmp 60 _) rfl) (sS (sT1 rfl) sB0 sF0) ?_
                      refine AL_cons (LR_assign (at_tmp 61 _) rfl) (sS (sT1 rfl) sB0 sF0) ?_
                      refine AL_nil ?_
                      refine thenN ?_
                      refine AW_ret ?_
                      obtain rfl := Option.some.inj hr
                      exact res2 rfl (rvT rfl) (rvT rfl)
end Go.Proofs.YfwaawGreat
