import Derived.Test.YfwaawGreatG1
import Derived.Test.YfwaawGreatG2
import Derived.Test.YfwaawGreatG3
import Derived.Test.YfwaawGreatG4
import Derived.Test.YfwaawGreatG5
namespace Go.Proofs.YfwaawGreat
open Go.Aw
set_option linter.unusedVariables false
set_option maxRecDepth 100000
set_option maxHeartbeats 1000000
/-- exact.Div -/
def F143_1 (N : Nat) (x1 : BitVec 64) : Option (BitVec 64) := some x1
def F143 (N : Nat) (a0_0 : BitVec 8) (a0_1 : BitVec 8) (a1 : BitVec 8) (a2 : BitVec 64) (a3 : BitVec 64) : Option (BitVec 64) := (F195 N a0_0 a0_1 a1 a2 a3).bind fun y2 => F143_1 N y2.1
theorem C143 (N : Nat) (a0_0 : BitVec 8) (a0_1 : BitVec 8) (a1 : BitVec 8) (a2 : BitVec 64) (a3 : BitVec 64) (r : BitVec 64) (hr : some r = F143 N a0_0 a0_1 a1 a2 a3) : Aw.Fn Hfaa.prog 143 [agg [is (U8 a0_0), is (U8 a0_1)], is (U8 a1), is (U64 a2), is (U64 a3)] (is (U64 r)) := by
  refine fn_intro Hfaa.func143 rfl rfl rfl ?_
  intro bn0 w0 H0
  refine AW_seq1 ?_
  refine AW_region ?_
  refine AL_cons (LR_box (at_tmp 0 _) (cells_agg _) rfl) (sS (sT1 rfl) sB0 (sF1 rfl)) ?_
  refine AL_cons (LR_assign (at_c (v' := U64 (0#64)) rfl) rfl) (sS sT0 sB0 sF0) ?_
  refine AL_nil ?_
  refine thenN ?_
  refine AW_cut (σ := BitVec 64) (fun v => ⟨[(9, .inl (is (U64 v)))], []⟩) (fun v => some r = F143_1 N v) ?_ ?_
  · skip
    refine AW_region ?_
    refine AL_cons (LR_loads (at_tmp 4 _) ag23 sz23 rfl rfl rfl) (sS (sT1 rfl) (sB1 rfl) sF0) ?_
    refine AL_cons (LR_move (at_tmp 1 _) rfl) (sS (sT1 rfl) sB0 sF0) ?_
    refine AL_cons (LR_move (at_tmp 2 _) rfl) (sS (sT1 rfl) sB0 sF0) ?_
    refine AL_cons (LR_move (at_tmp 3 _) rfl) (sS (sT1 rfl) sB0 sF0) ?_
    obtain ⟨y2, hy2, hr⟩ := bind_some hr
    refine AL_cons (LR_call Hfaa.func195 rfl rfl (C195 N a0_0 a0_1 a1 a2 a3 y2 hy2) (all_cons (at_tmp 12 _) (all_cons (at_tmp 13 _) (all_cons (at_tmp 14 _) (all_cons (at_tmp 15 _) all_nil)))) rfl) (sS (sA (sT1 rfl) (sA (sT1 rfl) (sA (sT1 rfl) (sA (sT1 rfl) sT0)))) sB0 sF0) ?_
    refine AL_cons (LR_move (at_tmp 16 _) rfl) (sS (sT1 rfl) sB0 sF0) ?_
    refine AL_cons (LR_extract (at_tmp 11 _) rfl rfl) (sS (sT1 rfl) sB0 sF0) ?_
    refine AL_cons (LR_extract (at_tmp 11 _) rfl rfl) (sS (sT1 rfl) sB0 sF0) ?_
    refine AL_cons (LR_assign (at_tmp 17 _) rfl) (sS (sT1 rfl) sB0 sF0) ?_
    refine AL_cons (LR_assign (at_tmp 18 _) rfl) (sS (sT1 rfl) sB0 sF0) ?_
    refine AL_nil ?_
    exact thenN (cutLeaf (v := y2.1) hr (weak0 ((sT rfl sT0)) (sub_drop sub_nil)))
  · rintro x1 hr
    show AW Hfaa.prog _ _ _ ⟨[(9, .inl (is (U64 x1)))], []⟩
    have hr : some r = F143_1 N x1 := hr
    refine AW_seq1 ?_
    refine AW_region ?_
    refine AL_cons (LR_move (at_tmp 9 _) rfl) (sS (sT1 rfl) sB0 sF0) ?_
    refine AL_cons (LR_assign (at_tmp 19 _) rfl) (sS (sT1 rfl) sB0 sF0) ?_
    refine AL_nil ?_
    refine thenN ?_
    refine AW_ret ?_
    obtain rfl := Option.some.inj hr
    exact res1 rfl (rvT rfl)
/-- exact.rootAt -/
def F248_6 (N : Nat) (x6 : Int) (x7 : Bool) (x8 : Nat) : Option (Nat × Int × Bool) := some (x8, x6, x7)
def F248_7 (N : Nat) (x4 : Nat) (x6 : Int) (x7 : Bool) (x9 : Bool) : Option (Nat × Int × Bool) := bif x9 then bif lim x4 then F248_6 N x6 x7 (x4 + 1) else none else F248_6 N x6 x7 x4
def F248_5 (N : Nat) (a1 : BitVec 8) (x4 : Nat) (x6 : Int) (x7 : Bool) : Option (Nat × Int × Bool) := bif lim x4 && i64ok 0 then lt (F358 a1 false (nbit x4 0) x6 x7) fun y5 => F248_7 N x4 x6 x7 y5 else none
def F248_4 (N : Nat) (a1 : BitVec 8) (x1 : Nat) (x2 : Nat) (x4 : Nat) (x5 : Nat) : Option (Nat × Int × Bool) := bif lim x1 then bif lim x5 && lim x5 then bif lim (x5 * x5) && lim x2 then bif lim (x1 * 2 ^ (2#16).toNat) && lim ((x5 * x5) * x2) then bif lim x4 && lim x4 then bif lim (x4 * x4) && lim x2 then bif lim ((x4 * x4) * x2) && lim x1 then F248_5 N a1 x4 (ncmp (x1 * 2 ^ (2#16).toNat) ((x5 * x5) * x2)) ((ncmp ((x4 * x4) * x2) x1) != 0) else none else none else none else none else none else none else none
def F248_3 (N : Nat) (a1 : BitVec 8) (x1 : Nat) (x2 : Nat) (x4 : Nat) : Option (Nat × Int × Bool) := bif lim x4 then bif lim (x4 * 2 ^ (1#16).toNat) then F248_4 N a1 x1 x2 x4 ((x4 * 2 ^ (1#16).toNat) + 1) else none else none
def F248_2 (N : Nat) (a1 : BitVec 8) (x1 : Nat) (x2 : Nat) (x3 : Nat) : Option (Nat × Int × Bool) := bif lim x3 then F248_3 N a1 x1 x2 (isq x3) else none
def F248_1 (N : Nat) (a1 : BitVec 8) (x1 : Nat) (x2 : Nat) : Option (Nat × Int × Bool) := bif lim x1 && lim x2 then F248_2 N a1 x1 x2 (x1 / x2) else none
def F248 (N : Nat) (a0_0 : BitVec 8) (a0_1 : BitVec 8) (a1 : BitVec 8) (a2_0 : Bool) (a2_1 : Nat) (a2_2 : Nat) (a3 : Int) : Option (Nat × Int × Bool) := (F208 N a2_1 a2_2 (w64 (2 * (w64 ((w64 (a0_1.toNat : Int)) - a3))))).bind fun y6 => F248_1 N a1 y6.1 y6.2
theorem C248 (N : Nat) (a0_0 : BitVec 8) (a0_1 : BitVec 8) (a1 : BitVec 8) (a2_0 : Bool) (a2_1 : Nat) (a2_2 : Nat) (a3 : Int) (r : Nat × Int × Bool) (hr : some r = F248 N a0_0 a0_1 a1 a2_0 a2_1 a2_2 a3) : Aw.Fn Hfaa.prog 248 [agg [is (U8 a0_0), is (U8 a0_1)], is (U8 a1), agg [is (Bl a2_0), big a2_1, big a2_2], is (I64 a3)] (tup [big r.1, agg [is (I8 r.2.1), is (Bl r.2.2)]]) := by
  refine fn_intro Hfaa.func248 rfl rfl rfl ?_
  intro bn0 w0 H0
  refine AW_seq1 ?_
  refine AW_region ?_
  refine AL_cons (LR_box (at_tmp 0 _) (cells_agg _) rfl) (sS (sT1 rfl) sB0 (sF1 rfl)) ?_
  refine AL_cons (LR_box (at_tmp 2 _) (cells_agg _) rfl) (sS (sT1 rfl) sB0 (sF1 rfl)) ?_
  refine AL_cons (LR_assign at_nil rfl) (sS sT0 sB0 sF0) ?_
  refine AL_cons (zl181 rfl) (sS sT0 sB0 (sF1 rfl)) ?_
  refine AL_nil ?_
  refine thenN ?_
  refine AW_cut (σ := Nat × Nat) (fun v => ⟨[(1, .inl (is (U8 a1))), (9, .inr (.inl (9, 0))), (10, .inl (big v.1)), (11, .inl (big v.2))], [(9, pb 181 [is (I8 0), is (Bl false)])]⟩) (fun v => some r = F248_1 N a1 v.1 v.2) ?_ ?_
  · skip
    refine AW_region ?_
    refine AL_cons (LR_fieldAddr (off := 0) (o := 1) (at_tmp 6 _) (fun b w => fa119_1 b 0 w) rfl) (sS (sT1 rfl) sB0 sF0) ?_
    refine AL_cons (LR_load (at_tmp 20 _) na49 rfl rfl) (sS (sT1 rfl) (sB1 rfl) sF0) ?_
    refine AL_cons (LR_fieldAddr (off := 0) (o := 2) (at_tmp 6 _) (fun b w => fa119_2 b 0 w) rfl) (sS (sT1 rfl) sB0 sF0) ?_
    refine AL_cons (LR_load (at_tmp 22 _) na49 rfl rfl) (sS (sT1 rfl) (sB1 rfl) sF0) ?_
    refine AL_cons (LR_fieldAddr (off := 0) (o := 1) (at_tmp 4 _) (fun b w => fa23_1 b 0 w) rfl) (sS (sT1 rfl) sB0 sF0) ?_
    refine AL_cons (LR_load (at_tmp 24 _) na5 rfl rfl) (sS (sT1 rfl) (sB1 rfl) sF0) ?_
    refine AL_cons (LR_conv (vx := U8 a0_1) (at_tmp 25 _) (conv_I64 Hfaa.underlying5 Hfaa.underlying3 (a0_1.toNat : Int)) rfl) (sS (sT1 rfl) sB0 sF0) ?_
    refine AL_cons (LR_move (at_tmp 3 _) rfl) (sS (sT1 rfl) sB0 sF0) ?_
    refine AL_cons (LR_bin (at_tmp 26 _) (at_tmp 27 _) (sub_I64 (w64 (a0_1.toNat : Int)) a3) rfl) (sS (sA (sT1 rfl) (sT1 rfl)) sB0 sF0) ?_
    refine AL_cons (LR_bin (at_c (v' := I64 2) rfl) (at_tmp 28 _) (mul_I64 2 (w64 ((w64 (a0_1.toNat : Int)) - a3))) rfl) (sS (sA sT0 (sT1 rfl)) sB0 sF0) ?_
    obtain ⟨y6, hy6, hr⟩ := bind_some hr
    refine AL_cons (LR_call Hfaa.func208 rfl rfl (C208 N a2_1 a2_2 (w64 (2 * (w64 ((w64 (a0_1.toNat : Int)) - a3)))) y6 hy6) (all_cons (at_tmp 21 _) (all_cons (at_tmp 23 _) (all_cons (at_tmp 29 _) all_nil))) rfl) (sS (sA (sT1 rfl) (sA (sT1 rfl) (sA (sT1 rfl) sT0))) sB0 sF0) ?_
    refine AL_cons (LR_move (at_tmp 30 _) rfl) (sS (sT1 rfl) sB0 sF0) ?_
    refine AL_cons (LR_extract (at_tmp 19 _) rfl rfl) (sS (sT1 rfl) sB0 sF0) ?_
    refine AL_cons (LR_extract (at_tmp 19 _) rfl rfl) (sS (sT1 rfl) sB0 sF0) ?_
    refine AL_cons (LR_assign (at_tmp 31 _) rfl) (sS (sT1 rfl) sB0 sF0) ?_
    refine AL_cons (LR_assign (at_tmp 32 _) rfl) (sS (sT1 rfl) sB0 sF0) ?_
    refine AL_nil ?_
    exact thenN (cutLeaf (v := (y6.1, y6.2)) hr (weak0 ((sT rfl (sT rfl (sT rfl (sT rfl sT0))))) (sub_drop (sub_drop (sub_keep sub_nil)))))
  · rintro ⟨x1, x2⟩ hr
    show AW Hfaa.prog _ _ _ ⟨[(1, .inl (is (U8 a1))), (9, .inr (.inl (9, 0))), (10, .inl (big x1)), (11, .inl (big x2))], [(9, pb 181 [is (I8 0), is (Bl false)])]⟩
    have hr : some r = F248_1 N a1 x1 x2 := hr
    refine AW_cut (σ := Nat) (fun v => ⟨[(1, .inl (is (U8 a1))), (9, .inr (.inl (9, 0))), (10, .inl (big x1)), (11, .inl (big x2)), (12, .inl (big v))], [(9, pb 181 [is (I8 0), is (Bl false)])]⟩) (fun v => some r = F248_2 N a1 x1 x2 v) ?_ ?_
    · skip
      refine AW_region ?_
      refine AL_cons (LR_move (at_tmp 10 _) rfl) (sS (sT1 rfl) sB0 sF0) ?_
      refine AL_cons (LR_move (at_tmp 11 _) rfl) (sS (sT1 rfl) sB0 sF0) ?_
      obtain ⟨hg28, hr⟩ := guard_some hr
      refine AL_cons (LR_call Hfaa.func35 rfl rfl (B35 x1 x2 hg28) (all_cons (at_tmp 34 _) (all_cons (at_tmp 35 _) all_nil)) rfl) (sS (sA (sT1 rfl) (sA (sT1 rfl) sT0)) sB0 sF0) ?_
      refine AL_cons (LR_move (at_tmp 36 _) rfl) (sS (sT1 rfl) sB0 sF0) ?_
      refine AL_cons (LR_extract (at_tmp 33 _) rfl rfl) (sS (sT1 rfl) sB0 sF0) ?_
      refine AL_cons (LR_extract (at_tmp 33 _) rfl rfl) (sS (sT1 rfl) sB0 sF0) ?_
      refine AL_cons (LR_extract (at_tmp 33 _) rfl rfl) (sS (sT1 rfl) sB0 sF0) ?_
      refine AL_cons (LR_assign (at_tmp 37 _) rfl) (sS (sT1 rfl) sB0 sF0) ?_
      refine AL_cons (LR_assign (at_tmp 38 _) rfl) (sS (sT1 rfl) sB0 sF0) ?_
      refine AL_cons (LR_assign (at_tmp 39 _) rfl) (sS (sT1 rfl) sB0 sF0) ?_
      refine AL_nil ?_
      exact thenN (cutLeaf (v := x1 / x2) hr (weak0 ((sT rfl (sT rfl (sT rfl (sT rfl (sT rfl sT0)))))) (sub_keep sub_nil)))
    · rintro x3 hr
      show AW Hfaa.prog _ _ _ ⟨[(1, .inl (is (U8 a1))), (9, .inr (.inl (9, 0))), (10, .inl (big x1)), (11, .inl (big x2)), (12, .inl (big x3))], [(9, pb 181 [is (I8 0), is (Bl false)])]⟩
      have hr : some r = F248_2 N a1 x1 x2 x3 := hr
      refine AW_cut (σ := Nat) (fun v => ⟨[(1, .inl (is (U8 a1))), (9, .inr (.inl (9, 0))), (10, .inl (big x1)), (11, .inl (big x2)), (15, .inl (big v))], [(9, pb 181 [is (I8 0), is (Bl false)])]⟩) (fun v => some r = F248_3 N a1 x1 x2 v) ?_ ?_
      · skip
        refine AW_region ?_
        refine AL_cons (LR_move (at_tmp 12 _) rfl) (sS (sT1 rfl) sB0 sF0) ?_
        obtain ⟨hg27, hr⟩ := guard_some hr
        refine AL_cons (LR_call Hfaa.func360 rfl rfl (B360 x3 hg27) (all_cons (at_tmp 41 _) all_nil) rfl) (sS (sA (sT1 rfl) sT0) sB0 sF0) ?_
        refine AL_cons (LR_move (at_tmp 42 _) rfl) (sS (sT1 rfl) sB0 sF0) ?_
        refine AL_cons (LR_extract (at_tmp 40 _) rfl rfl) (sS (sT1 rfl) sB0 sF0) ?_
        refine AL_cons (LR_extract (at_tmp 40 _) rfl rfl) (sS (sT1 rfl) sB0 sF0) ?_
        refine AL_cons (LR_assign (at_tmp 43 _) rfl) (sS (sT1 rfl) sB0 sF0) ?_
        refine AL_cons (LR_assign (at_tmp 44 _) rfl) (sS (sT1 rfl) sB0 sF0) ?_
        refine AL_nil ?_
        exact thenN (cutLeaf (v := isq x3) hr (weak0 ((sT rfl (sT rfl (sT rfl (sT rfl (sT rfl sT0)))))) (sub_keep sub_nil)))
      · rintro x4 hr
        show AW Hfaa.prog _ _ _ ⟨[(1, .inl (is (U8 a1))), (9, .inr (.inl (9, 0))), (10, .inl (big x1)), (11, .inl (big x2)), (15, .inl (big x4))], [(9, pb 181 [is (I8 0), is (Bl false)])]⟩
        have hr : some r = F248_3 N a1 x1 x2 x4 := hr
        refine AW_cut (σ := Nat) (fun v => ⟨[(1, .inl (is (U8 a1))), (9, .inr (.inl (9, 0))), (10, .inl (big x1)), (11, .inl (big x2)), (15, .inl (big x4)), (17, .inl (big v))], [(9, pb 181 [is (I8 0), is (Bl false)])]⟩) (fun v => some r = F248_4 N a1 x1 x2 x4 v) ?_ ?_
        · skip
          refine AW_region ?_
          refine AL_cons (LR_move (at_tmp 15 _) rfl) (sS (sT1 rfl) sB0 sF0) ?_
          obtain ⟨hg25, hr⟩ := guard_some hr
          refine AL_cons (LR_call Hfaa.func36 rfl rfl (B36 x4 (1#16) hg25) (all_cons (at_tmp 45 _) (all_cons (at_c (v' := U16 (1#16)) rfl) all_nil)) rfl) (sS (sA (sT1 rfl) (sA sT0 sT0)) sB0 sF0) ?_
          obtain ⟨hg26, hr⟩ := guard_some hr
          refine AL_cons (LR_call Hfaa.func359 rfl rfl (B359 (x4 * 2 ^ (1#16).toNat) hg26) (all_cons (at_tmp 46 _) all_nil) rfl) (sS (sA (sT1 rfl) sT0) sB0 sF0) ?_
          refine AL_cons (LR_assign (at_tmp 47 _) rfl) (sS (sT1 rfl) sB0 sF0) ?_
          refine AL_nil ?_
          exact thenN (cutLeaf (v := (x4 * 2 ^ (1#16).toNat) + 1) hr (weak0 ((sT rfl (sT rfl (sT rfl (sT rfl (sT rfl (sT rfl sT0))))))) (sub_keep sub_nil)))
        · rintro x5 hr
          show AW Hfaa.prog _ _ _ ⟨[(1, .inl (is (U8 a1))), (9, .inr (.inl (9, 0))), (10, .inl (big x1)), (11, .inl (big x2)), (15, .inl (big x4)), (17, .inl (big x5))], [(9, pb 181 [is (I8 0), is (Bl false)])]⟩
          have hr : some r = F248_4 N a1 x1 x2 x4 x5 := hr
          refine AW_cut (σ := Int × Bool) (fun v => ⟨[(1, .inl (is (U8 a1))), (9, .inr (.inl (9, 0))), (15, .inl (big x4)), (18, .inr (.inl (18, 0)))], [(9, pb 181 [is (I8 0), is (Bl false)]), (18, pb 181 [is (I8 v.1), is (Bl v.2)])]⟩) (fun v => some r = F248_5 N a1 x4 v.1 v.2) ?_ ?_
          · skip
            refine AW_region ?_
            refine AL_cons (LR_move (at_tmp 10 _) rfl) (sS (sT1 rfl) sB0 sF0) ?_
            obtain ⟨hg18, hr⟩ := guard_some hr
            refine AL_cons (LR_call Hfaa.func36 rfl rfl (B36 x1 (2#16) hg18) (all_cons (at_tmp 48 _) (all_cons (at_c (v' := U16 (2#16)) rfl) all_nil)) rfl) (sS (sA (sT1 rfl) (sA sT0 sT0)) sB0 sF0) ?_
            refine AL_cons (LR_move (at_tmp 17 _) rfl) (sS (sT1 rfl) sB0 sF0) ?_
            refine AL_cons (LR_move (at_tmp 17 _) rfl) (sS (sT1 rfl) sB0 sF0) ?_
            obtain ⟨hg19, hr⟩ := guard_some hr
            refine AL_cons (LR_call Hfaa.func22 rfl rfl (B22 x5 x5 hg19) (all_cons (at_tmp 50 _) (all_cons (at_tmp 51 _) all_nil)) rfl) (sS (sA (sT1 rfl) (sA (sT1 rfl) sT0)) sB0 sF0) ?_
            refine AL_cons (LR_move (at_tmp 11 _) rfl) (sS (sT1 rfl) sB0 sF0) ?_
            obtain ⟨hg20, hr⟩ := guard_some hr
            refine AL_cons (LR_call Hfaa.func22 rfl rfl (B22 (x5 * x5) x2 hg20) (all_cons (at_tmp 52 _) (all_cons (at_tmp 53 _) all_nil)) rfl) (sS (sA (sT1 rfl) (sA (sT1 rfl) sT0)) sB0 sF0) ?_
            obtain ⟨hg21, hr⟩ := guard_some hr
            refine AL_cons (LR_call Hfaa.func60 rfl rfl (B60 (x1 * 2 ^ (2#16).toNat) ((x5 * x5) * x2) hg21) (all_cons (at_tmp 49 _) (all_cons (at_tmp 54 _) all_nil)) rfl) (sS (sA (sT1 rfl) (sA (sT1 rfl) sT0)) sB0 sF0) ?_
            refine AL_cons (LR_move (at_tmp 15 _) rfl) (sS (sT1 rfl) sB0 sF0) ?_
            refine AL_cons (LR_move (at_tmp 15 _) rfl) (sS (sT1 rfl) sB0 sF0) ?_
            obtain ⟨hg22, hr⟩ := guard_some hr
            refine AL_cons (LR_call Hfaa.func22 rfl rfl (B22 x4 x4 hg22) (all_cons (at_tmp 56 _) (all_cons (at_tmp 57 _) all_nil)) rfl) (sS (sA (sT1 rfl) (sA (sT1 rfl) sT0)) sB0 sF0) ?_
            refine AL_cons (LR_move (at_tmp 11 _) rfl) (sS (sT1 rfl) sB0 sF0) ?_
            obtain ⟨hg23, hr⟩ := guard_some hr
            refine AL_cons (LR_call Hfaa.func22 rfl rfl (B22 (x4 * x4) x2 hg23) (all_cons (at_tmp 58 _) (all_cons (at_tmp 59 _) all_nil)) rfl) (sS (sA (sT1 rfl) (sA (sT1 rfl) sT0)) sB0 sF0) ?_
            refine AL_cons (LR_move (at_tmp 10 _) rfl) (sS (sT1 rfl) sB0 sF0) ?_
            obtain ⟨hg24, hr⟩ := guard_some hr
            refine AL_cons (LR_call Hfaa.func60 rfl rfl (B60 ((x4 * x4) * x2) x1 hg24) (all_cons (at_tmp 60 _) (all_cons (at_tmp 61 _) all_nil)) rfl) (sS (sA (sT1 rfl) (sA (sT1 rfl) sT0)) sB0 sF0) ?_
            refine AL_cons (LR_bin (at_tmp 62 _) (at_c (v' := I8 0) rfl) (neq_I8 (ncmp ((x4 * x4) * x2) x1) 0) rfl) (sS (sA (sT1 rfl) sT0) sB0 sF0) ?_
            refine AL_cons (bl181 (parts_cons (i := 0) (off := 0) (at_tmp 55 _) (cells_one (one_is rfl)) rfl rfl (parts_cons (i := 1) (off := 1) (at_tmp 63 _) (cells_one (one_is rfl)) rfl rfl parts_nil)) rfl rfl) (sS (sA (sT1 rfl) (sA (sT1 rfl) sT0)) sB0 sF0) ?_
            refine AL_cons (zl181 rfl) (sS sT0 sB0 (sF1 rfl)) ?_
            refine AL_cons (LR_store (at_tmp 18 _) (at_tmp 64 _) (cells_agg _) (onC (one_is rfl) (onC (one_is rfl) onN)) sz181 rfl rfl) (sS (sA (sT1 rfl) (sT1 rfl)) (sB1 rfl) sF0) ?_
            refine AL_nil ?_
            exact thenN (cutLeaf (v := (ncmp (x1 * 2 ^ (2#16).toNat) ((x5 * x5) * x2), (ncmp ((x4 * x4) * x2) x1) != 0)) hr (weak0 ((sT rfl (sT rfl (sT rfl (sT rfl sT0))))) (sub_keep (sub_keep sub_nil))))
          · rintro ⟨x6, x7⟩ hr
            show AW Hfaa.prog _ _ _ ⟨[(1, .inl (is (U8 a1))), (9, .inr (.inl (9, 0))), (15, .inl (big x4)), (18, .inr (.inl (18, 0)))], [(9, pb 181 [is (I8 0), is (Bl false)]), (18, pb 181 [is (I8 x6), is (Bl x7)])]⟩
            have hr : some r = F248_5 N a1 x4 x6 x7 := hr
            refine AW_cut (σ := Nat) (fun v => ⟨[(9, .inr (.inl (9, 0))), (15, .inl (big v)), (18, .inr (.inl (18, 0)))], [(9, pb 181 [is (I8 0), is (Bl false)]), (18, pb 181 [is (I8 x6), is (Bl x7)])]⟩) (fun v => some r = F248_6 N x6 x7 v) ?_ ?_
            · skip
              refine AW_cut (σ := Bool) (fun v => ⟨[(9, .inr (.inl (9, 0))), (15, .inl (big x4)), (18, .inr (.inl (18, 0))), (69, .inl (is (Bl v)))], [(9, pb 181 [is (I8 0), is (Bl false)]), (18, pb 181 [is (I8 x6), is (Bl x7)])]⟩) (fun v => some r = F248_7 N x4 x6 x7 v) ?_ ?_
              · skip
                obtain ⟨hg17, hr⟩ := guard_some hr
                obtain ⟨y5, hy5, hr⟩ := lt_some hr
                refine AW_draw mixed
                  (lrC (LR_move (at_tmp 1 _) rfl)
                  (lrC (LR_move (at_tmp 15 _) rfl)
                  (lrC (LR_call Hfaa.func278 rfl rfl (B278 x4 0 hg17) (all_cons (at_tmp 66 _) (all_cons (at_c (v' := I64 0) rfl) all_nil)) rfl)
                  (lrC (LR_loads (at_tmp 18 _) ag181 sz181 rfl rfl rfl)
                  (lrC (LR_call Hfaa.func358 rfl rfl (C358 a1 false (nbit x4 0) x6 x7 y5 hy5) (all_cons (at_tmp 65 _) (all_cons (at_c (v' := Bl false) rfl) (all_cons (at_tmp 67 _) (all_cons (at_tmp 68 _) all_nil)))) rfl)
                  lrN)))))
                  (by kernel_rfl)
                  (saC (sS (sT1 rfl) sB0 sF0) (saC (sS (sT1 rfl) sB0 sF0) (saC (sS (sA (sT1 rfl) (sA sT0 sT0)) sB0 sF0) (saC (sS (sT1 rfl) (sB1 rfl) sF0) (saC (sS (sA (sT1 rfl) (sA sT0 (sA (sT1 rfl) (sA (sT1 rfl) sT0)))) sB0 sF0) saN))))) ?_
                exact thenN (cutLeaf (v := y5) hr (weak0 ((sT rfl (sT rfl (sT rfl (sT rfl sT0))))) (sub_keep (sub_keep sub_nil))))
              · rintro x9 hr
                show AW Hfaa.prog _ _ _ ⟨[(9, .inr (.inl (9, 0))), (15, .inl (big x4)), (18, .inr (.inl (18, 0))), (69, .inl (is (Bl x9)))], [(9, pb 181 [is (I8 0), is (Bl false)]), (18, pb 181 [is (I8 x6), is (Bl x7)])]⟩
                have hr : some r = F248_7 N x4 x6 x7 x9 := hr
                refine AW_condT (b := x9) rfl (fun h => ?_) (fun h => ?_)
                · have hr := hr.trans (cond_t h)
                  clear h
                  refine AW_region ?_
                  refine AL_cons (LR_move (at_tmp 15 _) rfl) (sS (sT1 rfl) sB0 sF0) ?_
                  obtain ⟨hg16, hr⟩ := guard_some hr
                  refine AL_cons (LR_call Hfaa.func359 rfl rfl (B359 x4 hg16) (all_cons (at_tmp 70 _) all_nil) rfl) (sS (sA (sT1 rfl) sT0) sB0 sF0) ?_
                  refine AL_cons (LR_assign (at_tmp 71 _) rfl) (sS (sT1 rfl) sB0 sF0) ?_
                  refine AL_nil ?_
                  exact thenN (cutLeaf (v := x4 + 1) hr (weak0 ((sT rfl (sT rfl (sT rfl sT0)))) (sub_keep (sub_keep sub_nil))))
                · have hr := hr.trans (cond_f h)
                  clear h
                  refine AW_skip ?_
                  exact thenN (cutLeaf (v := x4) hr (weak0 ((sT rfl (sT rfl (sT rfl sT0)))) (sub_keep (sub_keep sub_nil))))
            · rintro x8 hr
              show AW Hfaa.prog _ _ _ ⟨[(9, .inr (.inl (9, 0))), (15, .inl (big x8)), (18, .inr (.inl (18, 0)))], [(9, pb 181 [is (I8 0), is (Bl false)]), (18, pb 181 [is (I8 x6), is (Bl x7)])]⟩
              have hr : some r = F248_6 N x6 x7 x8 := hr
              refine AW_seq1 ?_
              refine AW_draw mixed
                (lrC (LR_move (at_tmp 15 _) rfl)
                (lrC (LR_loads (at_tmp 18 _) ag181 sz181 rfl rfl rfl)
                (lrC (LR_assign (at_tmp 72 _) rfl)
                (lrC (LR_store (at_tmp 9 _) (at_tmp 73 _) (cells_agg _) (onC (one_is rfl) (onC (one_is rfl) onN)) sz181 rfl rfl)
                lrN))))
                (by kernel_rfl)
                (saC (sS (sT1 rfl) sB0 sF0) (saC (sS (sT1 rfl) (sB1 rfl) sF0) (saC (sS (sT1 rfl) sB0 sF0) (saC (sS (sA (sT1 rfl) (sT1 rfl)) (sB1 rfl) sF0) saN)))) ?_
              refine thenN ?_
              refine AW_ret ?_
              obtain rfl := Option.some.inj hr
              exact res2 rfl (rvT rfl) (rvC rfl rfl ag181 sz181 rfl)
/-- exact.SqrtFlags -/
def F132_10 (N : Nat) (a0_0 : BitVec 8) (a0_1 : BitVec 8) (a1 : BitVec 8) (x12 : Int) (x13 : Nat) (x14 : Int) (x15 : Bool) (x17 : Bool) : Option (BitVec 64 × BitVec 8) := bif lim x13 then lt (F249 a0_0 a0_1 a1 false x12 (BitVec.ofNat 64 x13) x14 x15 x17) fun y28 => some (y28.1, y28.2) else none
def F132_12 (N : Nat) (a0_0 : BitVec 8) (a0_1 : BitVec 8) (a1 : BitVec 8) (x12 : Int) (x13 : Nat) (x14 : Int) (x15 : Bool) (x19 : Nat) : Option (BitVec 64 × BitVec 8) := bif lim x19 then F132_10 N a0_0 a0_1 a1 x12 x13 x14 x15 ((blen x19 : Int) == (w64 ((w64 (a0_1.toNat : Int)) + 1))) else none
def F132_11 (N : Nat) (a0_0 : BitVec 8) (a0_1 : BitVec 8) (a1 : BitVec 8) (x2 : BitVec 64) (x3 : Bool) (x4 : Int) (x5 : Bool) (x6 : Nat) (x7 : Nat) (x11 : Int) (x12 : Int) (x13 : Nat) (x14 : Int) (x15 : Bool) (x16 : Bool) (x18 : Bool) : Option (BitVec 64 × BitVec 8) := bif x18 then (F248 N a0_0 a0_1 a1 x5 x6 x7 x11).bind fun y31 => F132_12 N a0_0 a0_1 a1 x12 x13 x14 x15 y31.1 else F132_10 N a0_0 a0_1 a1 x12 x13 x14 x15 x16
def F132_9 (N : Nat) (a0_0 : BitVec 8) (a0_1 : BitVec 8) (a1 : BitVec 8) (x2 : BitVec 64) (x3 : Bool) (x4 : Int) (x5 : Bool) (x6 : Nat) (x7 : Nat) (x11 : Int) (x12 : Int) (x13 : Nat) (x14 : Int) (x15 : Bool) (x16 : Bool) : Option (BitVec 64 × BitVec 8) := lt (F246 a0_0 a0_1) fun y32 => F132_11 N a0_0 a0_1 a1 x2 x3 x4 x5 x6 x7 x11 x12 x13 x14 x15 x16 (x11 == (w64 (y32 - 1)))
def F132_8 (N : Nat) (a0_0 : BitVec 8) (a0_1 : BitVec 8) (a1 : BitVec 8) (x2 : BitVec 64) (x3 : Bool) (x4 : Int) (x5 : Bool) (x6 : Nat) (x7 : Nat) (x11 : Int) (x12 : Int) (x13 : Nat) (x14 : Int) (x15 : Bool) : Option (BitVec 64 × BitVec 8) := lt (F246 a0_0 a0_1) fun y33 => F132_9 N a0_0 a0_1 a1 x2 x3 x4 x5 x6 x7 x11 x12 x13 x14 x15 (decide (x11 < y33))
def F132_7 (N : Nat) (a0_0 : BitVec 8) (a0_1 : BitVec 8) (a1 : BitVec 8) (x2 : BitVec 64) (x3 : Bool) (x4 : Int) (x5 : Bool) (x6 : Nat) (x7 : Nat) (x11 : Int) (x12 : Int) : Option (BitVec 64 × BitVec 8) := (F248 N a0_0 a0_1 a1 x5 x6 x7 x12).bind fun y34 => F132_8 N a0_0 a0_1 a1 x2 x3 x4 x5 x6 x7 x11 x12 y34.1 y34.2.1 y34.2.2
def F132_6 (N : Nat) (a0_0 : BitVec 8) (a0_1 : BitVec 8) (a1 : BitVec 8) (x2 : BitVec 64) (x3 : Bool) (x4 : Int) (x5 : Bool) (x6 : Nat) (x7 : Nat) (x11 : Int) : Option (BitVec 64 × BitVec 8) := lt (F246 a0_0 a0_1) fun y35 => F132_7 N a0_0 a0_1 a1 x2 x3 x4 x5 x6 x7 x11 (max x11 y35)
def F132_5 (N : Nat) (a0_0 : BitVec 8) (a0_1 : BitVec 8) (a1 : BitVec 8) (x2 : BitVec 64) (x3 : Bool) (x4 : Int) (x5 : Bool) (x6 : Nat) (x7 : Nat) (x10 : Bool) : Option (BitVec 64 × BitVec 8) := bif x10 then some (x2, 0#8) else lt (F246 a0_0 a0_1) fun y36 => lt (F247 a0_0 a0_1) fun y37 => (F207 N x6 x7 (w64 ((w64 (2 * y36)) - 200)) (w64 (2 * y37))).bind fun y38 => F132_6 N a0_0 a0_1 a1 x2 x3 x4 x5 x6 x7 (y38 / 2 ^ 1)
def F132_4 (N : Nat) (a0_0 : BitVec 8) (a0_1 : BitVec 8) (a1 : BitVec 8) (x2 : BitVec 64) (x3 : Bool) (x4 : Int) (x5 : Bool) (x6 : Nat) (x7 : Nat) (x9 : Bool) : Option (BitVec 64 × BitVec 8) := bif x9 then some (x2, 0#8) else bif x3 then lt (F66 a0_0 a0_1) fun y16 => some (y16, 1#8) else F132_5 N a0_0 a0_1 a1 x2 x3 x4 x5 x6 x7 (x4 == 3)
def F132_3 (N : Nat) (a0_0 : BitVec 8) (a0_1 : BitVec 8) (a1 : BitVec 8) (a2 : BitVec 64) (x2 : BitVec 64) (x3 : Bool) (x4 : Int) (x5 : Bool) (x6 : Nat) (x7 : Nat) (x8 : Bool) : Option (BitVec 64 × BitVec 8) := bif x8 then lt (F66 a0_0 a0_1) fun y13 => lt (F216 a0_0 a0_1 a2 a2) fun y14 => some (y13, y14) else F132_4 N a0_0 a0_1 a1 x2 x3 x4 x5 x6 x7 (x4 == 0)
def F132_2 (N : Nat) (a0_0 : BitVec 8) (a0_1 : BitVec 8) (a1 : BitVec 8) (a2 : BitVec 64) (x2 : BitVec 64) (x3 : Bool) (x4 : Int) (x5 : Bool) (x6 : Nat) (x7 : Nat) : Option (BitVec 64 × BitVec 8) := F132_3 N a0_0 a0_1 a1 a2 x2 x3 x4 x5 x6 x7 (x4 == 4)
def F132_1 (N : Nat) (a0_0 : BitVec 8) (a0_1 : BitVec 8) (a1 : BitVec 8) (a2 : BitVec 64) (x1 : Bool) : Option (BitVec 64 × BitVec 8) := bif x1 then some (0#64, 0#8) else (F144 N a0_0 a0_1 a2).bind fun y39 => F132_2 N a0_0 a0_1 a1 a2 y39.1 y39.2.1 y39.2.2.1 y39.2.2.2.1 y39.2.2.2.2.1 y39.2.2.2.2.2
def F132 (N : Nat) (a0_0 : BitVec 8) (a0_1 : BitVec 8) (a1 : BitVec 8) (a2 : BitVec 64) : Option (BitVec 64 × BitVec 8) := lt (F40 a0_0 a0_1) fun y40 => F132_1 N a0_0 a0_1 a1 a2 (!y40)
theorem C132 (N : Nat) (a0_0 : BitVec 8) (a0_1 : BitVec 8) (a1 : BitVec 8) (a2 : BitVec 64) (r : BitVec 64 × BitVec 8) (hr : some r = F132 N a0_0 a0_1 a1 a2) : Aw.Fn Hfaa.prog 132 [agg [is (U8 a0_0), is (U8 a0_1)], is (U8 a1), is (U64 a2)] (tup [is (U64 r.1), is (U8 r.2)]) := by
  refine fn_intro Hfaa.func132 rfl rfl rfl ?_
  intro bn0 w0 H0
  refine AW_seq1 ?_
  refine AW_region ?_
  refine AL_cons (LR_box (at_tmp 0 _) (cells_agg _) rfl) (sS (sT1 rfl) sB0 (sF1 rfl)) ?_
  refine AL_cons (LR_assign (at_c (v' := U64 (0#64)) rfl) rfl) (sS sT0 sB0 sF0) ?_
  refine AL_cons (LR_assign (at_c (v' := U8 (0#8)) rfl) rfl) (sS sT0 sB0 sF0) ?_
  refine AL_nil ?_
  refine thenN ?_
  refine AW_seq1 ?_
  refine AW_cut (σ := Bool) (fun v => ⟨[(1, .inl (is (U8 a1))), (2, .inl (is (U64 a2))), (3, .inr (.inl (3, 0))), (18, .inl (is (Bl v)))], [(3, pb 23 [is (U8 a0_0), is (U8 a0_1)])]⟩) (fun v => some r = F132_1 N a0_0 a0_1 a1 a2 v) ?_ ?_
  · skip
    refine AW_region ?_
    refine AL_cons (LR_loads (at_tmp 3 _) ag23 sz23 rfl rfl rfl) (sS (sT1 rfl) (sB1 rfl) sF0) ?_
    obtain ⟨y40, hy40, hr⟩ := lt_some hr
    refine AL_cons (LR_call Hfaa.func40 rfl rfl (C40 a0_0 a0_1 y40 hy40) (all_cons (at_tmp 16 _) all_nil) rfl) (sS (sA (sT1 rfl) sT0) sB0 sF0) ?_
    refine AL_cons (LR_un (at_tmp 17 _) (not_Bl y40) rfl) (sS (sT1 rfl) sB0 sF0) ?_
    refine AL_nil ?_
    exact thenN (cutLeaf (v := !y40) hr (weak0 ((sT rfl (sT rfl (sT rfl (sT rfl sT0))))) (sub_keep sub_nil)))
  · rintro x1 hr
    show AW Hfaa.prog _ _ _ ⟨[(1, .inl (is (U8 a1))), (2, .inl (is (U64 a2))), (3, .inr (.inl (3, 0))), (18, .inl (is (Bl x1)))], [(3, pb 23 [is (U8 a0_0), is (U8 a0_1)])]⟩
    have hr : some r = F132_1 N a0_0 a0_1 a1 a2 x1 := hr
    refine AW_condT (b := x1) rfl (fun h => ?_) (fun h => ?_)
    · have hr := hr.trans (cond_t h)
      clear h
      refine AW_seq1 ?_
      refine AW_region ?_
      refine AL_cons (LR_assign (at_c (v' := U64 (0#64)) rfl) rfl) (sS sT0 sB0 sF0) ?_
      refine AL_cons (LR_assign (at_c (v' := U8 (0#8)) rfl) rfl) (sS sT0 sB0 sF0) ?_
      refine AL_nil ?_
      refine thenN ?_
      refine AW_ret ?_
      refine thenR ?_
      obtain rfl := Option.some.inj hr
      exact res2 rfl (rvT rfl) (rvT rfl)
    · have hr := hr.trans (cond_f h)
      clear h
      refine AW_skip ?_
      refine thenN ?_
      refine AW_cut (σ := BitVec 64 × Bool × Int × Bool × Nat × Nat) (fun v => ⟨[(1, .inl (is (U8 a1))), (2, .inl (is (U64 a2))), (3, .inr (.inl (3, 0))), (8, .inr (.inl (8, 0)))], [(3, pb 23 [is (U8 a0_0), is (U8 a0_1)]), (8, pb 175 [is (U64 v.1), is (Bl v.2.1), is (I8 v.2.2.1), is (Bl v.2.2.2.1), big v.2.2.2.2.1, big v.2.2.2.2.2])]⟩) (fun v => some r = F132_2 N a0_0 a0_1 a1 a2 v.1 v.2.1 v.2.2.1 v.2.2.2.1 v.2.2.2.2.1 v.2.2.2.2.2) ?_ ?_
      · skip
        refine AW_region ?_
        refine AL_cons (LR_loads (at_tmp 3 _) ag23 sz23 rfl rfl rfl) (sS (sT1 rfl) (sB1 rfl) sF0) ?_
        refine AL_cons (LR_move (at_tmp 2 _) rfl) (sS (sT1 rfl) sB0 sF0) ?_
        obtain ⟨y39, hy39, hr⟩ := bind_some hr
        refine AL_cons (LR_call Hfaa.func144 rfl rfl (C144 N a0_0 a0_1 a2 y39 hy39) (all_cons (at_tmp 19 _) (all_cons (at_tmp 20 _) all_nil)) rfl) (sS (sA (sT1 rfl) (sA (sT1 rfl) sT0)) sB0 sF0) ?_
        refine AL_cons (zl175 rfl) (sS sT0 sB0 (sF1 rfl)) ?_
        refine AL_cons (LR_store (at_tmp 8 _) (at_tmp 21 _) (cells_agg _) (onC (one_is rfl) (onC (one_is rfl) (onC (one_is rfl) (onC (one_is rfl) (onC (one_big _) (onC (one_big _) onN)))))) sz175 rfl rfl) (sS (sA (sT1 rfl) (sT1 rfl)) (sB1 rfl) sF0) ?_
        refine AL_nil ?_
        exact thenN (cutLeaf (v := (y39.1, y39.2.1, y39.2.2.1, y39.2.2.2.1, y39.2.2.2.2.1, y39.2.2.2.2.2)) hr (weak0 ((sT rfl (sT rfl (sT rfl (sT rfl sT0))))) (sub_keep (sub_keep sub_nil))))
      · rintro ⟨x2, x3, x4, x5, x6, x7⟩ hr
        show AW Hfaa.prog _ _ _ ⟨[(1, .inl (is (U8 a1))), (2, .inl (is (U64 a2))), (3, .inr (.inl (3, 0))), (8, .inr (.inl (8, 0)))], [(3, pb 23 [is (U8 a0_0), is (U8 a0_1)]), (8, pb 175 [is (U64 x2), is (Bl x3), is (I8 x4), is (Bl x5), big x6, big x7])]⟩
        have hr : some r = F132_2 N a0_0 a0_1 a1 a2 x2 x3 x4 x5 x6 x7 := hr
        refine AW_seq1 ?_
        refine AW_block ?_
        refine AW_cut (σ := Bool) (fun v => ⟨[(1, .inl (is (U8 a1))), (2, .inl (is (U64 a2))), (3, .inr (.inl (3, 0))), (8, .inr (.inl (8, 0))), (22, .inl (is (Bl v)))], [(3, pb 23 [is (U8 a0_0), is (U8 a0_1)]), (8, pb 175 [is (U64 x2), is (Bl x3), is (I8 x4), is (Bl x5), big x6, big x7])]⟩) (fun v => some r = F132_3 N a0_0 a0_1 a1 a2 x2 x3 x4 x5 x6 x7 v) ?_ ?_
        · skip
          refine AW_region ?_
          refine AL_cons (LR_fieldAddr (off := 0) (o := 2) (at_tmp 8 _) (fun b w => fa175_2 b 0 w) rfl) (sS (sT1 rfl) sB0 sF0) ?_
          refine AL_cons (LR_load (at_tmp 23 _) na110 rfl rfl) (sS (sT1 rfl) (sB1 rfl) sF0) ?_
          refine AL_cons (LR_bin (at_tmp 24 _) (at_c (v' := I8 4) rfl) (eql_I8 x4 4) rfl) (sS (sA (sT1 rfl) sT0) sB0 sF0) ?_
          refine AL_cons (LR_assign (at_tmp 25 _) rfl) (sS (sT1 rfl) sB0 sF0) ?_
          refine AL_nil ?_
          exact thenN (cutLeaf (v := x4 == 4) hr (weak0 ((sT rfl (sT rfl (sT rfl (sT rfl (sT rfl sT0)))))) (sub_keep (sub_keep sub_nil))))
        · rintro x8 hr
          show AW Hfaa.prog _ _ _ ⟨[(1, .inl (is (U8 a1))), (2, .inl (is (U64 a2))), (3, .inr (.inl (3, 0))), (8, .inr (.inl (8, 0))), (22, .inl (is (Bl x8)))], [(3, pb 23 [is (U8 a0_0), is (U8 a0_1)]), (8, pb 175 [is (U64 x2), is (Bl x3), is (I8 x4), is (Bl x5), big x6, big x7])]⟩
          have hr : some r = F132_3 N a0_0 a0_1 a1 a2 x2 x3 x4 x5 x6 x7 x8 := hr
          refine AW_condT (b := x8) rfl (fun h => ?_) (fun h => ?_)
          · have hr := hr.trans (cond_t h)
            clear h
            refine AW_seq1 ?_
            obtain ⟨y13, hy13, hr⟩ := lt_some hr
            obtain ⟨y14, hy14, hr⟩ := lt_some hr
            refine AW_draw mixed
              (lrC (LR_loads (at_tmp 3 _) ag23 sz23 rfl rfl rfl)
              (lrC (LR_call Hfaa.func66 rfl rfl (C66 a0_0 a0_1 y13 hy13) (all_cons (at_tmp 26 _) all_nil) rfl)
              (lrC (LR_loads (at_tmp 3 _) ag23 sz23 rfl rfl rfl)
              (lrC (LR_move (at_tmp 2 _) rfl)
              (lrC (LR_move (at_tmp 2 _) rfl)
              (lrC (LR_call Hfaa.func216 rfl rfl (C216 a0_0 a0_1 a2 a2 y14 hy14) (all_cons (at_tmp 28 _) (all_cons (at_tmp 29 _) (all_cons (at_tmp 30 _) all_nil))) rfl)
              (lrC (LR_assign (at_tmp 27 _) rfl)
              (lrC (LR_assign (at_tmp 31 _) rfl)
              lrN))))))))
              (by kernel_rfl)
              (saC (sS (sT1 rfl) (sB1 rfl) sF0) (saC (sS (sA (sT1 rfl) sT0) sB0 sF0) (saC (sS (sT1 rfl) (sB1 rfl) sF0) (saC (sS (sT1 rfl) sB0 sF0) (saC (sS (sT1 rfl) sB0 sF0) (saC (sS (sA (sT1 rfl) (sA (sT1 rfl) (sA (sT1 rfl) sT0))) sB0 sF0) (saC (sS (sT1 rfl) sB0 sF0) (saC (sS (sT1 rfl) sB0 sF0) saN)))))))) ?_
            refine thenN ?_
            refine AW_ret ?_
            refine blR ?_
            refine thenR ?_
            obtain rfl := Option.some.inj hr
            exact res2 rfl (rvT rfl) (rvT rfl)
          · have hr := hr.trans (cond_f h)
            clear h
            refine AW_cut (σ := Bool) (fun v => ⟨[(1, .inl (is (U8 a1))), (3, .inr (.inl (3, 0))), (8, .inr (.inl (8, 0))), (32, .inl (is (Bl v)))], [(3, pb 23 [is (U8 a0_0), is (U8 a0_1)]), (8, pb 175 [is (U64 x2), is (Bl x3), is (I8 x4), is (Bl x5), big x6, big x7])]⟩) (fun v => some r = F132_4 N a0_0 a0_1 a1 x2 x3 x4 x5 x6 x7 v) ?_ ?_
            · skip
              refine AW_region ?_
              refine AL_cons (LR_fieldAddr (off := 0) (o := 2) (at_tmp 8 _) (fun b w => fa175_2 b 0 w) rfl) (sS (sT1 rfl) sB0 sF0) ?_
              refine AL_cons (LR_load (at_tmp 33 _) na110 rfl rfl) (sS (sT1 rfl) (sB1 rfl) sF0) ?_
              refine AL_cons (LR_bin (at_tmp 34 _) (at_c (v' := I8 0) rfl) (eql_I8 x4 0) rfl) (sS (sA (sT1 rfl) sT0) sB0 sF0) ?_
              refine AL_cons (LR_assign (at_tmp 35 _) rfl) (sS (sT1 rfl) sB0 sF0) ?_
              refine AL_nil ?_
              exact thenN (cutLeaf (v := x4 == 0) hr (weak0 ((sT rfl (sT rfl (sT rfl (sT rfl sT0))))) (sub_keep (sub_keep sub_nil))))
            · rintro x9 hr
              show AW Hfaa.prog _ _ _ ⟨[(1, .inl (is (U8 a1))), (3, .inr (.inl (3, 0))), (8, .inr (.inl (8, 0))), (32, .inl (is (Bl x9)))], [(3, pb 23 [is (U8 a0_0), is (U8 a0_1)]), (8, pb 175 [is (U64 x2), is (Bl x3), is (I8 x4), is (Bl x5), big x6, big x7])]⟩
              have hr : some r = F132_4 N a0_0 a0_1 a1 x2 x3 x4 x5 x6 x7 x9 := hr
              refine AW_condT (b := x9) rfl (fun h => ?_) (fun h => ?_)
              · have hr := hr.trans (cond_t h)
                clear h
                refine AW_seq1 ?_
                refine AW_region ?_
                refine AL_cons (LR_fieldAddr (off := 0) (o := 0) (at_tmp 8 _) (fun b w => fa175_0 b 0 w) rfl) (sS (sT1 rfl) sB0 sF0) ?_
                refine AL_cons (LR_load (at_tmp 36 _) na30 rfl rfl) (sS (sT1 rfl) (sB1 rfl) sF0) ?_
                refine AL_cons (LR_assign (at_tmp 37 _) rfl) (sS (sT1 rfl) sB0 sF0) ?_
                refine AL_cons (LR_assign (at_c (v' := U8 (0#8)) rfl) rfl) (sS sT0 sB0 sF0) ?_
                refine AL_nil ?_
                refine thenN ?_
                refine AW_ret ?_
                refine blR ?_
                refine thenR ?_
                obtain rfl := Option.some.inj hr
                exact res2 rfl (rvT rfl) (rvT rfl)
              · have hr := hr.trans (cond_f h)
                clear h
                refine AW_seq1 ?_
                refine AW_region ?_
                refine AL_cons (LR_fieldAddr (off := 0) (o := 1) (at_tmp 8 _) (fun b w => fa175_1 b 0 w) rfl) (sS (sT1 rfl) sB0 sF0) ?_
                refine AL_cons (LR_load (at_tmp 39 _) na4 rfl rfl) (sS (sT1 rfl) (sB1 rfl) sF0) ?_
                refine AL_cons (LR_assign (at_tmp 40 _) rfl) (sS (sT1 rfl) sB0 sF0) ?_
                refine AL_nil ?_
                refine thenN ?_
                refine AW_condT (b := x3) rfl (fun h => ?_) (fun h => ?_)
                · have hr := hr.trans (cond_t h)
                  clear h
                  refine AW_seq1 ?_
                  refine AW_region ?_
                  refine AL_cons (LR_loads (at_tmp 3 _) ag23 sz23 rfl rfl rfl) (sS (sT1 rfl) (sB1 rfl) sF0) ?_
                  obtain ⟨y16, hy16, hr⟩ := lt_some hr
                  refine AL_cons (LR_call Hfaa.func66 rfl rfl (C66 a0_0 a0_1 y16 hy16) (all_cons (at_tmp 41 _) all_nil) rfl) (sS (sA (sT1 rfl) sT0) sB0 sF0) ?_
                  refine AL_cons (LR_assign (at_tmp 42 _) rfl) (sS (sT1 rfl) sB0 sF0) ?_
                  refine AL_cons (LR_assign (at_c (v' := U8 (1#8)) rfl) rfl) (sS sT0 sB0 sF0) ?_
                  refine AL_nil ?_
                  refine thenN ?_
                  refine AW_ret ?_
                  refine blR ?_
                  refine thenR ?_
                  obtain rfl := Option.some.inj hr
                  exact res2 rfl (rvT rfl) (rvT rfl)
                · have hr := hr.trans (cond_f h)
                  clear h
                  refine AW_cut (σ := Bool) (fun v => ⟨[(1, .inl (is (U8 a1))), (3, .inr (.inl (3, 0))), (8, .inr (.inl (8, 0))), (43, .inl (is (Bl v)))], [(3, pb 23 [is (U8 a0_0), is (U8 a0_1)]), (8, pb 175 [is (U64 x2), is (Bl x3), is (I8 x4), is (Bl x5), big x6, big x7])]⟩) (fun v => some r = F132_5 N a0_0 a0_1 a1 x2 x3 x4 x5 x6 x7 v) ?_ ?_
                  · skip
                    refine AW_region ?_
                    refine AL_cons (LR_fieldAddr (off := 0) (o := 2) (at_tmp 8 _) (fun b w => fa175_2 b 0 w) rfl) (sS (sT1 rfl) sB0 sF0) ?_
                    refine AL_cons (LR_load (at_tmp 44 _) na110 rfl rfl) (sS (sT1 rfl) (sB1 rfl) sF0) ?_
                    refine AL_cons (LR_bin (at_tmp 45 _) (at_c (v' := I8 3) rfl) (eql_I8 x4 3) rfl) (sS (sA (sT1 rfl) sT0) sB0 sF0) ?_
                    refine AL_cons (LR_assign (at_tmp 46 _) rfl) (sS (sT1 rfl) sB0 sF0) ?_
                    refine AL_nil ?_
                    exact thenN (cutLeaf (v := x4 == 3) hr (weak0 ((sT rfl (sT rfl (sT rfl (sT rfl sT0))))) (sub_keep (sub_keep sub_nil))))
                  · rintro x10 hr
                    show AW Hfaa.prog _ _ _ ⟨[(1, .inl (is (U8 a1))), (3, .inr (.inl (3, 0))), (8, .inr (.inl (8, 0))), (43, .inl (is (Bl x10)))], [(3, pb 23 [is (U8 a0_0), is (U8 a0_1)]), (8, pb 175 [is (U64 x2), is (Bl x3), is (I8 x4), is (Bl x5), big x6, big x7])]⟩
                    have hr : some r = F132_5 N a0_0 a0_1 a1 x2 x3 x4 x5 x6 x7 x10 := hr
                    refine AW_condT (b := x10) rfl (fun h => ?_) (fun h => ?_)
                    · have hr := hr.trans (cond_t h)
                      clear h
                      refine AW_seq1 ?_
                      refine AW_region ?_
                      refine AL_cons (LR_fieldAddr (off := 0) (o := 0) (at_tmp 8 _) (fun b w => fa175_0 b 0 w) rfl) (sS (sT1 rfl) sB0 sF0) ?_
                      refine AL_cons (LR_load (at_tmp 47 _) na30 rfl rfl) (sS (sT1 rfl) (sB1 rfl) sF0) ?_
                      refine AL_cons (LR_assign (at_tmp 48 _) rfl) (sS (sT1 rfl) sB0 sF0) ?_
                      refine AL_cons (LR_assign (at_c (v' := U8 (0#8)) rfl) rfl) (sS sT0 sB0 sF0) ?_
                      refine AL_nil ?_
                      refine thenN ?_
                      refine AW_ret ?_
                      refine blR ?_
                      refine thenR ?_
                      obtain rfl := Option.some.inj hr
                      exact res2 rfl (rvT rfl) (rvT rfl)
                    · have hr := hr.trans (cond_f h)
                      clear h
                      refine AW_skip ?_
                      refine blN ?_
                      refine thenN ?_
                      refine AW_cut (σ := Int) (fun v => ⟨[(1, .inl (is (U8 a1))), (3, .inr (.inl (3, 0))), (8, .inr (.inl (8, 0))), (9, .inl (is (I64 v)))], [(3, pb 23 [is (U8 a0_0), is (U8 a0_1)]), (8, pb 175 [is (U64 x2), is (Bl x3), is (I8 x4), is (Bl x5), big x6, big x7])]⟩) (fun v => some r = F132_6 N a0_0 a0_1 a1 x2 x3 x4 x5 x6 x7 v) ?_ ?_
                      · skip
                        obtain ⟨y36, hy36, hr⟩ := lt_some hr
                        obtain ⟨y37, hy37, hr⟩ := lt_some hr
                        obtain ⟨y38, hy38, hr⟩ := bind_some hr
                        refine AW_draw mixed
                          (lrC (LR_fieldAddr (off := 0) (o := 3) (at_tmp 8 _) (fun b w => fa175_3 b 0 w) rfl)
                          (lrC (LR_fieldAddr (off := 3) (o := 4) (at_tmp 49 _) (fun b w => fa119_1 b 3 w) rfl)
                          (lrC (LR_load (at_tmp 50 _) na49 rfl rfl)
                          (lrC (LR_fieldAddr (off := 0) (o := 3) (at_tmp 8 _) (fun b w => fa175_3 b 0 w) rfl)
                          (lrC (LR_fieldAddr (off := 3) (o := 5) (at_tmp 52 _) (fun b w => fa119_2 b 3 w) rfl)
                          (lrC (LR_load (at_tmp 53 _) na49 rfl rfl)
                          (lrC (LR_loads (at_tmp 3 _) ag23 sz23 rfl rfl rfl)
                          (lrC (LR_call Hfaa.func246 rfl rfl (C246 a0_0 a0_1 y36 hy36) (all_cons (at_tmp 55 _) all_nil) rfl)
                          (lrC (LR_bin (at_c (v' := I64 2) rfl) (at_tmp 56 _) (mul_I64 2 y36) rfl)
                          (lrC (LR_bin (at_tmp 57 _) (at_c (v' := I64 200) rfl) (sub_I64 (w64 (2 * y36)) 200) rfl)
                          (lrC (LR_loads (at_tmp 3 _) ag23 sz23 rfl rfl rfl)
                          (lrC (LR_call Hfaa.func247 rfl rfl (C247 a0_0 a0_1 y37 hy37) (all_cons (at_tmp 59 _) all_nil) rfl)
                          (lrC (LR_bin (at_c (v' := I64 2) rfl) (at_tmp 60 _) (mul_I64 2 y37) rfl)
                          (lrC (LR_call Hfaa.func207 rfl rfl (C207 N x6 x7 (w64 ((w64 (2 * y36)) - 200)) (w64 (2 * y37)) y38 hy38) (all_cons (at_tmp 51 _) (all_cons (at_tmp 54 _) (all_cons (at_tmp 58 _) (all_cons (at_tmp 61 _) all_nil)))) rfl)
                          (lrC (LR_bin (at_tmp 62 _) (at_c (v' := U64 (1#64)) rfl) (shr_I64 y38 ((1#64).toNat : Int) (Int.natCast_nonneg _) (by decide)) rfl)
                          (lrC (LR_assign (at_tmp 63 _) rfl)
                          lrN))))))))))))))))
                          (by kernel_rfl)
                          (saC (sS (sT1 rfl) sB0 sF0) (saC (sS (sT1 rfl) sB0 sF0) (saC (sS (sT1 rfl) (sB1 rfl) sF0) (saC (sS (sT1 rfl) sB0 sF0) (saC (sS (sT1 rfl) sB0 sF0) (saC (sS (sT1 rfl) (sB1 rfl) sF0) (saC (sS (sT1 rfl) (sB1 rfl) sF0) (saC (sS (sA (sT1 rfl) sT0) sB0 sF0) (saC (sS (sA sT0 (sT1 rfl)) sB0 sF0) (saC (sS (sA (sT1 rfl) sT0) sB0 sF0) (saC (sS (sT1 rfl) (sB1 rfl) sF0) (saC (sS (sA (sT1 rfl) sT0) sB0 sF0) (saC (sS (sA sT0 (sT1 rfl)) sB0 sF0) (saC (sS (sA (sT1 rfl) (sA (sT1 rfl) (sA (sT1 rfl) (sA (sT1 rfl) sT0)))) sB0 sF0) (saC (sS (sA (sT1 rfl) sT0) sB0 sF0) (saC (sS (sT1 rfl) sB0 sF0) saN)))))))))))))))) ?_
                        exact thenN (cutLeaf (v := y38 / 2 ^ 1) hr (weak0 ((sT rfl (sT rfl (sT rfl (sT rfl sT0))))) (sub_keep (sub_keep sub_nil))))
                      · rintro x11 hr
                        show AW Hfaa.prog _ _ _ ⟨[(1, .inl (is (U8 a1))), (3, .inr (.inl (3, 0))), (8, .inr (.inl (8, 0))), (9, .inl (is (I64 x11)))], [(3, pb 23 [is (U8 a0_0), is (U8 a0_1)]), (8, pb 175 [is (U64 x2), is (Bl x3), is (I8 x4), is (Bl x5), big x6, big x7])]⟩
                        have hr : some r = F132_6 N a0_0 a0_1 a1 x2 x3 x4 x5 x6 x7 x11 := hr
                        refine AW_cut (σ := Int) (fun v => ⟨[(1, .inl (is (U8 a1))), (3, .inr (.inl (3, 0))), (8, .inr (.inl (8, 0))), (9, .inl (is (I64 x11))), (10, .inl (is (I64 v)))], [(3, pb 23 [is (U8 a0_0), is (U8 a0_1)]), (8, pb 175 [is (U64 x2), is (Bl x3), is (I8 x4), is (Bl x5), big x6, big x7])]⟩) (fun v => some r = F132_7 N a0_0 a0_1 a1 x2 x3 x4 x5 x6 x7 x11 v) ?_ ?_
                        · skip
                          refine AW_region ?_
                          refine AL_cons (LR_move (at_tmp 9 _) rfl) (sS (sT1 rfl) sB0 sF0) ?_
                          refine AL_cons (LR_loads (at_tmp 3 _) ag23 sz23 rfl rfl rfl) (sS (sT1 rfl) (sB1 rfl) sF0) ?_
                          obtain ⟨y35, hy35, hr⟩ := lt_some hr
                          refine AL_cons (LR_call Hfaa.func246 rfl rfl (C246 a0_0 a0_1 y35 hy35) (all_cons (at_tmp 65 _) all_nil) rfl) (sS (sA (sT1 rfl) sT0) sB0 sF0) ?_
                          refine AL_cons (LR_bi2 (vx := I64 x11) (vy := I64 y35) (v := I64 (max x11 y35)) (at_tmp 64 _) (at_tmp 66 _) (fun cs w => max_I .i64 x11 y35 cs w) rfl) (sS (sA (sT1 rfl) (sT1 rfl)) sB0 sF0) ?_
                          refine AL_cons (LR_assign (at_tmp 67 _) rfl) (sS (sT1 rfl) sB0 sF0) ?_
                          refine AL_nil ?_
                          exact thenN (cutLeaf (v := max x11 y35) hr (weak0 ((sT rfl (sT rfl (sT rfl (sT rfl (sT rfl sT0)))))) (sub_keep (sub_keep sub_nil))))
                        · rintro x12 hr
                          show AW Hfaa.prog _ _ _ ⟨[(1, .inl (is (U8 a1))), (3, .inr (.inl (3, 0))), (8, .inr (.inl (8, 0))), (9, .inl (is (I64 x11))), (10, .inl (is (I64 x12)))], [(3, pb 23 [is (U8 a0_0), is (U8 a0_1)]), (8, pb 175 [is (U64 x2), is (Bl x3), is (I8 x4), is (Bl x5), big x6, big x7])]⟩
                          have hr : some r = F132_7 N a0_0 a0_1 a1 x2 x3 x4 x5 x6 x7 x11 x12 := hr
                          refine AW_cut (σ := Nat × Int × Bool) (fun v => ⟨[(1, .inl (is (U8 a1))), (3, .inr (.inl (3, 0))), (8, .inr (.inl (8, 0))), (9, .inl (is (I64 x11))), (10, .inl (is (I64 x12))), (12, .inr (.inl (12, 0))), (11, .inl (big v.1))], [(3, pb 23 [is (U8 a0_0), is (U8 a0_1)]), (8, pb 175 [is (U64 x2), is (Bl x3), is (I8 x4), is (Bl x5), big x6, big x7]), (12, pb 181 [is (I8 v.2.1), is (Bl v.2.2)])]⟩) (fun v => some r = F132_8 N a0_0 a0_1 a1 x2 x3 x4 x5 x6 x7 x11 x12 v.1 v.2.1 v.2.2) ?_ ?_
                          · skip
                            refine AW_region ?_
                            refine AL_cons (LR_loads (at_tmp 3 _) ag23 sz23 rfl rfl rfl) (sS (sT1 rfl) (sB1 rfl) sF0) ?_
                            refine AL_cons (LR_move (at_tmp 1 _) rfl) (sS (sT1 rfl) sB0 sF0) ?_
                            refine AL_cons (LR_fieldAddr (off := 0) (o := 3) (at_tmp 8 _) (fun b w => fa175_3 b 0 w) rfl) (sS (sT1 rfl) sB0 sF0) ?_
                            refine AL_cons (LR_loads (at_tmp 71 _) ag119 sz119 rfl rfl rfl) (sS (sT1 rfl) (sB1 rfl) sF0) ?_
                            refine AL_cons (LR_move (at_tmp 10 _) rfl) (sS (sT1 rfl) sB0 sF0) ?_
                            obtain ⟨y34, hy34, hr⟩ := bind_some hr
                            refine AL_cons (LR_call Hfaa.func248 rfl rfl (C248 N a0_0 a0_1 a1 x5 x6 x7 x12 y34 hy34) (all_cons (at_tmp 69 _) (all_cons (at_tmp 70 _) (all_cons (at_tmp 72 _) (all_cons (at_tmp 73 _) all_nil)))) rfl) (sS (sA (sT1 rfl) (sA (sT1 rfl) (sA (sT1 rfl) (sA (sT1 rfl) sT0)))) sB0 sF0) ?_
                            refine AL_cons (LR_move (at_tmp 74 _) rfl) (sS (sT1 rfl) sB0 sF0) ?_
                            refine AL_cons (LR_extract (at_tmp 68 _) rfl rfl) (sS (sT1 rfl) sB0 sF0) ?_
                            refine AL_cons (LR_extract (at_tmp 68 _) rfl rfl) (sS (sT1 rfl) sB0 sF0) ?_
                            refine AL_cons (zl181 rfl) (sS sT0 sB0 (sF1 rfl)) ?_
                            refine AL_cons (LR_assign (at_tmp 75 _) rfl) (sS (sT1 rfl) sB0 sF0) ?_
                            refine AL_cons (LR_store (at_tmp 12 _) (at_tmp 76 _) (cells_agg _) (onC (one_is rfl) (onC (one_is rfl) onN)) sz181 rfl rfl) (sS (sA (sT1 rfl) (sT1 rfl)) (sB1 rfl) sF0) ?_
                            refine AL_nil ?_
                            exact thenN (cutLeaf (v := (y34.1, y34.2.1, y34.2.2)) hr (weak0 ((sT rfl (sT rfl (sT rfl (sT rfl (sT rfl (sT rfl (sT rfl sT0)))))))) (sub_keep (sub_keep (sub_keep sub_nil)))))
                          · rintro ⟨x13, x14, x15⟩ hr
                            show AW Hfaa.prog _ _ _ ⟨[(1, .inl (is (U8 a1))), (3, .inr (.inl (3, 0))), (8, .inr (.inl (8, 0))), (9, .inl (is (I64 x11))), (10, .inl (is (I64 x12))), (12, .inr (.inl (12, 0))), (11, .inl (big x13))], [(3, pb 23 [is (U8 a0_0), is (U8 a0_1)]), (8, pb 175 [is (U64 x2), is (Bl x3), is (I8 x4), is (Bl x5), big x6, big x7]), (12, pb 181 [is (I8 x14), is (Bl x15)])]⟩
                            have hr : some r = F132_8 N a0_0 a0_1 a1 x2 x3 x4 x5 x6 x7 x11 x12 x13 x14 x15 := hr
                            refine AW_cut (σ := Bool) (fun v => ⟨[(1, .inl (is (U8 a1))), (3, .inr (.inl (3, 0))), (8, .inr (.inl (8, 0))), (9, .inl (is (I64 x11))), (10, .inl (is (I64 x12))), (12, .inr (.inl (12, 0))), (11, .inl (big x13)), (13, .inl (is (Bl v)))], [(3, pb 23 [is (U8 a0_0), is (U8 a0_1)]), (8, pb 175 [is (U64 x2), is (Bl x3), is (I8 x4), is (Bl x5), big x6, big x7]), (12, pb 181 [is (I8 x14), is (Bl x15)])]⟩) (fun v => some r = F132_9 N a0_0 a0_1 a1 x2 x3 x4 x5 x6 x7 x11 x12 x13 x14 x15 v) ?_ ?_
                            · skip
                              refine AW_region ?_
                              refine AL_cons (LR_move (at_tmp 9 _) rfl) (sS (sT1 rfl) sB0 sF0) ?_
                              refine AL_cons (LR_loads (at_tmp 3 _) ag23 sz23 rfl rfl rfl) (sS (sT1 rfl) (sB1 rfl) sF0) ?_
                              obtain ⟨y33, hy33, hr⟩ := lt_some hr
                              refine AL_cons (LR_call Hfaa.func246 rfl rfl (C246 a0_0 a0_1 y33 hy33) (all_cons (at_tmp 78 _) all_nil) rfl) (sS (sA (sT1 rfl) sT0) sB0 sF0) ?_
                              refine AL_cons (LR_bin (at_tmp 77 _) (at_tmp 79 _) (lss_I64 x11 y33) rfl) (sS (sA (sT1 rfl) (sT1 rfl)) sB0 sF0) ?_
                              refine AL_cons (LR_assign (at_tmp 80 _) rfl) (sS (sT1 rfl) sB0 sF0) ?_
                              refine AL_nil ?_
                              exact thenN (cutLeaf (v := decide (x11 < y33)) hr (weak0 ((sT rfl (sT rfl (sT rfl (sT rfl (sT rfl (sT rfl (sT rfl (sT rfl sT0))))))))) (sub_keep (sub_keep (sub_keep sub_nil)))))
                            · rintro x16 hr
                              show AW Hfaa.prog _ _ _ ⟨[(1, .inl (is (U8 a1))), (3, .inr (.inl (3, 0))), (8, .inr (.inl (8, 0))), (9, .inl (is (I64 x11))), (10, .inl (is (I64 x12))), (12, .inr (.inl (12, 0))), (11, .inl (big x13)), (13, .inl (is (Bl x16)))], [(3, pb 23 [is (U8 a0_0), is (U8 a0_1)]), (8, pb 175 [is (U64 x2), is (Bl x3), is (I8 x4), is (Bl x5), big x6, big x7]), (12, pb 181 [is (I8 x14), is (Bl x15)])]⟩
                              have hr : some r = F132_9 N a0_0 a0_1 a1 x2 x3 x4 x5 x6 x7 x11 x12 x13 x14 x15 x16 := hr
                              refine AW_cut (σ := Bool) (fun v => ⟨[(1, .inl (is (U8 a1))), (3, .inr (.inl (3, 0))), (10, .inl (is (I64 x12))), (12, .inr (.inl (12, 0))), (11, .inl (big x13)), (13, .inl (is (Bl v)))], [(3, pb 23 [is (U8 a0_0), is (U8 a0_1)]), (12, pb 181 [is (I8 x14), is (Bl x15)])]⟩) (fun v => some r = F132_10 N a0_0 a0_1 a1 x12 x13 x14 x15 v) ?_ ?_
                              · skip
                                refine AW_cut (σ := Bool) (fun v => ⟨[(1, .inl (is (U8 a1))), (3, .inr (.inl (3, 0))), (8, .inr (.inl (8, 0))), (9, .inl (is (I64 x11))), (10, .inl (is (I64 x12))), (12, .inr (.inl (12, 0))), (11, .inl (big x13)), (13, .inl (is (Bl x16))), (85, .inl (is (Bl v)))], [(3, pb 23 [is (U8 a0_0), is (U8 a0_1)]), (8, pb 175 [is (U64 x2), is (Bl x3), is (I8 x4), is (Bl x5), big x6, big x7]), (12, pb 181 [is (I8 x14), is (Bl x15)])]⟩) (fun v => some r = F132_11 N a0_0 a0_1 a1 x2 x3 x4 x5 x6 x7 x11 x12 x13 x14 x15 x16 v) ?_ ?_
                                · skip
                                  refine AW_region ?_
                                  refine AL_cons (LR_move (at_tmp 9 _) rfl) (sS (sT1 rfl) sB0 sF0) ?_
                                  refine AL_cons (LR_loads (at_tmp 3 _) ag23 sz23 rfl rfl rfl) (sS (sT1 rfl) (sB1 rfl) sF0) ?_
                                  obtain ⟨y32, hy32, hr⟩ := lt_some hr
                                  refine AL_cons (LR_call Hfaa.func246 rfl rfl (C246 a0_0 a0_1 y32 hy32) (all_cons (at_tmp 82 _) all_nil) rfl) (sS (sA (sT1 rfl) sT0) sB0 sF0) ?_
                                  refine AL_cons (LR_bin (at_tmp 83 _) (at_c (v' := I64 1) rfl) (sub_I64 y32 1) rfl) (sS (sA (sT1 rfl) sT0) sB0 sF0) ?_
                                  refine AL_cons (LR_bin (at_tmp 81 _) (at_tmp 84 _) (eql_I64 x11 (w64 (y32 - 1))) rfl) (sS (sA (sT1 rfl) (sT1 rfl)) sB0 sF0) ?_
                                  refine AL_nil ?_
                                  exact thenN (cutLeaf (v := x11 == (w64 (y32 - 1))) hr (weak0 ((sT rfl (sT rfl (sT rfl (sT rfl (sT rfl (sT rfl (sT rfl (sT rfl (sT rfl sT0)))))))))) (sub_keep (sub_keep (sub_keep sub_nil)))))
                                · rintro x18 hr
                                  show AW Hfaa.prog _ _ _ ⟨[(1, .inl (is (U8 a1))), (3, .inr (.inl (3, 0))), (8, .inr (.inl (8, 0))), (9, .inl (is (I64 x11))), (10, .inl (is (I64 x12))), (12, .inr (.inl (12, 0))), (11, .inl (big x13)), (13, .inl (is (Bl x16))), (85, .inl (is (Bl x18)))], [(3, pb 23 [is (U8 a0_0), is (U8 a0_1)]), (8, pb 175 [is (U64 x2), is (Bl x3), is (I8 x4), is (Bl x5), big x6, big x7]), (12, pb 181 [is (I8 x14), is (Bl x15)])]⟩
                                  have hr : some r = F132_11 N a0_0 a0_1 a1 x2 x3 x4 x5 x6 x7 x11 x12 x13 x14 x15 x16 x18 := hr
                                  refine AW_condT (b := x18) rfl (fun h => ?_) (fun h => ?_)
                                  · have hr := hr.trans (cond_t h)
                                    clear h
                                    refine AW_cut (σ := Nat) (fun v => ⟨[(1, .inl (is (U8 a1))), (3, .inr (.inl (3, 0))), (10, .inl (is (I64 x12))), (12, .inr (.inl (12, 0))), (11, .inl (big x13)), (14, .inl (big v))], [(3, pb 23 [is (U8 a0_0), is (U8 a0_1)]), (12, pb 181 [is (I8 x14), is (Bl x15)])]⟩) (fun v => some r = F132_12 N a0_0 a0_1 a1 x12 x13 x14 x15 v) ?_ ?_
                                    · skip
                                      refine AW_region ?_
                                      refine AL_cons (LR_loads (at_tmp 3 _) ag23 sz23 rfl rfl rfl) (sS (sT1 rfl) (sB1 rfl) sF0) ?_
                                      refine AL_cons (LR_move (at_tmp 1 _) rfl) (sS (sT1 rfl) sB0 sF0) ?_
                                      refine AL_cons (LR_fieldAddr (off := 0) (o := 3) (at_tmp 8 _) (fun b w => fa175_3 b 0 w) rfl) (sS (sT1 rfl) sB0 sF0) ?_
                                      refine AL_cons (LR_loads (at_tmp 89 _) ag119 sz119 rfl rfl rfl) (sS (sT1 rfl) (sB1 rfl) sF0) ?_
                                      refine AL_cons (LR_move (at_tmp 9 _) rfl) (sS (sT1 rfl) sB0 sF0) ?_
                                      obtain ⟨y31, hy31, hr⟩ := bind_some hr
                                      refine AL_cons (LR_call Hfaa.func248 rfl rfl (C248 N a0_0 a0_1 a1 x5 x6 x7 x11 y31 hy31) (all_cons (at_tmp 87 _) (all_cons (at_tmp 88 _) (all_cons (at_tmp 90 _) (all_cons (at_tmp 91 _) all_nil)))) rfl) (sS (sA (sT1 rfl) (sA (sT1 rfl) (sA (sT1 rfl) (sA (sT1 rfl) sT0)))) sB0 sF0) ?_
                                      refine AL_cons (LR_move (at_tmp 92 _) rfl) (sS (sT1 rfl) sB0 sF0) ?_
                                      refine AL_cons (LR_extract (at_tmp 86 _) rfl rfl) (sS (sT1 rfl) sB0 sF0) ?_
                                      refine AL_cons (LR_extract (at_tmp 86 _) rfl rfl) (sS (sT1 rfl) sB0 sF0) ?_
                                      refine AL_cons (zl181 rfl) (sS sT0 sB0 (sF1 rfl)) ?_
                                      refine AL_cons (LR_assign (at_tmp 93 _) rfl) (sS (sT1 rfl) sB0 sF0) ?_
                                      refine AL_cons (LR_store (at_tmp 15 _) (at_tmp 94 _) (cells_agg _) (onC (one_is rfl) (onC (one_is rfl) onN)) sz181 rfl rfl) (sS (sA (sT1 rfl) (sT1 rfl)) (sB1 rfl) sF0) ?_
                                      refine AL_nil ?_
                                      exact thenN (cutLeaf (v := y31.1) hr (weak0 ((sT rfl (sT rfl (sT rfl (sT rfl (sT rfl (sT rfl sT0))))))) (sub_keep (sub_drop (sub_keep (sub_drop sub_nil))))))
                                    · rintro x19 hr
                                      show AW Hfaa.prog _ _ _ ⟨[(1, .inl (is (U8 a1))), (3, .inr (.inl (3, 0))), (10, .inl (is (I64 x12))), (12, .inr (.inl (12, 0))), (11, .inl (big x13)), (14, .inl (big x19))], [(3, pb 23 [is (U8 a0_0), is (U8 a0_1)]), (12, pb 181 [is (I8 x14), is (Bl x15)])]⟩
                                      have hr : some r = F132_12 N a0_0 a0_1 a1 x12 x13 x14 x15 x19 := hr
                                      obtain ⟨hg4, hr⟩ := guard_some hr
                                      refine AW_draw mixed
                                        (lrC (LR_move (at_tmp 14 _) rfl)
                                        (lrC (LR_call Hfaa.func34 rfl rfl (B34 x19 hg4) (all_cons (at_tmp 95 _) all_nil) rfl)
                                        (lrC (LR_fieldAddr (off := 0) (o := 1) (at_tmp 3 _) (fun b w => fa23_1 b 0 w) rfl)
                                        (lrC (LR_load (at_tmp 97 _) na5 rfl rfl)
                                        (lrC (LR_conv (vx := U8 a0_1) (at_tmp 98 _) (conv_I64 Hfaa.underlying5 Hfaa.underlying3 (a0_1.toNat : Int)) rfl)
                                        (lrC (LR_bin (at_tmp 99 _) (at_c (v' := I64 1) rfl) (add_I64 (w64 (a0_1.toNat : Int)) 1) rfl)
                                        (lrC (LR_bin (at_tmp 96 _) (at_tmp 100 _) (eql_I64 (blen x19 : Int) (w64 ((w64 (a0_1.toNat : Int)) + 1))) rfl)
                                        (lrC (LR_assign (at_tmp 101 _) rfl)
                                        lrN))))))))
                                        (by kernel_rfl)
                                        (saC (sS (sT1 rfl) sB0 sF0) (saC (sS (sA (sT1 rfl) sT0) sB0 sF0) (saC (sS (sT1 rfl) sB0 sF0) (saC (sS (sT1 rfl) (sB1 rfl) sF0) (saC (sS (sT1 rfl) sB0 sF0) (saC (sS (sA (sT1 rfl) sT0) sB0 sF0) (saC (sS (sA (sT1 rfl) (sT1 rfl)) sB0 sF0) (saC (sS (sT1 rfl) sB0 sF0) saN)))))))) ?_
                                      exact thenN (cutLeaf (v := (blen x19 : Int) == (w64 ((w64 (a0_1.toNat : Int)) + 1))) hr (weak0 ((sT rfl (sT rfl (sT rfl (sT rfl (sT rfl (sT rfl sT0))))))) (sub_keep (sub_keep sub_nil))))
                                  · have hr := hr.trans (cond_f h)
                                    clear h
                                    refine AW_skip ?_
                                    exact thenN (cutLeaf (v := x16) hr (weak0 ((sT rfl (sT rfl (sT rfl (sT rfl (sT rfl (sT rfl sT0))))))) (sub_keep (sub_drop (sub_keep sub_nil)))))
                              · rintro x17 hr
                                show AW Hfaa.prog _ _ _ ⟨[(1, .inl (is (U8 a1))), (3, .inr (.inl (3, 0))), (10, .inl (is (I64 x12))), (12, .inr (.inl (12, 0))), (11, .inl (big x13)), (13, .inl (is (Bl x17)))], [(3, pb 23 [is (U8 a0_0), is (U8 a0_1)]), (12, pb 181 [is (I8 x14), is (Bl x15)])]⟩
                                have hr : some r = F132_10 N a0_0 a0_1 a1 x12 x13 x14 x15 x17 := hr
                                refine AW_seq1 ?_
                                obtain ⟨hg3, hr⟩ := guard_some hr
                                obtain ⟨y28, hy28, hr⟩ := lt_some hr
                                refine AW_draw mixed
                                  (lrC (LR_loads (at_tmp 3 _) ag23 sz23 rfl rfl rfl)
                                  (lrC (LR_move (at_tmp 1 _) rfl)
                                  (lrC (LR_move (at_tmp 10 _) rfl)
                                  (lrC (LR_move (at_tmp 11 _) rfl)
                                  (lrC (LR_call Hfaa.func210 rfl rfl (B210 x13 hg3) (all_cons (at_tmp 105 _) all_nil) rfl)
                                  (lrC (LR_loads (at_tmp 12 _) ag181 sz181 rfl rfl rfl)
                                  (lrC (LR_move (at_tmp 13 _) rfl)
                                  (lrC (LR_call Hfaa.func249 rfl rfl (C249 a0_0 a0_1 a1 false x12 (BitVec.ofNat 64 x13) x14 x15 x17 y28 hy28) (all_cons (at_tmp 102 _) (all_cons (at_tmp 103 _) (all_cons (at_c (v' := Bl false) rfl) (all_cons (at_tmp 104 _) (all_cons (at_tmp 106 _) (all_cons (at_tmp 107 _) (all_cons (at_tmp 108 _) all_nil))))))) rfl)
                                  (lrC (LR_extract (at_tmp 109 _) rfl rfl)
                                  (lrC (LR_extract (at_tmp 109 _) rfl rfl)
                                  (lrC (LR_assign (at_tmp 110 _) rfl)
                                  (lrC (LR_assign (at_tmp 111 _) rfl)
                                  lrN))))))))))))
                                  (by kernel_rfl)
                                  (saC (sS (sT1 rfl) (sB1 rfl) sF0) (saC (sS (sT1 rfl) sB0 sF0) (saC (sS (sT1 rfl) sB0 sF0) (saC (sS (sT1 rfl) sB0 sF0) (saC (sS (sA (sT1 rfl) sT0) sB0 sF0) (saC (sS (sT1 rfl) (sB1 rfl) sF0) (saC (sS (sT1 rfl) sB0 sF0) (saC (sS (sA (sT1 rfl) (sA (sT1 rfl) (sA sT0 (sA (sT1 rfl) (sA (sT1 rfl) (sA (sT1 rfl) (sA (sT1 rfl) sT0))))))) sB0 sF0) (saC (sS (sT1 rfl) sB0 sF0) (saC (sS (sT1 rfl) sB0 sF0) (saC (sS (sT1 rfl) sB0 sF0) (saC (sS (sT1 rfl) sB0 sF0) saN)))))))))))) ?_
                                refine thenN ?_
                                refine AW_ret ?_
                                obtain rfl := Option.some.inj hr
                                exact res2 rfl (rvT rfl) (rvT rfl)
/-- exact.Sqrt -/
def F74_1 (N : Nat) (x1 : BitVec 64) : Option (BitVec 64) := some x1
def F74 (N : Nat) (a0_0 : BitVec 8) (a0_1 : BitVec 8) (a1 : BitVec 8) (a2 : BitVec 64) : Option (BitVec 64) := (F132 N a0_0 a0_1 a1 a2).bind fun y2 => F74_1 N y2.1
theorem C74 (N : Nat) (a0_0 : BitVec 8) (a0_1 : BitVec 8) (a1 : BitVec 8) (a2 : BitVec 64) (r : BitVec 64) (hr : some r = F74 N a0_0 a0_1 a1 a2) : Aw.Fn Hfaa.prog 74 [agg [is (U8 a0_0), is (U8 a0_1)], is (U8 a1), is (U64 a2)] (is (U64 r)) := by
  refine fn_intro Hfaa.func74 rfl rfl rfl ?_
  intro bn0 w0 H0
  refine AW_seq1 ?_
  refine AW_region ?_
  refine AL_cons (LR_box (at_tmp 0 _) (cells_agg _) rfl) (sS (sT1 rfl) sB0 (sF1 rfl)) ?_
  refine AL_cons (LR_assign (at_c (v' := U64 (0#64)) rfl) rfl) (sS sT0 sB0 sF0) ?_
  refine AL_nil ?_
  refine thenN ?_
  refine AW_cut (σ := BitVec 64) (fun v => ⟨[(7, .inl (is (U64 v)))], []⟩) (fun v => some r = F74_1 N v) ?_ ?_
  · skip
    refine AW_region ?_
    refine AL_cons (LR_loads (at_tmp 3 _) ag23 sz23 rfl rfl rfl) (sS (sT1 rfl) (sB1 rfl) sF0) ?_
    refine AL_cons (LR_move (at_tmp 1 _) rfl) (sS (sT1 rfl) sB0 sF0) ?_
    refine AL_cons (LR_move (at_tmp 2 _) rfl) (sS (sT1 rfl) sB0 sF0) ?_
    obtain ⟨y2, hy2, hr⟩ := bind_some hr
    refine AL_cons (LR_call Hfaa.func132 rfl rfl (C132 N a0_0 a0_1 a1 a2 y2 hy2) (all_cons (at_tmp 10 _) (all_cons (at_tmp 11 _) (all_cons (at_tmp 12 _) all_nil))) rfl) (sS (sA (sT1 rfl) (sA (sT1 rfl) (sA (sT1 rfl) sT0))) sB0 sF0) ?_
    refine AL_cons (LR_move (at_tmp 13 _) rfl) (sS (sT1 rfl) sB0 sF0) ?_
    refine AL_cons (LR_extract (at_tmp 9 _) rfl rfl) (sS (sT1 rfl) sB0 sF0) ?_
    refine AL_cons (LR_extract (at_tmp 9 _) rfl rfl) (sS (sT1 rfl) sB0 sF0) ?_
    refine AL_cons (LR_assign (at_tmp 14 _) rfl) (sS (sT1 rfl) sB0 sF0) ?_
    refine AL_cons (LR_assign (at_tmp 15 _) rfl) (sS (sT1 rfl) sB0 sF0) ?_
    refine AL_nil ?_
    exact thenN (cutLeaf (v := y2.1) hr (weak0 ((sT rfl sT0)) (sub_drop sub_nil)))
  · rintro x1 hr
    show AW Hfaa.prog _ _ _ ⟨[(7, .inl (is (U64 x1)))], []⟩
    have hr : some r = F74_1 N x1 := hr
    refine AW_seq1 ?_
    refine AW_region ?_
    refine AL_cons (LR_move (at_tmp 7 _) rfl) (sS (sT1 rfl) sB0 sF0) ?_
    refine AL_cons (LR_assign (at_tmp 16 _) rfl) (sS (sT1 rfl) sB0 sF0) ?_
    refine AL_nil ?_
    refine thenN ?_
    refine AW_ret ?_
    obtain rfl := Option.some.inj hr
    exact res1 rfl (rvT rfl)
end Go.Proofs.YfwaawGreat
