import Derived.Test.YfwaawGreatG1
import Derived.Test.YfwaawGreatG2
import Derived.Test.YfwaawGreatG3
import Derived.Test.YfwaawGreatG8
import Derived.Test.YfwaawGreatG18
namespace Go.Proofs.YfwaawGreat
open Go.Aw
set_option linter.unusedVariables false
set_option maxRecDepth 100000
set_option maxHeartbeats 1000000
/-- exact.Hex -/
def F105_12 (N : Nat) (x11 : Int) (x17 : List UInt8) (x18 : Bool) : Option (List UInt8) := bif x18 then bif decide (x17.length + ([112, 45] : List UInt8).length ≤ 9223372036854775807) then (F170 N (w64 (0 - x11))).bind fun y15 => bif decide ((x17 ++ ([112, 45] : List UInt8)).length + y15.length ≤ 9223372036854775807) then some ((x17 ++ ([112, 45] : List UInt8)) ++ y15) else none else none else bif decide (x17.length + ([112, 43] : List UInt8).length ≤ 9223372036854775807) then (F170 N x11).bind fun y17 => bif decide ((x17 ++ ([112, 43] : List UInt8)).length + y17.length ≤ 9223372036854775807) then some ((x17 ++ ([112, 43] : List UInt8)) ++ y17) else none else none
def F105_11 (N : Nat) (x11 : Int) (x17 : List UInt8) : Option (List UInt8) := F105_12 N x11 x17 (decide (x11 < 0))
def F105_13 (N : Nat) (x11 : Int) (x15 : List UInt8) (x16 : List UInt8) (x19 : Bool) : Option (List UInt8) := bif x19 then bif decide (([46] : List UInt8).length + x15.length ≤ 9223372036854775807) then bif decide (x16.length + (([46] : List UInt8) ++ x15).length ≤ 9223372036854775807) then F105_11 N x11 (x16 ++ (([46] : List UInt8) ++ x15)) else none else none else F105_11 N x11 x16
def F105_10 (N : Nat) (x11 : Int) (x15 : List UInt8) (x16 : List UInt8) : Option (List UInt8) := F105_13 N x11 x15 x16 (x15 != ([] : List UInt8))
def F105_9 (N : Nat) (x8 : List UInt8) (x11 : Int) (x15 : List UInt8) : Option (List UInt8) := bif decide (x8.length + ([49] : List UInt8).length ≤ 9223372036854775807) then F105_10 N x11 x15 (x8 ++ ([49] : List UInt8)) else none
def F105_17 (N : Nat) (x8 : List UInt8) (x11 : Int) (x22 : BitVec 64) (x24 : List UInt8) : Option ((List UInt8 × BitVec 64) ⊕ (List UInt8)) := some (.inl ((x24, (x22 <<< 4) &&& (4503599627370495#64))))
def F105_16 (N : Nat) (x8 : List UInt8) (x11 : Int) (x21 : List UInt8) (x22 : BitVec 64) (x23 : Bool) : Option ((List UInt8 × BitVec 64) ⊕ (List UInt8)) := bif x23 then (F211 N (x22 >>> 48)).bind fun y21 => bif decide (x21.length + y21.length ≤ 9223372036854775807) then F105_17 N x8 x11 x22 (x21 ++ y21) else none else (F105_9 N x8 x11 x21).map Sum.inr
def F105_L15b (N : Nat) (x8 : List UInt8) (x11 : Int) (x21 : List UInt8) (x22 : BitVec 64) : Option ((List UInt8 × BitVec 64) ⊕ (List UInt8)) := F105_16 N x8 x11 x21 x22 (x22 != (0#64))
def F105_L15 (N : Nat) (x8 : List UInt8) (x11 : Int) : (List UInt8 × BitVec 64) → Option ((List UInt8 × BitVec 64) ⊕ (List UInt8)) := fun v => F105_L15b N x8 x11 v.1 v.2
def F105_14 (N : Nat) (x8 : List UInt8) (x11 : Int) (x20 : BitVec 64) : Option (List UInt8) := iterL (F105_L15 N x8 x11) N ((([] : List UInt8), x20))
def F105_8 (N : Nat) (x8 : List UInt8) (x11 : Int) (x14 : Nat) : Option (List UInt8) := bif lim x14 then F105_14 N x8 x11 ((BitVec.ofNat 64 x14) &&& (4503599627370495#64)) else none
def F105_7 (N : Nat) (x8 : List UInt8) (x11 : Int) (x12 : Nat) (x13 : Nat) : Option (List UInt8) := (F209 N x12 x13).bind fun y22 => F105_8 N x8 x11 y22.1
def F105_6 (N : Nat) (x2 : BitVec 64) (x3 : Bool) (x4 : Int) (x5 : Bool) (x6 : Nat) (x7 : Nat) (x8 : List UInt8) (x11 : Int) : Option (List UInt8) := (F208 N x6 x7 (w64 (52 - x11))).bind fun y23 => F105_7 N x8 x11 y23.1 y23.2
def F105_5 (N : Nat) (x2 : BitVec 64) (x3 : Bool) (x4 : Int) (x5 : Bool) (x6 : Nat) (x7 : Nat) (x8 : List UInt8) (x10 : Bool) : Option (List UInt8) := bif x10 then bif decide (x8.length + ([48, 112, 43, 48] : List UInt8).length ≤ 9223372036854775807) then some (x8 ++ ([48, 112, 43, 48] : List UInt8)) else none else (F207 N x6 x7 (-1200) 1100).bind fun y24 => F105_6 N x2 x3 x4 x5 x6 x7 x8 y24
def F105_4 (N : Nat) (x2 : BitVec 64) (x3 : Bool) (x4 : Int) (x5 : Bool) (x6 : Nat) (x7 : Nat) (x8 : List UInt8) (x9 : Bool) : Option (List UInt8) := bif x9 then some ([] : List UInt8) else F105_5 N x2 x3 x4 x5 x6 x7 x8 (x4 == 0)
def F105_18 (N : Nat) (x2 : BitVec 64) (x3 : Bool) (x4 : Int) (x5 : Bool) (x6 : Nat) (x7 : Nat) (x8 : List UInt8) (x25 : Bool) : Option (List UInt8) := bif x25 then F105_4 N x2 x3 x4 x5 x6 x7 x8 x25 else F105_4 N x2 x3 x4 x5 x6 x7 x8 (x4 == 4)
def F105_3 (N : Nat) (x2 : BitVec 64) (x3 : Bool) (x4 : Int) (x5 : Bool) (x6 : Nat) (x7 : Nat) (x8 : List UInt8) : Option (List UInt8) := F105_18 N x2 x3 x4 x5 x6 x7 x8 (x4 == 3)
def F105_2 (N : Nat) (x2 : BitVec 64) (x3 : Bool) (x4 : Int) (x5 : Bool) (x6 : Nat) (x7 : Nat) : Option (List UInt8) := bif x3 then F105_3 N x2 x3 x4 x5 x6 x7 ([45, 48, 120] : List UInt8) else F105_3 N x2 x3 x4 x5 x6 x7 ([48, 120] : List UInt8)
def F105_1 (N : Nat) (a0_0 : BitVec 8) (a0_1 : BitVec 8) (a1 : BitVec 64) (x1 : Bool) : Option (List UInt8) := bif x1 then some ([] : List UInt8) else (F144 N a0_0 a0_1 a1).bind fun y25 => F105_2 N y25.1 y25.2.1 y25.2.2.1 y25.2.2.2.1 y25.2.2.2.2.1 y25.2.2.2.2.2
def F105 (N : Nat) (a0_0 : BitVec 8) (a0_1 : BitVec 8) (a1 : BitVec 64) : Option (List UInt8) := lt (F40 a0_0 a0_1) fun y26 => F105_1 N a0_0 a0_1 a1 (!y26)
theorem C105 (N : Nat) (a0_0 : BitVec 8) (a0_1 : BitVec 8) (a1 : BitVec 64) (r : List UInt8) (hr : some r = F105 N a0_0 a0_1 a1) : Aw.Fn Hfaa.prog 105 [agg [is (U8 a0_0), is (U8 a0_1)], is (U64 a1)] (is (Sv r)) := by
  refine fn_intro Hfaa.func105 rfl rfl rfl ?_
  intro bn0 w0 H0
  refine AW_seq1 ?_
  refine AW_region ?_
  refine AL_cons (LR_box (at_tmp 0 _) (cells_agg _) rfl) (sS (sT1 rfl) sB0 (sF1 rfl)) ?_
  refine AL_cons (LR_assign (at_c (v' := Sv ([] : List UInt8)) rfl) rfl) (sS sT0 sB0 sF0) ?_
  refine AL_nil ?_
  refine thenN ?_
  refine AW_seq1 ?_
  refine AW_cut (σ := Bool) (fun v => ⟨[(1, .inl (is (U64 a1))), (2, .inr (.inl (2, 0))), (16, .inl (is (Bl v)))], [(2, pb 23 [is (U8 a0_0), is (U8 a0_1)])]⟩) (fun v => some r = F105_1 N a0_0 a0_1 a1 v) ?_ ?_
  · skip
    refine AW_region ?_
    refine AL_cons (LR_loads (at_tmp 2 _) ag23 sz23 rfl rfl rfl) (sS (sT1 rfl) (sB1 rfl) sF0) ?_
    obtain ⟨y26, hy26, hr⟩ := lt_some hr
    refine AL_cons (LR_call Hfaa.func40 rfl rfl (C40 a0_0 a0_1 y26 hy26) (all_cons (at_tmp 14 _) all_nil) rfl) (sS (sA (sT1 rfl) sT0) sB0 sF0) ?_
    refine AL_cons (LR_un (at_tmp 15 _) (not_Bl y26) rfl) (sS (sT1 rfl) sB0 sF0) ?_
    refine AL_nil ?_
    exact thenN (cutLeaf (v := !y26) hr (weak0 ((sT rfl (sT rfl (sT rfl sT0)))) (sub_keep sub_nil)))
  · rintro x1 hr
    show AW Hfaa.prog _ _ _ ⟨[(1, .inl (is (U64 a1))), (2, .inr (.inl (2, 0))), (16, .inl (is (Bl x1)))], [(2, pb 23 [is (U8 a0_0), is (U8 a0_1)])]⟩
    have hr : some r = F105_1 N a0_0 a0_1 a1 x1 := hr
    refine AW_condT (b := x1) rfl (fun h => ?_) (fun h => ?_)
    · have hr := hr.trans (cond_t h)
      clear h
      refine AW_seq1 ?_
      refine AW_region ?_
      refine AL_cons (LR_assign (at_c (v' := Sv ([] : List UInt8)) rfl) rfl) (sS sT0 sB0 sF0) ?_
      refine AL_nil ?_
      refine thenN ?_
      refine AW_ret ?_
      refine thenR ?_
      obtain rfl := Option.some.inj hr
      exact res1 rfl (rvT rfl)
    · have hr := hr.trans (cond_f h)
      clear h
      refine AW_skip ?_
      refine thenN ?_
      refine AW_cut (σ := BitVec 64 × Bool × Int × Bool × Nat × Nat) (fun v => ⟨[(5, .inr (.inl (5, 0)))], [(5, pb 175 [is (U64 v.1), is (Bl v.2.1), is (I8 v.2.2.1), is (Bl v.2.2.2.1), big v.2.2.2.2.1, big v.2.2.2.2.2])]⟩) (fun v => some r = F105_2 N v.1 v.2.1 v.2.2.1 v.2.2.2.1 v.2.2.2.2.1 v.2.2.2.2.2) ?_ ?_
      · skip
        refine AW_region ?_
        refine AL_cons (LR_loads (at_tmp 2 _) ag23 sz23 rfl rfl rfl) (sS (sT1 rfl) (sB1 rfl) sF0) ?_
        refine AL_cons (LR_move (at_tmp 1 _) rfl) (sS (sT1 rfl) sB0 sF0) ?_
        obtain ⟨y25, hy25, hr⟩ := bind_some hr
        refine AL_cons (LR_call Hfaa.func144 rfl rfl (C144 N a0_0 a0_1 a1 y25 hy25) (all_cons (at_tmp 17 _) (all_cons (at_tmp 18 _) all_nil)) rfl) (sS (sA (sT1 rfl) (sA (sT1 rfl) sT0)) sB0 sF0) ?_
        refine AL_cons (zl175 rfl) (sS sT0 sB0 (sF1 rfl)) ?_
        refine AL_cons (LR_store (at_tmp 5 _) (at_tmp 19 _) (cells_agg _) (onC (one_is rfl) (onC (one_is rfl) (onC (one_is rfl) (onC (one_is rfl) (onC (one_big _) (onC (one_big _) onN)))))) sz175 rfl rfl) (sS (sA (sT1 rfl) (sT1 rfl)) (sB1 rfl) sF0) ?_
        refine AL_nil ?_
        exact thenN (cutLeaf (v := (y25.1, y25.2.1, y25.2.2.1, y25.2.2.2.1, y25.2.2.2.2.1, y25.2.2.2.2.2)) hr (weak0 ((sT rfl sT0)) (sub_drop (sub_keep sub_nil))))
      · rintro ⟨x2, x3, x4, x5, x6, x7⟩ hr
        show AW Hfaa.prog _ _ _ ⟨[(5, .inr (.inl (5, 0)))], [(5, pb 175 [is (U64 x2), is (Bl x3), is (I8 x4), is (Bl x5), big x6, big x7])]⟩
        have hr : some r = F105_2 N x2 x3 x4 x5 x6 x7 := hr
        refine AW_seq1 ?_
        refine AW_region ?_
        refine AL_cons (LR_assign (at_c (v' := Sv ([48, 120] : List UInt8)) rfl) rfl) (sS sT0 sB0 sF0) ?_
        refine AL_nil ?_
        refine thenN ?_
        refine AW_cut (σ := List UInt8) (fun v => ⟨[(5, .inr (.inl (5, 0))), (6, .inl (is (Sv v)))], [(5, pb 175 [is (U64 x2), is (Bl x3), is (I8 x4), is (Bl x5), big x6, big x7])]⟩) (fun v => some r = F105_3 N x2 x3 x4 x5 x6 x7 v) ?_ ?_
        · skip
          refine AW_seq1 ?_
          refine AW_region ?_
          refine AL_cons (LR_fieldAddr (off := 0) (o := 1) (at_tmp 5 _) (fun b w => fa175_1 b 0 w) rfl) (sS (sT1 rfl) sB0 sF0) ?_
          refine AL_cons (LR_load (at_tmp 20 _) na4 rfl rfl) (sS (sT1 rfl) (sB1 rfl) sF0) ?_
          refine AL_nil ?_
          refine thenN ?_
          refine AW_condT (b := x3) rfl (fun h => ?_) (fun h => ?_)
          · have hr := hr.trans (cond_t h)
            clear h
            refine AW_region ?_
            refine AL_cons (LR_assign (at_c (v' := Sv ([45, 48, 120] : List UInt8)) rfl) rfl) (sS sT0 sB0 sF0) ?_
            refine AL_nil ?_
            exact thenN (cutLeaf (v := ([45, 48, 120] : List UInt8)) hr (weak0 ((sT rfl (sT rfl sT0))) (sub_keep sub_nil)))
          · have hr := hr.trans (cond_f h)
            clear h
            refine AW_skip ?_
            exact thenN (cutLeaf (v := ([48, 120] : List UInt8)) hr (weak0 ((sT rfl (sT rfl sT0))) (sub_keep sub_nil)))
        · rintro x8 hr
          show AW Hfaa.prog _ _ _ ⟨[(5, .inr (.inl (5, 0))), (6, .inl (is (Sv x8)))], [(5, pb 175 [is (U64 x2), is (Bl x3), is (I8 x4), is (Bl x5), big x6, big x7])]⟩
          have hr : some r = F105_3 N x2 x3 x4 x5 x6 x7 x8 := hr
          refine AW_seq1 ?_
          refine AW_seq1 ?_
          refine AW_region ?_
          refine AL_cons (LR_fieldAddr (off := 0) (o := 2) (at_tmp 5 _) (fun b w => fa175_2 b 0 w) rfl) (sS (sT1 rfl) sB0 sF0) ?_
          refine AL_cons (LR_load (at_tmp 22 _) na110 rfl rfl) (sS (sT1 rfl) (sB1 rfl) sF0) ?_
          refine AL_nil ?_
          refine thenN ?_
          refine AW_block ?_
          refine AW_cut (σ := Bool) (fun v => ⟨[(5, .inr (.inl (5, 0))), (6, .inl (is (Sv x8))), (23, .inl (is (I8 x4))), (24, .inl (is (Bl v)))], [(5, pb 175 [is (U64 x2), is (Bl x3), is (I8 x4), is (Bl x5), big x6, big x7])]⟩) (fun v => some r = F105_4 N x2 x3 x4 x5 x6 x7 x8 v) ?_ ?_
          · skip
            refine AW_cut (σ := Bool) (fun v => ⟨[(5, .inr (.inl (5, 0))), (6, .inl (is (Sv x8))), (23, .inl (is (I8 x4))), (24, .inl (is (Bl v)))], [(5, pb 175 [is (U64 x2), is (Bl x3), is (I8 x4), is (Bl x5), big x6, big x7])]⟩) (fun v => some r = F105_18 N x2 x3 x4 x5 x6 x7 x8 v) ?_ ?_
            · skip
              refine AW_region ?_
              refine AL_cons (LR_bin (at_tmp 23 _) (at_c (v' := I8 3) rfl) (eql_I8 x4 3) rfl) (sS (sA (sT1 rfl) sT0) sB0 sF0) ?_
              refine AL_cons (LR_assign (at_tmp 25 _) rfl) (sS (sT1 rfl) sB0 sF0) ?_
              refine AL_nil ?_
              exact thenN (cutLeaf (v := x4 == 3) hr (weak0 ((sT rfl (sT rfl (sT rfl (sT rfl sT0))))) (sub_keep sub_nil)))
            · rintro x25 hr
              show AW Hfaa.prog _ _ _ ⟨[(5, .inr (.inl (5, 0))), (6, .inl (is (Sv x8))), (23, .inl (is (I8 x4))), (24, .inl (is (Bl x25)))], [(5, pb 175 [is (U64 x2), is (Bl x3), is (I8 x4), is (Bl x5), big x6, big x7])]⟩
              have hr : some r = F105_18 N x2 x3 x4 x5 x6 x7 x8 x25 := hr
              refine AW_condT (b := x25) rfl (fun h => ?_) (fun h => ?_)
              · have hr := hr.trans (cond_t h)
                clear h
                refine AW_skip ?_
                exact thenN (cutLeaf (v := x25) hr (weak0 ((sT rfl (sT rfl (sT rfl (sT rfl sT0))))) (sub_keep sub_nil)))
              · have hr := hr.trans (cond_f h)
                clear h
                refine AW_region ?_
                refine AL_cons (LR_bin (at_tmp 23 _) (at_c (v' := I8 4) rfl) (eql_I8 x4 4) rfl) (sS (sA (sT1 rfl) sT0) sB0 sF0) ?_
                refine AL_cons (LR_assign (at_tmp 26 _) rfl) (sS (sT1 rfl) sB0 sF0) ?_
                refine AL_nil ?_
                exact thenN (cutLeaf (v := x4 == 4) hr (weak0 ((sT rfl (sT rfl (sT rfl (sT rfl sT0))))) (sub_keep sub_nil)))
          · rintro x9 hr
            show AW Hfaa.prog _ _ _ ⟨[(5, .inr (.inl (5, 0))), (6, .inl (is (Sv x8))), (23, .inl (is (I8 x4))), (24, .inl (is (Bl x9)))], [(5, pb 175 [is (U64 x2), is (Bl x3), is (I8 x4), is (Bl x5), big x6, big x7])]⟩
            have hr : some r = F105_4 N x2 x3 x4 x5 x6 x7 x8 x9 := hr
            refine AW_condT (b := x9) rfl (fun h => ?_) (fun h => ?_)
            · have hr := hr.trans (cond_t h)
              clear h
              refine AW_seq1 ?_
              refine AW_region ?_
              refine AL_cons (LR_assign (at_c (v' := Sv ([] : List UInt8)) rfl) rfl) (sS sT0 sB0 sF0) ?_
              refine AL_nil ?_
              refine thenN ?_
              refine AW_ret ?_
              refine blR ?_
              refine thenR ?_
              obtain rfl := Option.some.inj hr
              exact res1 rfl (rvT rfl)
            · have hr := hr.trans (cond_f h)
              clear h
              refine AW_cut (σ := Bool) (fun v => ⟨[(5, .inr (.inl (5, 0))), (6, .inl (is (Sv x8))), (27, .inl (is (Bl v)))], [(5, pb 175 [is (U64 x2), is (Bl x3), is (I8 x4), is (Bl x5), big x6, big x7])]⟩) (fun v => some r = F105_5 N x2 x3 x4 x5 x6 x7 x8 v) ?_ ?_
              · skip
                refine AW_region ?_
                refine AL_cons (LR_bin (at_tmp 23 _) (at_c (v' := I8 0) rfl) (eql_I8 x4 0) rfl) (sS (sA (sT1 rfl) sT0) sB0 sF0) ?_
                refine AL_cons (LR_assign (at_tmp 28 _) rfl) (sS (sT1 rfl) sB0 sF0) ?_
                refine AL_nil ?_
                exact thenN (cutLeaf (v := x4 == 0) hr (weak0 ((sT rfl (sT rfl (sT rfl sT0)))) (sub_keep sub_nil)))
              · rintro x10 hr
                show AW Hfaa.prog _ _ _ ⟨[(5, .inr (.inl (5, 0))), (6, .inl (is (Sv x8))), (27, .inl (is (Bl x10)))], [(5, pb 175 [is (U64 x2), is (Bl x3), is (I8 x4), is (Bl x5), big x6, big x7])]⟩
                have hr : some r = F105_5 N x2 x3 x4 x5 x6 x7 x8 x10 := hr
                refine AW_condT (b := x10) rfl (fun h => ?_) (fun h => ?_)
                · have hr := hr.trans (cond_t h)
                  clear h
                  refine AW_seq1 ?_
                  refine AW_region ?_
                  refine AL_cons (LR_move (at_tmp 6 _) rfl) (sS (sT1 rfl) sB0 sF0) ?_
                  obtain ⟨hg4, hr⟩ := guard_some hr
                  refine AL_cons (LR_bin (at_tmp 29 _) (at_c (v' := Sv ([48, 112, 43, 48] : List UInt8)) rfl) (add_S x8 ([48, 112, 43, 48] : List UInt8) (of_decide_eq_true hg4)) rfl) (sS (sA (sT1 rfl) sT0) sB0 sF0) ?_
                  refine AL_cons (LR_assign (at_tmp 30 _) rfl) (sS (sT1 rfl) sB0 sF0) ?_
                  refine AL_nil ?_
                  refine thenN ?_
                  refine AW_ret ?_
                  refine blR ?_
                  refine thenR ?_
                  obtain rfl := Option.some.inj hr
                  exact res1 rfl (rvT rfl)
                · have hr := hr.trans (cond_f h)
                  clear h
                  refine AW_skip ?_
                  refine blN ?_
                  refine thenN ?_
                  refine AW_cut (σ := Int) (fun v => ⟨[(5, .inr (.inl (5, 0))), (6, .inl (is (Sv x8))), (7, .inl (is (I64 v)))], [(5, pb 175 [is (U64 x2), is (Bl x3), is (I8 x4), is (Bl x5), big x6, big x7])]⟩) (fun v => some r = F105_6 N x2 x3 x4 x5 x6 x7 x8 v) ?_ ?_
                  · skip
                    refine AW_region ?_
                    refine AL_cons (LR_fieldAddr (off := 0) (o := 3) (at_tmp 5 _) (fun b w => fa175_3 b 0 w) rfl) (sS (sT1 rfl) sB0 sF0) ?_
                    refine AL_cons (LR_fieldAddr (off := 3) (o := 4) (at_tmp 31 _) (fun b w => fa119_1 b 3 w) rfl) (sS (sT1 rfl) sB0 sF0) ?_
                    refine AL_cons (LR_load (at_tmp 32 _) na49 rfl rfl) (sS (sT1 rfl) (sB1 rfl) sF0) ?_
                    refine AL_cons (LR_fieldAddr (off := 0) (o := 3) (at_tmp 5 _) (fun b w => fa175_3 b 0 w) rfl) (sS (sT1 rfl) sB0 sF0) ?_
                    refine AL_cons (LR_fieldAddr (off := 3) (o := 5) (at_tmp 34 _) (fun b w => fa119_2 b 3 w) rfl) (sS (sT1 rfl) sB0 sF0) ?_
                    refine AL_cons (LR_load (at_tmp 35 _) na49 rfl rfl) (sS (sT1 rfl) (sB1 rfl) sF0) ?_
                    obtain ⟨y24, hy24, hr⟩ := bind_some hr
                    refine AL_cons (LR_call Hfaa.func207 rfl rfl (C207 N x6 x7 (-1200) 1100 y24 hy24) (all_cons (at_tmp 33 _) (all_cons (at_tmp 36 _) (all_cons (at_c (v' := I64 (-1200)) rfl) (all_cons (at_c (v' := I64 1100) rfl) all_nil)))) rfl) (sS (sA (sT1 rfl) (sA (sT1 rfl) (sA sT0 (sA sT0 sT0)))) sB0 sF0) ?_
                    refine AL_cons (LR_assign (at_tmp 37 _) rfl) (sS (sT1 rfl) sB0 sF0) ?_
                    refine AL_nil ?_
                    exact thenN (cutLeaf (v := y24) hr (weak0 ((sT rfl (sT rfl (sT rfl sT0)))) (sub_keep sub_nil)))
                  · rintro x11 hr
                    show AW Hfaa.prog _ _ _ ⟨[(5, .inr (.inl (5, 0))), (6, .inl (is (Sv x8))), (7, .inl (is (I64 x11)))], [(5, pb 175 [is (U64 x2), is (Bl x3), is (I8 x4), is (Bl x5), big x6, big x7])]⟩
                    have hr : some r = F105_6 N x2 x3 x4 x5 x6 x7 x8 x11 := hr
                    refine AW_cut (σ := Nat × Nat) (fun v => ⟨[(6, .inl (is (Sv x8))), (7, .inl (is (I64 x11))), (8, .inl (big v.1)), (9, .inl (big v.2))], []⟩) (fun v => some r = F105_7 N x8 x11 v.1 v.2) ?_ ?_
                    · skip
                      refine AW_region ?_
                      refine AL_cons (LR_fieldAddr (off := 0) (o := 3) (at_tmp 5 _) (fun b w => fa175_3 b 0 w) rfl) (sS (sT1 rfl) sB0 sF0) ?_
                      refine AL_cons (LR_fieldAddr (off := 3) (o := 4) (at_tmp 39 _) (fun b w => fa119_1 b 3 w) rfl) (sS (sT1 rfl) sB0 sF0) ?_
                      refine AL_cons (LR_load (at_tmp 40 _) na49 rfl rfl) (sS (sT1 rfl) (sB1 rfl) sF0) ?_
                      refine AL_cons (LR_fieldAddr (off := 0) (o := 3) (at_tmp 5 _) (fun b w => fa175_3 b 0 w) rfl) (sS (sT1 rfl) sB0 sF0) ?_
                      refine AL_cons (LR_fieldAddr (off := 3) (o := 5) (at_tmp 42 _) (fun b w => fa119_2 b 3 w) rfl) (sS (sT1 rfl) sB0 sF0) ?_
                      refine AL_cons (LR_load (at_tmp 43 _) na49 rfl rfl) (sS (sT1 rfl) (sB1 rfl) sF0) ?_
                      refine AL_cons (LR_move (at_tmp 7 _) rfl) (sS (sT1 rfl) sB0 sF0) ?_
                      refine AL_cons (LR_bin (at_c (v' := I64 52) rfl) (at_tmp 45 _) (sub_I64 52 x11) rfl) (sS (sA sT0 (sT1 rfl)) sB0 sF0) ?_
                      obtain ⟨y23, hy23, hr⟩ := bind_some hr
                      refine AL_cons (LR_call Hfaa.func208 rfl rfl (C208 N x6 x7 (w64 (52 - x11)) y23 hy23) (all_cons (at_tmp 41 _) (all_cons (at_tmp 44 _) (all_cons (at_tmp 46 _) all_nil))) rfl) (sS (sA (sT1 rfl) (sA (sT1 rfl) (sA (sT1 rfl) sT0))) sB0 sF0) ?_
                      refine AL_cons (LR_move (at_tmp 47 _) rfl) (sS (sT1 rfl) sB0 sF0) ?_
                      refine AL_cons (LR_extract (at_tmp 38 _) rfl rfl) (sS (sT1 rfl) sB0 sF0) ?_
                      refine AL_cons (LR_extract (at_tmp 38 _) rfl rfl) (sS (sT1 rfl) sB0 sF0) ?_
                      refine AL_cons (LR_assign (at_tmp 48 _) rfl) (sS (sT1 rfl) sB0 sF0) ?_
                      refine AL_cons (LR_assign (at_tmp 49 _) rfl) (sS (sT1 rfl) sB0 sF0) ?_
                      refine AL_nil ?_
                      exact thenN (cutLeaf (v := (y23.1, y23.2)) hr (weak0 ((sT rfl (sT rfl (sT rfl (sT rfl sT0))))) (sub_drop sub_nil)))
                    · rintro ⟨x12, x13⟩ hr
                      show AW Hfaa.prog _ _ _ ⟨[(6, .inl (is (Sv x8))), (7, .inl (is (I64 x11))), (8, .inl (big x12)), (9, .inl (big x13))], []⟩
                      have hr : some r = F105_7 N x8 x11 x12 x13 := hr
                      refine AW_cut (σ := Nat) (fun v => ⟨[(6, .inl (is (Sv x8))), (7, .inl (is (I64 x11))), (10, .inl (big v))], []⟩) (fun v => some r = F105_8 N x8 x11 v) ?_ ?_
                      · skip
                        refine AW_region ?_
                        refine AL_cons (LR_move (at_tmp 8 _) rfl) (sS (sT1 rfl) sB0 sF0) ?_
                        refine AL_cons (LR_move (at_tmp 9 _) rfl) (sS (sT1 rfl) sB0 sF0) ?_
                        obtain ⟨y22, hy22, hr⟩ := bind_some hr
                        refine AL_cons (LR_call Hfaa.func209 rfl rfl (C209 N x12 x13 y22 hy22) (all_cons (at_tmp 51 _) (all_cons (at_tmp 52 _) all_nil)) rfl) (sS (sA (sT1 rfl) (sA (sT1 rfl) sT0)) sB0 sF0) ?_
                        refine AL_cons (LR_move (at_tmp 53 _) rfl) (sS (sT1 rfl) sB0 sF0) ?_
                        refine AL_cons (LR_extract (at_tmp 50 _) rfl rfl) (sS (sT1 rfl) sB0 sF0) ?_
                        refine AL_cons (LR_extract (at_tmp 50 _) rfl rfl) (sS (sT1 rfl) sB0 sF0) ?_
                        refine AL_cons (zl181 rfl) (sS sT0 sB0 (sF1 rfl)) ?_
                        refine AL_cons (LR_assign (at_tmp 54 _) rfl) (sS (sT1 rfl) sB0 sF0) ?_
                        refine AL_cons (LR_store (at_tmp 11 _) (at_tmp 55 _) (cells_agg _) (onC (one_is rfl) (onC (one_is rfl) onN)) sz181 rfl rfl) (sS (sA (sT1 rfl) (sT1 rfl)) (sB1 rfl) sF0) ?_
                        refine AL_nil ?_
                        exact thenN (cutLeaf (v := y22.1) hr (weak0 ((sT rfl (sT rfl (sT rfl sT0)))) (sub_drop sub_nil)))
                      · rintro x14 hr
                        show AW Hfaa.prog _ _ _ ⟨[(6, .inl (is (Sv x8))), (7, .inl (is (I64 x11))), (10, .inl (big x14))], []⟩
                        have hr : some r = F105_8 N x8 x11 x14 := hr
                        refine AW_seq1 ?_
                        refine AW_region ?_
                        refine AL_cons (LR_assign (at_c (v' := Sv ([] : List UInt8)) rfl) rfl) (sS sT0 sB0 sF0) ?_
                        refine AL_nil ?_
                        refine thenN ?_
                        refine AW_cut (σ := List UInt8) (fun v => ⟨[(6, .inl (is (Sv x8))), (7, .inl (is (I64 x11))), (12, .inl (is (Sv v)))], []⟩) (fun v => some r = F105_9 N x8 x11 v) ?_ ?_
                        · skip
                          refine AW_cut (σ := BitVec 64) (fun v => ⟨[(6, .inl (is (Sv x8))), (7, .inl (is (I64 x11))), (12, .inl (is (Sv ([] : List UInt8)))), (13, .inl (is (U64 v)))], []⟩) (fun v => some r = F105_14 N x8 x11 v) ?_ ?_
                          · skip
                            refine AW_region ?_
                            refine AL_cons (LR_move (at_tmp 10 _) rfl) (sS (sT1 rfl) sB0 sF0) ?_
                            obtain ⟨hg34, hr⟩ := guard_some hr
                            refine AL_cons (LR_call Hfaa.func210 rfl rfl (B210 x14 hg34) (all_cons (at_tmp 56 _) all_nil) rfl) (sS (sA (sT1 rfl) sT0) sB0 sF0) ?_
                            refine AL_cons (LR_bin (at_tmp 57 _) (at_c (v' := U64 (4503599627370495#64)) rfl) (and_U64 (BitVec.ofNat 64 x14) (4503599627370495#64)) rfl) (sS (sA (sT1 rfl) sT0) sB0 sF0) ?_
                            refine AL_cons (LR_assign (at_tmp 58 _) rfl) (sS (sT1 rfl) sB0 sF0) ?_
                            refine AL_nil ?_
                            exact thenN (cutLeaf (v := (BitVec.ofNat 64 x14) &&& (4503599627370495#64)) hr (weak0 ((sT rfl (sT rfl (sT rfl (sT rfl sT0))))) sub_nil))
                          · rintro x20 hr
                            show AW Hfaa.prog _ _ _ ⟨[(6, .inl (is (Sv x8))), (7, .inl (is (I64 x11))), (12, .inl (is (Sv ([] : List UInt8)))), (13, .inl (is (U64 x20)))], []⟩
                            have hr : some r = F105_14 N x8 x11 x20 := hr
                            refine AW_block ?_
                            refine AW_iterR (σ := List UInt8 × BitVec 64) (r := r) (x0 := (([] : List UInt8), x20)) (emb := fun v => ⟨[(6, .inl (is (Sv x8))), (7, .inl (is (I64 x11))), (12, .inl (is (Sv v.1))), (13, .inl (is (U64 v.2)))], []⟩) ?_ hr ?_
                            · exact weak0 ((sT rfl (sT rfl (sT rfl (sT rfl sT0))))) sub_nil
                            rintro ⟨x21, x22⟩ out2 hr
                            show AW Hfaa.prog _ _ _ ⟨[(6, .inl (is (Sv x8))), (7, .inl (is (I64 x11))), (12, .inl (is (Sv x21))), (13, .inl (is (U64 x22)))], []⟩
                            have hr : some out2 = F105_L15b N x8 x11 x21 x22 := hr
                            refine AW_seq1 ?_
                            refine AW_cut (σ := Bool) (fun v => ⟨[(6, .inl (is (Sv x8))), (7, .inl (is (I64 x11))), (12, .inl (is (Sv x21))), (13, .inl (is (U64 x22))), (60, .inl (is (Bl v)))], []⟩) (fun v => some out2 = F105_16 N x8 x11 x21 x22 v) ?_ ?_
                            · skip
                              refine AW_region ?_
                              refine AL_cons (LR_move (at_tmp 13 _) rfl) (sS (sT1 rfl) sB0 sF0) ?_
                              refine AL_cons (LR_bin (at_tmp 59 _) (at_c (v' := U64 (0#64)) rfl) (neq_U64 x22 (0#64)) rfl) (sS (sA (sT1 rfl) sT0) sB0 sF0) ?_
                              refine AL_nil ?_
                              exact thenN (cutLeaf (v := x22 != (0#64)) hr (weak0 ((sT rfl (sT rfl (sT rfl (sT rfl (sT rfl sT0)))))) sub_nil))
                            · rintro x23 hr
                              show AW Hfaa.prog _ _ _ ⟨[(6, .inl (is (Sv x8))), (7, .inl (is (I64 x11))), (12, .inl (is (Sv x21))), (13, .inl (is (U64 x22))), (60, .inl (is (Bl x23)))], []⟩
                              have hr : some out2 = F105_16 N x8 x11 x21 x22 x23 := hr
                              refine AW_condT (b := x23) rfl (fun h => ?_) (fun h => ?_)
                              · have hr := hr.trans (cond_t h)
                                clear h
                                refine AW_skip ?_
                                refine thenN ?_
                                refine AW_cut (σ := List UInt8) (fun v => ⟨[(6, .inl (is (Sv x8))), (7, .inl (is (I64 x11))), (12, .inl (is (Sv v))), (13, .inl (is (U64 x22)))], []⟩) (fun v => some out2 = F105_17 N x8 x11 x22 v) ?_ ?_
                                · skip
                                  refine AW_block ?_
                                  refine AW_region ?_
                                  refine AL_cons (LR_move (at_tmp 12 _) rfl) (sS (sT1 rfl) sB0 sF0) ?_
                                  refine AL_cons (LR_move (at_tmp 13 _) rfl) (sS (sT1 rfl) sB0 sF0) ?_
                                  refine AL_cons (LR_bin (at_tmp 65 _) (at_c (v' := U64 (48#64)) rfl) (shr_U64 x22 ((48#64).toNat : Int) (Int.natCast_nonneg _)) rfl) (sS (sA (sT1 rfl) sT0) sB0 sF0) ?_
                                  obtain ⟨y21, hy21, hr⟩ := bind_some hr
                                  refine AL_cons (LR_call Hfaa.func211 rfl rfl (C211 N (x22 >>> 48) y21 hy21) (all_cons (at_tmp 66 _) all_nil) rfl) (sS (sA (sT1 rfl) sT0) sB0 sF0) ?_
                                  obtain ⟨hg33, hr⟩ := guard_some hr
                                  refine AL_cons (LR_bin (at_tmp 64 _) (at_tmp 67 _) (add_S x21 y21 (of_decide_eq_true hg33)) rfl) (sS (sA (sT1 rfl) (sT1 rfl)) sB0 sF0) ?_
                                  refine AL_cons (LR_assign (at_tmp 68 _) rfl) (sS (sT1 rfl) sB0 sF0) ?_
                                  refine AL_nil ?_
                                  refine blN ?_
                                  exact thenN (cutLeaf (v := x21 ++ y21) hr (weak0 ((sT rfl (sT rfl (sT rfl (sT rfl sT0))))) sub_nil))
                                · rintro x24 hr
                                  show AW Hfaa.prog _ _ _ ⟨[(6, .inl (is (Sv x8))), (7, .inl (is (I64 x11))), (12, .inl (is (Sv x24))), (13, .inl (is (U64 x22)))], []⟩
                                  have hr : some out2 = F105_17 N x8 x11 x22 x24 := hr
                                  refine AW_region ?_
                                  refine AL_cons (LR_move (at_tmp 13 _) rfl) (sS (sT1 rfl) sB0 sF0) ?_
                                  refine AL_cons (LR_bin (at_tmp 61 _) (at_c (v' := U64 (4#64)) rfl) (shl_U64 x22 ((4#64).toNat : Int) (Int.natCast_nonneg _)) rfl) (sS (sA (sT1 rfl) sT0) sB0 sF0) ?_
                                  refine AL_cons (LR_bin (at_tmp 62 _) (at_c (v' := U64 (4503599627370495#64)) rfl) (and_U64 (x22 <<< 4) (4503599627370495#64)) rfl) (sS (sA (sT1 rfl) sT0) sB0 sF0) ?_
                                  refine AL_cons (LR_assign (at_tmp 63 _) rfl) (sS (sT1 rfl) sB0 sF0) ?_
                                  refine AL_nil ?_
                                  exact thenN (loopNext (x' := (x24, (x22 <<< 4) &&& (4503599627370495#64))) hr (weak0 ((sT rfl (sT rfl (sT rfl (sT rfl sT0))))) sub_nil))
                              · have hr := hr.trans (cond_f h)
                                clear h
                                refine AW_exit ?_
                                refine thenX ?_
                                obtain ⟨r', hro, hr⟩ := map_inr hr
                                refine thenX (loopOut hro (fun he => ?_))
                                rw [he] at hr
                                refine blH ?_
                                exact thenN (cutLeaf (v := x21) hr (weak0 ((sT rfl (sT rfl (sT rfl sT0)))) sub_nil))
                        · rintro x15 hr
                          show AW Hfaa.prog _ _ _ ⟨[(6, .inl (is (Sv x8))), (7, .inl (is (I64 x11))), (12, .inl (is (Sv x15)))], []⟩
                          have hr : some r = F105_9 N x8 x11 x15 := hr
                          refine AW_cut (σ := List UInt8) (fun v => ⟨[(6, .inl (is (Sv v))), (7, .inl (is (I64 x11))), (12, .inl (is (Sv x15)))], []⟩) (fun v => some r = F105_10 N x11 x15 v) ?_ ?_
                          · skip
                            refine AW_region ?_
                            refine AL_cons (LR_move (at_tmp 6 _) rfl) (sS (sT1 rfl) sB0 sF0) ?_
                            obtain ⟨hg28, hr⟩ := guard_some hr
                            refine AL_cons (LR_bin (at_tmp 69 _) (at_c (v' := Sv ([49] : List UInt8)) rfl) (add_S x8 ([49] : List UInt8) (of_decide_eq_true hg28)) rfl) (sS (sA (sT1 rfl) sT0) sB0 sF0) ?_
                            refine AL_cons (LR_assign (at_tmp 70 _) rfl) (sS (sT1 rfl) sB0 sF0) ?_
                            refine AL_nil ?_
                            exact thenN (cutLeaf (v := x8 ++ ([49] : List UInt8)) hr (weak0 ((sT rfl (sT rfl (sT rfl sT0)))) sub_nil))
                          · rintro x16 hr
                            show AW Hfaa.prog _ _ _ ⟨[(6, .inl (is (Sv x16))), (7, .inl (is (I64 x11))), (12, .inl (is (Sv x15)))], []⟩
                            have hr : some r = F105_10 N x11 x15 x16 := hr
                            refine AW_cut (σ := List UInt8) (fun v => ⟨[(6, .inl (is (Sv v))), (7, .inl (is (I64 x11)))], []⟩) (fun v => some r = F105_11 N x11 v) ?_ ?_
                            · skip
                              refine AW_cut (σ := Bool) (fun v => ⟨[(6, .inl (is (Sv x16))), (7, .inl (is (I64 x11))), (12, .inl (is (Sv x15))), (72, .inl (is (Bl v)))], []⟩) (fun v => some r = F105_13 N x11 x15 x16 v) ?_ ?_
                              · skip
                                refine AW_region ?_
                                refine AL_cons (LR_move (at_tmp 12 _) rfl) (sS (sT1 rfl) sB0 sF0) ?_
                                refine AL_cons (LR_bin (at_tmp 71 _) (at_c (v' := Sv ([] : List UInt8)) rfl) (neq_S x15 ([] : List UInt8)) rfl) (sS (sA (sT1 rfl) sT0) sB0 sF0) ?_
                                refine AL_nil ?_
                                exact thenN (cutLeaf (v := x15 != ([] : List UInt8)) hr (weak0 ((sT rfl (sT rfl (sT rfl (sT rfl sT0))))) sub_nil))
                              · rintro x19 hr
                                show AW Hfaa.prog _ _ _ ⟨[(6, .inl (is (Sv x16))), (7, .inl (is (I64 x11))), (12, .inl (is (Sv x15))), (72, .inl (is (Bl x19)))], []⟩
                                have hr : some r = F105_13 N x11 x15 x16 x19 := hr
                                refine AW_condT (b := x19) rfl (fun h => ?_) (fun h => ?_)
                                · have hr := hr.trans (cond_t h)
                                  clear h
                                  refine AW_region ?_
                                  refine AL_cons (LR_move (at_tmp 6 _) rfl) (sS (sT1 rfl) sB0 sF0) ?_
                                  refine AL_cons (LR_move (at_tmp 12 _) rfl) (sS (sT1 rfl) sB0 sF0) ?_
                                  obtain ⟨hg26, hr⟩ := guard_some hr
                                  refine AL_cons (LR_bin (at_c (v' := Sv ([46] : List UInt8)) rfl) (at_tmp 74 _) (add_S ([46] : List UInt8) x15 (of_decide_eq_true hg26)) rfl) (sS (sA sT0 (sT1 rfl)) sB0 sF0) ?_
                                  obtain ⟨hg27, hr⟩ := guard_some hr
                                  refine AL_cons (LR_bin (at_tmp 73 _) (at_tmp 75 _) (add_S x16 (([46] : List UInt8) ++ x15) (of_decide_eq_true hg27)) rfl) (sS (sA (sT1 rfl) (sT1 rfl)) sB0 sF0) ?_
                                  refine AL_cons (LR_assign (at_tmp 76 _) rfl) (sS (sT1 rfl) sB0 sF0) ?_
                                  refine AL_nil ?_
                                  exact thenN (cutLeaf (v := x16 ++ (([46] : List UInt8) ++ x15)) hr (weak0 ((sT rfl (sT rfl sT0))) sub_nil))
                                · have hr := hr.trans (cond_f h)
                                  clear h
                                  refine AW_skip ?_
                                  exact thenN (cutLeaf (v := x16) hr (weak0 ((sT rfl (sT rfl sT0))) sub_nil))
                            · rintro x17 hr
                              show AW Hfaa.prog _ _ _ ⟨[(6, .inl (is (Sv x17))), (7, .inl (is (I64 x11)))], []⟩
                              have hr : some r = F105_11 N x11 x17 := hr
                              refine AW_seq1 ?_
                              refine AW_cut (σ := Bool) (fun v => ⟨[(6, .inl (is (Sv x17))), (7, .inl (is (I64 x11))), (78, .inl (is (Bl v)))], []⟩) (fun v => some r = F105_12 N x11 x17 v) ?_ ?_
                              · skip
                                refine AW_region ?_
                                refine AL_cons (LR_move (at_tmp 7 _) rfl) (sS (sT1 rfl) sB0 sF0) ?_
                                refine AL_cons (LR_bin (at_tmp 77 _) (at_c (v' := I64 0) rfl) (lss_I64 x11 0) rfl) (sS (sA (sT1 rfl) sT0) sB0 sF0) ?_
                                refine AL_nil ?_
                                exact thenN (cutLeaf (v := decide (x11 < 0)) hr (weak0 ((sT rfl (sT rfl (sT rfl sT0)))) sub_nil))
                              · rintro x18 hr
                                show AW Hfaa.prog _ _ _ ⟨[(6, .inl (is (Sv x17))), (7, .inl (is (I64 x11))), (78, .inl (is (Bl x18)))], []⟩
                                have hr : some r = F105_12 N x11 x17 x18 := hr
                                refine AW_condT (b := x18) rfl (fun h => ?_) (fun h => ?_)
                                · have hr := hr.trans (cond_t h)
                                  clear h
                                  refine AW_seq1 ?_
                                  refine AW_region ?_
                                  refine AL_cons (LR_move (at_tmp 6 _) rfl) (sS (sT1 rfl) sB0 sF0) ?_
                                  obtain ⟨hg20, hr⟩ := guard_some hr
                                  refine AL_cons (LR_bin (at_tmp 79 _) (at_c (v' := Sv ([112, 45] : List UInt8)) rfl) (add_S x17 ([112, 45] : List UInt8) (of_decide_eq_true hg20)) rfl) (sS (sA (sT1 rfl) sT0) sB0 sF0) ?_
                                  refine AL_cons (LR_move (at_tmp 7 _) rfl) (sS (sT1 rfl) sB0 sF0) ?_
                                  refine AL_cons (LR_un (at_tmp 81 _) (neg_I64 x11) rfl) (sS (sT1 rfl) sB0 sF0) ?_
                                  obtain ⟨y15, hy15, hr⟩ := bind_some hr
                                  refine AL_cons (LR_call Hfaa.func170 rfl rfl (C170 N (w64 (0 - x11)) y15 hy15) (all_cons (at_tmp 82 _) all_nil) rfl) (sS (sA (sT1 rfl) sT0) sB0 sF0) ?_
                                  obtain ⟨hg21, hr⟩ := guard_some hr
                                  refine AL_cons (LR_bin (at_tmp 80 _) (at_tmp 83 _) (add_S (x17 ++ ([112, 45] : List UInt8)) y15 (of_decide_eq_true hg21)) rfl) (sS (sA (sT1 rfl) (sT1 rfl)) sB0 sF0) ?_
                                  refine AL_cons (LR_assign (at_tmp 84 _) rfl) (sS (sT1 rfl) sB0 sF0) ?_
                                  refine AL_nil ?_
                                  refine thenN ?_
                                  refine AW_ret ?_
                                  refine thenR ?_
                                  obtain rfl := Option.some.inj hr
                                  exact res1 rfl (rvT rfl)
                                · have hr := hr.trans (cond_f h)
                                  clear h
                                  refine AW_skip ?_
                                  refine thenN ?_
                                  refine AW_seq1 ?_
                                  refine AW_region ?_
                                  refine AL_cons (LR_move (at_tmp 6 _) rfl) (sS (sT1 rfl) sB0 sF0) ?_
                                  obtain ⟨hg24, hr⟩ := guard_some hr
                                  refine AL_cons (LR_bin (at_tmp 85 _) (at_c (v' := Sv ([112, 43] : List UInt8)) rfl) (add_S x17 ([112, 43] : List UInt8) (of_decide_eq_true hg24)) rfl) (sS (sA (sT1 rfl) sT0) sB0 sF0) ?_
                                  refine AL_cons (LR_move (at_tmp 7 _) rfl) (sS (sT1 rfl) sB0 sF0) ?_
                                  obtain ⟨y17, hy17, hr⟩ := bind_some hr
                                  refine AL_cons (LR_call Hfaa.func170 rfl rfl (C170 N x11 y17 hy17) (all_cons (at_tmp 87 _) all_nil) rfl) (sS (sA (sT1 rfl) sT0) sB0 sF0) ?_
                                  obtain ⟨hg25, hr⟩ := guard_some hr
                                  refine AL_cons (LR_bin (at_tmp 86 _) (at_tmp 88 _) (add_S (x17 ++ ([112, 43] : List UInt8)) y17 (of_decide_eq_true hg25)) rfl) (sS (sA (sT1 rfl) (sT1 rfl)) sB0 sF0) ?_
                                  refine AL_cons (LR_assign (at_tmp 89 _) rfl) (sS (sT1 rfl) sB0 sF0) ?_
                                  refine AL_nil ?_
                                  refine thenN ?_
                                  refine AW_ret ?_
                                  obtain rfl := Option.some.inj hr
                                  exact res1 rfl (rvT rfl)
/-- hexa/hmodel.wrong -/
def F380_3 (N : Nat) (a1 : Int) (x2 : Int) : Option ((Unit) ⊕ (BitVec 8 × Bool × List UInt8 × Int × Int × Int)) := (some ((3#8, false, ([] : List UInt8), 0, a1, x2))).map Sum.inr
def F380_2 (N : Nat) (a0 : List UInt8) (a1 : Int) (x1 : Bool) : Option ((Unit) ⊕ (BitVec 8 × Bool × List UInt8 × Int × Int × Int)) := bif x1 then bif Nat.blt 0 ((a0.drop ((a1 : Int)).toNat).take (((a0.length : Int)).toNat - ((a1 : Int)).toNat)).length then F380_3 N a1 (runeAt ((a0.drop ((a1 : Int)).toNat).take (((a0.length : Int)).toNat - ((a1 : Int)).toNat)) 0) else none else (some ((3#8, false, ([] : List UInt8), 0, a1, (-1)))).map Sum.inr
def F380_L1b (N : Nat) (a0 : List UInt8) (a1 : Int) : Option ((Unit) ⊕ (BitVec 8 × Bool × List UInt8 × Int × Int × Int)) := F380_2 N a0 a1 (Nat.blt 0 ((a0.drop ((a1 : Int)).toNat).take (((a0.length : Int)).toNat - ((a1 : Int)).toNat)).length)
def F380_L1 (N : Nat) (a0 : List UInt8) (a1 : Int) : (Unit) → Option ((Unit) ⊕ (BitVec 8 × Bool × List UInt8 × Int × Int × Int)) := fun _ => F380_L1b N a0 a1
def F380 (N : Nat) (a0 : List UInt8) (a1 : Int) : Option (BitVec 8 × Bool × List UInt8 × Int × Int × Int) := bif (decide (0 ≤ (a1 : Int)) && (decide ((a1 : Int) ≤ (a0.length : Int)) && decide ((a0.length : Int) ≤ (a0.length : Int)))) then iterL (F380_L1 N a0 a1) N () else none
theorem C380 (N : Nat) (a0 : List UInt8) (a1 : Int) (r : BitVec 8 × Bool × List UInt8 × Int × Int × Int) (hr : some r = F380 N a0 a1) : Aw.Fn Hfaa.prog 380 [is (Sv a0), is (I64 a1)] (agg [is (U8 r.1), is (Bl r.2.1), is (Sv r.2.2.1), is (I16 r.2.2.2.1), is (I64 r.2.2.2.2.1), is (I32 r.2.2.2.2.2)]) := by
  refine fn_intro Hfaa.func380 rfl rfl rfl ?_
  intro bn0 w0 H0
  refine AW_seq1 ?_
  refine AW_region ?_
  refine AL_cons (zl307 rfl) (sS sT0 sB0 (sF1 rfl)) ?_
  refine AL_nil ?_
  refine thenN ?_
  refine AW_seq1 ?_
  refine AW_seq1 ?_
  refine AW_region ?_
  refine AL_cons (LR_move (at_tmp 0 _) rfl) (sS (sT1 rfl) sB0 sF0) ?_
  refine AL_cons (LR_move (at_tmp 1 _) rfl) (sS (sT1 rfl) sB0 sF0) ?_
  obtain ⟨hg8, hr⟩ := guard_some hr
  refine AL_cons (LR_sliceS (i := (a1 : Int)) (j := (a0.length : Int)) Hfaa.underlying9 (at_tmp 7 _) (fun B bn s a w hs hr => .inr ⟨_, congrArg some ((at_tmp 8 (.inl (is (I64 a1)))) B bn s a w hs hr)⟩) (fun _ _ _ _ _ _ _ => .inl ⟨rfl, rfl⟩) (dand3 hg8) rfl) (sS (sA (sT1 rfl) (sA (sT1 rfl) sT0)) sB0 sF0) ?_
  refine AL_cons (LR_range Hfaa.underlying9 (at_tmp 9 _) rfl) (sS (sT1 rfl) sB0 (sF1 rfl)) ?_
  refine AL_nil ?_
  refine thenN ?_
  refine AW_block ?_
  refine AW_iterR (σ := Unit) (r := r) (x0 := ()) (emb := fun _ => ⟨[(1, .inl (is (I64 a1))), (4, .inr (.inl (4, 0))), (10, .inr (.inl (10, 0)))], [(4, pb 307 [is (U8 (0#8)), is (Bl false), is (Sv ([] : List UInt8)), is (I16 0), is (I64 0), is (I32 0)]), (10, itc ((a0.drop ((a1 : Int)).toNat).take (((a0.length : Int)).toNat - ((a1 : Int)).toNat)) 0)]⟩) ?_ hr ?_
  · exact weak0 ((sT rfl (sT rfl (sT rfl sT0)))) (sub_keep (sub_keep sub_nil))
  rintro _ out2 hr
  show AW Hfaa.prog _ _ _ ⟨[(1, .inl (is (I64 a1))), (4, .inr (.inl (4, 0))), (10, .inr (.inl (10, 0)))], [(4, pb 307 [is (U8 (0#8)), is (Bl false), is (Sv ([] : List UInt8)), is (I16 0), is (I64 0), is (I32 0)]), (10, itc ((a0.drop ((a1 : Int)).toNat).take (((a0.length : Int)).toNat - ((a1 : Int)).toNat)) 0)]⟩
  have hr : some out2 = F380_L1b N a0 a1 := hr
  refine AW_cut (σ := Bool) (fun v => ⟨[(1, .inl (is (I64 a1))), (4, .inr (.inl (4, 0))), (11, .inl (nx ((a0.drop ((a1 : Int)).toNat).take (((a0.length : Int)).toNat - ((a1 : Int)).toNat)) 0)), (12, .inl (is (Bl v)))], [(4, pb 307 [is (U8 (0#8)), is (Bl false), is (Sv ([] : List UInt8)), is (I16 0), is (I64 0), is (I32 0)])]⟩) (fun v => some out2 = F380_2 N a0 a1 v) ?_ ?_
  · skip
    refine AW_region ?_
    refine AL_cons (LR_next (at_tmp 10 _) rfl) (sS (sT1 rfl) (sB1 rfl) sF0) ?_
    refine AL_cons (LR_nx0 (at_tmp 11 _) rfl) (sS (sT1 rfl) sB0 sF0) ?_
    refine AL_nil ?_
    exact thenN (cutLeaf (v := Nat.blt 0 ((a0.drop ((a1 : Int)).toNat).take (((a0.length : Int)).toNat - ((a1 : Int)).toNat)).length) hr (weak0 ((sT rfl (sT rfl (sT rfl (sT rfl sT0))))) (sub_keep (sub_drop sub_nil))))
  · rintro x1 hr
    show AW Hfaa.prog _ _ _ ⟨[(1, .inl (is (I64 a1))), (4, .inr (.inl (4, 0))), (11, .inl (nx ((a0.drop ((a1 : Int)).toNat).take (((a0.length : Int)).toNat - ((a1 : Int)).toNat)) 0)), (12, .inl (is (Bl x1)))], [(4, pb 307 [is (U8 (0#8)), is (Bl false), is (Sv ([] : List UInt8)), is (I16 0), is (I64 0), is (I32 0)])]⟩
    have hr : some out2 = F380_2 N a0 a1 x1 := hr
    refine AW_seq1 ?_
    refine AW_condT (b := x1) rfl (fun h => ?_) (fun h => ?_)
    · have hr := hr.trans (cond_t h)
      clear h
      refine AW_skip ?_
      refine thenN ?_
      refine AW_block ?_
      refine AW_cut (σ := Int) (fun v => ⟨[(1, .inl (is (I64 a1))), (4, .inr (.inl (4, 0))), (6, .inl (is (I32 v)))], [(4, pb 307 [is (U8 (0#8)), is (Bl false), is (Sv ([] : List UInt8)), is (I16 0), is (I64 0), is (I32 0)])]⟩) (fun v => some out2 = F380_3 N a1 v) ?_ ?_
      · skip
        refine AW_region ?_
        obtain ⟨hg12, hr⟩ := guard_some hr
        refine AL_cons (LR_nx2 (at_tmp 11 _) hg12 rfl) (sS (sT1 rfl) sB0 sF0) ?_
        refine AL_cons (LR_assign (at_tmp 13 _) rfl) (sS (sT1 rfl) sB0 sF0) ?_
        refine AL_nil ?_
        exact thenN (cutLeaf (v := runeAt ((a0.drop ((a1 : Int)).toNat).take (((a0.length : Int)).toNat - ((a1 : Int)).toNat)) 0) hr (weak0 ((sT rfl (sT rfl (sT rfl sT0)))) (sub_keep sub_nil)))
      · rintro x2 hr
        show AW Hfaa.prog _ _ _ ⟨[(1, .inl (is (I64 a1))), (4, .inr (.inl (4, 0))), (6, .inl (is (I32 x2)))], [(4, pb 307 [is (U8 (0#8)), is (Bl false), is (Sv ([] : List UInt8)), is (I16 0), is (I64 0), is (I32 0)])]⟩
        have hr : some out2 = F380_3 N a1 x2 := hr
        refine AW_seq1 ?_
        refine AW_region ?_
        refine AL_cons (LR_move (at_tmp 1 _) rfl) (sS (sT1 rfl) sB0 sF0) ?_
        refine AL_cons (LR_move (at_tmp 6 _) rfl) (sS (sT1 rfl) sB0 sF0) ?_
        refine AL_cons (bl307 (parts_cons (i := 0) (off := 0) (at_c (v' := U8 (3#8)) rfl) (cells_one (one_is rfl)) rfl rfl (parts_cons (i := 2) (off := 4) (at_tmp 14 _) (cells_one (one_is rfl)) rfl rfl (parts_cons (i := 3) (off := 5) (at_tmp 15 _) (cells_one (one_is rfl)) rfl rfl parts_nil))) rfl rfl) (sS (sA sT0 (sA (sT1 rfl) (sA (sT1 rfl) sT0))) sB0 sF0) ?_
        refine AL_cons (LR_store (at_tmp 4 _) (at_tmp 16 _) (cells_agg _) (onC (one_is rfl) (onC (one_is rfl) (onC (one_is rfl) (onC (one_is rfl) (onC (one_is rfl) (onC (one_is rfl) onN)))))) sz307 rfl rfl) (sS (sA (sT1 rfl) (sT1 rfl)) (sB1 rfl) sF0) ?_
        refine AL_nil ?_
        refine thenN ?_
        refine AW_ret ?_
        refine blR ?_
        obtain ⟨r', hro, hr⟩ := map_inr hr
        refine thenR (loopOut hro (fun he => ?_))
        rw [he] at hr
        refine blR ?_
        refine thenR ?_
        obtain rfl := Option.some.inj hr
        exact res1 rfl (rvC rfl rfl ag307 sz307 rfl)
    · have hr := hr.trans (cond_f h)
      clear h
      refine AW_exit ?_
      refine thenX ?_
      obtain ⟨r', hro, hr⟩ := map_inr hr
      refine thenX (loopOut hro (fun he => ?_))
      rw [he] at hr
      refine blH ?_
      refine thenN ?_
      refine AW_seq1 ?_
      refine AW_region ?_
      refine AL_cons (LR_move (at_tmp 1 _) rfl) (sS (sT1 rfl) sB0 sF0) ?_
      refine AL_cons (bl307 (parts_cons (i := 0) (off := 0) (at_c (v' := U8 (3#8)) rfl) (cells_one (one_is rfl)) rfl rfl (parts_cons (i := 2) (off := 4) (at_tmp 17 _) (cells_one (one_is rfl)) rfl rfl (parts_cons (i := 3) (off := 5) (at_c (v' := I32 (-1)) rfl) (cells_one (one_is rfl)) rfl rfl parts_nil))) rfl rfl) (sS (sA sT0 (sA (sT1 rfl) (sA sT0 sT0))) sB0 sF0) ?_
      refine AL_cons (LR_store (at_tmp 4 _) (at_tmp 18 _) (cells_agg _) (onC (one_is rfl) (onC (one_is rfl) (onC (one_is rfl) (onC (one_is rfl) (onC (one_is rfl) (onC (one_is rfl) onN)))))) sz307 rfl rfl) (sS (sA (sT1 rfl) (sT1 rfl)) (sB1 rfl) sF0) ?_
      refine AL_nil ?_
      refine thenN ?_
      refine AW_ret ?_
      obtain rfl := Option.some.inj hr
      exact res1 rfl (rvC rfl rfl ag307 sz307 rfl)
/-- hexa/hmodel.cut -/
def F381_3 (N : Nat) (a0 : List UInt8) (a1 : BitVec 8) (a2 : BitVec 8) (x1 : Int) (x3 : Bool) : Option ((Int) ⊕ (List UInt8 × List UInt8 × Bool)) := bif x3 then bif (decide (0 ≤ (0 : Int)) && (decide ((0 : Int) ≤ (x1 : Int)) && decide ((x1 : Int) ≤ (a0.length : Int)))) then bif (decide (0 ≤ (w64 (x1 + 1) : Int)) && (decide ((w64 (x1 + 1) : Int) ≤ (a0.length : Int)) && decide ((a0.length : Int) ≤ (a0.length : Int)))) then (some (((a0.drop ((0 : Int)).toNat).take (((x1 : Int)).toNat - ((0 : Int)).toNat), (a0.drop ((w64 (x1 + 1) : Int)).toNat).take (((a0.length : Int)).toNat - ((w64 (x1 + 1) : Int)).toNat), true))).map Sum.inr else none else none else some (.inl (w64 (x1 + 1)))
def F381_2 (N : Nat) (a0 : List UInt8) (a1 : BitVec 8) (a2 : BitVec 8) (x1 : Int) (x2 : Bool) : Option ((Int) ⊕ (List UInt8 × List UInt8 × Bool)) := bif x2 then bif (decide (0 ≤ (x1 : Int)) && decide ((x1 : Int) < (a0.length : Int))) then bif ((a0.getD ((x1 : Int)).toNat 0).toBitVec) == a1 then F381_3 N a0 a1 a2 x1 true else bif (decide (0 ≤ (x1 : Int)) && decide ((x1 : Int) < (a0.length : Int))) then F381_3 N a0 a1 a2 x1 (((a0.getD ((x1 : Int)).toNat 0).toBitVec) == a2) else none else none else (some ((a0, ([] : List UInt8), false))).map Sum.inr
def F381_L1b (N : Nat) (a0 : List UInt8) (a1 : BitVec 8) (a2 : BitVec 8) (x1 : Int) : Option ((Int) ⊕ (List UInt8 × List UInt8 × Bool)) := F381_2 N a0 a1 a2 x1 (decide (x1 < (a0.length : Int)))
def F381_L1 (N : Nat) (a0 : List UInt8) (a1 : BitVec 8) (a2 : BitVec 8) : (Int) → Option ((Int) ⊕ (List UInt8 × List UInt8 × Bool)) := fun v => F381_L1b N a0 a1 a2 v
def F381 (N : Nat) (a0 : List UInt8) (a1 : BitVec 8) (a2 : BitVec 8) : Option (List UInt8 × List UInt8 × Bool) := iterL (F381_L1 N a0 a1 a2) N 0
theorem C381 (N : Nat) (a0 : List UInt8) (a1 : BitVec 8) (a2 : BitVec 8) (r : List UInt8 × List UInt8 × Bool) (hr : some r = F381 N a0 a1 a2) : Aw.Fn Hfaa.prog 381 [is (Sv a0), is (U8 a1), is (U8 a2)] (tup [is (Sv r.1), is (Sv r.2.1), is (Bl r.2.2)]) := by
  refine fn_intro Hfaa.func381 rfl rfl rfl ?_
  intro bn0 w0 H0
  refine AW_seq1 ?_
  refine AW_region ?_
  refine AL_cons (LR_assign (at_c (v' := Sv ([] : List UInt8)) rfl) rfl) (sS sT0 sB0 sF0) ?_
  refine AL_cons (LR_assign (at_c (v' := Sv ([] : List UInt8)) rfl) rfl) (sS sT0 sB0 sF0) ?_
  refine AL_cons (LR_assign (at_c (v' := Bl false) rfl) rfl) (sS sT0 sB0 sF0) ?_
  refine AL_nil ?_
  refine thenN ?_
  refine AW_seq1 ?_
  refine AW_seq1 ?_
  refine AW_region ?_
  refine AL_cons (LR_assign (at_c (v' := I64 0) rfl) rfl) (sS sT0 sB0 sF0) ?_
  refine AL_nil ?_
  refine thenN ?_
  refine AW_block ?_
  refine AW_iterR (σ := Int) (r := r) (x0 := 0) (emb := fun v => ⟨[(0, .inl (is (Sv a0))), (1, .inl (is (U8 a1))), (2, .inl (is (U8 a2))), (9, .inl (is (I64 v)))], []⟩) ?_ hr ?_
  · exact weak0 ((sT rfl (sT rfl (sT rfl (sT rfl sT0))))) sub_nil
  rintro x1 out2 hr
  show AW Hfaa.prog _ _ _ ⟨[(0, .inl (is (Sv a0))), (1, .inl (is (U8 a1))), (2, .inl (is (U8 a2))), (9, .inl (is (I64 x1)))], []⟩
  have hr : some out2 = F381_L1b N a0 a1 a2 x1 := hr
  refine AW_seq1 ?_
  refine AW_cut (σ := Bool) (fun v => ⟨[(0, .inl (is (Sv a0))), (1, .inl (is (U8 a1))), (2, .inl (is (U8 a2))), (9, .inl (is (I64 x1))), (13, .inl (is (Bl v)))], []⟩) (fun v => some out2 = F381_2 N a0 a1 a2 x1 v) ?_ ?_
  · skip
    refine AW_region ?_
    refine AL_cons (LR_move (at_tmp 9 _) rfl) (sS (sT1 rfl) sB0 sF0) ?_
    refine AL_cons (LR_move (at_tmp 0 _) rfl) (sS (sT1 rfl) sB0 sF0) ?_
    refine AL_cons (LR_bi1 (at_tmp 11 _) (len_S Hfaa.underlying9 a0) rfl) (sS (sT1 rfl) sB0 sF0) ?_
    refine AL_cons (LR_bin (at_tmp 10 _) (at_tmp 12 _) (lss_I64 x1 (a0.length : Int)) rfl) (sS (sA (sT1 rfl) (sT1 rfl)) sB0 sF0) ?_
    refine AL_nil ?_
    exact thenN (cutLeaf (v := decide (x1 < (a0.length : Int))) hr (weak0 ((sT rfl (sT rfl (sT rfl (sT rfl (sT rfl sT0)))))) sub_nil))
  · rintro x2 hr
    show AW Hfaa.prog _ _ _ ⟨[(0, .inl (is (Sv a0))), (1, .inl (is (U8 a1))), (2, .inl (is (U8 a2))), (9, .inl (is (I64 x1))), (13, .inl (is (Bl x2)))], []⟩
    have hr : some out2 = F381_2 N a0 a1 a2 x1 x2 := hr
    refine AW_condT (b := x2) rfl (fun h => ?_) (fun h => ?_)
    · have hr := hr.trans (cond_t h)
      clear h
      refine AW_skip ?_
      refine thenN ?_
      refine AW_seq1 ?_
      refine AW_block ?_
      refine AW_cut (σ := Bool) (fun v => ⟨[(0, .inl (is (Sv a0))), (1, .inl (is (U8 a1))), (2, .inl (is (U8 a2))), (9, .inl (is (I64 x1))), (27, .inl (is (Bl v)))], []⟩) (fun v => some out2 = F381_3 N a0 a1 a2 x1 v) ?_ ?_
      · skip
        refine AW_region ?_
        refine AL_cons (LR_move (at_tmp 0 _) rfl) (sS (sT1 rfl) sB0 sF0) ?_
        refine AL_cons (LR_move (at_tmp 9 _) rfl) (sS (sT1 rfl) sB0 sF0) ?_
        obtain ⟨hg78, hr⟩ := guard_some hr
        refine AL_cons (LR_indexS (i := (x1 : Int)) Hfaa.underlying9 (at_tmp 16 _) (at_tmp 17 _) (dand hg78) rfl) (sS (sA (sT1 rfl) (sT1 rfl)) sB0 sF0) ?_
        refine AL_cons (LR_move (at_tmp 1 _) rfl) (sS (sT1 rfl) sB0 sF0) ?_
        refine AL_cons (LR_bin (at_tmp 18 _) (at_tmp 19 _) (eql_U8 ((a0.getD ((x1 : Int)).toNat 0).toBitVec) a1) rfl) (sS (sA (sT1 rfl) (sT1 rfl)) sB0 sF0) ?_
        refine AL_cons (LR_move (at_tmp 20 _) rfl) (sS (sT1 rfl) sB0 sF0) ?_
        cases hb : ((a0.getD ((x1 : Int)).toNat 0).toBitVec) == a1
        · have hr := hr.trans (cond_f hb)
          refine AL_cons (LR_on rfl rfl rfl (LR_move (at_tmp 0 _) rfl)) (sS (sT rfl (sT1 rfl)) sB0 sF0) ?_
          refine AL_cons (LR_on rfl rfl rfl (LR_move (at_tmp 9 _) rfl)) (sS (sT rfl (sT1 rfl)) sB0 sF0) ?_
          obtain ⟨hg80, hr⟩ := guard_some hr
          refine AL_cons (LR_on rfl rfl rfl (LR_indexS (i := (x1 : Int)) Hfaa.underlying9 (at_tmp 22 _) (at_tmp 23 _) (dand hg80) rfl)) (sS (sT rfl (sA (sT1 rfl) (sT1 rfl))) sB0 sF0) ?_
          refine AL_cons (LR_on rfl rfl rfl (LR_move (at_tmp 2 _) rfl)) (sS (sT rfl (sT1 rfl)) sB0 sF0) ?_
          refine AL_cons (LR_on rfl rfl rfl (LR_bin (at_tmp 24 _) (at_tmp 25 _) (eql_U8 ((a0.getD ((x1 : Int)).toNat 0).toBitVec) a2) rfl)) (sS (sT rfl (sA (sT1 rfl) (sT1 rfl))) sB0 sF0) ?_
          refine AL_cons (LR_pick (b := false) (at_tmp 21 _) (at_c (v' := Bl true) rfl) (at_tmp 26 _) rfl) (sS (sA (sT1 rfl) (sA sT0 (sT1 rfl))) sB0 sF0) ?_
          refine AL_nil ?_
          exact thenN (cutLeaf (v := ((a0.getD ((x1 : Int)).toNat 0).toBitVec) == a2) hr (weak0 ((sT rfl (sT rfl (sT rfl (sT rfl (sT rfl sT0)))))) sub_nil))
        · have hr := hr.trans (cond_t hb)
          refine AL_cons (LR_off (b := true) rfl rfl rfl rfl) (sS (sT1 rfl) sB0 sF0) ?_
          refine AL_cons (LR_off (b := true) rfl rfl rfl rfl) (sS (sT1 rfl) sB0 sF0) ?_
          refine AL_cons (LR_off (b := true) rfl rfl rfl rfl) (sS (sT1 rfl) sB0 sF0) ?_
          refine AL_cons (LR_off (b := true) rfl rfl rfl rfl) (sS (sT1 rfl) sB0 sF0) ?_
          refine AL_cons (LR_off (b := true) rfl rfl rfl rfl) (sS (sT1 rfl) sB0 sF0) ?_
          refine AL_cons (LR_pick (b := true) (at_tmp 21 _) (at_c (v' := Bl true) rfl) (at_tmp 26 _) rfl) (sS (sA (sT1 rfl) (sA sT0 (sT1 rfl))) sB0 sF0) ?_
          refine AL_nil ?_
          exact thenN (cutLeaf (v := true) hr (weak0 ((sT rfl (sT rfl (sT rfl (sT rfl (sT rfl sT0)))))) sub_nil))
      · rintro x3 hr
        show AW Hfaa.prog _ _ _ ⟨[(0, .inl (is (Sv a0))), (1, .inl (is (U8 a1))), (2, .inl (is (U8 a2))), (9, .inl (is (I64 x1))), (27, .inl (is (Bl x3)))], []⟩
        have hr : some out2 = F381_3 N a0 a1 a2 x1 x3 := hr
        refine AW_condT (b := x3) rfl (fun h => ?_) (fun h => ?_)
        · have hr := hr.trans (cond_t h)
          clear h
          refine AW_seq1 ?_
          obtain ⟨hg76, hr⟩ := guard_some hr
          obtain ⟨hg77, hr⟩ := guard_some hr
          refine AW_draw mixed
            (lrC (LR_move (at_tmp 0 _) rfl)
            (lrC (LR_move (at_tmp 9 _) rfl)
            (lrC (LR_sliceS (i := (0 : Int)) (j := (x1 : Int)) Hfaa.underlying9 (at_tmp 28 _) (fun _ _ _ _ _ _ _ => .inl ⟨rfl, rfl⟩) (fun B bn s a w hs hr => .inr ⟨_, congrArg some ((at_tmp 29 (.inl (is (I64 x1)))) B bn s a w hs hr)⟩) (dand3 hg76) rfl)
            (lrC (LR_move (at_tmp 0 _) rfl)
            (lrC (LR_move (at_tmp 9 _) rfl)
            (lrC (LR_bin (at_tmp 32 _) (at_c (v' := I64 1) rfl) (add_I64 x1 1) rfl)
            (lrC (LR_sliceS (i := (w64 (x1 + 1) : Int)) (j := (a0.length : Int)) Hfaa.underlying9 (at_tmp 31 _) (fun B bn s a w hs hr => .inr ⟨_, congrArg some ((at_tmp 33 (.inl (is (I64 (w64 (x1 + 1)))))) B bn s a w hs hr)⟩) (fun _ _ _ _ _ _ _ => .inl ⟨rfl, rfl⟩) (dand3 hg77) rfl)
            (lrC (LR_assign (at_tmp 30 _) rfl)
            (lrC (LR_assign (at_tmp 34 _) rfl)
            (lrC (LR_assign (at_c (v' := Bl true) rfl) rfl)
            lrN))))))))))
            (by kernel_rfl)
            (saC (sS (sT1 rfl) sB0 sF0) (saC (sS (sT1 rfl) sB0 sF0) (saC (sS (sA (sT1 rfl) (sA sT0 (sT1 rfl))) sB0 sF0) (saC (sS (sT1 rfl) sB0 sF0) (saC (sS (sT1 rfl) sB0 sF0) (saC (sS (sA (sT1 rfl) sT0) sB0 sF0) (saC (sS (sA (sT1 rfl) (sA (sT1 rfl) sT0)) sB0 sF0) (saC (sS (sT1 rfl) sB0 sF0) (saC (sS (sT1 rfl) sB0 sF0) (saC (sS sT0 sB0 sF0) saN)))))))))) ?_
          refine thenN ?_
          refine AW_ret ?_
          refine blR ?_
          refine thenR ?_
          obtain ⟨r', hro, hr⟩ := map_inr hr
          refine thenR (loopOut hro (fun he => ?_))
          rw [he] at hr
          refine blR ?_
          refine thenR ?_
          obtain rfl := Option.some.inj hr
          exact res3 rfl (rvT rfl) (rvT rfl) (rvT rfl)
        · have hr := hr.trans (cond_f h)
          clear h
          refine AW_skip ?_
          refine blN ?_
          refine thenN ?_
          refine AW_region ?_
          refine AL_cons (LR_move (at_tmp 9 _) rfl) (sS (sT1 rfl) sB0 sF0) ?_
          refine AL_cons (LR_bin (at_tmp 14 _) (at_c (v' := I64 1) rfl) (add_I64 x1 1) rfl) (sS (sA (sT1 rfl) sT0) sB0 sF0) ?_
          refine AL_cons (LR_assign (at_tmp 15 _) rfl) (sS (sT1 rfl) sB0 sF0) ?_
          refine AL_nil ?_
          exact thenN (loopNext (x' := w64 (x1 + 1)) hr (weak0 ((sT rfl (sT rfl (sT rfl (sT rfl sT0))))) sub_nil))
    · have hr := hr.trans (cond_f h)
      clear h
      refine AW_exit ?_
      refine thenX ?_
      obtain ⟨r', hro, hr⟩ := map_inr hr
      refine thenX (loopOut hro (fun he => ?_))
      rw [he] at hr
      refine blH ?_
      refine thenN ?_
      refine AW_seq1 ?_
      refine AW_region ?_
      refine AL_cons (LR_move (at_tmp 0 _) rfl) (sS (sT1 rfl) sB0 sF0) ?_
      refine AL_cons (LR_assign (at_tmp 35 _) rfl) (sS (sT1 rfl) sB0 sF0) ?_
      refine AL_cons (LR_assign (at_c (v' := Sv ([] : List UInt8)) rfl) rfl) (sS sT0 sB0 sF0) ?_
      refine AL_cons (LR_assign (at_c (v' := Bl false) rfl) rfl) (sS sT0 sB0 sF0) ?_
      refine AL_nil ?_
      refine thenN ?_
      refine AW_ret ?_
      obtain rfl := Option.some.inj hr
      exact res3 rfl (rvT rfl) (rvT rfl) (rvT rfl)
/-- hexa/hmodel.run -/
def F382_1 (N : Nat) (x1 : Int) : Option (Int) := some x1
def F382_6 (N : Nat) (a0 : List UInt8) (a1 : Bool) (x2 : Int) (x6 : Bool) : Option ((Int) ⊕ (Int)) := bif x6 then (F382_1 N x2).map Sum.inr else some (.inl (w64 (x2 + 1)))
def F382_5 (N : Nat) (a0 : List UInt8) (a1 : Bool) (x2 : Int) (x4 : BitVec 8) (x5 : Bool) : Option ((Int) ⊕ (Int)) := F382_6 N a0 a1 x2 ((!((decide ((48#8).toNat ≤ x4.toNat)) && (decide (x4.toNat ≤ (57#8).toNat)))) && (!(a1 && x5)))
def F382_4 (N : Nat) (a0 : List UInt8) (a1 : Bool) (x2 : Int) (x4 : BitVec 8) : Option ((Int) ⊕ (Int)) := F382_5 N a0 a1 x2 x4 ((decide ((97#8).toNat ≤ (x4 ||| (32#8)).toNat)) && (decide ((x4 ||| (32#8)).toNat ≤ (102#8).toNat)))
def F382_3 (N : Nat) (a0 : List UInt8) (a1 : Bool) (x2 : Int) (x3 : Bool) : Option ((Int) ⊕ (Int)) := bif x3 then bif (decide (0 ≤ (x2 : Int)) && decide ((x2 : Int) < (a0.length : Int))) then F382_4 N a0 a1 x2 ((a0.getD ((x2 : Int)).toNat 0).toBitVec) else none else (F382_1 N x2).map Sum.inr
def F382_L2b (N : Nat) (a0 : List UInt8) (a1 : Bool) (x2 : Int) : Option ((Int) ⊕ (Int)) := F382_3 N a0 a1 x2 (decide (x2 < (a0.length : Int)))
def F382_L2 (N : Nat) (a0 : List UInt8) (a1 : Bool) : (Int) → Option ((Int) ⊕ (Int)) := fun v => F382_L2b N a0 a1 v
def F382 (N : Nat) (a0 : List UInt8) (a1 : Bool) : Option (Int) := iterL (F382_L2 N a0 a1) N 0
theorem C382 (N : Nat) (a0 : List UInt8) (a1 : Bool) (r : Int) (hr : some r = F382 N a0 a1) : Aw.Fn Hfaa.prog 382 [is (Sv a0), is (Bl a1)] (is (I64 r)) := by
  refine fn_intro Hfaa.func382 rfl rfl rfl ?_
  intro bn0 w0 H0
  refine AW_seq1 ?_
  refine AW_region ?_
  refine AL_cons (LR_assign (at_c (v' := I64 0) rfl) rfl) (sS sT0 sB0 sF0) ?_
  refine AL_nil ?_
  refine thenN ?_
  refine AW_seq1 ?_
  refine AW_region ?_
  refine AL_cons (LR_assign (at_c (v' := I64 0) rfl) rfl) (sS sT0 sB0 sF0) ?_
  refine AL_nil ?_
  refine thenN ?_
  refine AW_cut (σ := Int) (fun v => ⟨[(5, .inl (is (I64 v)))], []⟩) (fun v => some r = F382_1 N v) ?_ ?_
  · skip
    refine AW_block ?_
    refine AW_iterR (σ := Int) (r := r) (x0 := 0) (emb := fun v => ⟨[(0, .inl (is (Sv a0))), (1, .inl (is (Bl a1))), (5, .inl (is (I64 v)))], []⟩) ?_ hr ?_
    · exact weak0 ((sT rfl (sT rfl (sT rfl sT0)))) sub_nil
    rintro x2 out2 hr
    show AW Hfaa.prog _ _ _ ⟨[(0, .inl (is (Sv a0))), (1, .inl (is (Bl a1))), (5, .inl (is (I64 x2)))], []⟩
    have hr : some out2 = F382_L2b N a0 a1 x2 := hr
    refine AW_seq1 ?_
    refine AW_cut (σ := Bool) (fun v => ⟨[(0, .inl (is (Sv a0))), (1, .inl (is (Bl a1))), (5, .inl (is (I64 x2))), (11, .inl (is (Bl v)))], []⟩) (fun v => some out2 = F382_3 N a0 a1 x2 v) ?_ ?_
    · skip
      refine AW_region ?_
      refine AL_cons (LR_move (at_tmp 5 _) rfl) (sS (sT1 rfl) sB0 sF0) ?_
      refine AL_cons (LR_move (at_tmp 0 _) rfl) (sS (sT1 rfl) sB0 sF0) ?_
      refine AL_cons (LR_bi1 (at_tmp 9 _) (len_S Hfaa.underlying9 a0) rfl) (sS (sT1 rfl) sB0 sF0) ?_
      refine AL_cons (LR_bin (at_tmp 8 _) (at_tmp 10 _) (lss_I64 x2 (a0.length : Int)) rfl) (sS (sA (sT1 rfl) (sT1 rfl)) sB0 sF0) ?_
      refine AL_nil ?_
      exact thenN (cutLeaf (v := decide (x2 < (a0.length : Int))) hr (weak0 ((sT rfl (sT rfl (sT rfl (sT rfl sT0))))) sub_nil))
    · rintro x3 hr
      show AW Hfaa.prog _ _ _ ⟨[(0, .inl (is (Sv a0))), (1, .inl (is (Bl a1))), (5, .inl (is (I64 x2))), (11, .inl (is (Bl x3)))], []⟩
      have hr : some out2 = F382_3 N a0 a1 x2 x3 := hr
      refine AW_condT (b := x3) rfl (fun h => ?_) (fun h => ?_)
      · have hr := hr.trans (cond_t h)
        clear h
        refine AW_skip ?_
        refine thenN ?_
        refine AW_block ?_
        refine AW_cut (σ := BitVec 8) (fun v => ⟨[(0, .inl (is (Sv a0))), (1, .inl (is (Bl a1))), (5, .inl (is (I64 x2))), (6, .inl (is (U8 v)))], []⟩) (fun v => some out2 = F382_4 N a0 a1 x2 v) ?_ ?_
        · skip
          refine AW_region ?_
          refine AL_cons (LR_move (at_tmp 0 _) rfl) (sS (sT1 rfl) sB0 sF0) ?_
          refine AL_cons (LR_move (at_tmp 5 _) rfl) (sS (sT1 rfl) sB0 sF0) ?_
          obtain ⟨hg8, hr⟩ := guard_some hr
          refine AL_cons (LR_indexS (i := (x2 : Int)) Hfaa.underlying9 (at_tmp 12 _) (at_tmp 13 _) (dand hg8) rfl) (sS (sA (sT1 rfl) (sT1 rfl)) sB0 sF0) ?_
          refine AL_cons (LR_assign (at_tmp 14 _) rfl) (sS (sT1 rfl) sB0 sF0) ?_
          refine AL_nil ?_
          exact thenN (cutLeaf (v := (a0.getD ((x2 : Int)).toNat 0).toBitVec) hr (weak0 ((sT rfl (sT rfl (sT rfl (sT rfl sT0))))) sub_nil))
        · rintro x4 hr
          show AW Hfaa.prog _ _ _ ⟨[(0, .inl (is (Sv a0))), (1, .inl (is (Bl a1))), (5, .inl (is (I64 x2))), (6, .inl (is (U8 x4)))], []⟩
          have hr : some out2 = F382_4 N a0 a1 x2 x4 := hr
          refine AW_cut (σ := Bool) (fun v => ⟨[(0, .inl (is (Sv a0))), (1, .inl (is (Bl a1))), (5, .inl (is (I64 x2))), (6, .inl (is (U8 x4))), (7, .inl (is (Bl v)))], []⟩) (fun v => some out2 = F382_5 N a0 a1 x2 x4 v) ?_ ?_
          · skip
            refine AW_region ?_
            refine AL_cons (LR_move (at_tmp 6 _) rfl) (sS (sT1 rfl) sB0 sF0) ?_
            refine AL_cons (LR_bin (at_tmp 15 _) (at_c (v' := U8 (32#8)) rfl) (or_U8 x4 (32#8)) rfl) (sS (sA (sT1 rfl) sT0) sB0 sF0) ?_
            refine AL_cons (LR_bin (at_c (v' := U8 (97#8)) rfl) (at_tmp 16 _) (leq_U8 (97#8) (x4 ||| (32#8))) rfl) (sS (sA sT0 (sT1 rfl)) sB0 sF0) ?_
            refine AL_cons (LR_move (at_tmp 17 _) rfl) (sS (sT1 rfl) sB0 sF0) ?_
            refine AL_cutAt 4 ⟨[(0, .inl (is (Sv a0))), (1, .inl (is (Bl a1))), (5, .inl (is (I64 x2))), (6, .inl (is (U8 x4))), (15, .inl (is (U8 x4))), (16, .inl (is (U8 (x4 ||| (32#8))))), (17, .inl (is (Bl (decide ((97#8).toNat ≤ (x4 ||| (32#8)).toNat))))), (18, .inl (is (Bl (decide ((97#8).toNat ≤ (x4 ||| (32#8)).toNat))))), (22, .inl (is (Bl ((decide ((97#8).toNat ≤ (x4 ||| (32#8)).toNat)) && (decide ((x4 ||| (32#8)).toNat ≤ (102#8).toNat))))))], []⟩ ?_ ?_
            · cases hb : decide ((97#8).toNat ≤ (x4 ||| (32#8)).toNat)
              · skip
                refine AL_cons (LR_off (b := false) rfl rfl rfl rfl) (sS (sT1 rfl) sB0 sF0) ?_
                refine AL_cons (LR_off (b := false) rfl rfl rfl rfl) (sS (sT1 rfl) sB0 sF0) ?_
                refine AL_cons (LR_off (b := false) rfl rfl rfl rfl) (sS (sT1 rfl) sB0 sF0) ?_
                refine AL_cons (LR_pick (b := false) (at_tmp 18 _) (at_tmp 21 _) (at_c (v' := Bl false) rfl) rfl) (sS (sA (sT1 rfl) (sA (sT1 rfl) sT0)) sB0 sF0) ?_
                exact AL_nil ⟨rfl, weak0 ((sT rfl (sT rfl (sT rfl (sT rfl (sT rfl (sT rfl (sT rfl (sT rfl (sT rfl sT0)))))))))) sub_nil⟩
              · skip
                refine AL_cons (LR_on rfl rfl rfl (LR_move (at_tmp 6 _) rfl)) (sS (sT rfl (sT1 rfl)) sB0 sF0) ?_
                refine AL_cons (LR_on rfl rfl rfl (LR_bin (at_tmp 19 _) (at_c (v' := U8 (32#8)) rfl) (or_U8 x4 (32#8)) rfl)) (sS (sT rfl (sA (sT1 rfl) sT0)) sB0 sF0) ?_
                refine AL_cons (LR_on rfl rfl rfl (LR_bin (at_tmp 20 _) (at_c (v' := U8 (102#8)) rfl) (leq_U8 (x4 ||| (32#8)) (102#8)) rfl)) (sS (sT rfl (sA (sT1 rfl) sT0)) sB0 sF0) ?_
                refine AL_cons (LR_pick (b := true) (at_tmp 18 _) (at_tmp 21 _) (at_c (v' := Bl false) rfl) rfl) (sS (sA (sT1 rfl) (sA (sT1 rfl) sT0)) sB0 sF0) ?_
                exact AL_nil ⟨rfl, weak0 ((sT rfl (sT rfl (sT rfl (sT rfl (sT rfl (sT rfl (sT rfl (sT rfl (sT rfl sT0)))))))))) sub_nil⟩
            refine AL_cons (LR_assign (at_tmp 22 _) rfl) (sS (sT1 rfl) sB0 sF0) ?_
            refine AL_nil ?_
            exact thenN (cutLeaf (v := (decide ((97#8).toNat ≤ (x4 ||| (32#8)).toNat)) && (decide ((x4 ||| (32#8)).toNat ≤ (102#8).toNat))) hr (weak0 ((sT rfl (sT rfl (sT rfl (sT rfl (sT rfl sT0)))))) sub_nil))
          · rintro x5 hr
            show AW Hfaa.prog _ _ _ ⟨[(0, .inl (is (Sv a0))), (1, .inl (is (Bl a1))), (5, .inl (is (I64 x2))), (6, .inl (is (U8 x4))), (7, .inl (is (Bl x5)))], []⟩
            have hr : some out2 = F382_5 N a0 a1 x2 x4 x5 := hr
            refine AW_seq1 ?_
            refine AW_cut (σ := Bool) (fun v => ⟨[(0, .inl (is (Sv a0))), (1, .inl (is (Bl a1))), (5, .inl (is (I64 x2))), (36, .inl (is (Bl v)))], []⟩) (fun v => some out2 = F382_6 N a0 a1 x2 v) ?_ ?_
            · skip
              refine AW_region ?_
              refine AL_cons (LR_move (at_tmp 6 _) rfl) (sS (sT1 rfl) sB0 sF0) ?_
              refine AL_cons (LR_bin (at_c (v' := U8 (48#8)) rfl) (at_tmp 23 _) (leq_U8 (48#8) x4) rfl) (sS (sA sT0 (sT1 rfl)) sB0 sF0) ?_
              refine AL_cons (LR_move (at_tmp 24 _) rfl) (sS (sT1 rfl) sB0 sF0) ?_
              refine AL_cutAt 3 ⟨[(0, .inl (is (Sv a0))), (1, .inl (is (Bl a1))), (5, .inl (is (I64 x2))), (6, .inl (is (U8 x4))), (7, .inl (is (Bl x5))), (23, .inl (is (U8 x4))), (24, .inl (is (Bl (decide ((48#8).toNat ≤ x4.toNat))))), (25, .inl (is (Bl (decide ((48#8).toNat ≤ x4.toNat))))), (28, .inl (is (Bl ((decide ((48#8).toNat ≤ x4.toNat)) && (decide (x4.toNat ≤ (57#8).toNat))))))], []⟩ ?_ ?_
              · cases hb : decide ((48#8).toNat ≤ x4.toNat)
                · skip
                  refine AL_cons (LR_off (b := false) rfl rfl rfl rfl) (sS (sT1 rfl) sB0 sF0) ?_
                  refine AL_cons (LR_off (b := false) rfl rfl rfl rfl) (sS (sT1 rfl) sB0 sF0) ?_
                  refine AL_cons (LR_pick (b := false) (at_tmp 25 _) (at_tmp 27 _) (at_c (v' := Bl false) rfl) rfl) (sS (sA (sT1 rfl) (sA (sT1 rfl) sT0)) sB0 sF0) ?_
                  exact AL_nil ⟨rfl, weak0 ((sT rfl (sT rfl (sT rfl (sT rfl (sT rfl (sT rfl (sT rfl (sT rfl (sT rfl sT0)))))))))) sub_nil⟩
                · skip
                  refine AL_cons (LR_on rfl rfl rfl (LR_move (at_tmp 6 _) rfl)) (sS (sT rfl (sT1 rfl)) sB0 sF0) ?_
                  refine AL_cons (LR_on rfl rfl rfl (LR_bin (at_tmp 26 _) (at_c (v' := U8 (57#8)) rfl) (leq_U8 x4 (57#8)) rfl)) (sS (sT rfl (sA (sT1 rfl) sT0)) sB0 sF0) ?_
                  refine AL_cons (LR_pick (b := true) (at_tmp 25 _) (at_tmp 27 _) (at_c (v' := Bl false) rfl) rfl) (sS (sA (sT1 rfl) (sA (sT1 rfl) sT0)) sB0 sF0) ?_
                  exact AL_nil ⟨rfl, weak0 ((sT rfl (sT rfl (sT rfl (sT rfl (sT rfl (sT rfl (sT rfl (sT rfl (sT rfl sT0)))))))))) sub_nil⟩
              refine AL_cons (LR_un (at_tmp 28 _) (not_Bl ((decide ((48#8).toNat ≤ x4.toNat)) && (decide (x4.toNat ≤ (57#8).toNat)))) rfl) (sS (sT1 rfl) sB0 sF0) ?_
              refine AL_cons (LR_move (at_tmp 29 _) rfl) (sS (sT1 rfl) sB0 sF0) ?_
              refine AL_cutAt 6 ⟨[(0, .inl (is (Sv a0))), (1, .inl (is (Bl a1))), (5, .inl (is (I64 x2))), (6, .inl (is (U8 x4))), (7, .inl (is (Bl x5))), (23, .inl (is (U8 x4))), (24, .inl (is (Bl (decide ((48#8).toNat ≤ x4.toNat))))), (25, .inl (is (Bl (decide ((48#8).toNat ≤ x4.toNat))))), (28, .inl (is (Bl ((decide ((48#8).toNat ≤ x4.toNat)) && (decide (x4.toNat ≤ (57#8).toNat)))))), (29, .inl (is (Bl (!((decide ((48#8).toNat ≤ x4.toNat)) && (decide (x4.toNat ≤ (57#8).toNat))))))), (30, .inl (is (Bl (!((decide ((48#8).toNat ≤ x4.toNat)) && (decide (x4.toNat ≤ (57#8).toNat))))))), (36, .inl (is (Bl ((!((decide ((48#8).toNat ≤ x4.toNat)) && (decide (x4.toNat ≤ (57#8).toNat)))) && (!(a1 && x5))))))], []⟩ ?_ ?_
              · cases hb : !((decide ((48#8).toNat ≤ x4.toNat)) && (decide (x4.toNat ≤ (57#8).toNat)))
                · skip
                  refine AL_cons (LR_off (b := false) rfl rfl rfl rfl) (sS (sT1 rfl) sB0 sF0) ?_
                  refine AL_cons (LR_off (b := false) rfl rfl rfl rfl) (sS (sT1 rfl) sB0 sF0) ?_
                  refine AL_cons (LR_offU rfl rfl rfl rfl) (sS (sT1 rfl) sB0 sF0) ?_
                  refine AL_cons (LR_off (b := false) rfl rfl rfl rfl) (sS (sT1 rfl) sB0 sF0) ?_
                  refine AL_cons (LR_off (b := false) rfl rfl rfl rfl) (sS (sT1 rfl) sB0 sF0) ?_
                  refine AL_cons (LR_pick (b := false) (at_tmp 30 _) (at_tmp 35 _) (at_c (v' := Bl false) rfl) rfl) (sS (sA (sT1 rfl) (sA (sT1 rfl) sT0)) sB0 sF0) ?_
                  exact AL_nil ⟨rfl, weak0 ((sT rfl (sT rfl (sT rfl (sT rfl (sT rfl (sT rfl (sT rfl (sT rfl (sT rfl (sT rfl (sT rfl (sT rfl sT0))))))))))))) sub_nil⟩
                · skip
                  refine AL_cons (LR_on rfl rfl rfl (LR_move (at_tmp 1 _) rfl)) (sS (sT rfl (sT1 rfl)) sB0 sF0) ?_
                  refine AL_cons (LR_on rfl rfl rfl (LR_move (at_tmp 31 _) rfl)) (sS (sT rfl (sT1 rfl)) sB0 sF0) ?_
                  refine AL_cutAt 2 ⟨[(0, .inl (is (Sv a0))), (1, .inl (is (Bl a1))), (5, .inl (is (I64 x2))), (6, .inl (is (U8 x4))), (7, .inl (is (Bl x5))), (23, .inl (is (U8 x4))), (24, .inl (is (Bl (decide ((48#8).toNat ≤ x4.toNat))))), (25, .inl (is (Bl (decide ((48#8).toNat ≤ x4.toNat))))), (28, .inl (is (Bl ((decide ((48#8).toNat ≤ x4.toNat)) && (decide (x4.toNat ≤ (57#8).toNat)))))), (29, .inl (is (Bl true))), (30, .inl (is (Bl true))), (31, .inl (is (Bl a1))), (32, .inl (is (Bl a1))), (34, .inl (is (Bl (a1 && x5))))], []⟩ ?_ ?_
                  · cases hb : a1
                    · skip
                      refine AL_cons (LR_off (b := false) rfl rfl rfl rfl) (sS (sT1 rfl) sB0 sF0) ?_
                      refine AL_cons (LR_on rfl rfl rfl (LR_pick (b := false) (at_tmp 32 _) (at_tmp 33 _) (at_c (v' := Bl false) rfl) rfl)) (sS (sT rfl (sA (sT1 rfl) (sA (sT1 rfl) sT0))) sB0 sF0) ?_
                      exact AL_nil ⟨rfl, weak0 ((sT rfl (sT rfl (sT rfl (sT rfl (sT rfl (sT rfl (sT rfl (sT rfl (sT rfl (sT rfl (sT rfl (sT rfl (sT rfl (sT rfl sT0))))))))))))))) sub_nil⟩
                    · skip
                      refine AL_cons (LR_on rfl rfl rfl (LR_move (at_tmp 7 _) rfl)) (sS (sT rfl (sT1 rfl)) sB0 sF0) ?_
                      refine AL_cons (LR_on rfl rfl rfl (LR_pick (b := true) (at_tmp 32 _) (at_tmp 33 _) (at_c (v' := Bl false) rfl) rfl)) (sS (sT rfl (sA (sT1 rfl) (sA (sT1 rfl) sT0))) sB0 sF0) ?_
                      exact AL_nil ⟨rfl, weak0 ((sT rfl (sT rfl (sT rfl (sT rfl (sT rfl (sT rfl (sT rfl (sT rfl (sT rfl (sT rfl (sT rfl (sT rfl (sT rfl (sT rfl sT0))))))))))))))) sub_nil⟩
                  refine AL_cons (LR_on rfl rfl rfl (LR_un (at_tmp 34 _) (not_Bl (a1 && x5)) rfl)) (sS (sT rfl (sT1 rfl)) sB0 sF0) ?_
                  refine AL_cons (LR_pick (b := true) (at_tmp 30 _) (at_tmp 35 _) (at_c (v' := Bl false) rfl) rfl) (sS (sA (sT1 rfl) (sA (sT1 rfl) sT0)) sB0 sF0) ?_
                  exact AL_nil ⟨rfl, weak0 ((sT rfl (sT rfl (sT rfl (sT rfl (sT rfl (sT rfl (sT rfl (sT rfl (sT rfl (sT rfl (sT rfl (sT rfl sT0))))))))))))) sub_nil⟩
              refine AL_nil ?_
              exact thenN (cutLeaf (v := (!((decide ((48#8).toNat ≤ x4.toNat)) && (decide (x4.toNat ≤ (57#8).toNat)))) && (!(a1 && x5))) hr (weak0 ((sT rfl (sT rfl (sT rfl (sT rfl sT0))))) sub_nil))
            · rintro x6 hr
              show AW Hfaa.prog _ _ _ ⟨[(0, .inl (is (Sv a0))), (1, .inl (is (Bl a1))), (5, .inl (is (I64 x2))), (36, .inl (is (Bl x6)))], []⟩
              have hr : some out2 = F382_6 N a0 a1 x2 x6 := hr
              refine AW_condT (b := x6) rfl (fun h => ?_) (fun h => ?_)
              · have hr := hr.trans (cond_t h)
                clear h
                refine AW_exit ?_
                refine thenX ?_
                refine blO (by decide) ?_
                obtain ⟨r', hro, hr⟩ := map_inr hr
                refine thenX (loopOut hro (fun he => ?_))
                rw [he] at hr
                refine blH ?_
                exact thenN (cutLeaf (v := x2) hr (weak0 ((sT rfl sT0)) sub_nil))
              · have hr := hr.trans (cond_f h)
                clear h
                refine AW_skip ?_
                refine thenN ?_
                refine AW_region ?_
                refine AL_cons (LR_move (at_tmp 5 _) rfl) (sS (sT1 rfl) sB0 sF0) ?_
                refine AL_cons (LR_bin (at_tmp 37 _) (at_c (v' := I64 1) rfl) (add_I64 x2 1) rfl) (sS (sA (sT1 rfl) sT0) sB0 sF0) ?_
                refine AL_cons (LR_assign (at_tmp 38 _) rfl) (sS (sT1 rfl) sB0 sF0) ?_
                refine AL_nil ?_
                refine blN ?_
                exact thenN (loopNext (x' := w64 (x2 + 1)) hr (weak0 ((sT rfl (sT rfl (sT rfl sT0)))) sub_nil))
      · have hr := hr.trans (cond_f h)
        clear h
        refine AW_exit ?_
        refine thenX ?_
        obtain ⟨r', hro, hr⟩ := map_inr hr
        refine thenX (loopOut hro (fun he => ?_))
        rw [he] at hr
        refine blH ?_
        exact thenN (cutLeaf (v := x2) hr (weak0 ((sT rfl sT0)) sub_nil))
  · rintro x1 hr
    show AW Hfaa.prog _ _ _ ⟨[(5, .inl (is (I64 x1)))], []⟩
    have hr : some r = F382_1 N x1 := hr
    refine AW_seq1 ?_
    refine AW_region ?_
    refine AL_cons (LR_move (at_tmp 5 _) rfl) (sS (sT1 rfl) sB0 sF0) ?_
    refine AL_cons (LR_assign (at_tmp 39 _) rfl) (sS (sT1 rfl) sB0 sF0) ?_
    refine AL_nil ?_
    refine thenN ?_
    refine AW_ret ?_
    obtain rfl := Option.some.inj hr
    exact res1 rfl (rvT rfl)
end Go.Proofs.YfwaawGreat
