import Derived.Test.YfwaawGreatG1
import Derived.Test.YfwaawGreatG2
import Derived.Test.YfwaawGreatG3
import Derived.Test.YfwaawGreatG4
import Derived.Test.YfwaawGreatG8
import Derived.Test.YfwaawGreatG10
import Derived.Test.YfwaawGreatG12
namespace Go.Proofs.YfwaawGreat
open Go.Aw
set_option linter.unusedVariables false
set_option maxRecDepth 100000
set_option maxHeartbeats 1000000
/-- dec.Text -/
def F293_8 (N : Nat) (x5 : List UInt8) (x7 : Int) (x9 : List UInt8) : Option (List UInt8) := bif decide (x5.length + x9.length ≤ 9223372036854775807) then (F170 N x7).bind fun y5 => bif decide ((x5 ++ x9).length + y5.length ≤ 9223372036854775807) then some ((x5 ++ x9) ++ y5) else none else none
def F293_9 (N : Nat) (x5 : List UInt8) (x7 : Int) (x8 : List UInt8) (x10 : Bool) : Option (List UInt8) := bif x10 then bif decide (x8.length + ([48] : List UInt8).length ≤ 9223372036854775807) then F293_8 N x5 x7 (x8 ++ ([48] : List UInt8)) else none else F293_8 N x5 x7 x8
def F293_7 (N : Nat) (x5 : List UInt8) (x7 : Int) (x8 : List UInt8) : Option (List UInt8) := F293_9 N x5 x7 x8 (decide (x7 < 10))
def F293_10 (N : Nat) (x5 : List UInt8) (x6 : Int) (x11 : Bool) : Option (List UInt8) := bif x11 then F293_7 N x5 (w64 (0 - x6)) ([101, 45] : List UInt8) else F293_7 N x5 x6 ([101, 43] : List UInt8)
def F293_6 (N : Nat) (x5 : List UInt8) (x6 : Int) : Option (List UInt8) := F293_10 N x5 x6 (decide (x6 < 0))
def F293_5 (N : Nat) (a0_0 : Bool) (a0_1 : List UInt8) (a0_2 : Int) (x5 : List UInt8) : Option (List UInt8) := F293_6 N x5 (w64 ((w64 ((w64 a0_2) + (a0_1.length : Int))) - 1))
def F293_11 (N : Nat) (a0_0 : Bool) (a0_1 : List UInt8) (a0_2 : Int) (x4 : List UInt8) (x12 : Bool) : Option (List UInt8) := bif x12 then bif (decide (0 ≤ (1 : Int)) && (decide ((1 : Int) ≤ (a0_1.length : Int)) && decide ((a0_1.length : Int) ≤ (a0_1.length : Int)))) then bif decide (([46] : List UInt8).length + ((a0_1.drop ((1 : Int)).toNat).take (((a0_1.length : Int)).toNat - ((1 : Int)).toNat)).length ≤ 9223372036854775807) then bif decide (x4.length + (([46] : List UInt8) ++ ((a0_1.drop ((1 : Int)).toNat).take (((a0_1.length : Int)).toNat - ((1 : Int)).toNat))).length ≤ 9223372036854775807) then F293_5 N a0_0 a0_1 a0_2 (x4 ++ (([46] : List UInt8) ++ ((a0_1.drop ((1 : Int)).toNat).take (((a0_1.length : Int)).toNat - ((1 : Int)).toNat)))) else none else none else none else F293_5 N a0_0 a0_1 a0_2 x4
def F293_4 (N : Nat) (a0_0 : Bool) (a0_1 : List UInt8) (a0_2 : Int) (x4 : List UInt8) : Option (List UInt8) := F293_11 N a0_0 a0_1 a0_2 x4 (decide ((a0_1.length : Int) > 1))
def F293_3 (N : Nat) (a0_0 : Bool) (a0_1 : List UInt8) (a0_2 : Int) (x2 : List UInt8) (x3 : Bool) : Option (List UInt8) := bif x3 then bif decide (x2.length + ([48, 101, 43, 48, 48] : List UInt8).length ≤ 9223372036854775807) then some (x2 ++ ([48, 101, 43, 48, 48] : List UInt8)) else none else bif (decide (0 ≤ (0 : Int)) && (decide ((0 : Int) ≤ (1 : Int)) && decide ((1 : Int) ≤ (a0_1.length : Int)))) then bif decide (x2.length + ((a0_1.drop ((0 : Int)).toNat).take (((1 : Int)).toNat - ((0 : Int)).toNat)).length ≤ 9223372036854775807) then F293_4 N a0_0 a0_1 a0_2 (x2 ++ ((a0_1.drop ((0 : Int)).toNat).take (((1 : Int)).toNat - ((0 : Int)).toNat))) else none else none
def F293_2 (N : Nat) (a0_0 : Bool) (a0_1 : List UInt8) (a0_2 : Int) (x2 : List UInt8) : Option (List UInt8) := F293_3 N a0_0 a0_1 a0_2 x2 (a0_1 == ([] : List UInt8))
def F293_1 (N : Nat) (a0_0 : Bool) (a0_1 : List UInt8) (a0_2 : Int) (x1 : Bool) : Option (List UInt8) := bif x1 then some ([] : List UInt8) else bif a0_0 then F293_2 N a0_0 a0_1 a0_2 ([45] : List UInt8) else F293_2 N a0_0 a0_1 a0_2 ([] : List UInt8)
def F293 (N : Nat) (a0_0 : Bool) (a0_1 : List UInt8) (a0_2 : Int) : Option (List UInt8) := (F137 N a0_0 a0_1 a0_2).bind fun y6 => F293_1 N a0_0 a0_1 a0_2 (!y6)
theorem C293 (N : Nat) (a0_0 : Bool) (a0_1 : List UInt8) (a0_2 : Int) (r : List UInt8) (hr : some r = F293 N a0_0 a0_1 a0_2) : Aw.Fn Hfaa.prog 293 [agg [is (Bl a0_0), is (Sv a0_1), is (I16 a0_2)]] (is (Sv r)) := by
  refine fn_intro Hfaa.func293 rfl rfl rfl ?_
  intro bn0 w0 H0
  refine AW_seq1 ?_
  refine AW_region ?_
  refine AL_cons (LR_box (at_tmp 0 _) (cells_agg _) rfl) (sS (sT1 rfl) sB0 (sF1 rfl)) ?_
  refine AL_cons (LR_assign (at_c (v' := Sv ([] : List UInt8)) rfl) rfl) (sS sT0 sB0 sF0) ?_
  refine AL_nil ?_
  refine thenN ?_
  refine AW_seq1 ?_
  refine AW_cut (σ := Bool) (fun v => ⟨[(1, .inr (.inl (1, 0))), (9, .inl (is (Bl v)))], [(1, pb 76 [is (Bl a0_0), is (Sv a0_1), is (I16 a0_2)])]⟩) (fun v => some r = F293_1 N a0_0 a0_1 a0_2 v) ?_ ?_
  · skip
    refine AW_region ?_
    refine AL_cons (LR_loads (at_tmp 1 _) ag76 sz76 rfl rfl rfl) (sS (sT1 rfl) (sB1 rfl) sF0) ?_
    obtain ⟨y6, hy6, hr⟩ := bind_some hr
    refine AL_cons (LR_call Hfaa.func137 rfl rfl (C137 N a0_0 a0_1 a0_2 y6 hy6) (all_cons (at_tmp 7 _) all_nil) rfl) (sS (sA (sT1 rfl) sT0) sB0 sF0) ?_
    refine AL_cons (LR_un (at_tmp 8 _) (not_Bl y6) rfl) (sS (sT1 rfl) sB0 sF0) ?_
    refine AL_nil ?_
    exact thenN (cutLeaf (v := !y6) hr (weak0 ((sT rfl (sT rfl sT0))) (sub_keep sub_nil)))
  · rintro x1 hr
    show AW Hfaa.prog _ _ _ ⟨[(1, .inr (.inl (1, 0))), (9, .inl (is (Bl x1)))], [(1, pb 76 [is (Bl a0_0), is (Sv a0_1), is (I16 a0_2)])]⟩
    have hr : some r = F293_1 N a0_0 a0_1 a0_2 x1 := hr
    refine AW_condT (b := x1) rfl (fun h => ?_) (fun h => ?_)
    · have hr := hr.trans (cond_t h)
      clear h
      refine AW_seq1 ?_
      refine AW_region ?_
      refine AL_cons (LR_assign (at_c (v' := Sv ([] : List UInt8)) rfl) rfl) (sS sT0 sB0 sF0) ?_
      refine AL_nil ?_
      refine thenN ?_
      refine AW_ret ?_
      refine thenR ?_
      obtain rfl := Option.some.inj hr
      exact res1 rfl (rvT rfl)
    · have hr := hr.trans (cond_f h)
      clear h
      refine AW_skip ?_
      refine thenN ?_
      refine AW_seq1 ?_
      refine AW_region ?_
      refine AL_cons (LR_assign (at_c (v' := Sv ([] : List UInt8)) rfl) rfl) (sS sT0 sB0 sF0) ?_
      refine AL_nil ?_
      refine thenN ?_
      refine AW_cut (σ := List UInt8) (fun v => ⟨[(1, .inr (.inl (1, 0))), (3, .inl (is (Sv v)))], [(1, pb 76 [is (Bl a0_0), is (Sv a0_1), is (I16 a0_2)])]⟩) (fun v => some r = F293_2 N a0_0 a0_1 a0_2 v) ?_ ?_
      · skip
        refine AW_seq1 ?_
        refine AW_region ?_
        refine AL_cons (LR_fieldAddr (off := 0) (o := 0) (at_tmp 1 _) (fun b w => fa76_0 b 0 w) rfl) (sS (sT1 rfl) sB0 sF0) ?_
        refine AL_cons (LR_load (at_tmp 10 _) na4 rfl rfl) (sS (sT1 rfl) (sB1 rfl) sF0) ?_
        refine AL_nil ?_
        refine thenN ?_
        refine AW_condT (b := a0_0) rfl (fun h => ?_) (fun h => ?_)
        · have hr := hr.trans (cond_t h)
          clear h
          refine AW_region ?_
          refine AL_cons (LR_assign (at_c (v' := Sv ([45] : List UInt8)) rfl) rfl) (sS sT0 sB0 sF0) ?_
          refine AL_nil ?_
          exact thenN (cutLeaf (v := ([45] : List UInt8)) hr (weak0 ((sT rfl (sT rfl sT0))) (sub_keep sub_nil)))
        · have hr := hr.trans (cond_f h)
          clear h
          refine AW_skip ?_
          exact thenN (cutLeaf (v := ([] : List UInt8)) hr (weak0 ((sT rfl (sT rfl sT0))) (sub_keep sub_nil)))
      · rintro x2 hr
        show AW Hfaa.prog _ _ _ ⟨[(1, .inr (.inl (1, 0))), (3, .inl (is (Sv x2)))], [(1, pb 76 [is (Bl a0_0), is (Sv a0_1), is (I16 a0_2)])]⟩
        have hr : some r = F293_2 N a0_0 a0_1 a0_2 x2 := hr
        refine AW_seq1 ?_
        refine AW_cut (σ := Bool) (fun v => ⟨[(1, .inr (.inl (1, 0))), (3, .inl (is (Sv x2))), (14, .inl (is (Bl v)))], [(1, pb 76 [is (Bl a0_0), is (Sv a0_1), is (I16 a0_2)])]⟩) (fun v => some r = F293_3 N a0_0 a0_1 a0_2 x2 v) ?_ ?_
        · skip
          refine AW_region ?_
          refine AL_cons (LR_fieldAddr (off := 0) (o := 1) (at_tmp 1 _) (fun b w => fa76_1 b 0 w) rfl) (sS (sT1 rfl) sB0 sF0) ?_
          refine AL_cons (LR_load (at_tmp 12 _) na9 rfl rfl) (sS (sT1 rfl) (sB1 rfl) sF0) ?_
          refine AL_cons (LR_bin (at_tmp 13 _) (at_c (v' := Sv ([] : List UInt8)) rfl) (eql_S a0_1 ([] : List UInt8)) rfl) (sS (sA (sT1 rfl) sT0) sB0 sF0) ?_
          refine AL_nil ?_
          exact thenN (cutLeaf (v := a0_1 == ([] : List UInt8)) hr (weak0 ((sT rfl (sT rfl (sT rfl sT0)))) (sub_keep sub_nil)))
        · rintro x3 hr
          show AW Hfaa.prog _ _ _ ⟨[(1, .inr (.inl (1, 0))), (3, .inl (is (Sv x2))), (14, .inl (is (Bl x3)))], [(1, pb 76 [is (Bl a0_0), is (Sv a0_1), is (I16 a0_2)])]⟩
          have hr : some r = F293_3 N a0_0 a0_1 a0_2 x2 x3 := hr
          refine AW_condT (b := x3) rfl (fun h => ?_) (fun h => ?_)
          · have hr := hr.trans (cond_t h)
            clear h
            refine AW_seq1 ?_
            refine AW_region ?_
            refine AL_cons (LR_move (at_tmp 3 _) rfl) (sS (sT1 rfl) sB0 sF0) ?_
            obtain ⟨hg4, hr⟩ := guard_some hr
            refine AL_cons (LR_bin (at_tmp 15 _) (at_c (v' := Sv ([48, 101, 43, 48, 48] : List UInt8)) rfl) (add_S x2 ([48, 101, 43, 48, 48] : List UInt8) (of_decide_eq_true hg4)) rfl) (sS (sA (sT1 rfl) sT0) sB0 sF0) ?_
            refine AL_cons (LR_assign (at_tmp 16 _) rfl) (sS (sT1 rfl) sB0 sF0) ?_
            refine AL_nil ?_
            refine thenN ?_
            refine AW_ret ?_
            refine thenR ?_
            obtain rfl := Option.some.inj hr
            exact res1 rfl (rvT rfl)
          · have hr := hr.trans (cond_f h)
            clear h
            refine AW_skip ?_
            refine thenN ?_
            refine AW_cut (σ := List UInt8) (fun v => ⟨[(1, .inr (.inl (1, 0))), (4, .inl (is (Sv v)))], [(1, pb 76 [is (Bl a0_0), is (Sv a0_1), is (I16 a0_2)])]⟩) (fun v => some r = F293_4 N a0_0 a0_1 a0_2 v) ?_ ?_
            · skip
              refine AW_region ?_
              refine AL_cons (LR_move (at_tmp 3 _) rfl) (sS (sT1 rfl) sB0 sF0) ?_
              refine AL_cons (LR_fieldAddr (off := 0) (o := 1) (at_tmp 1 _) (fun b w => fa76_1 b 0 w) rfl) (sS (sT1 rfl) sB0 sF0) ?_
              refine AL_cons (LR_load (at_tmp 18 _) na9 rfl rfl) (sS (sT1 rfl) (sB1 rfl) sF0) ?_
              obtain ⟨hg19, hr⟩ := guard_some hr
              refine AL_cons (LR_sliceS (i := (0 : Int)) (j := (1 : Int)) Hfaa.underlying9 (at_tmp 19 _) (fun _ _ _ _ _ _ _ => .inl ⟨rfl, rfl⟩) (fun B bn s a w hs hr => .inr ⟨_, congrArg some ((at_c (v' := I64 1) rfl) B bn s a w hs hr)⟩) (dand3 hg19) rfl) (sS (sA (sT1 rfl) (sA sT0 sT0)) sB0 sF0) ?_
              obtain ⟨hg20, hr⟩ := guard_some hr
              refine AL_cons (LR_bin (at_tmp 17 _) (at_tmp 20 _) (add_S x2 ((a0_1.drop ((0 : Int)).toNat).take (((1 : Int)).toNat - ((0 : Int)).toNat)) (of_decide_eq_true hg20)) rfl) (sS (sA (sT1 rfl) (sT1 rfl)) sB0 sF0) ?_
              refine AL_cons (LR_assign (at_tmp 21 _) rfl) (sS (sT1 rfl) sB0 sF0) ?_
              refine AL_nil ?_
              exact thenN (cutLeaf (v := x2 ++ ((a0_1.drop ((0 : Int)).toNat).take (((1 : Int)).toNat - ((0 : Int)).toNat))) hr (weak0 ((sT rfl (sT rfl sT0))) (sub_keep sub_nil)))
            · rintro x4 hr
              show AW Hfaa.prog _ _ _ ⟨[(1, .inr (.inl (1, 0))), (4, .inl (is (Sv x4)))], [(1, pb 76 [is (Bl a0_0), is (Sv a0_1), is (I16 a0_2)])]⟩
              have hr : some r = F293_4 N a0_0 a0_1 a0_2 x4 := hr
              refine AW_cut (σ := List UInt8) (fun v => ⟨[(1, .inr (.inl (1, 0))), (4, .inl (is (Sv v)))], [(1, pb 76 [is (Bl a0_0), is (Sv a0_1), is (I16 a0_2)])]⟩) (fun v => some r = F293_5 N a0_0 a0_1 a0_2 v) ?_ ?_
              · skip
                refine AW_cut (σ := Bool) (fun v => ⟨[(1, .inr (.inl (1, 0))), (4, .inl (is (Sv x4))), (25, .inl (is (Bl v)))], [(1, pb 76 [is (Bl a0_0), is (Sv a0_1), is (I16 a0_2)])]⟩) (fun v => some r = F293_11 N a0_0 a0_1 a0_2 x4 v) ?_ ?_
                · skip
                  refine AW_region ?_
                  refine AL_cons (LR_fieldAddr (off := 0) (o := 1) (at_tmp 1 _) (fun b w => fa76_1 b 0 w) rfl) (sS (sT1 rfl) sB0 sF0) ?_
                  refine AL_cons (LR_load (at_tmp 22 _) na9 rfl rfl) (sS (sT1 rfl) (sB1 rfl) sF0) ?_
                  refine AL_cons (LR_bi1 (at_tmp 23 _) (len_S Hfaa.underlying9 a0_1) rfl) (sS (sT1 rfl) sB0 sF0) ?_
                  refine AL_cons (LR_bin (at_tmp 24 _) (at_c (v' := I64 1) rfl) (gtr_I64 (a0_1.length : Int) 1) rfl) (sS (sA (sT1 rfl) sT0) sB0 sF0) ?_
                  refine AL_nil ?_
                  exact thenN (cutLeaf (v := decide ((a0_1.length : Int) > 1)) hr (weak0 ((sT rfl (sT rfl (sT rfl sT0)))) (sub_keep sub_nil)))
                · rintro x12 hr
                  show AW Hfaa.prog _ _ _ ⟨[(1, .inr (.inl (1, 0))), (4, .inl (is (Sv x4))), (25, .inl (is (Bl x12)))], [(1, pb 76 [is (Bl a0_0), is (Sv a0_1), is (I16 a0_2)])]⟩
                  have hr : some r = F293_11 N a0_0 a0_1 a0_2 x4 x12 := hr
                  refine AW_condT (b := x12) rfl (fun h => ?_) (fun h => ?_)
                  · have hr := hr.trans (cond_t h)
                    clear h
                    refine AW_region ?_
                    refine AL_cons (LR_move (at_tmp 4 _) rfl) (sS (sT1 rfl) sB0 sF0) ?_
                    refine AL_cons (LR_fieldAddr (off := 0) (o := 1) (at_tmp 1 _) (fun b w => fa76_1 b 0 w) rfl) (sS (sT1 rfl) sB0 sF0) ?_
                    refine AL_cons (LR_load (at_tmp 27 _) na9 rfl rfl) (sS (sT1 rfl) (sB1 rfl) sF0) ?_
                    obtain ⟨hg16, hr⟩ := guard_some hr
                    refine AL_cons (LR_sliceS (i := (1 : Int)) (j := (a0_1.length : Int)) Hfaa.underlying9 (at_tmp 28 _) (fun B bn s a w hs hr => .inr ⟨_, congrArg some ((at_c (v' := I64 1) rfl) B bn s a w hs hr)⟩) (fun _ _ _ _ _ _ _ => .inl ⟨rfl, rfl⟩) (dand3 hg16) rfl) (sS (sA (sT1 rfl) (sA sT0 sT0)) sB0 sF0) ?_
                    obtain ⟨hg17, hr⟩ := guard_some hr
                    refine AL_cons (LR_bin (at_c (v' := Sv ([46] : List UInt8)) rfl) (at_tmp 29 _) (add_S ([46] : List UInt8) ((a0_1.drop ((1 : Int)).toNat).take (((a0_1.length : Int)).toNat - ((1 : Int)).toNat)) (of_decide_eq_true hg17)) rfl) (sS (sA sT0 (sT1 rfl)) sB0 sF0) ?_
                    obtain ⟨hg18, hr⟩ := guard_some hr
                    refine AL_cons (LR_bin (at_tmp 26 _) (at_tmp 30 _) (add_S x4 (([46] : List UInt8) ++ ((a0_1.drop ((1 : Int)).toNat).take (((a0_1.length : Int)).toNat - ((1 : Int)).toNat))) (of_decide_eq_true hg18)) rfl) (sS (sA (sT1 rfl) (sT1 rfl)) sB0 sF0) ?_
                    refine AL_cons (LR_assign (at_tmp 31 _) rfl) (sS (sT1 rfl) sB0 sF0) ?_
                    refine AL_nil ?_
                    exact thenN (cutLeaf (v := x4 ++ (([46] : List UInt8) ++ ((a0_1.drop ((1 : Int)).toNat).take (((a0_1.length : Int)).toNat - ((1 : Int)).toNat)))) hr (weak0 ((sT rfl (sT rfl sT0))) (sub_keep sub_nil)))
                  · have hr := hr.trans (cond_f h)
                    clear h
                    refine AW_skip ?_
                    exact thenN (cutLeaf (v := x4) hr (weak0 ((sT rfl (sT rfl sT0))) (sub_keep sub_nil)))
              · rintro x5 hr
                show AW Hfaa.prog _ _ _ ⟨[(1, .inr (.inl (1, 0))), (4, .inl (is (Sv x5)))], [(1, pb 76 [is (Bl a0_0), is (Sv a0_1), is (I16 a0_2)])]⟩
                have hr : some r = F293_5 N a0_0 a0_1 a0_2 x5 := hr
                refine AW_cut (σ := Int) (fun v => ⟨[(4, .inl (is (Sv x5))), (5, .inl (is (I64 v)))], []⟩) (fun v => some r = F293_6 N x5 v) ?_ ?_
                · skip
                  refine AW_region ?_
                  refine AL_cons (LR_fieldAddr (off := 0) (o := 2) (at_tmp 1 _) (fun b w => fa76_2 b 0 w) rfl) (sS (sT1 rfl) sB0 sF0) ?_
                  refine AL_cons (LR_load (at_tmp 32 _) na44 rfl rfl) (sS (sT1 rfl) (sB1 rfl) sF0) ?_
                  refine AL_cons (LR_conv (vx := I16 a0_2) (at_tmp 33 _) (conv_I64 Hfaa.underlying44 Hfaa.underlying2 a0_2) rfl) (sS (sT1 rfl) sB0 sF0) ?_
                  refine AL_cons (LR_fieldAddr (off := 0) (o := 1) (at_tmp 1 _) (fun b w => fa76_1 b 0 w) rfl) (sS (sT1 rfl) sB0 sF0) ?_
                  refine AL_cons (LR_load (at_tmp 35 _) na9 rfl rfl) (sS (sT1 rfl) (sB1 rfl) sF0) ?_
                  refine AL_cons (LR_bi1 (at_tmp 36 _) (len_S Hfaa.underlying9 a0_1) rfl) (sS (sT1 rfl) sB0 sF0) ?_
                  refine AL_cons (LR_bin (at_tmp 34 _) (at_tmp 37 _) (add_I64 (w64 a0_2) (a0_1.length : Int)) rfl) (sS (sA (sT1 rfl) (sT1 rfl)) sB0 sF0) ?_
                  refine AL_cons (LR_bin (at_tmp 38 _) (at_c (v' := I64 1) rfl) (sub_I64 (w64 ((w64 a0_2) + (a0_1.length : Int))) 1) rfl) (sS (sA (sT1 rfl) sT0) sB0 sF0) ?_
                  refine AL_cons (LR_assign (at_tmp 39 _) rfl) (sS (sT1 rfl) sB0 sF0) ?_
                  refine AL_nil ?_
                  exact thenN (cutLeaf (v := w64 ((w64 ((w64 a0_2) + (a0_1.length : Int))) - 1)) hr (weak0 ((sT rfl (sT rfl sT0))) (sub_drop sub_nil)))
                · rintro x6 hr
                  show AW Hfaa.prog _ _ _ ⟨[(4, .inl (is (Sv x5))), (5, .inl (is (I64 x6)))], []⟩
                  have hr : some r = F293_6 N x5 x6 := hr
                  refine AW_seq1 ?_
                  refine AW_region ?_
                  refine AL_cons (LR_assign (at_c (v' := Sv ([101, 43] : List UInt8)) rfl) rfl) (sS sT0 sB0 sF0) ?_
                  refine AL_nil ?_
                  refine thenN ?_
                  refine AW_cut (σ := Int × List UInt8) (fun v => ⟨[(4, .inl (is (Sv x5))), (5, .inl (is (I64 v.1))), (6, .inl (is (Sv v.2)))], []⟩) (fun v => some r = F293_7 N x5 v.1 v.2) ?_ ?_
                  · skip
                    refine AW_cut (σ := Bool) (fun v => ⟨[(4, .inl (is (Sv x5))), (5, .inl (is (I64 x6))), (6, .inl (is (Sv ([101, 43] : List UInt8)))), (41, .inl (is (Bl v)))], []⟩) (fun v => some r = F293_10 N x5 x6 v) ?_ ?_
                    · skip
                      refine AW_region ?_
                      refine AL_cons (LR_move (at_tmp 5 _) rfl) (sS (sT1 rfl) sB0 sF0) ?_
                      refine AL_cons (LR_bin (at_tmp 40 _) (at_c (v' := I64 0) rfl) (lss_I64 x6 0) rfl) (sS (sA (sT1 rfl) sT0) sB0 sF0) ?_
                      refine AL_nil ?_
                      exact thenN (cutLeaf (v := decide (x6 < 0)) hr (weak0 ((sT rfl (sT rfl (sT rfl (sT rfl sT0))))) sub_nil))
                    · rintro x11 hr
                      show AW Hfaa.prog _ _ _ ⟨[(4, .inl (is (Sv x5))), (5, .inl (is (I64 x6))), (6, .inl (is (Sv ([101, 43] : List UInt8)))), (41, .inl (is (Bl x11)))], []⟩
                      have hr : some r = F293_10 N x5 x6 x11 := hr
                      refine AW_condT (b := x11) rfl (fun h => ?_) (fun h => ?_)
                      · have hr := hr.trans (cond_t h)
                        clear h
                        refine AW_region ?_
                        refine AL_cons (LR_move (at_tmp 5 _) rfl) (sS (sT1 rfl) sB0 sF0) ?_
                        refine AL_cons (LR_un (at_tmp 42 _) (neg_I64 x6) rfl) (sS (sT1 rfl) sB0 sF0) ?_
                        refine AL_cons (LR_assign (at_c (v' := Sv ([101, 45] : List UInt8)) rfl) rfl) (sS sT0 sB0 sF0) ?_
                        refine AL_cons (LR_assign (at_tmp 43 _) rfl) (sS (sT1 rfl) sB0 sF0) ?_
                        refine AL_nil ?_
                        exact thenN (cutLeaf (v := (w64 (0 - x6), ([101, 45] : List UInt8))) hr (weak0 ((sT rfl (sT rfl (sT rfl sT0)))) sub_nil))
                      · have hr := hr.trans (cond_f h)
                        clear h
                        refine AW_skip ?_
                        exact thenN (cutLeaf (v := (x6, ([101, 43] : List UInt8))) hr (weak0 ((sT rfl (sT rfl (sT rfl sT0)))) sub_nil))
                  · rintro ⟨x7, x8⟩ hr
                    show AW Hfaa.prog _ _ _ ⟨[(4, .inl (is (Sv x5))), (5, .inl (is (I64 x7))), (6, .inl (is (Sv x8)))], []⟩
                    have hr : some r = F293_7 N x5 x7 x8 := hr
                    refine AW_cut (σ := List UInt8) (fun v => ⟨[(4, .inl (is (Sv x5))), (5, .inl (is (I64 x7))), (6, .inl (is (Sv v)))], []⟩) (fun v => some r = F293_8 N x5 x7 v) ?_ ?_
                    · skip
                      refine AW_cut (σ := Bool) (fun v => ⟨[(4, .inl (is (Sv x5))), (5, .inl (is (I64 x7))), (6, .inl (is (Sv x8))), (45, .inl (is (Bl v)))], []⟩) (fun v => some r = F293_9 N x5 x7 x8 v) ?_ ?_
                      · skip
                        refine AW_region ?_
                        refine AL_cons (LR_move (at_tmp 5 _) rfl) (sS (sT1 rfl) sB0 sF0) ?_
                        refine AL_cons (LR_bin (at_tmp 44 _) (at_c (v' := I64 10) rfl) (lss_I64 x7 10) rfl) (sS (sA (sT1 rfl) sT0) sB0 sF0) ?_
                        refine AL_nil ?_
                        exact thenN (cutLeaf (v := decide (x7 < 10)) hr (weak0 ((sT rfl (sT rfl (sT rfl (sT rfl sT0))))) sub_nil))
                      · rintro x10 hr
                        show AW Hfaa.prog _ _ _ ⟨[(4, .inl (is (Sv x5))), (5, .inl (is (I64 x7))), (6, .inl (is (Sv x8))), (45, .inl (is (Bl x10)))], []⟩
                        have hr : some r = F293_9 N x5 x7 x8 x10 := hr
                        refine AW_condT (b := x10) rfl (fun h => ?_) (fun h => ?_)
                        · have hr := hr.trans (cond_t h)
                          clear h
                          refine AW_region ?_
                          refine AL_cons (LR_move (at_tmp 6 _) rfl) (sS (sT1 rfl) sB0 sF0) ?_
                          obtain ⟨hg15, hr⟩ := guard_some hr
                          refine AL_cons (LR_bin (at_tmp 46 _) (at_c (v' := Sv ([48] : List UInt8)) rfl) (add_S x8 ([48] : List UInt8) (of_decide_eq_true hg15)) rfl) (sS (sA (sT1 rfl) sT0) sB0 sF0) ?_
                          refine AL_cons (LR_assign (at_tmp 47 _) rfl) (sS (sT1 rfl) sB0 sF0) ?_
                          refine AL_nil ?_
                          exact thenN (cutLeaf (v := x8 ++ ([48] : List UInt8)) hr (weak0 ((sT rfl (sT rfl (sT rfl sT0)))) sub_nil))
                        · have hr := hr.trans (cond_f h)
                          clear h
                          refine AW_skip ?_
                          exact thenN (cutLeaf (v := x8) hr (weak0 ((sT rfl (sT rfl (sT rfl sT0)))) sub_nil))
                    · rintro x9 hr
                      show AW Hfaa.prog _ _ _ ⟨[(4, .inl (is (Sv x5))), (5, .inl (is (I64 x7))), (6, .inl (is (Sv x9)))], []⟩
                      have hr : some r = F293_8 N x5 x7 x9 := hr
                      refine AW_seq1 ?_
                      refine AW_region ?_
                      refine AL_cons (LR_move (at_tmp 4 _) rfl) (sS (sT1 rfl) sB0 sF0) ?_
                      refine AL_cons (LR_move (at_tmp 6 _) rfl) (sS (sT1 rfl) sB0 sF0) ?_
                      obtain ⟨hg13, hr⟩ := guard_some hr
                      refine AL_cons (LR_bin (at_tmp 48 _) (at_tmp 49 _) (add_S x5 x9 (of_decide_eq_true hg13)) rfl) (sS (sA (sT1 rfl) (sT1 rfl)) sB0 sF0) ?_
                      refine AL_cons (LR_move (at_tmp 5 _) rfl) (sS (sT1 rfl) sB0 sF0) ?_
                      obtain ⟨y5, hy5, hr⟩ := bind_some hr
                      refine AL_cons (LR_call Hfaa.func170 rfl rfl (C170 N x7 y5 hy5) (all_cons (at_tmp 51 _) all_nil) rfl) (sS (sA (sT1 rfl) sT0) sB0 sF0) ?_
                      obtain ⟨hg14, hr⟩ := guard_some hr
                      refine AL_cons (LR_bin (at_tmp 50 _) (at_tmp 52 _) (add_S (x5 ++ x9) y5 (of_decide_eq_true hg14)) rfl) (sS (sA (sT1 rfl) (sT1 rfl)) sB0 sF0) ?_
                      refine AL_cons (LR_assign (at_tmp 53 _) rfl) (sS (sT1 rfl) sB0 sF0) ?_
                      refine AL_nil ?_
                      refine thenN ?_
                      refine AW_ret ?_
                      obtain rfl := Option.some.inj hr
                      exact res1 rfl (rvT rfl)
/-- calc/ex.orName -/
def F292_4 (a2 : List UInt8) (x7 : Bool) : List UInt8 := bif x7 then ([43, 73, 110, 102] : List UInt8) else a2
def F292_3 (a2 : List UInt8) (x1 : Bool) (x2 : Int) (x3 : Int) (x4 : BitVec 64) (x6 : Bool) : List UInt8 := bif x6 then ([45, 73, 110, 102] : List UInt8) else F292_4 a2 (x2 == 3)
def F292_2 (a2 : List UInt8) (x1 : Bool) (x2 : Int) (x3 : Int) (x4 : BitVec 64) (x5 : Bool) : List UInt8 := bif x5 then ([78, 97, 78] : List UInt8) else F292_3 a2 x1 x2 x3 x4 ((x2 == 3) && x1)
def F292_1 (a2 : List UInt8) (x1 : Bool) (x2 : Int) (x3 : Int) (x4 : BitVec 64) : List UInt8 := F292_2 a2 x1 x2 x3 x4 (x2 == 4)
def F292 (a0_0 : BitVec 8) (a0_1 : BitVec 8) (a1 : BitVec 64) (a2 : List UInt8) : List UInt8 := lt (F65 a0_0 a0_1 a1) fun y4 => F292_1 a2 y4.1 y4.2.1 y4.2.2.1 y4.2.2.2
theorem C292 (a0_0 : BitVec 8) (a0_1 : BitVec 8) (a1 : BitVec 64) (a2 : List UInt8) (r : List UInt8) (hr : r = F292 a0_0 a0_1 a1 a2) : Aw.Fn Hfaa.prog 292 [agg [is (U8 a0_0), is (U8 a0_1)], is (U64 a1), is (Sv a2)] (is (Sv r)) := by
  refine fn_intro Hfaa.func292 rfl rfl rfl ?_
  intro bn0 w0 H0
  refine AW_seq1 ?_
  refine AW_region ?_
  refine AL_cons (LR_box (at_tmp 0 _) (cells_agg _) rfl) (sS (sT1 rfl) sB0 (sF1 rfl)) ?_
  refine AL_cons (LR_assign (at_c (v' := Sv ([] : List UInt8)) rfl) rfl) (sS sT0 sB0 sF0) ?_
  refine AL_nil ?_
  refine thenN ?_
  refine AW_seq1 ?_
  refine AW_cut (σ := Bool × Int × Int × BitVec 64) (fun v => ⟨[(2, .inl (is (Sv a2))), (7, .inr (.inl (7, 0)))], [(7, pb 112 [is (Bl v.1), is (I8 v.2.1), is (I16 v.2.2.1), is (U64 v.2.2.2)])]⟩) (fun v => r = F292_1 a2 v.1 v.2.1 v.2.2.1 v.2.2.2) ?_ ?_
  · skip
    refine AW_region ?_
    refine AL_cons (LR_loads (at_tmp 3 _) ag23 sz23 rfl rfl rfl) (sS (sT1 rfl) (sB1 rfl) sF0) ?_
    refine AL_cons (LR_move (at_tmp 1 _) rfl) (sS (sT1 rfl) sB0 sF0) ?_
    obtain ⟨y4, hy4, hr⟩ := lt_some hr
    refine AL_cons (LR_call Hfaa.func65 rfl rfl (C65 a0_0 a0_1 a1 y4 hy4) (all_cons (at_tmp 8 _) (all_cons (at_tmp 9 _) all_nil)) rfl) (sS (sA (sT1 rfl) (sA (sT1 rfl) sT0)) sB0 sF0) ?_
    refine AL_cons (zl112 rfl) (sS sT0 sB0 (sF1 rfl)) ?_
    refine AL_cons (LR_store (at_tmp 7 _) (at_tmp 10 _) (cells_agg _) (onC (one_is rfl) (onC (one_is rfl) (onC (one_is rfl) (onC (one_is rfl) onN)))) sz112 rfl rfl) (sS (sA (sT1 rfl) (sT1 rfl)) (sB1 rfl) sF0) ?_
    refine AL_nil ?_
    exact thenN (cutLeaf (v := (y4.1, y4.2.1, y4.2.2.1, y4.2.2.2)) hr (weak0 ((sT rfl (sT rfl sT0))) (sub_drop (sub_keep sub_nil))))
  · rintro ⟨x1, x2, x3, x4⟩ hr
    show AW Hfaa.prog _ _ _ ⟨[(2, .inl (is (Sv a2))), (7, .inr (.inl (7, 0)))], [(7, pb 112 [is (Bl x1), is (I8 x2), is (I16 x3), is (U64 x4)])]⟩
    have hr : r = F292_1 a2 x1 x2 x3 x4 := hr
    refine AW_block ?_
    refine AW_cut (σ := Bool) (fun v => ⟨[(2, .inl (is (Sv a2))), (7, .inr (.inl (7, 0))), (11, .inl (is (Bl v)))], [(7, pb 112 [is (Bl x1), is (I8 x2), is (I16 x3), is (U64 x4)])]⟩) (fun v => r = F292_2 a2 x1 x2 x3 x4 v) ?_ ?_
    · skip
      refine AW_region ?_
      refine AL_cons (LR_fieldAddr (off := 0) (o := 1) (at_tmp 7 _) (fun b w => fa112_1 b 0 w) rfl) (sS (sT1 rfl) sB0 sF0) ?_
      refine AL_cons (LR_load (at_tmp 12 _) na110 rfl rfl) (sS (sT1 rfl) (sB1 rfl) sF0) ?_
      refine AL_cons (LR_bin (at_tmp 13 _) (at_c (v' := I8 4) rfl) (eql_I8 x2 4) rfl) (sS (sA (sT1 rfl) sT0) sB0 sF0) ?_
      refine AL_cons (LR_assign (at_tmp 14 _) rfl) (sS (sT1 rfl) sB0 sF0) ?_
      refine AL_nil ?_
      exact thenN (cutLeaf (v := x2 == 4) hr (weak0 ((sT rfl (sT rfl (sT rfl sT0)))) (sub_keep sub_nil)))
    · rintro x5 hr
      show AW Hfaa.prog _ _ _ ⟨[(2, .inl (is (Sv a2))), (7, .inr (.inl (7, 0))), (11, .inl (is (Bl x5)))], [(7, pb 112 [is (Bl x1), is (I8 x2), is (I16 x3), is (U64 x4)])]⟩
      have hr : r = F292_2 a2 x1 x2 x3 x4 x5 := hr
      refine AW_condT (b := x5) rfl (fun h => ?_) (fun h => ?_)
      · have hr := hr.trans (cond_t h)
        clear h
        refine AW_seq1 ?_
        refine AW_region ?_
        refine AL_cons (LR_assign (at_c (v' := Sv ([78, 97, 78] : List UInt8)) rfl) rfl) (sS sT0 sB0 sF0) ?_
        refine AL_nil ?_
        refine thenN ?_
        refine AW_ret ?_
        refine blR ?_
        refine thenR ?_
        subst hr
        exact res1 rfl (rvT rfl)
      · have hr := hr.trans (cond_f h)
        clear h
        refine AW_cut (σ := Bool) (fun v => ⟨[(2, .inl (is (Sv a2))), (7, .inr (.inl (7, 0))), (15, .inl (is (Bl v)))], [(7, pb 112 [is (Bl x1), is (I8 x2), is (I16 x3), is (U64 x4)])]⟩) (fun v => r = F292_3 a2 x1 x2 x3 x4 v) ?_ ?_
        · skip
          refine AW_region ?_
          refine AL_cons (LR_fieldAddr (off := 0) (o := 1) (at_tmp 7 _) (fun b w => fa112_1 b 0 w) rfl) (sS (sT1 rfl) sB0 sF0) ?_
          refine AL_cons (LR_load (at_tmp 16 _) na110 rfl rfl) (sS (sT1 rfl) (sB1 rfl) sF0) ?_
          refine AL_cons (LR_bin (at_tmp 17 _) (at_c (v' := I8 3) rfl) (eql_I8 x2 3) rfl) (sS (sA (sT1 rfl) sT0) sB0 sF0) ?_
          refine AL_cons (LR_move (at_tmp 18 _) rfl) (sS (sT1 rfl) sB0 sF0) ?_
          refine AL_cutAt 3 ⟨[(2, .inl (is (Sv a2))), (7, .inr (.inl (7, 0))), (11, .inl (is (Bl x5))), (16, .inr (.inl (7, 1))), (17, .inl (is (I8 x2))), (18, .inl (is (Bl (x2 == 3)))), (19, .inl (is (Bl (x2 == 3)))), (22, .inl (is (Bl ((x2 == 3) && x1))))], [(7, pb 112 [is (Bl x1), is (I8 x2), is (I16 x3), is (U64 x4)])]⟩ ?_ ?_
          · cases hb : x2 == 3
            · skip
              refine AL_cons (LR_off (b := false) rfl rfl rfl rfl) (sS (sT1 rfl) sB0 sF0) ?_
              refine AL_cons (LR_off (b := false) rfl rfl rfl rfl) (sS (sT1 rfl) sB0 sF0) ?_
              refine AL_cons (LR_pick (b := false) (at_tmp 19 _) (at_tmp 21 _) (at_c (v' := Bl false) rfl) rfl) (sS (sA (sT1 rfl) (sA (sT1 rfl) sT0)) sB0 sF0) ?_
              exact AL_nil ⟨rfl, weak0 ((sT rfl (sT rfl (sT rfl (sT rfl (sT rfl (sT rfl (sT rfl (sT rfl sT0))))))))) (sub_keep sub_nil)⟩
            · skip
              refine AL_cons (LR_on rfl rfl rfl (LR_fieldAddr (off := 0) (o := 0) (at_tmp 7 _) (fun b w => fa112_0 b 0 w) rfl)) (sS (sT rfl (sT1 rfl)) sB0 sF0) ?_
              refine AL_cons (LR_on rfl rfl rfl (LR_load (at_tmp 20 _) na4 rfl rfl)) (sS (sT rfl (sT1 rfl)) (sB1 rfl) sF0) ?_
              refine AL_cons (LR_pick (b := true) (at_tmp 19 _) (at_tmp 21 _) (at_c (v' := Bl false) rfl) rfl) (sS (sA (sT1 rfl) (sA (sT1 rfl) sT0)) sB0 sF0) ?_
              exact AL_nil ⟨rfl, weak0 ((sT rfl (sT rfl (sT rfl (sT rfl (sT rfl (sT rfl (sT rfl (sT rfl sT0))))))))) (sub_keep sub_nil)⟩
          refine AL_cons (LR_assign (at_tmp 22 _) rfl) (sS (sT1 rfl) sB0 sF0) ?_
          refine AL_nil ?_
          exact thenN (cutLeaf (v := (x2 == 3) && x1) hr (weak0 ((sT rfl (sT rfl (sT rfl sT0)))) (sub_keep sub_nil)))
        · rintro x6 hr
          show AW Hfaa.prog _ _ _ ⟨[(2, .inl (is (Sv a2))), (7, .inr (.inl (7, 0))), (15, .inl (is (Bl x6)))], [(7, pb 112 [is (Bl x1), is (I8 x2), is (I16 x3), is (U64 x4)])]⟩
          have hr : r = F292_3 a2 x1 x2 x3 x4 x6 := hr
          refine AW_condT (b := x6) rfl (fun h => ?_) (fun h => ?_)
          · have hr := hr.trans (cond_t h)
            clear h
            refine AW_seq1 ?_
            refine AW_region ?_
            refine AL_cons (LR_assign (at_c (v' := Sv ([45, 73, 110, 102] : List UInt8)) rfl) rfl) (sS sT0 sB0 sF0) ?_
            refine AL_nil ?_
            refine thenN ?_
            refine AW_ret ?_
            refine blR ?_
            refine thenR ?_
            subst hr
            exact res1 rfl (rvT rfl)
          · have hr := hr.trans (cond_f h)
            clear h
            refine AW_cut (σ := Bool) (fun v => ⟨[(2, .inl (is (Sv a2))), (23, .inl (is (Bl v)))], []⟩) (fun v => r = F292_4 a2 v) ?_ ?_
            · skip
              refine AW_region ?_
              refine AL_cons (LR_fieldAddr (off := 0) (o := 1) (at_tmp 7 _) (fun b w => fa112_1 b 0 w) rfl) (sS (sT1 rfl) sB0 sF0) ?_
              refine AL_cons (LR_load (at_tmp 24 _) na110 rfl rfl) (sS (sT1 rfl) (sB1 rfl) sF0) ?_
              refine AL_cons (LR_bin (at_tmp 25 _) (at_c (v' := I8 3) rfl) (eql_I8 x2 3) rfl) (sS (sA (sT1 rfl) sT0) sB0 sF0) ?_
              refine AL_cons (LR_assign (at_tmp 26 _) rfl) (sS (sT1 rfl) sB0 sF0) ?_
              refine AL_nil ?_
              exact thenN (cutLeaf (v := x2 == 3) hr (weak0 ((sT rfl (sT rfl sT0))) (sub_drop sub_nil)))
            · rintro x7 hr
              show AW Hfaa.prog _ _ _ ⟨[(2, .inl (is (Sv a2))), (23, .inl (is (Bl x7)))], []⟩
              have hr : r = F292_4 a2 x7 := hr
              refine AW_condT (b := x7) rfl (fun h => ?_) (fun h => ?_)
              · have hr := hr.trans (cond_t h)
                clear h
                refine AW_seq1 ?_
                refine AW_region ?_
                refine AL_cons (LR_assign (at_c (v' := Sv ([43, 73, 110, 102] : List UInt8)) rfl) rfl) (sS sT0 sB0 sF0) ?_
                refine AL_nil ?_
                refine thenN ?_
                refine AW_ret ?_
                refine blR ?_
                refine thenR ?_
                subst hr
                exact res1 rfl (rvT rfl)
              · have hr := hr.trans (cond_f h)
                clear h
                refine AW_skip ?_
                refine blN ?_
                refine thenN ?_
                refine AW_seq1 ?_
                refine AW_region ?_
                refine AL_cons (LR_move (at_tmp 2 _) rfl) (sS (sT1 rfl) sB0 sF0) ?_
                refine AL_cons (LR_assign (at_tmp 27 _) rfl) (sS (sT1 rfl) sB0 sF0) ?_
                refine AL_nil ?_
                refine thenN ?_
                refine AW_ret ?_
                subst hr
                exact res1 rfl (rvT rfl)
/-- calc/ex.show -/
def F226 (N : Nat) (a0_0 : BitVec 8) (a0_1 : BitVec 8) (a1 : BitVec 64) : Option (List UInt8) := (F82 N a0_0 a0_1 a1).bind fun y4 => (F293 N y4.1 y4.2.1 y4.2.2).bind fun y5 => lt (F292 a0_0 a0_1 a1 y5) fun y6 => some y6
theorem C226 (N : Nat) (a0_0 : BitVec 8) (a0_1 : BitVec 8) (a1 : BitVec 64) (r : List UInt8) (hr : some r = F226 N a0_0 a0_1 a1) : Aw.Fn Hfaa.prog 226 [agg [is (U8 a0_0), is (U8 a0_1)], is (U64 a1)] (is (Sv r)) := by
  refine fn_intro Hfaa.func226 rfl rfl rfl ?_
  intro bn0 w0 H0
  refine AW_seq1 ?_
  refine AW_region ?_
  refine AL_cons (LR_box (at_tmp 0 _) (cells_agg _) rfl) (sS (sT1 rfl) sB0 (sF1 rfl)) ?_
  refine AL_cons (LR_assign (at_c (v' := Sv ([] : List UInt8)) rfl) rfl) (sS sT0 sB0 sF0) ?_
  refine AL_nil ?_
  refine thenN ?_
  refine AW_seq1 ?_
  obtain ⟨y4, hy4, hr⟩ := bind_some hr
  obtain ⟨y5, hy5, hr⟩ := bind_some hr
  obtain ⟨y6, hy6, hr⟩ := lt_some hr
  refine AW_draw mixed
    (lrC (LR_loads (at_tmp 2 _) ag23 sz23 rfl rfl rfl)
    (lrC (LR_move (at_tmp 1 _) rfl)
    (lrC (LR_loads (at_tmp 2 _) ag23 sz23 rfl rfl rfl)
    (lrC (LR_move (at_tmp 1 _) rfl)
    (lrC (LR_call Hfaa.func82 rfl rfl (C82 N a0_0 a0_1 a1 y4 hy4) (all_cons (at_tmp 7 _) (all_cons (at_tmp 8 _) all_nil)) rfl)
    (lrC (LR_call Hfaa.func293 rfl rfl (C293 N y4.1 y4.2.1 y4.2.2 y5 hy5) (all_cons (at_tmp 9 _) all_nil) rfl)
    (lrC (LR_call Hfaa.func292 rfl rfl (C292 a0_0 a0_1 a1 y5 y6 hy6) (all_cons (at_tmp 5 _) (all_cons (at_tmp 6 _) (all_cons (at_tmp 10 _) all_nil))) rfl)
    (lrC (LR_assign (at_tmp 11 _) rfl)
    lrN))))))))
    (by kernel_rfl)
    (saC (sS (sT1 rfl) (sB1 rfl) sF0) (saC (sS (sT1 rfl) sB0 sF0) (saC (sS (sT1 rfl) (sB1 rfl) sF0) (saC (sS (sT1 rfl) sB0 sF0) (saC (sS (sA (sT1 rfl) (sA (sT1 rfl) sT0)) sB0 sF0) (saC (sS (sA (sT1 rfl) sT0) sB0 sF0) (saC (sS (sA (sT1 rfl) (sA (sT1 rfl) (sA (sT1 rfl) sT0))) sB0 sF0) (saC (sS (sT1 rfl) sB0 sF0) saN)))))))) ?_
  refine thenN ?_
  refine AW_ret ?_
  obtain rfl := Option.some.inj hr
  exact res1 rfl (rvT rfl)
/-- exact.FMAFlags -/
def F180_9 (N : Nat) (a0_0 : BitVec 8) (a0_1 : BitVec 8) (a1 : BitVec 8) (x14 : BitVec 64) (x15 : Bool) (x16 : Int) (x17 : Bool) (x18 : Nat) (x19 : Nat) (x20 : Bool) (x25 : Bool) (x26 : Nat) (x27 : Nat) (x28 : Bool) : Option (BitVec 64 × BitVec 8) := bif x28 then lt (F251 a0_0 a0_1 ((x20 && x15) || ((x20 != x15) && (a1 == (4#8))))) fun y31 => some (y31, 0#8) else (F136 N a0_0 a0_1 a1 x25 x26 x27).bind fun y33 => some (y33.1, y33.2)
def F180_8 (N : Nat) (a0_0 : BitVec 8) (a0_1 : BitVec 8) (a1 : BitVec 8) (x14 : BitVec 64) (x15 : Bool) (x16 : Int) (x17 : Bool) (x18 : Nat) (x19 : Nat) (x20 : Bool) (x25 : Bool) (x26 : Nat) (x27 : Nat) : Option (BitVec 64 × BitVec 8) := F180_9 N a0_0 a0_1 a1 x14 x15 x16 x17 x18 x19 x20 x25 x26 x27 (x26 == 0)
def F180_7 (N : Nat) (a0_0 : BitVec 8) (a0_1 : BitVec 8) (a1 : BitVec 8) (x2 : BitVec 64) (x3 : Bool) (x4 : Int) (x5 : Bool) (x6 : Nat) (x7 : Nat) (x8 : BitVec 64) (x9 : Bool) (x10 : Int) (x11 : Bool) (x12 : Nat) (x13 : Nat) (x14 : BitVec 64) (x15 : Bool) (x16 : Int) (x17 : Bool) (x18 : Nat) (x19 : Nat) (x20 : Bool) (x24 : Bool) : Option (BitVec 64 × BitVec 8) := bif x24 then some (x14, 0#8) else bif lim x6 && lim x12 then bif lim x7 && lim x13 then (F146 N x20 (x6 * x12) (x7 * x13) x17 x18 x19).bind fun y34 => F180_8 N a0_0 a0_1 a1 x14 x15 x16 x17 x18 x19 x20 y34.1 y34.2.1 y34.2.2 else none else none
def F180_6 (N : Nat) (a0_0 : BitVec 8) (a0_1 : BitVec 8) (a1 : BitVec 8) (x2 : BitVec 64) (x3 : Bool) (x4 : Int) (x5 : Bool) (x6 : Nat) (x7 : Nat) (x8 : BitVec 64) (x9 : Bool) (x10 : Int) (x11 : Bool) (x12 : Nat) (x13 : Nat) (x14 : BitVec 64) (x15 : Bool) (x16 : Int) (x17 : Bool) (x18 : Nat) (x19 : Nat) (x20 : Bool) (x21 : Bool) (x23 : Bool) : Option (BitVec 64 × BitVec 8) := bif x23 then lt (F66 a0_0 a0_1) fun y24 => some (y24, 1#8) else bif x21 then lt (F67 a0_0 a0_1 x20) fun y26 => some (y26, 0#8) else F180_7 N a0_0 a0_1 a1 x2 x3 x4 x5 x6 x7 x8 x9 x10 x11 x12 x13 x14 x15 x16 x17 x18 x19 x20 (x16 == 3)
def F180_10 (N : Nat) (a0_0 : BitVec 8) (a0_1 : BitVec 8) (a1 : BitVec 8) (x2 : BitVec 64) (x3 : Bool) (x4 : Int) (x5 : Bool) (x6 : Nat) (x7 : Nat) (x8 : BitVec 64) (x9 : Bool) (x10 : Int) (x11 : Bool) (x12 : Nat) (x13 : Nat) (x14 : BitVec 64) (x15 : Bool) (x16 : Int) (x17 : Bool) (x18 : Nat) (x19 : Nat) (x20 : Bool) (x21 : Bool) (x29 : Bool) : Option (BitVec 64 × BitVec 8) := bif x29 then F180_6 N a0_0 a0_1 a1 x2 x3 x4 x5 x6 x7 x8 x9 x10 x11 x12 x13 x14 x15 x16 x17 x18 x19 x20 x21 x29 else F180_6 N a0_0 a0_1 a1 x2 x3 x4 x5 x6 x7 x8 x9 x10 x11 x12 x13 x14 x15 x16 x17 x18 x19 x20 x21 ((x21 && (x16 == 3)) && (x15 != x20))
def F180_5 (N : Nat) (a0_0 : BitVec 8) (a0_1 : BitVec 8) (a1 : BitVec 8) (a2 : BitVec 64) (a3 : BitVec 64) (a4 : BitVec 64) (x2 : BitVec 64) (x3 : Bool) (x4 : Int) (x5 : Bool) (x6 : Nat) (x7 : Nat) (x8 : BitVec 64) (x9 : Bool) (x10 : Int) (x11 : Bool) (x12 : Nat) (x13 : Nat) (x14 : BitVec 64) (x15 : Bool) (x16 : Int) (x17 : Bool) (x18 : Nat) (x19 : Nat) (x20 : Bool) (x21 : Bool) (x22 : Bool) : Option (BitVec 64 × BitVec 8) := bif x22 then lt (F66 a0_0 a0_1) fun y20 => lt (F216 a0_0 a0_1 a2 a3) fun y21 => lt (F216 a0_0 a0_1 a4 a4) fun y22 => some (y20, y21 ||| y22) else F180_10 N a0_0 a0_1 a1 x2 x3 x4 x5 x6 x7 x8 x9 x10 x11 x12 x13 x14 x15 x16 x17 x18 x19 x20 x21 (x21 && ((x4 == 0) || (x10 == 0)))
def F180_4 (N : Nat) (a0_0 : BitVec 8) (a0_1 : BitVec 8) (a1 : BitVec 8) (a2 : BitVec 64) (a3 : BitVec 64) (a4 : BitVec 64) (x2 : BitVec 64) (x3 : Bool) (x4 : Int) (x5 : Bool) (x6 : Nat) (x7 : Nat) (x8 : BitVec 64) (x9 : Bool) (x10 : Int) (x11 : Bool) (x12 : Nat) (x13 : Nat) (x14 : BitVec 64) (x15 : Bool) (x16 : Int) (x17 : Bool) (x18 : Nat) (x19 : Nat) (x20 : Bool) (x21 : Bool) : Option (BitVec 64 × BitVec 8) := F180_5 N a0_0 a0_1 a1 a2 a3 a4 x2 x3 x4 x5 x6 x7 x8 x9 x10 x11 x12 x13 x14 x15 x16 x17 x18 x19 x20 x21 (((x4 == 4) || (x10 == 4)) || (x16 == 4))
def F180_3 (N : Nat) (a0_0 : BitVec 8) (a0_1 : BitVec 8) (a1 : BitVec 8) (a2 : BitVec 64) (a3 : BitVec 64) (a4 : BitVec 64) (x2 : BitVec 64) (x3 : Bool) (x4 : Int) (x5 : Bool) (x6 : Nat) (x7 : Nat) (x8 : BitVec 64) (x9 : Bool) (x10 : Int) (x11 : Bool) (x12 : Nat) (x13 : Nat) (x14 : BitVec 64) (x15 : Bool) (x16 : Int) (x17 : Bool) (x18 : Nat) (x19 : Nat) (x20 : Bool) : Option (BitVec 64 × BitVec 8) := F180_4 N a0_0 a0_1 a1 a2 a3 a4 x2 x3 x4 x5 x6 x7 x8 x9 x10 x11 x12 x13 x14 x15 x16 x17 x18 x19 x20 ((x4 == 3) || (x10 == 3))
def F180_2 (N : Nat) (a0_0 : BitVec 8) (a0_1 : BitVec 8) (a1 : BitVec 8) (a2 : BitVec 64) (a3 : BitVec 64) (a4 : BitVec 64) (x2 : BitVec 64) (x3 : Bool) (x4 : Int) (x5 : Bool) (x6 : Nat) (x7 : Nat) (x8 : BitVec 64) (x9 : Bool) (x10 : Int) (x11 : Bool) (x12 : Nat) (x13 : Nat) (x14 : BitVec 64) (x15 : Bool) (x16 : Int) (x17 : Bool) (x18 : Nat) (x19 : Nat) : Option (BitVec 64 × BitVec 8) := F180_3 N a0_0 a0_1 a1 a2 a3 a4 x2 x3 x4 x5 x6 x7 x8 x9 x10 x11 x12 x13 x14 x15 x16 x17 x18 x19 (x3 != x9)
def F180_1 (N : Nat) (a0_0 : BitVec 8) (a0_1 : BitVec 8) (a1 : BitVec 8) (a2 : BitVec 64) (a3 : BitVec 64) (a4 : BitVec 64) (x1 : Bool) : Option (BitVec 64 × BitVec 8) := bif x1 then some (0#64, 0#8) else (F144 N a0_0 a0_1 a2).bind fun y35 => (F144 N a0_0 a0_1 a3).bind fun y36 => (F144 N a0_0 a0_1 a4).bind fun y37 => F180_2 N a0_0 a0_1 a1 a2 a3 a4 y35.1 y35.2.1 y35.2.2.1 y35.2.2.2.1 y35.2.2.2.2.1 y35.2.2.2.2.2 y36.1 y36.2.1 y36.2.2.1 y36.2.2.2.1 y36.2.2.2.2.1 y36.2.2.2.2.2 y37.1 y37.2.1 y37.2.2.1 y37.2.2.2.1 y37.2.2.2.2.1 y37.2.2.2.2.2
def F180 (N : Nat) (a0_0 : BitVec 8) (a0_1 : BitVec 8) (a1 : BitVec 8) (a2 : BitVec 64) (a3 : BitVec 64) (a4 : BitVec 64) : Option (BitVec 64 × BitVec 8) := lt (F40 a0_0 a0_1) fun y38 => F180_1 N a0_0 a0_1 a1 a2 a3 a4 (!y38)
theorem C180 (N : Nat) (a0_0 : BitVec 8) (a0_1 : BitVec 8) (a1 : BitVec 8) (a2 : BitVec 64) (a3 : BitVec 64) (a4 : BitVec 64) (r : BitVec 64 × BitVec 8) (hr : some r = F180 N a0_0 a0_1 a1 a2 a3 a4) : Aw.Fn Hfaa.prog 180 [agg [is (U8 a0_0), is (U8 a0_1)], is (U8 a1), is (U64 a2), is (U64 a3), is (U64 a4)] (tup [is (U64 r.1), is (U8 r.2)]) := by
  refine fn_intro Hfaa.func180 rfl rfl rfl ?_
  intro bn0 w0 H0
  refine AW_seq1 ?_
  refine AW_region ?_
  refine AL_cons (LR_box (at_tmp 0 _) (cells_agg _) rfl) (sS (sT1 rfl) sB0 (sF1 rfl)) ?_
  refine AL_cons (LR_assign (at_c (v' := U64 (0#64)) rfl) rfl) (sS sT0 sB0 sF0) ?_
  refine AL_cons (LR_assign (at_c (v' := U8 (0#8)) rfl) rfl) (sS sT0 sB0 sF0) ?_
  refine AL_nil ?_
  refine thenN ?_
  refine AW_seq1 ?_
  refine AW_cut (σ := Bool) (fun v => ⟨[(1, .inl (is (U8 a1))), (2, .inl (is (U64 a2))), (3, .inl (is (U64 a3))), (4, .inl (is (U64 a4))), (5, .inr (.inl (5, 0))), (20, .inl (is (Bl v)))], [(5, pb 23 [is (U8 a0_0), is (U8 a0_1)])]⟩) (fun v => some r = F180_1 N a0_0 a0_1 a1 a2 a3 a4 v) ?_ ?_
  · skip
    refine AW_region ?_
    refine AL_cons (LR_loads (at_tmp 5 _) ag23 sz23 rfl rfl rfl) (sS (sT1 rfl) (sB1 rfl) sF0) ?_
    obtain ⟨y38, hy38, hr⟩ := lt_some hr
    refine AL_cons (LR_call Hfaa.func40 rfl rfl (C40 a0_0 a0_1 y38 hy38) (all_cons (at_tmp 18 _) all_nil) rfl) (sS (sA (sT1 rfl) sT0) sB0 sF0) ?_
    refine AL_cons (LR_un (at_tmp 19 _) (not_Bl y38) rfl) (sS (sT1 rfl) sB0 sF0) ?_
    refine AL_nil ?_
    exact thenN (cutLeaf (v := !y38) hr (weak0 ((sT rfl (sT rfl (sT rfl (sT rfl (sT rfl (sT rfl sT0))))))) (sub_keep sub_nil)))
  · rintro x1 hr
    show AW Hfaa.prog _ _ _ ⟨[(1, .inl (is (U8 a1))), (2, .inl (is (U64 a2))), (3, .inl (is (U64 a3))), (4, .inl (is (U64 a4))), (5, .inr (.inl (5, 0))), (20, .inl (is (Bl x1)))], [(5, pb 23 [is (U8 a0_0), is (U8 a0_1)])]⟩
    have hr : some r = F180_1 N a0_0 a0_1 a1 a2 a3 a4 x1 := hr
    refine AW_condT (b := x1) rfl (fun h => ?_) (fun h => ?_)
    · have hr := hr.trans (cond_t h)
      clear h
      refine AW_seq1 ?_
      refine AW_region ?_
      refine AL_cons (LR_assign (at_c (v' := U64 (0#64)) rfl) rfl) (sS sT0 sB0 sF0) ?_
      refine AL_cons (LR_assign (at_c (v' := U8 (0#8)) rfl) rfl) (sS sT0 sB0 sF0) ?_
      refine AL_nil ?_
      refine thenN ?_
      refine AW_ret ?_
      refine thenR ?_
      obtain rfl := Option.some.inj hr
      exact res2 rfl (rvT rfl) (rvT rfl)
    · have hr := hr.trans (cond_f h)
      clear h
      refine AW_skip ?_
      refine thenN ?_
      refine AW_cut (σ := BitVec 64 × Bool × Int × Bool × Nat × Nat × BitVec 64 × Bool × Int × Bool × Nat × Nat × BitVec 64 × Bool × Int × Bool × Nat × Nat) (fun v => ⟨[(1, .inl (is (U8 a1))), (2, .inl (is (U64 a2))), (3, .inl (is (U64 a3))), (4, .inl (is (U64 a4))), (5, .inr (.inl (5, 0))), (12, .inr (.inl (12, 0))), (13, .inr (.inl (13, 0))), (14, .inr (.inl (14, 0)))], [(5, pb 23 [is (U8 a0_0), is (U8 a0_1)]), (12, pb 175 [is (U64 v.1), is (Bl v.2.1), is (I8 v.2.2.1), is (Bl v.2.2.2.1), big v.2.2.2.2.1, big v.2.2.2.2.2.1]), (13, pb 175 [is (U64 v.2.2.2.2.2.2.1), is (Bl v.2.2.2.2.2.2.2.1), is (I8 v.2.2.2.2.2.2.2.2.1), is (Bl v.2.2.2.2.2.2.2.2.2.1), big v.2.2.2.2.2.2.2.2.2.2.1, big v.2.2.2.2.2.2.2.2.2.2.2.1]), (14, pb 175 [is (U64 v.2.2.2.2.2.2.2.2.2.2.2.2.1), is (Bl v.2.2.2.2.2.2.2.2.2.2.2.2.2.1), is (I8 v.2.2.2.2.2.2.2.2.2.2.2.2.2.2.1), is (Bl v.2.2.2.2.2.2.2.2.2.2.2.2.2.2.2.1), big v.2.2.2.2.2.2.2.2.2.2.2.2.2.2.2.2.1, big v.2.2.2.2.2.2.2.2.2.2.2.2.2.2.2.2.2])]⟩) (fun v => some r = F180_2 N a0_0 a0_1 a1 a2 a3 a4 v.1 v.2.1 v.2.2.1 v.2.2.2.1 v.2.2.2.2.1 v.2.2.2.2.2.1 v.2.2.2.2.2.2.1 v.2.2.2.2.2.2.2.1 v.2.2.2.2.2.2.2.2.1 v.2.2.2.2.2.2.2.2.2.1 v.2.2.2.2.2.2.2.2.2.2.1 v.2.2.2.2.2.2.2.2.2.2.2.1 v.2.2.2.2.2.2.2.2.2.2.2.2.1 v.2.2.2.2.2.2.2.2.2.2.2.2.2.1 v.2.2.2.2.2.2.2.2.2.2.2.2.2.2.1 v.2.2.2.2.2.2.2.2.2.2.2.2.2.2.2.1 v.2.2.2.2.2.2.2.2.2.2.2.2.2.2.2.2.1 v.2.2.2.2.2.2.2.2.2.2.2.2.2.2.2.2.2) ?_ ?_
      · skip
        obtain ⟨y35, hy35, hr⟩ := bind_some hr
        obtain ⟨y36, hy36, hr⟩ := bind_some hr
        obtain ⟨y37, hy37, hr⟩ := bind_some hr
        refine AW_draw mixed
          (lrC (LR_loads (at_tmp 5 _) ag23 sz23 rfl rfl rfl)
          (lrC (LR_move (at_tmp 2 _) rfl)
          (lrC (LR_call Hfaa.func144 rfl rfl (C144 N a0_0 a0_1 a2 y35 hy35) (all_cons (at_tmp 21 _) (all_cons (at_tmp 22 _) all_nil)) rfl)
          (lrC (LR_loads (at_tmp 5 _) ag23 sz23 rfl rfl rfl)
          (lrC (LR_move (at_tmp 3 _) rfl)
          (lrC (LR_call Hfaa.func144 rfl rfl (C144 N a0_0 a0_1 a3 y36 hy36) (all_cons (at_tmp 24 _) (all_cons (at_tmp 25 _) all_nil)) rfl)
          (lrC (LR_loads (at_tmp 5 _) ag23 sz23 rfl rfl rfl)
          (lrC (LR_move (at_tmp 4 _) rfl)
          (lrC (LR_call Hfaa.func144 rfl rfl (C144 N a0_0 a0_1 a4 y37 hy37) (all_cons (at_tmp 27 _) (all_cons (at_tmp 28 _) all_nil)) rfl)
          (lrC (zl175 rfl)
          (lrC (zl175 rfl)
          (lrC (zl175 rfl)
          (lrC (LR_store (at_tmp 12 _) (at_tmp 23 _) (cells_agg _) (onC (one_is rfl) (onC (one_is rfl) (onC (one_is rfl) (onC (one_is rfl) (onC (one_big _) (onC (one_big _) onN)))))) sz175 rfl rfl)
          (lrC (LR_store (at_tmp 13 _) (at_tmp 26 _) (cells_agg _) (onC (one_is rfl) (onC (one_is rfl) (onC (one_is rfl) (onC (one_is rfl) (onC (one_big _) (onC (one_big _) onN)))))) sz175 rfl rfl)
          (lrC (LR_store (at_tmp 14 _) (at_tmp 29 _) (cells_agg _) (onC (one_is rfl) (onC (one_is rfl) (onC (one_is rfl) (onC (one_is rfl) (onC (one_big _) (onC (one_big _) onN)))))) sz175 rfl rfl)
          lrN)))))))))))))))
          (by kernel_rfl)
          (saC (sS (sT1 rfl) (sB1 rfl) sF0) (saC (sS (sT1 rfl) sB0 sF0) (saC (sS (sA (sT1 rfl) (sA (sT1 rfl) sT0)) sB0 sF0) (saC (sS (sT1 rfl) (sB1 rfl) sF0) (saC (sS (sT1 rfl) sB0 sF0) (saC (sS (sA (sT1 rfl) (sA (sT1 rfl) sT0)) sB0 sF0) (saC (sS (sT1 rfl) (sB1 rfl) sF0) (saC (sS (sT1 rfl) sB0 sF0) (saC (sS (sA (sT1 rfl) (sA (sT1 rfl) sT0)) sB0 sF0) (saC (sS sT0 sB0 (sF1 rfl)) (saC (sS sT0 sB0 (sF1 rfl)) (saC (sS sT0 sB0 (sF1 rfl)) (saC (sS (sA (sT1 rfl) (sT1 rfl)) (sB1 rfl) sF0) (saC (sS (sA (sT1 rfl) (sT1 rfl)) (sB1 rfl) sF0) (saC (sS (sA (sT1 rfl) (sT1 rfl)) (sB1 rfl) sF0) saN))))))))))))))) ?_
        exact thenN (cutLeaf (v := (y35.1, y35.2.1, y35.2.2.1, y35.2.2.2.1, y35.2.2.2.2.1, y35.2.2.2.2.2, y36.1, y36.2.1, y36.2.2.1, y36.2.2.2.1, y36.2.2.2.2.1, y36.2.2.2.2.2, y37.1, y37.2.1, y37.2.2.1, y37.2.2.2.1, y37.2.2.2.2.1, y37.2.2.2.2.2)) hr (weak0 ((sT rfl (sT rfl (sT rfl (sT rfl (sT rfl (sT rfl (sT rfl (sT rfl sT0))))))))) (sub_keep (sub_keep (sub_keep (sub_keep sub_nil))))))
      · rintro ⟨x2, x3, x4, x5, x6, x7, x8, x9, x10, x11, x12, x13, x14, x15, x16, x17, x18, x19⟩ hr
        show AW Hfaa.prog _ _ _ ⟨[(1, .inl (is (U8 a1))), (2, .inl (is (U64 a2))), (3, .inl (is (U64 a3))), (4, .inl (is (U64 a4))), (5, .inr (.inl (5, 0))), (12, .inr (.inl (12, 0))), (13, .inr (.inl (13, 0))), (14, .inr (.inl (14, 0)))], [(5, pb 23 [is (U8 a0_0), is (U8 a0_1)]), (12, pb 175 [is (U64 x2), is (Bl x3), is (I8 x4), is (Bl x5), big x6, big x7]), (13, pb 175 [is (U64 x8), is (Bl x9), is (I8 x10), is (Bl x11), big x12, big x13]), (14, pb 175 [is (U64 x14), is (Bl x15), is (I8 x16), is (Bl x17), big x18, big x19])]⟩
        have hr : some r = F180_2 N a0_0 a0_1 a1 a2 a3 a4 x2 x3 x4 x5 x6 x7 x8 x9 x10 x11 x12 x13 x14 x15 x16 x17 x18 x19 := hr
        refine AW_cut (σ := Bool) (fun v => ⟨[(1, .inl (is (U8 a1))), (2, .inl (is (U64 a2))), (3, .inl (is (U64 a3))), (4, .inl (is (U64 a4))), (5, .inr (.inl (5, 0))), (12, .inr (.inl (12, 0))), (13, .inr (.inl (13, 0))), (14, .inr (.inl (14, 0))), (15, .inl (is (Bl v)))], [(5, pb 23 [is (U8 a0_0), is (U8 a0_1)]), (12, pb 175 [is (U64 x2), is (Bl x3), is (I8 x4), is (Bl x5), big x6, big x7]), (13, pb 175 [is (U64 x8), is (Bl x9), is (I8 x10), is (Bl x11), big x12, big x13]), (14, pb 175 [is (U64 x14), is (Bl x15), is (I8 x16), is (Bl x17), big x18, big x19])]⟩) (fun v => some r = F180_3 N a0_0 a0_1 a1 a2 a3 a4 x2 x3 x4 x5 x6 x7 x8 x9 x10 x11 x12 x13 x14 x15 x16 x17 x18 x19 v) ?_ ?_
        · skip
          refine AW_region ?_
          refine AL_cons (LR_fieldAddr (off := 0) (o := 1) (at_tmp 12 _) (fun b w => fa175_1 b 0 w) rfl) (sS (sT1 rfl) sB0 sF0) ?_
          refine AL_cons (LR_load (at_tmp 30 _) na4 rfl rfl) (sS (sT1 rfl) (sB1 rfl) sF0) ?_
          refine AL_cons (LR_fieldAddr (off := 0) (o := 1) (at_tmp 13 _) (fun b w => fa175_1 b 0 w) rfl) (sS (sT1 rfl) sB0 sF0) ?_
          refine AL_cons (LR_load (at_tmp 32 _) na4 rfl rfl) (sS (sT1 rfl) (sB1 rfl) sF0) ?_
          refine AL_cons (LR_bin (at_tmp 31 _) (at_tmp 33 _) (neq_Bl Hfaa.underlying4 x3 x9) rfl) (sS (sA (sT1 rfl) (sT1 rfl)) sB0 sF0) ?_
          refine AL_cons (LR_assign (at_tmp 34 _) rfl) (sS (sT1 rfl) sB0 sF0) ?_
          refine AL_nil ?_
          exact thenN (cutLeaf (v := x3 != x9) hr (weak0 ((sT rfl (sT rfl (sT rfl (sT rfl (sT rfl (sT rfl (sT rfl (sT rfl (sT rfl sT0)))))))))) (sub_keep (sub_keep (sub_keep (sub_keep sub_nil))))))
        · rintro x20 hr
          show AW Hfaa.prog _ _ _ ⟨[(1, .inl (is (U8 a1))), (2, .inl (is (U64 a2))), (3, .inl (is (U64 a3))), (4, .inl (is (U64 a4))), (5, .inr (.inl (5, 0))), (12, .inr (.inl (12, 0))), (13, .inr (.inl (13, 0))), (14, .inr (.inl (14, 0))), (15, .inl (is (Bl x20)))], [(5, pb 23 [is (U8 a0_0), is (U8 a0_1)]), (12, pb 175 [is (U64 x2), is (Bl x3), is (I8 x4), is (Bl x5), big x6, big x7]), (13, pb 175 [is (U64 x8), is (Bl x9), is (I8 x10), is (Bl x11), big x12, big x13]), (14, pb 175 [is (U64 x14), is (Bl x15), is (I8 x16), is (Bl x17), big x18, big x19])]⟩
          have hr : some r = F180_3 N a0_0 a0_1 a1 a2 a3 a4 x2 x3 x4 x5 x6 x7 x8 x9 x10 x11 x12 x13 x14 x15 x16 x17 x18 x19 x20 := hr
          refine AW_cut (σ := Bool) (fun v => ⟨[(1, .inl (is (U8 a1))), (2, .inl (is (U64 a2))), (3, .inl (is (U64 a3))), (4, .inl (is (U64 a4))), (5, .inr (.inl (5, 0))), (12, .inr (.inl (12, 0))), (13, .inr (.inl (13, 0))), (14, .inr (.inl (14, 0))), (15, .inl (is (Bl x20))), (16, .inl (is (Bl v)))], [(5, pb 23 [is (U8 a0_0), is (U8 a0_1)]), (12, pb 175 [is (U64 x2), is (Bl x3), is (I8 x4), is (Bl x5), big x6, big x7]), (13, pb 175 [is (U64 x8), is (Bl x9), is (I8 x10), is (Bl x11), big x12, big x13]), (14, pb 175 [is (U64 x14), is (Bl x15), is (I8 x16), is (Bl x17), big x18, big x19])]⟩) (fun v => some r = F180_4 N a0_0 a0_1 a1 a2 a3 a4 x2 x3 x4 x5 x6 x7 x8 x9 x10 x11 x12 x13 x14 x15 x16 x17 x18 x19 x20 v) ?_ ?_
          · skip
            refine AW_region ?_
            refine AL_cons (LR_fieldAddr (off := 0) (o := 2) (at_tmp 12 _) (fun b w => fa175_2 b 0 w) rfl) (sS (sT1 rfl) sB0 sF0) ?_
            refine AL_cons (LR_load (at_tmp 35 _) na110 rfl rfl) (sS (sT1 rfl) (sB1 rfl) sF0) ?_
            refine AL_cons (LR_bin (at_tmp 36 _) (at_c (v' := I8 3) rfl) (eql_I8 x4 3) rfl) (sS (sA (sT1 rfl) sT0) sB0 sF0) ?_
            refine AL_cons (LR_move (at_tmp 37 _) rfl) (sS (sT1 rfl) sB0 sF0) ?_
            refine AL_cutAt 4 ⟨[(1, .inl (is (U8 a1))), (2, .inl (is (U64 a2))), (3, .inl (is (U64 a3))), (4, .inl (is (U64 a4))), (5, .inr (.inl (5, 0))), (12, .inr (.inl (12, 0))), (13, .inr (.inl (13, 0))), (14, .inr (.inl (14, 0))), (15, .inl (is (Bl x20))), (35, .inr (.inl (12, 2))), (36, .inl (is (I8 x4))), (37, .inl (is (Bl (x4 == 3)))), (38, .inl (is (Bl (x4 == 3)))), (42, .inl (is (Bl ((x4 == 3) || (x10 == 3)))))], [(5, pb 23 [is (U8 a0_0), is (U8 a0_1)]), (12, pb 175 [is (U64 x2), is (Bl x3), is (I8 x4), is (Bl x5), big x6, big x7]), (13, pb 175 [is (U64 x8), is (Bl x9), is (I8 x10), is (Bl x11), big x12, big x13]), (14, pb 175 [is (U64 x14), is (Bl x15), is (I8 x16), is (Bl x17), big x18, big x19])]⟩ ?_ ?_
            · cases hb : x4 == 3
              · skip
                refine AL_cons (LR_on rfl rfl rfl (LR_fieldAddr (off := 0) (o := 2) (at_tmp 13 _) (fun b w => fa175_2 b 0 w) rfl)) (sS (sT rfl (sT1 rfl)) sB0 sF0) ?_
                refine AL_cons (LR_on rfl rfl rfl (LR_load (at_tmp 39 _) na110 rfl rfl)) (sS (sT rfl (sT1 rfl)) (sB1 rfl) sF0) ?_
                refine AL_cons (LR_on rfl rfl rfl (LR_bin (at_tmp 40 _) (at_c (v' := I8 3) rfl) (eql_I8 x10 3) rfl)) (sS (sT rfl (sA (sT1 rfl) sT0)) sB0 sF0) ?_
                refine AL_cons (LR_pick (b := false) (at_tmp 38 _) (at_c (v' := Bl true) rfl) (at_tmp 41 _) rfl) (sS (sA (sT1 rfl) (sA sT0 (sT1 rfl))) sB0 sF0) ?_
                exact AL_nil ⟨rfl, weak0 ((sT rfl (sT rfl (sT rfl (sT rfl (sT rfl (sT rfl (sT rfl (sT rfl (sT rfl (sT rfl (sT rfl (sT rfl (sT rfl (sT rfl sT0))))))))))))))) (sub_keep (sub_keep (sub_keep (sub_keep sub_nil))))⟩
              · skip
                refine AL_cons (LR_off (b := true) rfl rfl rfl rfl) (sS (sT1 rfl) sB0 sF0) ?_
                refine AL_cons (LR_off (b := true) rfl rfl rfl rfl) (sS (sT1 rfl) sB0 sF0) ?_
                refine AL_cons (LR_off (b := true) rfl rfl rfl rfl) (sS (sT1 rfl) sB0 sF0) ?_
                refine AL_cons (LR_pick (b := true) (at_tmp 38 _) (at_c (v' := Bl true) rfl) (at_tmp 41 _) rfl) (sS (sA (sT1 rfl) (sA sT0 (sT1 rfl))) sB0 sF0) ?_
                exact AL_nil ⟨rfl, weak0 ((sT rfl (sT rfl (sT rfl (sT rfl (sT rfl (sT rfl (sT rfl (sT rfl (sT rfl (sT rfl (sT rfl (sT rfl (sT rfl (sT rfl sT0))))))))))))))) (sub_keep (sub_keep (sub_keep (sub_keep sub_nil))))⟩
            refine AL_cons (LR_assign (at_tmp 42 _) rfl) (sS (sT1 rfl) sB0 sF0) ?_
            refine AL_nil ?_
            exact thenN (cutLeaf (v := (x4 == 3) || (x10 == 3)) hr (weak0 ((sT rfl (sT rfl (sT rfl (sT rfl (sT rfl (sT rfl (sT rfl (sT rfl (sT rfl (sT rfl sT0))))))))))) (sub_keep (sub_keep (sub_keep (sub_keep sub_nil))))))
          · rintro x21 hr
            show AW Hfaa.prog _ _ _ ⟨[(1, .inl (is (U8 a1))), (2, .inl (is (U64 a2))), (3, .inl (is (U64 a3))), (4, .inl (is (U64 a4))), (5, .inr (.inl (5, 0))), (12, .inr (.inl (12, 0))), (13, .inr (.inl (13, 0))), (14, .inr (.inl (14, 0))), (15, .inl (is (Bl x20))), (16, .inl (is (Bl x21)))], [(5, pb 23 [is (U8 a0_0), is (U8 a0_1)]), (12, pb 175 [is (U64 x2), is (Bl x3), is (I8 x4), is (Bl x5), big x6, big x7]), (13, pb 175 [is (U64 x8), is (Bl x9), is (I8 x10), is (Bl x11), big x12, big x13]), (14, pb 175 [is (U64 x14), is (Bl x15), is (I8 x16), is (Bl x17), big x18, big x19])]⟩
            have hr : some r = F180_4 N a0_0 a0_1 a1 a2 a3 a4 x2 x3 x4 x5 x6 x7 x8 x9 x10 x11 x12 x13 x14 x15 x16 x17 x18 x19 x20 x21 := hr
            refine AW_seq1 ?_
            refine AW_block ?_
            refine AW_cut (σ := Bool) (fun v => ⟨[(1, .inl (is (U8 a1))), (2, .inl (is (U64 a2))), (3, .inl (is (U64 a3))), (4, .inl (is (U64 a4))), (5, .inr (.inl (5, 0))), (12, .inr (.inl (12, 0))), (13, .inr (.inl (13, 0))), (14, .inr (.inl (14, 0))), (15, .inl (is (Bl x20))), (16, .inl (is (Bl x21))), (43, .inl (is (Bl v)))], [(5, pb 23 [is (U8 a0_0), is (U8 a0_1)]), (12, pb 175 [is (U64 x2), is (Bl x3), is (I8 x4), is (Bl x5), big x6, big x7]), (13, pb 175 [is (U64 x8), is (Bl x9), is (I8 x10), is (Bl x11), big x12, big x13]), (14, pb 175 [is (U64 x14), is (Bl x15), is (I8 x16), is (Bl x17), big x18, big x19])]⟩) (fun v => some r = F180_5 N a0_0 a0_1 a1 a2 a3 a4 x2 x3 x4 x5 x6 x7 x8 x9 x10 x11 x12 x13 x14 x15 x16 x17 x18 x19 x20 x21 v) ?_ ?_
            · skip
              refine AW_region ?_
              refine AL_cons (LR_fieldAddr (off := 0) (o := 2) (at_tmp 12 _) (fun b w => fa175_2 b 0 w) rfl) (sS (sT1 rfl) sB0 sF0) ?_
              refine AL_cons (LR_load (at_tmp 44 _) na110 rfl rfl) (sS (sT1 rfl) (sB1 rfl) sF0) ?_
              refine AL_cons (LR_bin (at_tmp 45 _) (at_c (v' := I8 4) rfl) (eql_I8 x4 4) rfl) (sS (sA (sT1 rfl) sT0) sB0 sF0) ?_
              refine AL_cons (LR_move (at_tmp 46 _) rfl) (sS (sT1 rfl) sB0 sF0) ?_
              refine AL_cutAt 4 ⟨[(1, .inl (is (U8 a1))), (2, .inl (is (U64 a2))), (3, .inl (is (U64 a3))), (4, .inl (is (U64 a4))), (5, .inr (.inl (5, 0))), (12, .inr (.inl (12, 0))), (13, .inr (.inl (13, 0))), (14, .inr (.inl (14, 0))), (15, .inl (is (Bl x20))), (16, .inl (is (Bl x21))), (44, .inr (.inl (12, 2))), (45, .inl (is (I8 x4))), (46, .inl (is (Bl (x4 == 4)))), (47, .inl (is (Bl (x4 == 4)))), (51, .inl (is (Bl ((x4 == 4) || (x10 == 4)))))], [(5, pb 23 [is (U8 a0_0), is (U8 a0_1)]), (12, pb 175 [is (U64 x2), is (Bl x3), is (I8 x4), is (Bl x5), big x6, big x7]), (13, pb 175 [is (U64 x8), is (Bl x9), is (I8 x10), is (Bl x11), big x12, big x13]), (14, pb 175 [is (U64 x14), is (Bl x15), is (I8 x16), is (Bl x17), big x18, big x19])]⟩ ?_ ?_
              · cases hb : x4 == 4
                · skip
                  refine AL_cons (LR_on rfl rfl rfl (LR_fieldAddr (off := 0) (o := 2) (at_tmp 13 _) (fun b w => fa175_2 b 0 w) rfl)) (sS (sT rfl (sT1 rfl)) sB0 sF0) ?_
                  refine AL_cons (LR_on rfl rfl rfl (LR_load (at_tmp 48 _) na110 rfl rfl)) (sS (sT rfl (sT1 rfl)) (sB1 rfl) sF0) ?_
                  refine AL_cons (LR_on rfl rfl rfl (LR_bin (at_tmp 49 _) (at_c (v' := I8 4) rfl) (eql_I8 x10 4) rfl)) (sS (sT rfl (sA (sT1 rfl) sT0)) sB0 sF0) ?_
                  refine AL_cons (LR_pick (b := false) (at_tmp 47 _) (at_c (v' := Bl true) rfl) (at_tmp 50 _) rfl) (sS (sA (sT1 rfl) (sA sT0 (sT1 rfl))) sB0 sF0) ?_
                  exact AL_nil ⟨rfl, weak0 ((sT rfl (sT rfl (sT rfl (sT rfl (sT rfl (sT rfl (sT rfl (sT rfl (sT rfl (sT rfl (sT rfl (sT rfl (sT rfl (sT rfl (sT rfl sT0)))))))))))))))) (sub_keep (sub_keep (sub_keep (sub_keep sub_nil))))⟩
                · skip
                  refine AL_cons (LR_off (b := true) rfl rfl rfl rfl) (sS (sT1 rfl) sB0 sF0) ?_
                  refine AL_cons (LR_off (b := true) rfl rfl rfl rfl) (sS (sT1 rfl) sB0 sF0) ?_
                  refine AL_cons (LR_off (b := true) rfl rfl rfl rfl) (sS (sT1 rfl) sB0 sF0) ?_
                  refine AL_cons (LR_pick (b := true) (at_tmp 47 _) (at_c (v' := Bl true) rfl) (at_tmp 50 _) rfl) (sS (sA (sT1 rfl) (sA sT0 (sT1 rfl))) sB0 sF0) ?_
                  exact AL_nil ⟨rfl, weak0 ((sT rfl (sT rfl (sT rfl (sT rfl (sT rfl (sT rfl (sT rfl (sT rfl (sT rfl (sT rfl (sT rfl (sT rfl (sT rfl (sT rfl (sT rfl sT0)))))))))))))))) (sub_keep (sub_keep (sub_keep (sub_keep sub_nil))))⟩
              refine AL_cons (LR_move (at_tmp 51 _) rfl) (sS (sT1 rfl) sB0 sF0) ?_
              refine AL_cutAt 4 ⟨[(1, .inl (is (U8 a1))), (2, .inl (is (U64 a2))), (3, .inl (is (U64 a3))), (4, .inl (is (U64 a4))), (5, .inr (.inl (5, 0))), (12, .inr (.inl (12, 0))), (13, .inr (.inl (13, 0))), (14, .inr (.inl (14, 0))), (15, .inl (is (Bl x20))), (16, .inl (is (Bl x21))), (44, .inr (.inl (12, 2))), (45, .inl (is (I8 x4))), (46, .inl (is (Bl (x4 == 4)))), (47, .inl (is (Bl (x4 == 4)))), (51, .inl (is (Bl ((x4 == 4) || (x10 == 4))))), (52, .inl (is (Bl ((x4 == 4) || (x10 == 4))))), (56, .inl (is (Bl (((x4 == 4) || (x10 == 4)) || (x16 == 4)))))], [(5, pb 23 [is (U8 a0_0), is (U8 a0_1)]), (12, pb 175 [is (U64 x2), is (Bl x3), is (I8 x4), is (Bl x5), big x6, big x7]), (13, pb 175 [is (U64 x8), is (Bl x9), is (I8 x10), is (Bl x11), big x12, big x13]), (14, pb 175 [is (U64 x14), is (Bl x15), is (I8 x16), is (Bl x17), big x18, big x19])]⟩ ?_ ?_
              · cases hb : (x4 == 4) || (x10 == 4)
                · skip
                  refine AL_cons (LR_on rfl rfl rfl (LR_fieldAddr (off := 0) (o := 2) (at_tmp 14 _) (fun b w => fa175_2 b 0 w) rfl)) (sS (sT rfl (sT1 rfl)) sB0 sF0) ?_
                  refine AL_cons (LR_on rfl rfl rfl (LR_load (at_tmp 53 _) na110 rfl rfl)) (sS (sT rfl (sT1 rfl)) (sB1 rfl) sF0) ?_
                  refine AL_cons (LR_on rfl rfl rfl (LR_bin (at_tmp 54 _) (at_c (v' := I8 4) rfl) (eql_I8 x16 4) rfl)) (sS (sT rfl (sA (sT1 rfl) sT0)) sB0 sF0) ?_
                  refine AL_cons (LR_pick (b := false) (at_tmp 52 _) (at_c (v' := Bl true) rfl) (at_tmp 55 _) rfl) (sS (sA (sT1 rfl) (sA sT0 (sT1 rfl))) sB0 sF0) ?_
                  exact AL_nil ⟨rfl, weak0 ((sT rfl (sT rfl (sT rfl (sT rfl (sT rfl (sT rfl (sT rfl (sT rfl (sT rfl (sT rfl (sT rfl (sT rfl (sT rfl (sT rfl (sT rfl (sT rfl (sT rfl sT0)))))))))))))))))) (sub_keep (sub_keep (sub_keep (sub_keep sub_nil))))⟩
                · skip
                  refine AL_cons (LR_off (b := true) rfl rfl rfl rfl) (sS (sT1 rfl) sB0 sF0) ?_
                  refine AL_cons (LR_off (b := true) rfl rfl rfl rfl) (sS (sT1 rfl) sB0 sF0) ?_
                  refine AL_cons (LR_off (b := true) rfl rfl rfl rfl) (sS (sT1 rfl) sB0 sF0) ?_
                  refine AL_cons (LR_pick (b := true) (at_tmp 52 _) (at_c (v' := Bl true) rfl) (at_tmp 55 _) rfl) (sS (sA (sT1 rfl) (sA sT0 (sT1 rfl))) sB0 sF0) ?_
                  exact AL_nil ⟨rfl, weak0 ((sT rfl (sT rfl (sT rfl (sT rfl (sT rfl (sT rfl (sT rfl (sT rfl (sT rfl (sT rfl (sT rfl (sT rfl (sT rfl (sT rfl (sT rfl (sT rfl (sT rfl sT0)))))))))))))))))) (sub_keep (sub_keep (sub_keep (sub_keep sub_nil))))⟩
              refine AL_cons (LR_assign (at_tmp 56 _) rfl) (sS (sT1 rfl) sB0 sF0) ?_
              refine AL_nil ?_
              exact thenN (cutLeaf (v := ((x4 == 4) || (x10 == 4)) || (x16 == 4)) hr (weak0 ((sT rfl (sT rfl (sT rfl (sT rfl (sT rfl (sT rfl (sT rfl (sT rfl (sT rfl (sT rfl (sT rfl sT0)))))))))))) (sub_keep (sub_keep (sub_keep (sub_keep sub_nil))))))
            · rintro x22 hr
              show AW Hfaa.prog _ _ _ ⟨[(1, .inl (is (U8 a1))), (2, .inl (is (U64 a2))), (3, .inl (is (U64 a3))), (4, .inl (is (U64 a4))), (5, .inr (.inl (5, 0))), (12, .inr (.inl (12, 0))), (13, .inr (.inl (13, 0))), (14, .inr (.inl (14, 0))), (15, .inl (is (Bl x20))), (16, .inl (is (Bl x21))), (43, .inl (is (Bl x22)))], [(5, pb 23 [is (U8 a0_0), is (U8 a0_1)]), (12, pb 175 [is (U64 x2), is (Bl x3), is (I8 x4), is (Bl x5), big x6, big x7]), (13, pb 175 [is (U64 x8), is (Bl x9), is (I8 x10), is (Bl x11), big x12, big x13]), (14, pb 175 [is (U64 x14), is (Bl x15), is (I8 x16), is (Bl x17), big x18, big x19])]⟩
              have hr : some r = F180_5 N a0_0 a0_1 a1 a2 a3 a4 x2 x3 x4 x5 x6 x7 x8 x9 x10 x11 x12 x13 x14 x15 x16 x17 x18 x19 x20 x21 x22 := hr
              refine AW_condT (b := x22) rfl (fun h => ?_) (fun h => ?_)
              · have hr := hr.trans (cond_t h)
                clear h
                refine AW_seq1 ?_
                obtain ⟨y20, hy20, hr⟩ := lt_some hr
                obtain ⟨y21, hy21, hr⟩ := lt_some hr
                obtain ⟨y22, hy22, hr⟩ := lt_some hr
                refine AW_draw mixed
                  (lrC (LR_loads (at_tmp 5 _) ag23 sz23 rfl rfl rfl)
                  (lrC (LR_call Hfaa.func66 rfl rfl (C66 a0_0 a0_1 y20 hy20) (all_cons (at_tmp 57 _) all_nil) rfl)
                  (lrC (LR_loads (at_tmp 5 _) ag23 sz23 rfl rfl rfl)
                  (lrC (LR_move (at_tmp 2 _) rfl)
                  (lrC (LR_move (at_tmp 3 _) rfl)
                  (lrC (LR_call Hfaa.func216 rfl rfl (C216 a0_0 a0_1 a2 a3 y21 hy21) (all_cons (at_tmp 59 _) (all_cons (at_tmp 60 _) (all_cons (at_tmp 61 _) all_nil))) rfl)
                  (lrC (LR_loads (at_tmp 5 _) ag23 sz23 rfl rfl rfl)
                  (lrC (LR_move (at_tmp 4 _) rfl)
                  (lrC (LR_move (at_tmp 4 _) rfl)
                  (lrC (LR_call Hfaa.func216 rfl rfl (C216 a0_0 a0_1 a4 a4 y22 hy22) (all_cons (at_tmp 63 _) (all_cons (at_tmp 64 _) (all_cons (at_tmp 65 _) all_nil))) rfl)
                  (lrC (LR_bin (at_tmp 62 _) (at_tmp 66 _) (or_U8 y21 y22) rfl)
                  (lrC (LR_assign (at_tmp 58 _) rfl)
                  (lrC (LR_assign (at_tmp 67 _) rfl)
                  lrN)))))))))))))
                  (by kernel_rfl)
                  (saC (sS (sT1 rfl) (sB1 rfl) sF0) (saC (sS (sA (sT1 rfl) sT0) sB0 sF0) (saC (sS (sT1 rfl) (sB1 rfl) sF0) (saC (sS (sT1 rfl) sB0 sF0) (saC (sS (sT1 rfl) sB0 sF0) (saC (sS (sA (sT1 rfl) (sA (sT1 rfl) (sA (sT1 rfl) sT0))) sB0 sF0) (saC (sS (sT1 rfl) (sB1 rfl) sF0) (saC (sS (sT1 rfl) sB0 sF0) (saC (sS (sT1 rfl) sB0 sF0) (saC (sS (sA (sT1 rfl) (sA (sT1 rfl) (sA (sT1 rfl) sT0))) sB0 sF0) (saC (sS (sA (sT1 rfl) (sT1 rfl)) sB0 sF0) (saC (sS (sT1 rfl) sB0 sF0) (saC (sS (sT1 rfl) sB0 sF0) saN))))))))))))) ?_
                refine thenN ?_
                refine AW_ret ?_
                refine blR ?_
                refine thenR ?_
                obtain rfl := Option.some.inj hr
                exact res2 rfl (rvT rfl) (rvT rfl)
              · have hr := hr.trans (cond_f h)
                clear h
                refine AW_cut (σ := Bool) (fun v => ⟨[(1, .inl (is (U8 a1))), (5, .inr (.inl (5, 0))), (12, .inr (.inl (12, 0))), (13, .inr (.inl (13, 0))), (14, .inr (.inl (14, 0))), (15, .inl (is (Bl x20))), (16, .inl (is (Bl x21))), (68, .inl (is (Bl v)))], [(5, pb 23 [is (U8 a0_0), is (U8 a0_1)]), (12, pb 175 [is (U64 x2), is (Bl x3), is (I8 x4), is (Bl x5), big x6, big x7]), (13, pb 175 [is (U64 x8), is (Bl x9), is (I8 x10), is (Bl x11), big x12, big x13]), (14, pb 175 [is (U64 x14), is (Bl x15), is (I8 x16), is (Bl x17), big x18, big x19])]⟩) (fun v => some r = F180_6 N a0_0 a0_1 a1 x2 x3 x4 x5 x6 x7 x8 x9 x10 x11 x12 x13 x14 x15 x16 x17 x18 x19 x20 x21 v) ?_ ?_
                · skip
                  refine AW_cut (σ := Bool) (fun v => ⟨[(1, .inl (is (U8 a1))), (5, .inr (.inl (5, 0))), (12, .inr (.inl (12, 0))), (13, .inr (.inl (13, 0))), (14, .inr (.inl (14, 0))), (15, .inl (is (Bl x20))), (16, .inl (is (Bl x21))), (68, .inl (is (Bl v)))], [(5, pb 23 [is (U8 a0_0), is (U8 a0_1)]), (12, pb 175 [is (U64 x2), is (Bl x3), is (I8 x4), is (Bl x5), big x6, big x7]), (13, pb 175 [is (U64 x8), is (Bl x9), is (I8 x10), is (Bl x11), big x12, big x13]), (14, pb 175 [is (U64 x14), is (Bl x15), is (I8 x16), is (Bl x17), big x18, big x19])]⟩) (fun v => some r = F180_10 N a0_0 a0_1 a1 x2 x3 x4 x5 x6 x7 x8 x9 x10 x11 x12 x13 x14 x15 x16 x17 x18 x19 x20 x21 v) ?_ ?_
                  · skip
                    refine AW_region ?_
                    refine AL_cons (LR_move (at_tmp 16 _) rfl) (sS (sT1 rfl) sB0 sF0) ?_
                    refine AL_cons (LR_move (at_tmp 69 _) rfl) (sS (sT1 rfl) sB0 sF0) ?_
                    refine AL_cutAt 9 ⟨[(1, .inl (is (U8 a1))), (2, .inl (is (U64 a2))), (3, .inl (is (U64 a3))), (4, .inl (is (U64 a4))), (5, .inr (.inl (5, 0))), (12, .inr (.inl (12, 0))), (13, .inr (.inl (13, 0))), (14, .inr (.inl (14, 0))), (15, .inl (is (Bl x20))), (16, .inl (is (Bl x21))), (43, .inl (is (Bl x22))), (69, .inl (is (Bl x21))), (70, .inl (is (Bl x21))), (79, .inl (is (Bl (x21 && ((x4 == 0) || (x10 == 0))))))], [(5, pb 23 [is (U8 a0_0), is (U8 a0_1)]), (12, pb 175 [is (U64 x2), is (Bl x3), is (I8 x4), is (Bl x5), big x6, big x7]), (13, pb 175 [is (U64 x8), is (Bl x9), is (I8 x10), is (Bl x11), big x12, big x13]), (14, pb 175 [is (U64 x14), is (Bl x15), is (I8 x16), is (Bl x17), big x18, big x19])]⟩ ?_ ?_
                    · cases hb : x21
                      · skip
                        refine AL_cons (LR_off (b := false) rfl rfl rfl rfl) (sS (sT1 rfl) sB0 sF0) ?_
                        refine AL_cons (LR_off (b := false) rfl rfl rfl rfl) (sS (sT1 rfl) sB0 sF0) ?_
                        refine AL_cons (LR_off (b := false) rfl rfl rfl rfl) (sS (sT1 rfl) sB0 sF0) ?_
                        refine AL_cons (LR_off (b := false) rfl rfl rfl rfl) (sS (sT1 rfl) sB0 sF0) ?_
                        refine AL_cons (LR_offU rfl rfl rfl rfl) (sS (sT1 rfl) sB0 sF0) ?_
                        refine AL_cons (LR_offU rfl rfl rfl rfl) (sS (sT1 rfl) sB0 sF0) ?_
                        refine AL_cons (LR_offU rfl rfl rfl rfl) (sS (sT1 rfl) sB0 sF0) ?_
                        refine AL_cons (LR_off (b := false) rfl rfl rfl rfl) (sS (sT1 rfl) sB0 sF0) ?_
                        refine AL_cons (LR_pick (b := false) (at_tmp 70 _) (at_tmp 78 _) (at_c (v' := Bl false) rfl) rfl) (sS (sA (sT1 rfl) (sA (sT1 rfl) sT0)) sB0 sF0) ?_
                        exact AL_nil ⟨rfl, weak0 ((sT rfl (sT rfl (sT rfl (sT rfl (sT rfl (sT rfl (sT rfl (sT rfl (sT rfl (sT rfl (sT rfl (sT rfl (sT rfl (sT rfl sT0))))))))))))))) (sub_keep (sub_keep (sub_keep (sub_keep sub_nil))))⟩
                      · skip
                        refine AL_cons (LR_on rfl rfl rfl (LR_fieldAddr (off := 0) (o := 2) (at_tmp 12 _) (fun b w => fa175_2 b 0 w) rfl)) (sS (sT rfl (sT1 rfl)) sB0 sF0) ?_
                        refine AL_cons (LR_on rfl rfl rfl (LR_load (at_tmp 71 _) na110 rfl rfl)) (sS (sT rfl (sT1 rfl)) (sB1 rfl) sF0) ?_
                        refine AL_cons (LR_on rfl rfl rfl (LR_bin (at_tmp 72 _) (at_c (v' := I8 0) rfl) (eql_I8 x4 0) rfl)) (sS (sT rfl (sA (sT1 rfl) sT0)) sB0 sF0) ?_
                        refine AL_cons (LR_on rfl rfl rfl (LR_move (at_tmp 73 _) rfl)) (sS (sT rfl (sT1 rfl)) sB0 sF0) ?_
                        refine AL_cutAt 4 ⟨[(1, .inl (is (U8 a1))), (2, .inl (is (U64 a2))), (3, .inl (is (U64 a3))), (4, .inl (is (U64 a4))), (5, .inr (.inl (5, 0))), (12, .inr (.inl (12, 0))), (13, .inr (.inl (13, 0))), (14, .inr (.inl (14, 0))), (15, .inl (is (Bl x20))), (16, .inl (is (Bl true))), (43, .inl (is (Bl x22))), (69, .inl (is (Bl true))), (70, .inl (is (Bl true))), (71, .inr (.inl (12, 2))), (72, .inl (is (I8 x4))), (73, .inl (is (Bl (x4 == 0)))), (74, .inl (is (Bl (x4 == 0)))), (78, .inl (is (Bl ((x4 == 0) || (x10 == 0)))))], [(5, pb 23 [is (U8 a0_0), is (U8 a0_1)]), (12, pb 175 [is (U64 x2), is (Bl x3), is (I8 x4), is (Bl x5), big x6, big x7]), (13, pb 175 [is (U64 x8), is (Bl x9), is (I8 x10), is (Bl x11), big x12, big x13]), (14, pb 175 [is (U64 x14), is (Bl x15), is (I8 x16), is (Bl x17), big x18, big x19])]⟩ ?_ ?_
                        · cases hb : x4 == 0
                          · skip
                            refine AL_cons (LR_on rfl rfl rfl (LR_fieldAddr (off := 0) (o := 2) (at_tmp 13 _) (fun b w => fa175_2 b 0 w) rfl)) (sS (sT rfl (sT1 rfl)) sB0 sF0) ?_
                            refine AL_cons (LR_on rfl rfl rfl (LR_load (at_tmp 75 _) na110 rfl rfl)) (sS (sT rfl (sT1 rfl)) (sB1 rfl) sF0) ?_
                            refine AL_cons (LR_on rfl rfl rfl (LR_bin (at_tmp 76 _) (at_c (v' := I8 0) rfl) (eql_I8 x10 0) rfl)) (sS (sT rfl (sA (sT1 rfl) sT0)) sB0 sF0) ?_
                            refine AL_cons (LR_on rfl rfl rfl (LR_pick (b := false) (at_tmp 74 _) (at_c (v' := Bl true) rfl) (at_tmp 77 _) rfl)) (sS (sT rfl (sA (sT1 rfl) (sA sT0 (sT1 rfl)))) sB0 sF0) ?_
                            exact AL_nil ⟨rfl, weak0 ((sT rfl (sT rfl (sT rfl (sT rfl (sT rfl (sT rfl (sT rfl (sT rfl (sT rfl (sT rfl (sT rfl (sT rfl (sT rfl (sT rfl (sT rfl (sT rfl (sT rfl (sT rfl sT0))))))))))))))))))) (sub_keep (sub_keep (sub_keep (sub_keep sub_nil))))⟩
                          · skip
                            refine AL_cons (LR_off (b := true) rfl rfl rfl rfl) (sS (sT1 rfl) sB0 sF0) ?_
                            refine AL_cons (LR_off (b := true) rfl rfl rfl rfl) (sS (sT1 rfl) sB0 sF0) ?_
                            refine AL_cons (LR_off (b := true) rfl rfl rfl rfl) (sS (sT1 rfl) sB0 sF0) ?_
                            refine AL_cons (LR_on rfl rfl rfl (LR_pick (b := true) (at_tmp 74 _) (at_c (v' := Bl true) rfl) (at_tmp 77 _) rfl)) (sS (sT rfl (sA (sT1 rfl) (sA sT0 (sT1 rfl)))) sB0 sF0) ?_
                            exact AL_nil ⟨rfl, weak0 ((sT rfl (sT rfl (sT rfl (sT rfl (sT rfl (sT rfl (sT rfl (sT rfl (sT rfl (sT rfl (sT rfl (sT rfl (sT rfl (sT rfl (sT rfl (sT rfl (sT rfl (sT rfl sT0))))))))))))))))))) (sub_keep (sub_keep (sub_keep (sub_keep sub_nil))))⟩
                        refine AL_cons (LR_pick (b := true) (at_tmp 70 _) (at_tmp 78 _) (at_c (v' := Bl false) rfl) rfl) (sS (sA (sT1 rfl) (sA (sT1 rfl) sT0)) sB0 sF0) ?_
                        exact AL_nil ⟨rfl, weak0 ((sT rfl (sT rfl (sT rfl (sT rfl (sT rfl (sT rfl (sT rfl (sT rfl (sT rfl (sT rfl (sT rfl (sT rfl (sT rfl (sT rfl sT0))))))))))))))) (sub_keep (sub_keep (sub_keep (sub_keep sub_nil))))⟩
                    refine AL_cons (LR_assign (at_tmp 79 _) rfl) (sS (sT1 rfl) sB0 sF0) ?_
                    refine AL_nil ?_
                    exact thenN (cutLeaf (v := x21 && ((x4 == 0) || (x10 == 0))) hr (weak0 ((sT rfl (sT rfl (sT rfl (sT rfl (sT rfl (sT rfl (sT rfl (sT rfl sT0))))))))) (sub_keep (sub_keep (sub_keep (sub_keep sub_nil))))))
                  · rintro x29 hr
                    show AW Hfaa.prog _ _ _ ⟨[(1, .inl (is (U8 a1))), (5, .inr (.inl (5, 0))), (12, .inr (.inl (12, 0))), (13, .inr (.inl (13, 0))), (14, .inr (.inl (14, 0))), (15, .inl (is (Bl x20))), (16, .inl (is (Bl x21))), (68, .inl (is (Bl x29)))], [(5, pb 23 [is (U8 a0_0), is (U8 a0_1)]), (12, pb 175 [is (U64 x2), is (Bl x3), is (I8 x4), is (Bl x5), big x6, big x7]), (13, pb 175 [is (U64 x8), is (Bl x9), is (I8 x10), is (Bl x11), big x12, big x13]), (14, pb 175 [is (U64 x14), is (Bl x15), is (I8 x16), is (Bl x17), big x18, big x19])]⟩
                    have hr : some r = F180_10 N a0_0 a0_1 a1 x2 x3 x4 x5 x6 x7 x8 x9 x10 x11 x12 x13 x14 x15 x16 x17 x18 x19 x20 x21 x29 := hr
                    refine AW_condT (b := x29) rfl (fun h => ?_) (fun h => ?_)
                    · have hr := hr.trans (cond_t h)
                      clear h
                      refine AW_skip ?_
                      exact thenN (cutLeaf (v := x29) hr (weak0 ((sT rfl (sT rfl (sT rfl (sT rfl (sT rfl (sT rfl (sT rfl (sT rfl sT0))))))))) (sub_keep (sub_keep (sub_keep (sub_keep sub_nil))))))
                    · have hr := hr.trans (cond_f h)
                      clear h
                      refine AW_region ?_
                      refine AL_cons (LR_move (at_tmp 16 _) rfl) (sS (sT1 rfl) sB0 sF0) ?_
                      refine AL_cons (LR_move (at_tmp 80 _) rfl) (sS (sT1 rfl) sB0 sF0) ?_
                      refine AL_cutAt 4 ⟨[(1, .inl (is (U8 a1))), (5, .inr (.inl (5, 0))), (12, .inr (.inl (12, 0))), (13, .inr (.inl (13, 0))), (14, .inr (.inl (14, 0))), (15, .inl (is (Bl x20))), (16, .inl (is (Bl x21))), (68, .inl (is (Bl x29))), (80, .inl (is (Bl x21))), (81, .inl (is (Bl x21))), (85, .inl (is (Bl (x21 && (x16 == 3)))))], [(5, pb 23 [is (U8 a0_0), is (U8 a0_1)]), (12, pb 175 [is (U64 x2), is (Bl x3), is (I8 x4), is (Bl x5), big x6, big x7]), (13, pb 175 [is (U64 x8), is (Bl x9), is (I8 x10), is (Bl x11), big x12, big x13]), (14, pb 175 [is (U64 x14), is (Bl x15), is (I8 x16), is (Bl x17), big x18, big x19])]⟩ ?_ ?_
                      · cases hb : x21
                        · skip
                          refine AL_cons (LR_off (b := false) rfl rfl rfl rfl) (sS (sT1 rfl) sB0 sF0) ?_
                          refine AL_cons (LR_off (b := false) rfl rfl rfl rfl) (sS (sT1 rfl) sB0 sF0) ?_
                          refine AL_cons (LR_off (b := false) rfl rfl rfl rfl) (sS (sT1 rfl) sB0 sF0) ?_
                          refine AL_cons (LR_pick (b := false) (at_tmp 81 _) (at_tmp 84 _) (at_c (v' := Bl false) rfl) rfl) (sS (sA (sT1 rfl) (sA (sT1 rfl) sT0)) sB0 sF0) ?_
                          exact AL_nil ⟨rfl, weak0 ((sT rfl (sT rfl (sT rfl (sT rfl (sT rfl (sT rfl (sT rfl (sT rfl (sT rfl (sT rfl (sT rfl sT0)))))))))))) (sub_keep (sub_keep (sub_keep (sub_keep sub_nil))))⟩
                        · skip
                          refine AL_cons (LR_on rfl rfl rfl (LR_fieldAddr (off := 0) (o := 2) (at_tmp 14 _) (fun b w => fa175_2 b 0 w) rfl)) (sS (sT rfl (sT1 rfl)) sB0 sF0) ?_
                          refine AL_cons (LR_on rfl rfl rfl (LR_load (at_tmp 82 _) na110 rfl rfl)) (sS (sT rfl (sT1 rfl)) (sB1 rfl) sF0) ?_
                          refine AL_cons (LR_on rfl rfl rfl (LR_bin (at_tmp 83 _) (at_c (v' := I8 3) rfl) (eql_I8 x16 3) rfl)) (sS (sT rfl (sA (sT1 rfl) sT0)) sB0 sF0) ?_
                          refine AL_cons (LR_pick (b := true) (at_tmp 81 _) (at_tmp 84 _) (at_c (v' := Bl false) rfl) rfl) (sS (sA (sT1 rfl) (sA (sT1 rfl) sT0)) sB0 sF0) ?_
                          exact AL_nil ⟨rfl, weak0 ((sT rfl (sT rfl (sT rfl (sT rfl (sT rfl (sT rfl (sT rfl (sT rfl (sT rfl (sT rfl (sT rfl sT0)))))))))))) (sub_keep (sub_keep (sub_keep (sub_keep sub_nil))))⟩
                      refine AL_cons (LR_move (at_tmp 85 _) rfl) (sS (sT1 rfl) sB0 sF0) ?_
                      refine AL_cutAt 5 ⟨[(1, .inl (is (U8 a1))), (5, .inr (.inl (5, 0))), (12, .inr (.inl (12, 0))), (13, .inr (.inl (13, 0))), (14, .inr (.inl (14, 0))), (15, .inl (is (Bl x20))), (16, .inl (is (Bl x21))), (68, .inl (is (Bl x29))), (80, .inl (is (Bl x21))), (81, .inl (is (Bl x21))), (85, .inl (is (Bl (x21 && (x16 == 3))))), (86, .inl (is (Bl (x21 && (x16 == 3))))), (91, .inl (is (Bl ((x21 && (x16 == 3)) && (x15 != x20)))))], [(5, pb 23 [is (U8 a0_0), is (U8 a0_1)]), (12, pb 175 [is (U64 x2), is (Bl x3), is (I8 x4), is (Bl x5), big x6, big x7]), (13, pb 175 [is (U64 x8), is (Bl x9), is (I8 x10), is (Bl x11), big x12, big x13]), (14, pb 175 [is (U64 x14), is (Bl x15), is (I8 x16), is (Bl x17), big x18, big x19])]⟩ ?_ ?_
                      · cases hb : x21 && (x16 == 3)
                        · skip
                          refine AL_cons (LR_off (b := false) rfl rfl rfl rfl) (sS (sT1 rfl) sB0 sF0) ?_
                          refine AL_cons (LR_off (b := false) rfl rfl rfl rfl) (sS (sT1 rfl) sB0 sF0) ?_
                          refine AL_cons (LR_off (b := false) rfl rfl rfl rfl) (sS (sT1 rfl) sB0 sF0) ?_
                          refine AL_cons (LR_off (b := false) rfl rfl rfl rfl) (sS (sT1 rfl) sB0 sF0) ?_
                          refine AL_cons (LR_pick (b := false) (at_tmp 86 _) (at_tmp 90 _) (at_c (v' := Bl false) rfl) rfl) (sS (sA (sT1 rfl) (sA (sT1 rfl) sT0)) sB0 sF0) ?_
                          exact AL_nil ⟨rfl, weak0 ((sT rfl (sT rfl (sT rfl (sT rfl (sT rfl (sT rfl (sT rfl (sT rfl (sT rfl (sT rfl (sT rfl (sT rfl (sT rfl sT0)))))))))))))) (sub_keep (sub_keep (sub_keep (sub_keep sub_nil))))⟩
                        · skip
                          refine AL_cons (LR_on rfl rfl rfl (LR_fieldAddr (off := 0) (o := 1) (at_tmp 14 _) (fun b w => fa175_1 b 0 w) rfl)) (sS (sT rfl (sT1 rfl)) sB0 sF0) ?_
                          refine AL_cons (LR_on rfl rfl rfl (LR_load (at_tmp 87 _) na4 rfl rfl)) (sS (sT rfl (sT1 rfl)) (sB1 rfl) sF0) ?_
                          refine AL_cons (LR_on rfl rfl rfl (LR_move (at_tmp 15 _) rfl)) (sS (sT rfl (sT1 rfl)) sB0 sF0) ?_
                          refine AL_cons (LR_on rfl rfl rfl (LR_bin (at_tmp 88 _) (at_tmp 89 _) (neq_Bl Hfaa.underlying4 x15 x20) rfl)) (sS (sT rfl (sA (sT1 rfl) (sT1 rfl))) sB0 sF0) ?_
                          refine AL_cons (LR_pick (b := true) (at_tmp 86 _) (at_tmp 90 _) (at_c (v' := Bl false) rfl) rfl) (sS (sA (sT1 rfl) (sA (sT1 rfl) sT0)) sB0 sF0) ?_
                          exact AL_nil ⟨rfl, weak0 ((sT rfl (sT rfl (sT rfl (sT rfl (sT rfl (sT rfl (sT rfl (sT rfl (sT rfl (sT rfl (sT rfl (sT rfl (sT rfl sT0)))))))))))))) (sub_keep (sub_keep (sub_keep (sub_keep sub_nil))))⟩
                      refine AL_cons (LR_assign (at_tmp 91 _) rfl) (sS (sT1 rfl) sB0 sF0) ?_
                      refine AL_nil ?_
                      exact thenN (cutLeaf (v := (x21 && (x16 == 3)) && (x15 != x20)) hr (weak0 ((sT rfl (sT rfl (sT rfl (sT rfl (sT rfl (sT rfl (sT rfl (sT rfl sT0))))))))) (sub_keep (sub_keep (sub_keep (sub_keep sub_nil))))))
                · rintro x23 hr
                  show AW Hfaa.prog _ _ _ ⟨[(1, .inl (is (U8 a1))), (5, .inr (.inl (5, 0))), (12, .inr (.inl (12, 0))), (13, .inr (.inl (13, 0))), (14, .inr (.inl (14, 0))), (15, .inl (is (Bl x20))), (16, .inl (is (Bl x21))), (68, .inl (is (Bl x23)))], [(5, pb 23 [is (U8 a0_0), is (U8 a0_1)]), (12, pb 175 [is (U64 x2), is (Bl x3), is (I8 x4), is (Bl x5), big x6, big x7]), (13, pb 175 [is (U64 x8), is (Bl x9), is (I8 x10), is (Bl x11), big x12, big x13]), (14, pb 175 [is (U64 x14), is (Bl x15), is (I8 x16), is (Bl x17), big x18, big x19])]⟩
                  have hr : some r = F180_6 N a0_0 a0_1 a1 x2 x3 x4 x5 x6 x7 x8 x9 x10 x11 x12 x13 x14 x15 x16 x17 x18 x19 x20 x21 x23 := hr
                  refine AW_condT (b := x23) rfl (fun h => ?_) (fun h => ?_)
                  · have hr := hr.trans (cond_t h)
                    clear h
                    refine AW_seq1 ?_
                    refine AW_region ?_
                    refine AL_cons (LR_loads (at_tmp 5 _) ag23 sz23 rfl rfl rfl) (sS (sT1 rfl) (sB1 rfl) sF0) ?_
                    obtain ⟨y24, hy24, hr⟩ := lt_some hr
                    refine AL_cons (LR_call Hfaa.func66 rfl rfl (C66 a0_0 a0_1 y24 hy24) (all_cons (at_tmp 92 _) all_nil) rfl) (sS (sA (sT1 rfl) sT0) sB0 sF0) ?_
                    refine AL_cons (LR_assign (at_tmp 93 _) rfl) (sS (sT1 rfl) sB0 sF0) ?_
                    refine AL_cons (LR_assign (at_c (v' := U8 (1#8)) rfl) rfl) (sS sT0 sB0 sF0) ?_
                    refine AL_nil ?_
                    refine thenN ?_
                    refine AW_ret ?_
                    refine blR ?_
                    refine thenR ?_
                    obtain rfl := Option.some.inj hr
                    exact res2 rfl (rvT rfl) (rvT rfl)
                  · have hr := hr.trans (cond_f h)
                    clear h
                    refine AW_seq1 ?_
                    refine AW_region ?_
                    refine AL_cons (LR_move (at_tmp 16 _) rfl) (sS (sT1 rfl) sB0 sF0) ?_
                    refine AL_cons (LR_assign (at_tmp 95 _) rfl) (sS (sT1 rfl) sB0 sF0) ?_
                    refine AL_nil ?_
                    refine thenN ?_
                    refine AW_condT (b := x21) rfl (fun h => ?_) (fun h => ?_)
                    · have hr := hr.trans (cond_t h)
                      clear h
                      refine AW_seq1 ?_
                      refine AW_region ?_
                      refine AL_cons (LR_loads (at_tmp 5 _) ag23 sz23 rfl rfl rfl) (sS (sT1 rfl) (sB1 rfl) sF0) ?_
                      refine AL_cons (LR_move (at_tmp 15 _) rfl) (sS (sT1 rfl) sB0 sF0) ?_
                      obtain ⟨y26, hy26, hr⟩ := lt_some hr
                      refine AL_cons (LR_call Hfaa.func67 rfl rfl (C67 a0_0 a0_1 x20 y26 hy26) (all_cons (at_tmp 96 _) (all_cons (at_tmp 97 _) all_nil)) rfl) (sS (sA (sT1 rfl) (sA (sT1 rfl) sT0)) sB0 sF0) ?_
                      refine AL_cons (LR_assign (at_tmp 98 _) rfl) (sS (sT1 rfl) sB0 sF0) ?_
                      refine AL_cons (LR_assign (at_c (v' := U8 (0#8)) rfl) rfl) (sS sT0 sB0 sF0) ?_
                      refine AL_nil ?_
                      refine thenN ?_
                      refine AW_ret ?_
                      refine blR ?_
                      refine thenR ?_
                      obtain rfl := Option.some.inj hr
                      exact res2 rfl (rvT rfl) (rvT rfl)
                    · have hr := hr.trans (cond_f h)
                      clear h
                      refine AW_cut (σ := Bool) (fun v => ⟨[(1, .inl (is (U8 a1))), (5, .inr (.inl (5, 0))), (12, .inr (.inl (12, 0))), (13, .inr (.inl (13, 0))), (14, .inr (.inl (14, 0))), (15, .inl (is (Bl x20))), (99, .inl (is (Bl v)))], [(5, pb 23 [is (U8 a0_0), is (U8 a0_1)]), (12, pb 175 [is (U64 x2), is (Bl x3), is (I8 x4), is (Bl x5), big x6, big x7]), (13, pb 175 [is (U64 x8), is (Bl x9), is (I8 x10), is (Bl x11), big x12, big x13]), (14, pb 175 [is (U64 x14), is (Bl x15), is (I8 x16), is (Bl x17), big x18, big x19])]⟩) (fun v => some r = F180_7 N a0_0 a0_1 a1 x2 x3 x4 x5 x6 x7 x8 x9 x10 x11 x12 x13 x14 x15 x16 x17 x18 x19 x20 v) ?_ ?_
                      · skip
                        refine AW_region ?_
                        refine AL_cons (LR_fieldAddr (off := 0) (o := 2) (at_tmp 14 _) (fun b w => fa175_2 b 0 w) rfl) (sS (sT1 rfl) sB0 sF0) ?_
                        refine AL_cons (LR_load (at_tmp 100 _) na110 rfl rfl) (sS (sT1 rfl) (sB1 rfl) sF0) ?_
                        refine AL_cons (LR_bin (at_tmp 101 _) (at_c (v' := I8 3) rfl) (eql_I8 x16 3) rfl) (sS (sA (sT1 rfl) sT0) sB0 sF0) ?_
                        refine AL_cons (LR_assign (at_tmp 102 _) rfl) (sS (sT1 rfl) sB0 sF0) ?_
                        refine AL_nil ?_
                        exact thenN (cutLeaf (v := x16 == 3) hr (weak0 ((sT rfl (sT rfl (sT rfl (sT rfl (sT rfl (sT rfl (sT rfl sT0)))))))) (sub_keep (sub_keep (sub_keep (sub_keep sub_nil))))))
                      · rintro x24 hr
                        show AW Hfaa.prog _ _ _ ⟨[(1, .inl (is (U8 a1))), (5, .inr (.inl (5, 0))), (12, .inr (.inl (12, 0))), (13, .inr (.inl (13, 0))), (14, .inr (.inl (14, 0))), (15, .inl (is (Bl x20))), (99, .inl (is (Bl x24)))], [(5, pb 23 [is (U8 a0_0), is (U8 a0_1)]), (12, pb 175 [is (U64 x2), is (Bl x3), is (I8 x4), is (Bl x5), big x6, big x7]), (13, pb 175 [is (U64 x8), is (Bl x9), is (I8 x10), is (Bl x11), big x12, big x13]), (14, pb 175 [is (U64 x14), is (Bl x15), is (I8 x16), is (Bl x17), big x18, big x19])]⟩
                        have hr : some r = F180_7 N a0_0 a0_1 a1 x2 x3 x4 x5 x6 x7 x8 x9 x10 x11 x12 x13 x14 x15 x16 x17 x18 x19 x20 x24 := hr
                        refine AW_condT (b := x24) rfl (fun h => ?_) (fun h => ?_)
                        · have hr := hr.trans (cond_t h)
                          clear h
                          refine AW_seq1 ?_
                          refine AW_region ?_
                          refine AL_cons (LR_fieldAddr (off := 0) (o := 0) (at_tmp 14 _) (fun b w => fa175_0 b 0 w) rfl) (sS (sT1 rfl) sB0 sF0) ?_
                          refine AL_cons (LR_load (at_tmp 103 _) na30 rfl rfl) (sS (sT1 rfl) (sB1 rfl) sF0) ?_
                          refine AL_cons (LR_assign (at_tmp 104 _) rfl) (sS (sT1 rfl) sB0 sF0) ?_
                          refine AL_cons (LR_assign (at_c (v' := U8 (0#8)) rfl) rfl) (sS sT0 sB0 sF0) ?_
                          refine AL_nil ?_
                          refine thenN ?_
                          refine AW_ret ?_
                          refine blR ?_
                          refine thenR ?_
                          obtain rfl := Option.some.inj hr
                          exact res2 rfl (rvT rfl) (rvT rfl)
                        · have hr := hr.trans (cond_f h)
                          clear h
                          refine AW_skip ?_
                          refine blN ?_
                          refine thenN ?_
                          refine AW_cut (σ := Bool × Nat × Nat) (fun v => ⟨[(1, .inl (is (U8 a1))), (5, .inr (.inl (5, 0))), (14, .inr (.inl (14, 0))), (15, .inl (is (Bl x20))), (17, .inr (.inl (17, 0)))], [(5, pb 23 [is (U8 a0_0), is (U8 a0_1)]), (14, pb 175 [is (U64 x14), is (Bl x15), is (I8 x16), is (Bl x17), big x18, big x19]), (17, pb 119 [is (Bl v.1), big v.2.1, big v.2.2])]⟩) (fun v => some r = F180_8 N a0_0 a0_1 a1 x14 x15 x16 x17 x18 x19 x20 v.1 v.2.1 v.2.2) ?_ ?_
                          · skip
                            obtain ⟨hg3, hr⟩ := guard_some hr
                            obtain ⟨hg4, hr⟩ := guard_some hr
                            obtain ⟨y34, hy34, hr⟩ := bind_some hr
                            refine AW_draw mixed
                              (lrC (LR_move (at_tmp 15 _) rfl)
                              (lrC (LR_fieldAddr (off := 0) (o := 3) (at_tmp 12 _) (fun b w => fa175_3 b 0 w) rfl)
                              (lrC (LR_fieldAddr (off := 3) (o := 4) (at_tmp 106 _) (fun b w => fa119_1 b 3 w) rfl)
                              (lrC (LR_load (at_tmp 107 _) na49 rfl rfl)
                              (lrC (LR_fieldAddr (off := 0) (o := 3) (at_tmp 13 _) (fun b w => fa175_3 b 0 w) rfl)
                              (lrC (LR_fieldAddr (off := 3) (o := 4) (at_tmp 109 _) (fun b w => fa119_1 b 3 w) rfl)
                              (lrC (LR_load (at_tmp 110 _) na49 rfl rfl)
                              (lrC (LR_call Hfaa.func22 rfl rfl (B22 x6 x12 hg3) (all_cons (at_tmp 108 _) (all_cons (at_tmp 111 _) all_nil)) rfl)
                              (lrC (LR_fieldAddr (off := 0) (o := 3) (at_tmp 12 _) (fun b w => fa175_3 b 0 w) rfl)
                              (lrC (LR_fieldAddr (off := 3) (o := 5) (at_tmp 113 _) (fun b w => fa119_2 b 3 w) rfl)
                              (lrC (LR_load (at_tmp 114 _) na49 rfl rfl)
                              (lrC (LR_fieldAddr (off := 0) (o := 3) (at_tmp 13 _) (fun b w => fa175_3 b 0 w) rfl)
                              (lrC (LR_fieldAddr (off := 3) (o := 5) (at_tmp 116 _) (fun b w => fa119_2 b 3 w) rfl)
                              (lrC (LR_load (at_tmp 117 _) na49 rfl rfl)
                              (lrC (LR_call Hfaa.func22 rfl rfl (B22 x7 x13 hg4) (all_cons (at_tmp 115 _) (all_cons (at_tmp 118 _) all_nil)) rfl)
                              (lrC (bl119 (parts_cons (i := 0) (off := 0) (at_tmp 105 _) (cells_one (one_is rfl)) rfl rfl (parts_cons (i := 1) (off := 1) (at_tmp 112 _) (cells_one (one_big _)) rfl rfl (parts_cons (i := 2) (off := 2) (at_tmp 119 _) (cells_one (one_big _)) rfl rfl parts_nil))) rfl rfl)
                              (lrC (LR_fieldAddr (off := 0) (o := 3) (at_tmp 14 _) (fun b w => fa175_3 b 0 w) rfl)
                              (lrC (LR_loads (at_tmp 121 _) ag119 sz119 rfl rfl rfl)
                              (lrC (LR_call Hfaa.func146 rfl rfl (C146 N x20 (x6 * x12) (x7 * x13) x17 x18 x19 y34 hy34) (all_cons (at_tmp 120 _) (all_cons (at_tmp 122 _) all_nil)) rfl)
                              (lrC (zl119 rfl)
                              (lrC (LR_store (at_tmp 17 _) (at_tmp 123 _) (cells_agg _) (onC (one_is rfl) (onC (one_big _) (onC (one_big _) onN))) sz119 rfl rfl)
                              lrN)))))))))))))))))))))
                              (by kernel_rfl)
                              (saC (sS (sT1 rfl) sB0 sF0) (saC (sS (sT1 rfl) sB0 sF0) (saC (sS (sT1 rfl) sB0 sF0) (saC (sS (sT1 rfl) (sB1 rfl) sF0) (saC (sS (sT1 rfl) sB0 sF0) (saC (sS (sT1 rfl) sB0 sF0) (saC (sS (sT1 rfl) (sB1 rfl) sF0) (saC (sS (sA (sT1 rfl) (sA (sT1 rfl) sT0)) sB0 sF0) (saC (sS (sT1 rfl) sB0 sF0) (saC (sS (sT1 rfl) sB0 sF0) (saC (sS (sT1 rfl) (sB1 rfl) sF0) (saC (sS (sT1 rfl) sB0 sF0) (saC (sS (sT1 rfl) sB0 sF0) (saC (sS (sT1 rfl) (sB1 rfl) sF0) (saC (sS (sA (sT1 rfl) (sA (sT1 rfl) sT0)) sB0 sF0) (saC (sS (sA (sT1 rfl) (sA (sT1 rfl) (sA (sT1 rfl) sT0))) sB0 sF0) (saC (sS (sT1 rfl) sB0 sF0) (saC (sS (sT1 rfl) (sB1 rfl) sF0) (saC (sS (sA (sT1 rfl) (sA (sT1 rfl) sT0)) sB0 sF0) (saC (sS sT0 sB0 (sF1 rfl)) (saC (sS (sA (sT1 rfl) (sT1 rfl)) (sB1 rfl) sF0) saN))))))))))))))))))))) ?_
                            exact thenN (cutLeaf (v := (y34.1, y34.2.1, y34.2.2)) hr (weak0 ((sT rfl (sT rfl (sT rfl (sT rfl (sT rfl sT0)))))) (sub_keep (sub_drop (sub_drop (sub_keep (sub_keep sub_nil)))))))
                          · rintro ⟨x25, x26, x27⟩ hr
                            show AW Hfaa.prog _ _ _ ⟨[(1, .inl (is (U8 a1))), (5, .inr (.inl (5, 0))), (14, .inr (.inl (14, 0))), (15, .inl (is (Bl x20))), (17, .inr (.inl (17, 0)))], [(5, pb 23 [is (U8 a0_0), is (U8 a0_1)]), (14, pb 175 [is (U64 x14), is (Bl x15), is (I8 x16), is (Bl x17), big x18, big x19]), (17, pb 119 [is (Bl x25), big x26, big x27])]⟩
                            have hr : some r = F180_8 N a0_0 a0_1 a1 x14 x15 x16 x17 x18 x19 x20 x25 x26 x27 := hr
                            refine AW_seq1 ?_
                            refine AW_cut (σ := Bool) (fun v => ⟨[(1, .inl (is (U8 a1))), (5, .inr (.inl (5, 0))), (14, .inr (.inl (14, 0))), (15, .inl (is (Bl x20))), (17, .inr (.inl (17, 0))), (126, .inl (is (Bl v)))], [(5, pb 23 [is (U8 a0_0), is (U8 a0_1)]), (14, pb 175 [is (U64 x14), is (Bl x15), is (I8 x16), is (Bl x17), big x18, big x19]), (17, pb 119 [is (Bl x25), big x26, big x27])]⟩) (fun v => some r = F180_9 N a0_0 a0_1 a1 x14 x15 x16 x17 x18 x19 x20 x25 x26 x27 v) ?_ ?_
                            · skip
                              refine AW_region ?_
                              refine AL_cons (LR_fieldAddr (off := 0) (o := 1) (at_tmp 17 _) (fun b w => fa119_1 b 0 w) rfl) (sS (sT1 rfl) sB0 sF0) ?_
                              refine AL_cons (LR_load (at_tmp 124 _) na49 rfl rfl) (sS (sT1 rfl) (sB1 rfl) sF0) ?_
                              refine AL_cons (LR_binA (at_tmp 125 _) at_nil (eqNil Hfaa.underlying49 x26) rfl) (sS (sA (sT1 rfl) sT0) sB0 sF0) ?_
                              refine AL_nil ?_
                              exact thenN (cutLeaf (v := x26 == 0) hr (weak0 ((sT rfl (sT rfl (sT rfl (sT rfl (sT rfl (sT rfl sT0))))))) (sub_keep (sub_keep (sub_keep sub_nil)))))
                            · rintro x28 hr
                              show AW Hfaa.prog _ _ _ ⟨[(1, .inl (is (U8 a1))), (5, .inr (.inl (5, 0))), (14, .inr (.inl (14, 0))), (15, .inl (is (Bl x20))), (17, .inr (.inl (17, 0))), (126, .inl (is (Bl x28)))], [(5, pb 23 [is (U8 a0_0), is (U8 a0_1)]), (14, pb 175 [is (U64 x14), is (Bl x15), is (I8 x16), is (Bl x17), big x18, big x19]), (17, pb 119 [is (Bl x25), big x26, big x27])]⟩
                              have hr : some r = F180_9 N a0_0 a0_1 a1 x14 x15 x16 x17 x18 x19 x20 x25 x26 x27 x28 := hr
                              refine AW_condT (b := x28) rfl (fun h => ?_) (fun h => ?_)
                              · have hr := hr.trans (cond_t h)
                                clear h
                                refine AW_seq1 ?_
                                refine AW_region ?_
                                refine AL_cons (LR_loads (at_tmp 5 _) ag23 sz23 rfl rfl rfl) (sS (sT1 rfl) (sB1 rfl) sF0) ?_
                                refine AL_cons (LR_move (at_tmp 15 _) rfl) (sS (sT1 rfl) sB0 sF0) ?_
                                refine AL_cons (LR_move (at_tmp 128 _) rfl) (sS (sT1 rfl) sB0 sF0) ?_
                                refine AL_cutAt 3 ⟨[(1, .inl (is (U8 a1))), (5, .inr (.inl (5, 0))), (14, .inr (.inl (14, 0))), (15, .inl (is (Bl x20))), (17, .inr (.inl (17, 0))), (126, .inl (is (Bl x28))), (127, .inl (agg [is (U8 a0_0), is (U8 a0_1)])), (128, .inl (is (Bl x20))), (129, .inl (is (Bl x20))), (132, .inl (is (Bl (x20 && x15))))], [(5, pb 23 [is (U8 a0_0), is (U8 a0_1)]), (14, pb 175 [is (U64 x14), is (Bl x15), is (I8 x16), is (Bl x17), big x18, big x19]), (17, pb 119 [is (Bl x25), big x26, big x27])]⟩ ?_ ?_
                                · cases hb : x20
                                  · skip
                                    refine AL_cons (LR_off (b := false) rfl rfl rfl rfl) (sS (sT1 rfl) sB0 sF0) ?_
                                    refine AL_cons (LR_off (b := false) rfl rfl rfl rfl) (sS (sT1 rfl) sB0 sF0) ?_
                                    refine AL_cons (LR_pick (b := false) (at_tmp 129 _) (at_tmp 131 _) (at_c (v' := Bl false) rfl) rfl) (sS (sA (sT1 rfl) (sA (sT1 rfl) sT0)) sB0 sF0) ?_
                                    exact AL_nil ⟨rfl, weak0 ((sT rfl (sT rfl (sT rfl (sT rfl (sT rfl (sT rfl (sT rfl (sT rfl (sT rfl (sT rfl sT0))))))))))) (sub_keep (sub_keep (sub_keep sub_nil)))⟩
                                  · skip
                                    refine AL_cons (LR_on rfl rfl rfl (LR_fieldAddr (off := 0) (o := 1) (at_tmp 14 _) (fun b w => fa175_1 b 0 w) rfl)) (sS (sT rfl (sT1 rfl)) sB0 sF0) ?_
                                    refine AL_cons (LR_on rfl rfl rfl (LR_load (at_tmp 130 _) na4 rfl rfl)) (sS (sT rfl (sT1 rfl)) (sB1 rfl) sF0) ?_
                                    refine AL_cons (LR_pick (b := true) (at_tmp 129 _) (at_tmp 131 _) (at_c (v' := Bl false) rfl) rfl) (sS (sA (sT1 rfl) (sA (sT1 rfl) sT0)) sB0 sF0) ?_
                                    exact AL_nil ⟨rfl, weak0 ((sT rfl (sT rfl (sT rfl (sT rfl (sT rfl (sT rfl (sT rfl (sT rfl (sT rfl (sT rfl sT0))))))))))) (sub_keep (sub_keep (sub_keep sub_nil)))⟩
                                refine AL_cons (LR_move (at_tmp 132 _) rfl) (sS (sT1 rfl) sB0 sF0) ?_
                                refine AL_cutAt 9 ⟨[(1, .inl (is (U8 a1))), (5, .inr (.inl (5, 0))), (14, .inr (.inl (14, 0))), (15, .inl (is (Bl x20))), (17, .inr (.inl (17, 0))), (126, .inl (is (Bl x28))), (127, .inl (agg [is (U8 a0_0), is (U8 a0_1)])), (128, .inl (is (Bl x20))), (129, .inl (is (Bl x20))), (132, .inl (is (Bl (x20 && x15)))), (133, .inl (is (Bl (x20 && x15)))), (142, .inl (is (Bl ((x20 && x15) || ((x20 != x15) && (a1 == (4#8)))))))], [(5, pb 23 [is (U8 a0_0), is (U8 a0_1)]), (14, pb 175 [is (U64 x14), is (Bl x15), is (I8 x16), is (Bl x17), big x18, big x19]), (17, pb 119 [is (Bl x25), big x26, big x27])]⟩ ?_ ?_
                                · cases hb : x20 && x15
                                  · skip
                                    refine AL_cons (LR_on rfl rfl rfl (LR_move (at_tmp 15 _) rfl)) (sS (sT rfl (sT1 rfl)) sB0 sF0) ?_
                                    refine AL_cons (LR_on rfl rfl rfl (LR_fieldAddr (off := 0) (o := 1) (at_tmp 14 _) (fun b w => fa175_1 b 0 w) rfl)) (sS (sT rfl (sT1 rfl)) sB0 sF0) ?_
                                    refine AL_cons (LR_on rfl rfl rfl (LR_load (at_tmp 135 _) na4 rfl rfl)) (sS (sT rfl (sT1 rfl)) (sB1 rfl) sF0) ?_
                                    refine AL_cons (LR_on rfl rfl rfl (LR_bin (at_tmp 134 _) (at_tmp 136 _) (neq_Bl Hfaa.underlying4 x20 x15) rfl)) (sS (sT rfl (sA (sT1 rfl) (sT1 rfl))) sB0 sF0) ?_
                                    refine AL_cons (LR_on rfl rfl rfl (LR_move (at_tmp 137 _) rfl)) (sS (sT rfl (sT1 rfl)) sB0 sF0) ?_
                                    refine AL_cutAt 3 ⟨[(1, .inl (is (U8 a1))), (5, .inr (.inl (5, 0))), (14, .inr (.inl (14, 0))), (15, .inl (is (Bl x20))), (17, .inr (.inl (17, 0))), (126, .inl (is (Bl x28))), (127, .inl (agg [is (U8 a0_0), is (U8 a0_1)])), (128, .inl (is (Bl x20))), (129, .inl (is (Bl x20))), (132, .inl (is (Bl false))), (133, .inl (is (Bl false))), (134, .inl (is (Bl x20))), (135, .inr (.inl (14, 1))), (136, .inl (is (Bl x15))), (137, .inl (is (Bl (x20 != x15)))), (138, .inl (is (Bl (x20 != x15)))), (141, .inl (is (Bl ((x20 != x15) && (a1 == (4#8))))))], [(5, pb 23 [is (U8 a0_0), is (U8 a0_1)]), (14, pb 175 [is (U64 x14), is (Bl x15), is (I8 x16), is (Bl x17), big x18, big x19]), (17, pb 119 [is (Bl x25), big x26, big x27])]⟩ ?_ ?_
                                    · cases hb : x20 != x15
                                      · skip
                                        refine AL_cons (LR_off (b := false) rfl rfl rfl rfl) (sS (sT1 rfl) sB0 sF0) ?_
                                        refine AL_cons (LR_off (b := false) rfl rfl rfl rfl) (sS (sT1 rfl) sB0 sF0) ?_
                                        refine AL_cons (LR_on rfl rfl rfl (LR_pick (b := false) (at_tmp 138 _) (at_tmp 140 _) (at_c (v' := Bl false) rfl) rfl)) (sS (sT rfl (sA (sT1 rfl) (sA (sT1 rfl) sT0))) sB0 sF0) ?_
                                        exact AL_nil ⟨rfl, weak0 ((sT rfl (sT rfl (sT rfl (sT rfl (sT rfl (sT rfl (sT rfl (sT rfl (sT rfl (sT rfl (sT rfl (sT rfl (sT rfl (sT rfl (sT rfl (sT rfl (sT rfl sT0)))))))))))))))))) (sub_keep (sub_keep (sub_keep sub_nil)))⟩
                                      · skip
                                        refine AL_cons (LR_on rfl rfl rfl (LR_move (at_tmp 1 _) rfl)) (sS (sT rfl (sT1 rfl)) sB0 sF0) ?_
                                        refine AL_cons (LR_on rfl rfl rfl (LR_bin (at_tmp 139 _) (at_c (v' := U8 (4#8)) rfl) (eql_U8 a1 (4#8)) rfl)) (sS (sT rfl (sA (sT1 rfl) sT0)) sB0 sF0) ?_
                                        refine AL_cons (LR_on rfl rfl rfl (LR_pick (b := true) (at_tmp 138 _) (at_tmp 140 _) (at_c (v' := Bl false) rfl) rfl)) (sS (sT rfl (sA (sT1 rfl) (sA (sT1 rfl) sT0))) sB0 sF0) ?_
                                        exact AL_nil ⟨rfl, weak0 ((sT rfl (sT rfl (sT rfl (sT rfl (sT rfl (sT rfl (sT rfl (sT rfl (sT rfl (sT rfl (sT rfl (sT rfl (sT rfl (sT rfl (sT rfl (sT rfl (sT rfl sT0)))))))))))))))))) (sub_keep (sub_keep (sub_keep sub_nil)))⟩
                                    refine AL_cons (LR_pick (b := false) (at_tmp 133 _) (at_c (v' := Bl true) rfl) (at_tmp 141 _) rfl) (sS (sA (sT1 rfl) (sA sT0 (sT1 rfl))) sB0 sF0) ?_
                                    exact AL_nil ⟨rfl, weak0 ((sT rfl (sT rfl (sT rfl (sT rfl (sT rfl (sT rfl (sT rfl (sT rfl (sT rfl (sT rfl (sT rfl (sT rfl sT0))))))))))))) (sub_keep (sub_keep (sub_keep sub_nil)))⟩
                                  · skip
                                    refine AL_cons (LR_off (b := true) rfl rfl rfl rfl) (sS (sT1 rfl) sB0 sF0) ?_
                                    refine AL_cons (LR_off (b := true) rfl rfl rfl rfl) (sS (sT1 rfl) sB0 sF0) ?_
                                    refine AL_cons (LR_off (b := true) rfl rfl rfl rfl) (sS (sT1 rfl) sB0 sF0) ?_
                                    refine AL_cons (LR_off (b := true) rfl rfl rfl rfl) (sS (sT1 rfl) sB0 sF0) ?_
                                    refine AL_cons (LR_off (b := true) rfl rfl rfl rfl) (sS (sT1 rfl) sB0 sF0) ?_
                                    refine AL_cons (LR_offU rfl rfl rfl rfl) (sS (sT1 rfl) sB0 sF0) ?_
                                    refine AL_cons (LR_offU rfl rfl rfl rfl) (sS (sT1 rfl) sB0 sF0) ?_
                                    refine AL_cons (LR_off (b := true) rfl rfl rfl rfl) (sS (sT1 rfl) sB0 sF0) ?_
                                    refine AL_cons (LR_pick (b := true) (at_tmp 133 _) (at_c (v' := Bl true) rfl) (at_tmp 141 _) rfl) (sS (sA (sT1 rfl) (sA sT0 (sT1 rfl))) sB0 sF0) ?_
                                    exact AL_nil ⟨rfl, weak0 ((sT rfl (sT rfl (sT rfl (sT rfl (sT rfl (sT rfl (sT rfl (sT rfl (sT rfl (sT rfl (sT rfl (sT rfl sT0))))))))))))) (sub_keep (sub_keep (sub_keep sub_nil)))⟩
                                obtain ⟨y31, hy31, hr⟩ := lt_some hr
                                refine AL_cons (LR_call Hfaa.func251 rfl rfl (C251 a0_0 a0_1 ((x20 && x15) || ((x20 != x15) && (a1 == (4#8)))) y31 hy31) (all_cons (at_tmp 127 _) (all_cons (at_tmp 142 _) all_nil)) rfl) (sS (sA (sT1 rfl) (sA (sT1 rfl) sT0)) sB0 sF0) ?_
                                refine AL_cons (LR_assign (at_tmp 143 _) rfl) (sS (sT1 rfl) sB0 sF0) ?_
                                refine AL_cons (LR_assign (at_c (v' := U8 (0#8)) rfl) rfl) (sS sT0 sB0 sF0) ?_
                                refine AL_nil ?_
                                refine thenN ?_
                                refine AW_ret ?_
                                refine thenR ?_
                                obtain rfl := Option.some.inj hr
                                exact res2 rfl (rvT rfl) (rvT rfl)
                              · have hr := hr.trans (cond_f h)
                                clear h
                                refine AW_skip ?_
                                refine thenN ?_
                                refine AW_seq1 ?_
                                refine AW_region ?_
                                refine AL_cons (LR_loads (at_tmp 5 _) ag23 sz23 rfl rfl rfl) (sS (sT1 rfl) (sB1 rfl) sF0) ?_
                                refine AL_cons (LR_move (at_tmp 1 _) rfl) (sS (sT1 rfl) sB0 sF0) ?_
                                refine AL_cons (LR_loads (at_tmp 17 _) ag119 sz119 rfl rfl rfl) (sS (sT1 rfl) (sB1 rfl) sF0) ?_
                                obtain ⟨y33, hy33, hr⟩ := bind_some hr
                                refine AL_cons (LR_call Hfaa.func136 rfl rfl (C136 N a0_0 a0_1 a1 x25 x26 x27 y33 hy33) (all_cons (at_tmp 144 _) (all_cons (at_tmp 145 _) (all_cons (at_tmp 146 _) all_nil))) rfl) (sS (sA (sT1 rfl) (sA (sT1 rfl) (sA (sT1 rfl) sT0))) sB0 sF0) ?_
                                refine AL_cons (LR_extract (at_tmp 147 _) rfl rfl) (sS (sT1 rfl) sB0 sF0) ?_
                                refine AL_cons (LR_extract (at_tmp 147 _) rfl rfl) (sS (sT1 rfl) sB0 sF0) ?_
                                refine AL_cons (LR_assign (at_tmp 148 _) rfl) (sS (sT1 rfl) sB0 sF0) ?_
                                refine AL_cons (LR_assign (at_tmp 149 _) rfl) (sS (sT1 rfl) sB0 sF0) ?_
                                refine AL_nil ?_
                                refine thenN ?_
                                refine AW_ret ?_
                                obtain rfl := Option.some.inj hr
                                exact res2 rfl (rvT rfl) (rvT rfl)
end Go.Proofs.YfwaawGreat
