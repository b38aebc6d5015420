import Derived.Test.YfwaawGreatBig
namespace Go.Proofs.YfwaawGreat
open Go.Aw
set_option linter.unusedVariables false
set_option maxRecDepth 100000
set_option maxHeartbeats 1000000
/-- hexa.digit -/
def F285_3 (a0 : Int) (x3 : Bool) : Int := bif x3 then w64 ((w64 (w32 (a0 - 65))) + 10) else (-1)
def F285_2 (a0 : Int) (x2 : Bool) : Int := bif x2 then w64 ((w64 (w32 (a0 - 97))) + 10) else F285_3 a0 ((decide (65 ≤ a0)) && (decide (a0 ≤ 70)))
def F285_1 (a0 : Int) (x1 : Bool) : Int := bif x1 then w64 (w32 (a0 - 48)) else F285_2 a0 ((decide (97 ≤ a0)) && (decide (a0 ≤ 102)))
def F285 (a0 : Int) : Int := F285_1 a0 ((decide (48 ≤ a0)) && (decide (a0 ≤ 57)))
theorem C285 (a0 : Int) (r : Int) (hr : r = F285 a0) : Aw.Fn Hfaa.prog 285 [is (I32 a0)] (is (I64 r)) := by
  refine fn_intro Hfaa.func285 rfl rfl rfl ?_
  intro bn0 w0 H0
  refine AW_seq1 ?_
  refine AW_region ?_
  refine AL_cons (LR_assign (at_c (v' := I64 0) rfl) rfl) (sS sT0 sB0 sF0) ?_
  refine AL_nil ?_
  refine thenN ?_
  refine AW_seq1 ?_
  refine AW_block ?_
  refine AW_cut (σ := Bool) (fun v => ⟨[(0, .inl (is (I32 a0))), (3, .inl (is (Bl v)))], []⟩) (fun v => r = F285_1 a0 v) ?_ ?_
  · skip
    refine AW_region ?_
    refine AL_cons (LR_move (at_tmp 0 _) rfl) (sS (sT1 rfl) sB0 sF0) ?_
    refine AL_cons (LR_bin (at_c (v' := I32 48) rfl) (at_tmp 4 _) (leq_I32 48 a0) rfl) (sS (sA sT0 (sT1 rfl)) sB0 sF0) ?_
    refine AL_cons (LR_move (at_tmp 5 _) rfl) (sS (sT1 rfl) sB0 sF0) ?_
    refine AL_cutAt 3 ⟨[(0, .inl (is (I32 a0))), (2, .inl (is (I64 0))), (4, .inl (is (I32 a0))), (5, .inl (is (Bl (decide (48 ≤ a0))))), (6, .inl (is (Bl (decide (48 ≤ a0))))), (9, .inl (is (Bl ((decide (48 ≤ a0)) && (decide (a0 ≤ 57))))))], []⟩ ?_ ?_
    · cases hb : decide (48 ≤ a0)
      · skip
        refine AL_cons (LR_off (b := false) rfl rfl rfl rfl) (sS (sT1 rfl) sB0 sF0) ?_
        refine AL_cons (LR_off (b := false) rfl rfl rfl rfl) (sS (sT1 rfl) sB0 sF0) ?_
        refine AL_cons (LR_pick (b := false) (at_tmp 6 _) (at_tmp 8 _) (at_c (v' := Bl false) rfl) rfl) (sS (sA (sT1 rfl) (sA (sT1 rfl) sT0)) sB0 sF0) ?_
        exact AL_nil ⟨rfl, weak0 ((sT rfl (sT rfl (sT rfl (sT rfl (sT rfl (sT rfl sT0))))))) sub_nil⟩
      · skip
        refine AL_cons (LR_on rfl rfl rfl (LR_move (at_tmp 0 _) rfl)) (sS (sT rfl (sT1 rfl)) sB0 sF0) ?_
        refine AL_cons (LR_on rfl rfl rfl (LR_bin (at_tmp 7 _) (at_c (v' := I32 57) rfl) (leq_I32 a0 57) rfl)) (sS (sT rfl (sA (sT1 rfl) sT0)) sB0 sF0) ?_
        refine AL_cons (LR_pick (b := true) (at_tmp 6 _) (at_tmp 8 _) (at_c (v' := Bl false) rfl) rfl) (sS (sA (sT1 rfl) (sA (sT1 rfl) sT0)) sB0 sF0) ?_
        exact AL_nil ⟨rfl, weak0 ((sT rfl (sT rfl (sT rfl (sT rfl (sT rfl (sT rfl sT0))))))) sub_nil⟩
    refine AL_cons (LR_assign (at_tmp 9 _) rfl) (sS (sT1 rfl) sB0 sF0) ?_
    refine AL_nil ?_
    exact thenN (cutLeaf (v := (decide (48 ≤ a0)) && (decide (a0 ≤ 57))) hr (weak0 ((sT rfl (sT rfl sT0))) sub_nil))
  · rintro x1 hr
    show AW Hfaa.prog _ _ _ ⟨[(0, .inl (is (I32 a0))), (3, .inl (is (Bl x1)))], []⟩
    have hr : r = F285_1 a0 x1 := hr
    refine AW_condT (b := x1) rfl (fun h => ?_) (fun h => ?_)
    · have hr := hr.trans (cond_t h)
      clear h
      refine AW_seq1 ?_
      refine AW_region ?_
      refine AL_cons (LR_move (at_tmp 0 _) rfl) (sS (sT1 rfl) sB0 sF0) ?_
      refine AL_cons (LR_bin (at_tmp 10 _) (at_c (v' := I32 48) rfl) (sub_I32 a0 48) rfl) (sS (sA (sT1 rfl) sT0) sB0 sF0) ?_
      refine AL_cons (LR_conv (vx := I32 (w32 (a0 - 48))) (at_tmp 11 _) (conv_I64 Hfaa.underlying21 Hfaa.underlying3 (w32 (a0 - 48))) rfl) (sS (sT1 rfl) sB0 sF0) ?_
      refine AL_cons (LR_assign (at_tmp 12 _) rfl) (sS (sT1 rfl) sB0 sF0) ?_
      refine AL_nil ?_
      refine thenN ?_
      refine AW_ret ?_
      refine blR ?_
      refine thenR ?_
      subst hr
      exact res1 rfl (rvT rfl)
    · have hr := hr.trans (cond_f h)
      clear h
      refine AW_cut (σ := Bool) (fun v => ⟨[(0, .inl (is (I32 a0))), (13, .inl (is (Bl v)))], []⟩) (fun v => r = F285_2 a0 v) ?_ ?_
      · skip
        refine AW_region ?_
        refine AL_cons (LR_move (at_tmp 0 _) rfl) (sS (sT1 rfl) sB0 sF0) ?_
        refine AL_cons (LR_bin (at_c (v' := I32 97) rfl) (at_tmp 14 _) (leq_I32 97 a0) rfl) (sS (sA sT0 (sT1 rfl)) sB0 sF0) ?_
        refine AL_cons (LR_move (at_tmp 15 _) rfl) (sS (sT1 rfl) sB0 sF0) ?_
        refine AL_cutAt 3 ⟨[(0, .inl (is (I32 a0))), (3, .inl (is (Bl x1))), (14, .inl (is (I32 a0))), (15, .inl (is (Bl (decide (97 ≤ a0))))), (16, .inl (is (Bl (decide (97 ≤ a0))))), (19, .inl (is (Bl ((decide (97 ≤ a0)) && (decide (a0 ≤ 102))))))], []⟩ ?_ ?_
        · cases hb : decide (97 ≤ a0)
          · skip
            refine AL_cons (LR_off (b := false) rfl rfl rfl rfl) (sS (sT1 rfl) sB0 sF0) ?_
            refine AL_cons (LR_off (b := false) rfl rfl rfl rfl) (sS (sT1 rfl) sB0 sF0) ?_
            refine AL_cons (LR_pick (b := false) (at_tmp 16 _) (at_tmp 18 _) (at_c (v' := Bl false) rfl) rfl) (sS (sA (sT1 rfl) (sA (sT1 rfl) sT0)) sB0 sF0) ?_
            exact AL_nil ⟨rfl, weak0 ((sT rfl (sT rfl (sT rfl (sT rfl (sT rfl (sT rfl sT0))))))) sub_nil⟩
          · skip
            refine AL_cons (LR_on rfl rfl rfl (LR_move (at_tmp 0 _) rfl)) (sS (sT rfl (sT1 rfl)) sB0 sF0) ?_
            refine AL_cons (LR_on rfl rfl rfl (LR_bin (at_tmp 17 _) (at_c (v' := I32 102) rfl) (leq_I32 a0 102) rfl)) (sS (sT rfl (sA (sT1 rfl) sT0)) sB0 sF0) ?_
            refine AL_cons (LR_pick (b := true) (at_tmp 16 _) (at_tmp 18 _) (at_c (v' := Bl false) rfl) rfl) (sS (sA (sT1 rfl) (sA (sT1 rfl) sT0)) sB0 sF0) ?_
            exact AL_nil ⟨rfl, weak0 ((sT rfl (sT rfl (sT rfl (sT rfl (sT rfl (sT rfl sT0))))))) sub_nil⟩
        refine AL_cons (LR_assign (at_tmp 19 _) rfl) (sS (sT1 rfl) sB0 sF0) ?_
        refine AL_nil ?_
        exact thenN (cutLeaf (v := (decide (97 ≤ a0)) && (decide (a0 ≤ 102))) hr (weak0 ((sT rfl (sT rfl sT0))) sub_nil))
      · rintro x2 hr
        show AW Hfaa.prog _ _ _ ⟨[(0, .inl (is (I32 a0))), (13, .inl (is (Bl x2)))], []⟩
        have hr : r = F285_2 a0 x2 := hr
        refine AW_condT (b := x2) rfl (fun h => ?_) (fun h => ?_)
        · have hr := hr.trans (cond_t h)
          clear h
          refine AW_seq1 ?_
          refine AW_region ?_
          refine AL_cons (LR_move (at_tmp 0 _) rfl) (sS (sT1 rfl) sB0 sF0) ?_
          refine AL_cons (LR_bin (at_tmp 20 _) (at_c (v' := I32 97) rfl) (sub_I32 a0 97) rfl) (sS (sA (sT1 rfl) sT0) sB0 sF0) ?_
          refine AL_cons (LR_conv (vx := I32 (w32 (a0 - 97))) (at_tmp 21 _) (conv_I64 Hfaa.underlying21 Hfaa.underlying3 (w32 (a0 - 97))) rfl) (sS (sT1 rfl) sB0 sF0) ?_
          refine AL_cons (LR_bin (at_tmp 22 _) (at_c (v' := I64 10) rfl) (add_I64 (w64 (w32 (a0 - 97))) 10) rfl) (sS (sA (sT1 rfl) sT0) sB0 sF0) ?_
          refine AL_cons (LR_assign (at_tmp 23 _) rfl) (sS (sT1 rfl) sB0 sF0) ?_
          refine AL_nil ?_
          refine thenN ?_
          refine AW_ret ?_
          refine blR ?_
          refine thenR ?_
          subst hr
          exact res1 rfl (rvT rfl)
        · have hr := hr.trans (cond_f h)
          clear h
          refine AW_cut (σ := Bool) (fun v => ⟨[(0, .inl (is (I32 a0))), (24, .inl (is (Bl v)))], []⟩) (fun v => r = F285_3 a0 v) ?_ ?_
          · skip
            refine AW_region ?_
            refine AL_cons (LR_move (at_tmp 0 _) rfl) (sS (sT1 rfl) sB0 sF0) ?_
            refine AL_cons (LR_bin (at_c (v' := I32 65) rfl) (at_tmp 25 _) (leq_I32 65 a0) rfl) (sS (sA sT0 (sT1 rfl)) sB0 sF0) ?_
            refine AL_cons (LR_move (at_tmp 26 _) rfl) (sS (sT1 rfl) sB0 sF0) ?_
            refine AL_cutAt 3 ⟨[(0, .inl (is (I32 a0))), (13, .inl (is (Bl x2))), (25, .inl (is (I32 a0))), (26, .inl (is (Bl (decide (65 ≤ a0))))), (27, .inl (is (Bl (decide (65 ≤ a0))))), (30, .inl (is (Bl ((decide (65 ≤ a0)) && (decide (a0 ≤ 70))))))], []⟩ ?_ ?_
            · cases hb : decide (65 ≤ a0)
              · skip
                refine AL_cons (LR_off (b := false) rfl rfl rfl rfl) (sS (sT1 rfl) sB0 sF0) ?_
                refine AL_cons (LR_off (b := false) rfl rfl rfl rfl) (sS (sT1 rfl) sB0 sF0) ?_
                refine AL_cons (LR_pick (b := false) (at_tmp 27 _) (at_tmp 29 _) (at_c (v' := Bl false) rfl) rfl) (sS (sA (sT1 rfl) (sA (sT1 rfl) sT0)) sB0 sF0) ?_
                exact AL_nil ⟨rfl, weak0 ((sT rfl (sT rfl (sT rfl (sT rfl (sT rfl (sT rfl sT0))))))) sub_nil⟩
              · skip
                refine AL_cons (LR_on rfl rfl rfl (LR_move (at_tmp 0 _) rfl)) (sS (sT rfl (sT1 rfl)) sB0 sF0) ?_
                refine AL_cons (LR_on rfl rfl rfl (LR_bin (at_tmp 28 _) (at_c (v' := I32 70) rfl) (leq_I32 a0 70) rfl)) (sS (sT rfl (sA (sT1 rfl) sT0)) sB0 sF0) ?_
                refine AL_cons (LR_pick (b := true) (at_tmp 27 _) (at_tmp 29 _) (at_c (v' := Bl false) rfl) rfl) (sS (sA (sT1 rfl) (sA (sT1 rfl) sT0)) sB0 sF0) ?_
                exact AL_nil ⟨rfl, weak0 ((sT rfl (sT rfl (sT rfl (sT rfl (sT rfl (sT rfl sT0))))))) sub_nil⟩
            refine AL_cons (LR_assign (at_tmp 30 _) rfl) (sS (sT1 rfl) sB0 sF0) ?_
            refine AL_nil ?_
            exact thenN (cutLeaf (v := (decide (65 ≤ a0)) && (decide (a0 ≤ 70))) hr (weak0 ((sT rfl (sT rfl sT0))) sub_nil))
          · rintro x3 hr
            show AW Hfaa.prog _ _ _ ⟨[(0, .inl (is (I32 a0))), (24, .inl (is (Bl x3)))], []⟩
            have hr : r = F285_3 a0 x3 := hr
            refine AW_condT (b := x3) rfl (fun h => ?_) (fun h => ?_)
            · have hr := hr.trans (cond_t h)
              clear h
              refine AW_seq1 ?_
              refine AW_region ?_
              refine AL_cons (LR_move (at_tmp 0 _) rfl) (sS (sT1 rfl) sB0 sF0) ?_
              refine AL_cons (LR_bin (at_tmp 31 _) (at_c (v' := I32 65) rfl) (sub_I32 a0 65) rfl) (sS (sA (sT1 rfl) sT0) sB0 sF0) ?_
              refine AL_cons (LR_conv (vx := I32 (w32 (a0 - 65))) (at_tmp 32 _) (conv_I64 Hfaa.underlying21 Hfaa.underlying3 (w32 (a0 - 65))) rfl) (sS (sT1 rfl) sB0 sF0) ?_
              refine AL_cons (LR_bin (at_tmp 33 _) (at_c (v' := I64 10) rfl) (add_I64 (w64 (w32 (a0 - 65))) 10) rfl) (sS (sA (sT1 rfl) sT0) sB0 sF0) ?_
              refine AL_cons (LR_assign (at_tmp 34 _) rfl) (sS (sT1 rfl) sB0 sF0) ?_
              refine AL_nil ?_
              refine thenN ?_
              refine AW_ret ?_
              refine blR ?_
              refine thenR ?_
              subst hr
              exact res1 rfl (rvT rfl)
            · have hr := hr.trans (cond_f h)
              clear h
              refine AW_skip ?_
              refine blN ?_
              refine thenN ?_
              refine AW_seq1 ?_
              refine AW_region ?_
              refine AL_cons (LR_assign (at_c (v' := I64 (-1)) rfl) rfl) (sS sT0 sB0 sF0) ?_
              refine AL_nil ?_
              refine thenN ?_
              refine AW_ret ?_
              subst hr
              exact res1 rfl (rvT rfl)
/-- hexa.Make -/
def F284_6 (N : Nat) (a0 : Bool) (a2 : Int) (x3 : Int) (x4 : Int) (x5 : Nat → BitVec 8) (x7 : Int) (x8 : Bool) : Option (Bool × List UInt8 × Int × Bool) := bif x8 then some ((false, ([] : List UInt8), 0, false)) else bif (decide (0 ≤ (0 : Int)) && (decide ((0 : Int) ≤ (w64 (x4 - x3) : Int)) && decide ((w64 (x4 - x3) : Int) ≤ (2048 : Int)))) then bif decide ((((w64 (x4 - x3) : Int).toNat)) ≤ 2048) then some ((a0, bys (((w64 (x4 - x3) : Int).toNat)) x5, w16 (w64 (a2 + x7)), true)) else none else none
def F284_5 (N : Nat) (a0 : Bool) (a2 : Int) (x3 : Int) (x4 : Int) (x5 : Nat → BitVec 8) (x7 : Int) : Option (Bool × List UInt8 × Int × Bool) := F284_6 N a0 a2 x3 x4 x5 x7 ((((decide ((w64 (x4 - x3)) > 800)) || (decide (a2 > 16000))) || (decide ((w64 (a2 + x7)) > 16000))) || (decide ((w64 (a2 + x7)) < (-16000))))
def F284_4 (N : Nat) (a0 : Bool) (a1 : List UInt8) (a2 : Int) (x3 : Int) (x4 : Int) (x5 : Nat → BitVec 8) (x6 : Bool) : Option (Bool × List UInt8 × Int × Bool) := bif x6 then some ((a0, ([] : List UInt8), 0, true)) else F284_5 N a0 a2 x3 x4 x5 (w64 (4 * (w64 ((a1.length : Int) - x4))))
def F284_3 (N : Nat) (a0 : Bool) (a1 : List UInt8) (a2 : Int) (x3 : Int) (x4 : Int) (x5 : Nat → BitVec 8) : Option (Bool × List UInt8 × Int × Bool) := F284_4 N a0 a1 a2 x3 x4 x5 (x4 == 0)
def F284_9 (N : Nat) (a0 : Bool) (a1 : List UInt8) (a2 : Int) (x11 : Int) (x14 : Int) (x15 : Int) (x16 : Nat → BitVec 8) : Option ((Int × Int × Int × (Nat → BitVec 8)) ⊕ (Bool × List UInt8 × Int × Bool)) := some (.inl ((x14, x15, w64 (x11 + 1), x16)))
def F284_14 (N : Nat) (a0 : Bool) (a1 : List UInt8) (a2 : Int) (x11 : Int) (x12 : Nat → BitVec 8) (x17 : Int) (x19 : Int) (x20 : Int) (x21 : Int) (x22 : Bool) : Option ((Int × Int × Int × (Nat → BitVec 8)) ⊕ (Bool × List UInt8 × Int × Bool)) := bif x22 then bif (decide (0 ≤ (x17 : Int)) && decide ((x17 : Int) < (str1.length : Int))) then bif (decide (0 ≤ x21) && decide (x21 < (2048 : Int))) then F284_9 N a0 a1 a2 x11 x19 x20 (upd x12 x21.toNat ((str1.getD ((x17 : Int)).toNat 0).toBitVec)) else none else none else F284_9 N a0 a1 a2 x11 x19 x20 x12
def F284_13 (N : Nat) (a0 : Bool) (a1 : List UInt8) (a2 : Int) (x11 : Int) (x12 : Nat → BitVec 8) (x17 : Int) (x19 : Int) (x20 : Int) (x21 : Int) : Option ((Int × Int × Int × (Nat → BitVec 8)) ⊕ (Bool × List UInt8 × Int × Bool)) := F284_14 N a0 a1 a2 x11 x12 x17 x19 x20 x21 (((decide (x17 ≥ 0)) && (decide (x19 ≤ x11))) && (decide (x21 < 2048)))
def F284_12 (N : Nat) (a0 : Bool) (a1 : List UInt8) (a2 : Int) (x11 : Int) (x12 : Nat → BitVec 8) (x17 : Int) (x19 : Int) (x20 : Int) : Option ((Int × Int × Int × (Nat → BitVec 8)) ⊕ (Bool × List UInt8 × Int × Bool)) := F284_13 N a0 a1 a2 x11 x12 x17 x19 x20 (w64 (x11 - x19))
def F284_16 (N : Nat) (a0 : Bool) (a1 : List UInt8) (a2 : Int) (x11 : Int) (x12 : Nat → BitVec 8) (x17 : Int) (x24 : Int) : Option ((Int × Int × Int × (Nat → BitVec 8)) ⊕ (Bool × List UInt8 × Int × Bool)) := F284_12 N a0 a1 a2 x11 x12 x17 x24 (w64 (x11 + 1))
def F284_15 (N : Nat) (a0 : Bool) (a1 : List UInt8) (a2 : Int) (x9 : Int) (x10 : Int) (x11 : Int) (x12 : Nat → BitVec 8) (x17 : Int) (x23 : Bool) : Option ((Int × Int × Int × (Nat → BitVec 8)) ⊕ (Bool × List UInt8 × Int × Bool)) := bif x23 then F284_16 N a0 a1 a2 x11 x12 x17 (min x9 x11) else F284_12 N a0 a1 a2 x11 x12 x17 x9 x10
def F284_11 (N : Nat) (a0 : Bool) (a1 : List UInt8) (a2 : Int) (x9 : Int) (x10 : Int) (x11 : Int) (x12 : Nat → BitVec 8) (x17 : Int) (x18 : Bool) : Option ((Int × Int × Int × (Nat → BitVec 8)) ⊕ (Bool × List UInt8 × Int × Bool)) := bif x18 then (some ((false, ([] : List UInt8), 0, false))).map Sum.inr else F284_15 N a0 a1 a2 x9 x10 x11 x12 x17 (decide (x17 > 0))
def F284_10 (N : Nat) (a0 : Bool) (a1 : List UInt8) (a2 : Int) (x9 : Int) (x10 : Int) (x11 : Int) (x12 : Nat → BitVec 8) (x17 : Int) : Option ((Int × Int × Int × (Nat → BitVec 8)) ⊕ (Bool × List UInt8 × Int × Bool)) := F284_11 N a0 a1 a2 x9 x10 x11 x12 x17 (decide (x17 < 0))
def F284_8 (N : Nat) (a0 : Bool) (a1 : List UInt8) (a2 : Int) (x9 : Int) (x10 : Int) (x11 : Int) (x12 : Nat → BitVec 8) (x13 : Bool) : Option ((Int × Int × Int × (Nat → BitVec 8)) ⊕ (Bool × List UInt8 × Int × Bool)) := bif x13 then bif (decide (0 ≤ (x11 : Int)) && decide ((x11 : Int) < (a1.length : Int))) then lt (F285 (w32 (((a1.getD ((x11 : Int)).toNat 0).toBitVec).toNat : Int))) fun y24 => F284_10 N a0 a1 a2 x9 x10 x11 x12 y24 else none else (F284_3 N a0 a1 a2 x9 x10 x12).map Sum.inr
def F284_L7b (N : Nat) (a0 : Bool) (a1 : List UInt8) (a2 : Int) (x9 : Int) (x10 : Int) (x11 : Int) (x12 : Nat → BitVec 8) : Option ((Int × Int × Int × (Nat → BitVec 8)) ⊕ (Bool × List UInt8 × Int × Bool)) := F284_8 N a0 a1 a2 x9 x10 x11 x12 (decide (x11 < (a1.length : Int)))
def F284_L7 (N : Nat) (a0 : Bool) (a1 : List UInt8) (a2 : Int) : (Int × Int × Int × (Nat → BitVec 8)) → Option ((Int × Int × Int × (Nat → BitVec 8)) ⊕ (Bool × List UInt8 × Int × Bool)) := fun v => F284_L7b N a0 a1 a2 v.1 v.2.1 v.2.2.1 v.2.2.2
def F284_2 (N : Nat) (a0 : Bool) (a1 : List UInt8) (a2 : Int) (x1 : Int) (x2 : Nat → BitVec 8) : Option (Bool × List UInt8 × Int × Bool) := iterL (F284_L7 N a0 a1 a2) N (x1, 0, 0, x2)
def F284_1 (N : Nat) (a0 : Bool) (a1 : List UInt8) (a2 : Int) (x1 : Int) : Option (Bool × List UInt8 × Int × Bool) := F284_2 N a0 a1 a2 x1 (fun _ => 0#8)
def F284 (N : Nat) (a0 : Bool) (a1 : List UInt8) (a2 : Int) : Option (Bool × List UInt8 × Int × Bool) := F284_1 N a0 a1 a2 (a1.length : Int)
theorem C284 (N : Nat) (a0 : Bool) (a1 : List UInt8) (a2 : Int) (r : Bool × List UInt8 × Int × Bool) (hr : some r = F284 N a0 a1 a2) : Aw.Fn Hfaa.prog 284 [is (Bl a0), is (Sv a1), is (I64 a2)] (tup [agg [is (Bl r.1), is (Sv r.2.1), is (I16 r.2.2.1)], is (Bl r.2.2.2)]) := by
  refine fn_intro Hfaa.func284 rfl rfl rfl ?_
  intro bn0 w0 H0
  refine AW_seq1 ?_
  refine AW_region ?_
  refine AL_cons (zl151 rfl) (sS sT0 sB0 (sF1 rfl)) ?_
  refine AL_cons (LR_assign (at_c (v' := Bl false) rfl) rfl) (sS sT0 sB0 sF0) ?_
  refine AL_nil ?_
  refine thenN ?_
  refine AW_cut (σ := Int) (fun v => ⟨[(0, .inl (is (Bl a0))), (1, .inl (is (Sv a1))), (2, .inl (is (I64 a2))), (6, .inr (.inl (6, 0))), (8, .inl (is (I64 v))), (9, .inl (is (I64 0)))], [(6, pb 151 [is (Bl false), is (Sv ([] : List UInt8)), is (I16 0)])]⟩) (fun v => some r = F284_1 N a0 a1 a2 v) ?_ ?_
  · skip
    refine AW_region ?_
    refine AL_cons (LR_move (at_tmp 1 _) rfl) (sS (sT1 rfl) sB0 sF0) ?_
    refine AL_cons (LR_bi1 (at_tmp 15 _) (len_S Hfaa.underlying9 a1) rfl) (sS (sT1 rfl) sB0 sF0) ?_
    refine AL_cons (LR_assign (at_tmp 16 _) rfl) (sS (sT1 rfl) sB0 sF0) ?_
    refine AL_cons (LR_assign (at_c (v' := I64 0) rfl) rfl) (sS sT0 sB0 sF0) ?_
    refine AL_nil ?_
    exact thenN (cutLeaf (v := (a1.length : Int)) hr (weak0 ((sT rfl (sT rfl (sT rfl (sT rfl (sT rfl (sT rfl sT0))))))) (sub_keep sub_nil)))
  · rintro x1 hr
    show AW Hfaa.prog _ _ _ ⟨[(0, .inl (is (Bl a0))), (1, .inl (is (Sv a1))), (2, .inl (is (I64 a2))), (6, .inr (.inl (6, 0))), (8, .inl (is (I64 x1))), (9, .inl (is (I64 0)))], [(6, pb 151 [is (Bl false), is (Sv ([] : List UInt8)), is (I16 0)])]⟩
    have hr : some r = F284_1 N a0 a1 a2 x1 := hr
    refine AW_cut (σ := (Nat → BitVec 8)) (fun v => ⟨[(0, .inl (is (Bl a0))), (1, .inl (is (Sv a1))), (2, .inl (is (I64 a2))), (6, .inr (.inl (6, 0))), (8, .inl (is (I64 x1))), (9, .inl (is (I64 0))), (10, .inr (.inl (10, 0)))], [(6, pb 151 [is (Bl false), is (Sv ([] : List UInt8)), is (I16 0)]), (10, pb 342 (ar U8 2048 v ++ []))]⟩) (fun v => some r = F284_2 N a0 a1 a2 x1 v) ?_ ?_
    · skip
      refine AW_region ?_
      refine AL_cons (zl342 rfl) (sS sT0 sB0 (sF1 rfl)) ?_
      refine AL_nil ?_
      exact thenN (cutLeaf (v := fun _ => 0#8) hr (weak0 ((sT rfl (sT rfl (sT rfl (sT rfl (sT rfl (sT rfl (sT rfl sT0)))))))) (sub_keep (sub_keep sub_nil))))
    · rintro x2 hr
      show AW Hfaa.prog _ _ _ ⟨[(0, .inl (is (Bl a0))), (1, .inl (is (Sv a1))), (2, .inl (is (I64 a2))), (6, .inr (.inl (6, 0))), (8, .inl (is (I64 x1))), (9, .inl (is (I64 0))), (10, .inr (.inl (10, 0)))], [(6, pb 151 [is (Bl false), is (Sv ([] : List UInt8)), is (I16 0)]), (10, pb 342 (ar U8 2048 x2 ++ []))]⟩
      have hr : some r = F284_2 N a0 a1 a2 x1 x2 := hr
      refine AW_cut (σ := Int × Int × (Nat → BitVec 8)) (fun v => ⟨[(0, .inl (is (Bl a0))), (1, .inl (is (Sv a1))), (2, .inl (is (I64 a2))), (6, .inr (.inl (6, 0))), (8, .inl (is (I64 v.1))), (9, .inl (is (I64 v.2.1))), (10, .inr (.inl (10, 0)))], [(6, pb 151 [is (Bl false), is (Sv ([] : List UInt8)), is (I16 0)]), (10, pb 342 (ar U8 2048 v.2.2 ++ []))]⟩) (fun v => some r = F284_3 N a0 a1 a2 v.1 v.2.1 v.2.2) ?_ ?_
      · skip
        refine AW_seq1 ?_
        refine AW_region ?_
        refine AL_cons (LR_assign (at_c (v' := I64 0) rfl) rfl) (sS sT0 sB0 sF0) ?_
        refine AL_nil ?_
        refine thenN ?_
        refine AW_block ?_
        refine AW_iterR (σ := Int × Int × Int × (Nat → BitVec 8)) (r := r) (x0 := (x1, 0, 0, x2)) (emb := fun v => ⟨[(0, .inl (is (Bl a0))), (1, .inl (is (Sv a1))), (2, .inl (is (I64 a2))), (6, .inr (.inl (6, 0))), (8, .inl (is (I64 v.1))), (9, .inl (is (I64 v.2.1))), (10, .inr (.inl (10, 0))), (11, .inl (is (I64 v.2.2.1)))], [(6, pb 151 [is (Bl false), is (Sv ([] : List UInt8)), is (I16 0)]), (10, pb 342 (ar U8 2048 v.2.2.2 ++ []))]⟩) ?_ hr ?_
        · exact weak0 ((sT rfl (sT rfl (sT rfl (sT rfl (sT rfl (sT rfl (sT rfl (sT rfl sT0))))))))) (sub_keep (sub_keep sub_nil))
        rintro ⟨x9, x10, x11, x12⟩ out2 hr
        show AW Hfaa.prog _ _ _ ⟨[(0, .inl (is (Bl a0))), (1, .inl (is (Sv a1))), (2, .inl (is (I64 a2))), (6, .inr (.inl (6, 0))), (8, .inl (is (I64 x9))), (9, .inl (is (I64 x10))), (10, .inr (.inl (10, 0))), (11, .inl (is (I64 x11)))], [(6, pb 151 [is (Bl false), is (Sv ([] : List UInt8)), is (I16 0)]), (10, pb 342 (ar U8 2048 x12 ++ []))]⟩
        have hr : some out2 = F284_L7b N a0 a1 a2 x9 x10 x11 x12 := hr
        refine AW_seq1 ?_
        refine AW_cut (σ := Bool) (fun v => ⟨[(0, .inl (is (Bl a0))), (1, .inl (is (Sv a1))), (2, .inl (is (I64 a2))), (6, .inr (.inl (6, 0))), (8, .inl (is (I64 x9))), (9, .inl (is (I64 x10))), (10, .inr (.inl (10, 0))), (11, .inl (is (I64 x11))), (20, .inl (is (Bl v)))], [(6, pb 151 [is (Bl false), is (Sv ([] : List UInt8)), is (I16 0)]), (10, pb 342 (ar U8 2048 x12 ++ []))]⟩) (fun v => some out2 = F284_8 N a0 a1 a2 x9 x10 x11 x12 v) ?_ ?_
        · skip
          refine AW_region ?_
          refine AL_cons (LR_move (at_tmp 11 _) rfl) (sS (sT1 rfl) sB0 sF0) ?_
          refine AL_cons (LR_move (at_tmp 1 _) rfl) (sS (sT1 rfl) sB0 sF0) ?_
          refine AL_cons (LR_bi1 (at_tmp 18 _) (len_S Hfaa.underlying9 a1) rfl) (sS (sT1 rfl) sB0 sF0) ?_
          refine AL_cons (LR_bin (at_tmp 17 _) (at_tmp 19 _) (lss_I64 x11 (a1.length : Int)) rfl) (sS (sA (sT1 rfl) (sT1 rfl)) sB0 sF0) ?_
          refine AL_nil ?_
          exact thenN (cutLeaf (v := decide (x11 < (a1.length : Int))) hr (weak0 ((sT rfl (sT rfl (sT rfl (sT rfl (sT rfl (sT rfl (sT rfl (sT rfl (sT rfl sT0)))))))))) (sub_keep (sub_keep sub_nil))))
        · rintro x13 hr
          show AW Hfaa.prog _ _ _ ⟨[(0, .inl (is (Bl a0))), (1, .inl (is (Sv a1))), (2, .inl (is (I64 a2))), (6, .inr (.inl (6, 0))), (8, .inl (is (I64 x9))), (9, .inl (is (I64 x10))), (10, .inr (.inl (10, 0))), (11, .inl (is (I64 x11))), (20, .inl (is (Bl x13)))], [(6, pb 151 [is (Bl false), is (Sv ([] : List UInt8)), is (I16 0)]), (10, pb 342 (ar U8 2048 x12 ++ []))]⟩
          have hr : some out2 = F284_8 N a0 a1 a2 x9 x10 x11 x12 x13 := hr
          refine AW_condT (b := x13) rfl (fun h => ?_) (fun h => ?_)
          · have hr := hr.trans (cond_t h)
            clear h
            refine AW_skip ?_
            refine thenN ?_
            refine AW_cut (σ := Int × Int × (Nat → BitVec 8)) (fun v => ⟨[(0, .inl (is (Bl a0))), (1, .inl (is (Sv a1))), (2, .inl (is (I64 a2))), (6, .inr (.inl (6, 0))), (8, .inl (is (I64 v.1))), (10, .inr (.inl (10, 0))), (11, .inl (is (I64 x11))), (9, .inl (is (I64 v.2.1)))], [(6, pb 151 [is (Bl false), is (Sv ([] : List UInt8)), is (I16 0)]), (10, pb 342 (ar U8 2048 v.2.2 ++ []))]⟩) (fun v => some out2 = F284_9 N a0 a1 a2 x11 v.1 v.2.1 v.2.2) ?_ ?_
            · skip
              refine AW_block ?_
              refine AW_cut (σ := Int) (fun v => ⟨[(0, .inl (is (Bl a0))), (1, .inl (is (Sv a1))), (2, .inl (is (I64 a2))), (6, .inr (.inl (6, 0))), (8, .inl (is (I64 x9))), (9, .inl (is (I64 x10))), (10, .inr (.inl (10, 0))), (11, .inl (is (I64 x11))), (12, .inl (is (I64 v)))], [(6, pb 151 [is (Bl false), is (Sv ([] : List UInt8)), is (I16 0)]), (10, pb 342 (ar U8 2048 x12 ++ []))]⟩) (fun v => some out2 = F284_10 N a0 a1 a2 x9 x10 x11 x12 v) ?_ ?_
              · skip
                refine AW_region ?_
                refine AL_cons (LR_move (at_tmp 1 _) rfl) (sS (sT1 rfl) sB0 sF0) ?_
                refine AL_cons (LR_move (at_tmp 11 _) rfl) (sS (sT1 rfl) sB0 sF0) ?_
                obtain ⟨hg52, hr⟩ := guard_some hr
                refine AL_cons (LR_indexS (i := (x11 : Int)) Hfaa.underlying9 (at_tmp 23 _) (at_tmp 24 _) (dand hg52) rfl) (sS (sA (sT1 rfl) (sT1 rfl)) sB0 sF0) ?_
                refine AL_cons (LR_conv (vx := U8 ((a1.getD ((x11 : Int)).toNat 0).toBitVec)) (at_tmp 25 _) (conv_I32 Hfaa.underlying5 Hfaa.underlying21 (((a1.getD ((x11 : Int)).toNat 0).toBitVec).toNat : Int)) rfl) (sS (sT1 rfl) sB0 sF0) ?_
                obtain ⟨y24, hy24, hr⟩ := lt_some hr
                refine AL_cons (LR_call Hfaa.func285 rfl rfl (C285 (w32 (((a1.getD ((x11 : Int)).toNat 0).toBitVec).toNat : Int)) y24 hy24) (all_cons (at_tmp 26 _) all_nil) rfl) (sS (sA (sT1 rfl) sT0) sB0 sF0) ?_
                refine AL_cons (LR_assign (at_tmp 27 _) rfl) (sS (sT1 rfl) sB0 sF0) ?_
                refine AL_nil ?_
                exact thenN (cutLeaf (v := y24) hr (weak0 ((sT rfl (sT rfl (sT rfl (sT rfl (sT rfl (sT rfl (sT rfl (sT rfl (sT rfl sT0)))))))))) (sub_keep (sub_keep sub_nil))))
              · rintro x17 hr
                show AW Hfaa.prog _ _ _ ⟨[(0, .inl (is (Bl a0))), (1, .inl (is (Sv a1))), (2, .inl (is (I64 a2))), (6, .inr (.inl (6, 0))), (8, .inl (is (I64 x9))), (9, .inl (is (I64 x10))), (10, .inr (.inl (10, 0))), (11, .inl (is (I64 x11))), (12, .inl (is (I64 x17)))], [(6, pb 151 [is (Bl false), is (Sv ([] : List UInt8)), is (I16 0)]), (10, pb 342 (ar U8 2048 x12 ++ []))]⟩
                have hr : some out2 = F284_10 N a0 a1 a2 x9 x10 x11 x12 x17 := hr
                refine AW_seq1 ?_
                refine AW_cut (σ := Bool) (fun v => ⟨[(0, .inl (is (Bl a0))), (1, .inl (is (Sv a1))), (2, .inl (is (I64 a2))), (6, .inr (.inl (6, 0))), (8, .inl (is (I64 x9))), (9, .inl (is (I64 x10))), (10, .inr (.inl (10, 0))), (11, .inl (is (I64 x11))), (12, .inl (is (I64 x17))), (29, .inl (is (Bl v)))], [(6, pb 151 [is (Bl false), is (Sv ([] : List UInt8)), is (I16 0)]), (10, pb 342 (ar U8 2048 x12 ++ []))]⟩) (fun v => some out2 = F284_11 N a0 a1 a2 x9 x10 x11 x12 x17 v) ?_ ?_
                · skip
                  refine AW_region ?_
                  refine AL_cons (LR_move (at_tmp 12 _) rfl) (sS (sT1 rfl) sB0 sF0) ?_
                  refine AL_cons (LR_bin (at_tmp 28 _) (at_c (v' := I64 0) rfl) (lss_I64 x17 0) rfl) (sS (sA (sT1 rfl) sT0) sB0 sF0) ?_
                  refine AL_nil ?_
                  exact thenN (cutLeaf (v := decide (x17 < 0)) hr (weak0 ((sT rfl (sT rfl (sT rfl (sT rfl (sT rfl (sT rfl (sT rfl (sT rfl (sT rfl (sT rfl sT0))))))))))) (sub_keep (sub_keep sub_nil))))
                · rintro x18 hr
                  show AW Hfaa.prog _ _ _ ⟨[(0, .inl (is (Bl a0))), (1, .inl (is (Sv a1))), (2, .inl (is (I64 a2))), (6, .inr (.inl (6, 0))), (8, .inl (is (I64 x9))), (9, .inl (is (I64 x10))), (10, .inr (.inl (10, 0))), (11, .inl (is (I64 x11))), (12, .inl (is (I64 x17))), (29, .inl (is (Bl x18)))], [(6, pb 151 [is (Bl false), is (Sv ([] : List UInt8)), is (I16 0)]), (10, pb 342 (ar U8 2048 x12 ++ []))]⟩
                  have hr : some out2 = F284_11 N a0 a1 a2 x9 x10 x11 x12 x17 x18 := hr
                  refine AW_condT (b := x18) rfl (fun h => ?_) (fun h => ?_)
                  · have hr := hr.trans (cond_t h)
                    clear h
                    refine AW_seq1 ?_
                    refine AW_region ?_
                    refine AL_cons (bl151 parts_nil rfl rfl) (sS sT0 sB0 sF0) ?_
                    refine AL_cons (LR_store (at_tmp 6 _) (at_tmp 30 _) (cells_agg _) (onC (one_is rfl) (onC (one_is rfl) (onC (one_is rfl) onN))) sz151 rfl rfl) (sS (sA (sT1 rfl) (sT1 rfl)) (sB1 rfl) sF0) ?_
                    refine AL_cons (LR_assign (at_c (v' := Bl false) rfl) rfl) (sS sT0 sB0 sF0) ?_
                    refine AL_nil ?_
                    refine thenN ?_
                    refine AW_ret ?_
                    refine thenR ?_
                    refine blR ?_
                    refine thenR ?_
                    obtain ⟨r', hro, hr⟩ := map_inr hr
                    refine thenR (loopOut hro (fun he => ?_))
                    rw [he] at hr
                    refine blR ?_
                    refine thenR ?_
                    obtain rfl := Option.some.inj hr
                    exact res2 rfl (rvC rfl rfl ag151 sz151 rfl) (rvT rfl)
                  · have hr := hr.trans (cond_f h)
                    clear h
                    refine AW_skip ?_
                    refine thenN ?_
                    refine AW_cut (σ := Int × Int) (fun v => ⟨[(0, .inl (is (Bl a0))), (1, .inl (is (Sv a1))), (2, .inl (is (I64 a2))), (6, .inr (.inl (6, 0))), (8, .inl (is (I64 v.1))), (10, .inr (.inl (10, 0))), (11, .inl (is (I64 x11))), (12, .inl (is (I64 x17))), (9, .inl (is (I64 v.2)))], [(6, pb 151 [is (Bl false), is (Sv ([] : List UInt8)), is (I16 0)]), (10, pb 342 (ar U8 2048 x12 ++ []))]⟩) (fun v => some out2 = F284_12 N a0 a1 a2 x11 x12 x17 v.1 v.2) ?_ ?_
                    · skip
                      refine AW_cut (σ := Bool) (fun v => ⟨[(0, .inl (is (Bl a0))), (1, .inl (is (Sv a1))), (2, .inl (is (I64 a2))), (6, .inr (.inl (6, 0))), (8, .inl (is (I64 x9))), (9, .inl (is (I64 x10))), (10, .inr (.inl (10, 0))), (11, .inl (is (I64 x11))), (12, .inl (is (I64 x17))), (32, .inl (is (Bl v)))], [(6, pb 151 [is (Bl false), is (Sv ([] : List UInt8)), is (I16 0)]), (10, pb 342 (ar U8 2048 x12 ++ []))]⟩) (fun v => some out2 = F284_15 N a0 a1 a2 x9 x10 x11 x12 x17 v) ?_ ?_
                      · skip
                        refine AW_region ?_
                        refine AL_cons (LR_move (at_tmp 12 _) rfl) (sS (sT1 rfl) sB0 sF0) ?_
                        refine AL_cons (LR_bin (at_tmp 31 _) (at_c (v' := I64 0) rfl) (gtr_I64 x17 0) rfl) (sS (sA (sT1 rfl) sT0) sB0 sF0) ?_
                        refine AL_nil ?_
                        exact thenN (cutLeaf (v := decide (x17 > 0)) hr (weak0 ((sT rfl (sT rfl (sT rfl (sT rfl (sT rfl (sT rfl (sT rfl (sT rfl (sT rfl (sT rfl sT0))))))))))) (sub_keep (sub_keep sub_nil))))
                      · rintro x23 hr
                        show AW Hfaa.prog _ _ _ ⟨[(0, .inl (is (Bl a0))), (1, .inl (is (Sv a1))), (2, .inl (is (I64 a2))), (6, .inr (.inl (6, 0))), (8, .inl (is (I64 x9))), (9, .inl (is (I64 x10))), (10, .inr (.inl (10, 0))), (11, .inl (is (I64 x11))), (12, .inl (is (I64 x17))), (32, .inl (is (Bl x23)))], [(6, pb 151 [is (Bl false), is (Sv ([] : List UInt8)), is (I16 0)]), (10, pb 342 (ar U8 2048 x12 ++ []))]⟩
                        have hr : some out2 = F284_15 N a0 a1 a2 x9 x10 x11 x12 x17 x23 := hr
                        refine AW_condT (b := x23) rfl (fun h => ?_) (fun h => ?_)
                        · have hr := hr.trans (cond_t h)
                          clear h
                          refine AW_cut (σ := Int) (fun v => ⟨[(0, .inl (is (Bl a0))), (1, .inl (is (Sv a1))), (2, .inl (is (I64 a2))), (6, .inr (.inl (6, 0))), (8, .inl (is (I64 v))), (10, .inr (.inl (10, 0))), (11, .inl (is (I64 x11))), (12, .inl (is (I64 x17)))], [(6, pb 151 [is (Bl false), is (Sv ([] : List UInt8)), is (I16 0)]), (10, pb 342 (ar U8 2048 x12 ++ []))]⟩) (fun v => some out2 = F284_16 N a0 a1 a2 x11 x12 x17 v) ?_ ?_
                          · skip
                            refine AW_region ?_
                            refine AL_cons (LR_move (at_tmp 8 _) rfl) (sS (sT1 rfl) sB0 sF0) ?_
                            refine AL_cons (LR_move (at_tmp 11 _) rfl) (sS (sT1 rfl) sB0 sF0) ?_
                            refine AL_cons (LR_bi2 (vx := I64 x9) (vy := I64 x11) (v := I64 (min x9 x11)) (at_tmp 33 _) (at_tmp 34 _) (fun cs w => min_I .i64 x9 x11 cs w) rfl) (sS (sA (sT1 rfl) (sT1 rfl)) sB0 sF0) ?_
                            refine AL_cons (LR_assign (at_tmp 35 _) rfl) (sS (sT1 rfl) sB0 sF0) ?_
                            refine AL_nil ?_
                            exact thenN (cutLeaf (v := min x9 x11) hr (weak0 ((sT rfl (sT rfl (sT rfl (sT rfl (sT rfl (sT rfl (sT rfl (sT rfl sT0))))))))) (sub_keep (sub_keep sub_nil))))
                          · rintro x24 hr
                            show AW Hfaa.prog _ _ _ ⟨[(0, .inl (is (Bl a0))), (1, .inl (is (Sv a1))), (2, .inl (is (I64 a2))), (6, .inr (.inl (6, 0))), (8, .inl (is (I64 x24))), (10, .inr (.inl (10, 0))), (11, .inl (is (I64 x11))), (12, .inl (is (I64 x17)))], [(6, pb 151 [is (Bl false), is (Sv ([] : List UInt8)), is (I16 0)]), (10, pb 342 (ar U8 2048 x12 ++ []))]⟩
                            have hr : some out2 = F284_16 N a0 a1 a2 x11 x12 x17 x24 := hr
                            refine AW_region ?_
                            refine AL_cons (LR_move (at_tmp 11 _) rfl) (sS (sT1 rfl) sB0 sF0) ?_
                            refine AL_cons (LR_bin (at_tmp 36 _) (at_c (v' := I64 1) rfl) (add_I64 x11 1) rfl) (sS (sA (sT1 rfl) sT0) sB0 sF0) ?_
                            refine AL_cons (LR_assign (at_tmp 37 _) rfl) (sS (sT1 rfl) sB0 sF0) ?_
                            refine AL_nil ?_
                            exact thenN (cutLeaf (v := (x24, w64 (x11 + 1))) hr (weak0 ((sT rfl (sT rfl (sT rfl (sT rfl (sT rfl (sT rfl (sT rfl (sT rfl (sT rfl sT0)))))))))) (sub_keep (sub_keep sub_nil))))
                        · have hr := hr.trans (cond_f h)
                          clear h
                          refine AW_skip ?_
                          exact thenN (cutLeaf (v := (x9, x10)) hr (weak0 ((sT rfl (sT rfl (sT rfl (sT rfl (sT rfl (sT rfl (sT rfl (sT rfl (sT rfl sT0)))))))))) (sub_keep (sub_keep sub_nil))))
                    · rintro ⟨x19, x20⟩ hr
                      show AW Hfaa.prog _ _ _ ⟨[(0, .inl (is (Bl a0))), (1, .inl (is (Sv a1))), (2, .inl (is (I64 a2))), (6, .inr (.inl (6, 0))), (8, .inl (is (I64 x19))), (10, .inr (.inl (10, 0))), (11, .inl (is (I64 x11))), (12, .inl (is (I64 x17))), (9, .inl (is (I64 x20)))], [(6, pb 151 [is (Bl false), is (Sv ([] : List UInt8)), is (I16 0)]), (10, pb 342 (ar U8 2048 x12 ++ []))]⟩
                      have hr : some out2 = F284_12 N a0 a1 a2 x11 x12 x17 x19 x20 := hr
                      refine AW_cut (σ := Int) (fun v => ⟨[(0, .inl (is (Bl a0))), (1, .inl (is (Sv a1))), (2, .inl (is (I64 a2))), (6, .inr (.inl (6, 0))), (8, .inl (is (I64 x19))), (10, .inr (.inl (10, 0))), (11, .inl (is (I64 x11))), (12, .inl (is (I64 x17))), (9, .inl (is (I64 x20))), (13, .inl (is (I64 v)))], [(6, pb 151 [is (Bl false), is (Sv ([] : List UInt8)), is (I16 0)]), (10, pb 342 (ar U8 2048 x12 ++ []))]⟩) (fun v => some out2 = F284_13 N a0 a1 a2 x11 x12 x17 x19 x20 v) ?_ ?_
                      · skip
                        refine AW_region ?_
                        refine AL_cons (LR_move (at_tmp 11 _) rfl) (sS (sT1 rfl) sB0 sF0) ?_
                        refine AL_cons (LR_move (at_tmp 8 _) rfl) (sS (sT1 rfl) sB0 sF0) ?_
                        refine AL_cons (LR_bin (at_tmp 38 _) (at_tmp 39 _) (sub_I64 x11 x19) rfl) (sS (sA (sT1 rfl) (sT1 rfl)) sB0 sF0) ?_
                        refine AL_cons (LR_assign (at_tmp 40 _) rfl) (sS (sT1 rfl) sB0 sF0) ?_
                        refine AL_nil ?_
                        exact thenN (cutLeaf (v := w64 (x11 - x19)) hr (weak0 ((sT rfl (sT rfl (sT rfl (sT rfl (sT rfl (sT rfl (sT rfl (sT rfl (sT rfl (sT rfl sT0))))))))))) (sub_keep (sub_keep sub_nil))))
                      · rintro x21 hr
                        show AW Hfaa.prog _ _ _ ⟨[(0, .inl (is (Bl a0))), (1, .inl (is (Sv a1))), (2, .inl (is (I64 a2))), (6, .inr (.inl (6, 0))), (8, .inl (is (I64 x19))), (10, .inr (.inl (10, 0))), (11, .inl (is (I64 x11))), (12, .inl (is (I64 x17))), (9, .inl (is (I64 x20))), (13, .inl (is (I64 x21)))], [(6, pb 151 [is (Bl false), is (Sv ([] : List UInt8)), is (I16 0)]), (10, pb 342 (ar U8 2048 x12 ++ []))]⟩
                        have hr : some out2 = F284_13 N a0 a1 a2 x11 x12 x17 x19 x20 x21 := hr
                        refine AW_cut (σ := Bool) (fun v => ⟨[(0, .inl (is (Bl a0))), (1, .inl (is (Sv a1))), (2, .inl (is (I64 a2))), (6, .inr (.inl (6, 0))), (8, .inl (is (I64 x19))), (10, .inr (.inl (10, 0))), (11, .inl (is (I64 x11))), (12, .inl (is (I64 x17))), (9, .inl (is (I64 x20))), (13, .inl (is (I64 x21))), (51, .inl (is (Bl v)))], [(6, pb 151 [is (Bl false), is (Sv ([] : List UInt8)), is (I16 0)]), (10, pb 342 (ar U8 2048 x12 ++ []))]⟩) (fun v => some out2 = F284_14 N a0 a1 a2 x11 x12 x17 x19 x20 x21 v) ?_ ?_
                        · skip
                          refine AW_region ?_
                          refine AL_cons (LR_move (at_tmp 12 _) rfl) (sS (sT1 rfl) sB0 sF0) ?_
                          refine AL_cons (LR_bin (at_tmp 41 _) (at_c (v' := I64 0) rfl) (geq_I64 x17 0) rfl) (sS (sA (sT1 rfl) sT0) sB0 sF0) ?_
                          refine AL_cons (LR_move (at_tmp 42 _) rfl) (sS (sT1 rfl) sB0 sF0) ?_
                          refine AL_cutAt 4 ⟨[(0, .inl (is (Bl a0))), (1, .inl (is (Sv a1))), (2, .inl (is (I64 a2))), (6, .inr (.inl (6, 0))), (8, .inl (is (I64 x19))), (10, .inr (.inl (10, 0))), (11, .inl (is (I64 x11))), (12, .inl (is (I64 x17))), (9, .inl (is (I64 x20))), (13, .inl (is (I64 x21))), (41, .inl (is (I64 x17))), (42, .inl (is (Bl (decide (x17 ≥ 0))))), (43, .inl (is (Bl (decide (x17 ≥ 0))))), (47, .inl (is (Bl ((decide (x17 ≥ 0)) && (decide (x19 ≤ x11))))))], [(6, pb 151 [is (Bl false), is (Sv ([] : List UInt8)), is (I16 0)]), (10, pb 342 (ar U8 2048 x12 ++ []))]⟩ ?_ ?_
                          · cases hb : decide (x17 ≥ 0)
                            · skip
                              refine AL_cons (LR_off (b := false) rfl rfl rfl rfl) (sS (sT1 rfl) sB0 sF0) ?_
                              refine AL_cons (LR_off (b := false) rfl rfl rfl rfl) (sS (sT1 rfl) sB0 sF0) ?_
                              refine AL_cons (LR_off (b := false) rfl rfl rfl rfl) (sS (sT1 rfl) sB0 sF0) ?_
                              refine AL_cons (LR_pick (b := false) (at_tmp 43 _) (at_tmp 46 _) (at_c (v' := Bl false) rfl) rfl) (sS (sA (sT1 rfl) (sA (sT1 rfl) sT0)) sB0 sF0) ?_
                              exact AL_nil ⟨rfl, weak0 ((sT rfl (sT rfl (sT rfl (sT rfl (sT rfl (sT rfl (sT rfl (sT rfl (sT rfl (sT rfl (sT rfl (sT rfl (sT rfl (sT rfl sT0))))))))))))))) (sub_keep (sub_keep sub_nil))⟩
                            · skip
                              refine AL_cons (LR_on rfl rfl rfl (LR_move (at_tmp 8 _) rfl)) (sS (sT rfl (sT1 rfl)) sB0 sF0) ?_
                              refine AL_cons (LR_on rfl rfl rfl (LR_move (at_tmp 11 _) rfl)) (sS (sT rfl (sT1 rfl)) sB0 sF0) ?_
                              refine AL_cons (LR_on rfl rfl rfl (LR_bin (at_tmp 44 _) (at_tmp 45 _) (leq_I64 x19 x11) rfl)) (sS (sT rfl (sA (sT1 rfl) (sT1 rfl))) sB0 sF0) ?_
                              refine AL_cons (LR_pick (b := true) (at_tmp 43 _) (at_tmp 46 _) (at_c (v' := Bl false) rfl) rfl) (sS (sA (sT1 rfl) (sA (sT1 rfl) sT0)) sB0 sF0) ?_
                              exact AL_nil ⟨rfl, weak0 ((sT rfl (sT rfl (sT rfl (sT rfl (sT rfl (sT rfl (sT rfl (sT rfl (sT rfl (sT rfl (sT rfl (sT rfl (sT rfl (sT rfl sT0))))))))))))))) (sub_keep (sub_keep sub_nil))⟩
                          refine AL_cons (LR_move (at_tmp 47 _) rfl) (sS (sT1 rfl) sB0 sF0) ?_
                          refine AL_cutAt 3 ⟨[(0, .inl (is (Bl a0))), (1, .inl (is (Sv a1))), (2, .inl (is (I64 a2))), (6, .inr (.inl (6, 0))), (8, .inl (is (I64 x19))), (10, .inr (.inl (10, 0))), (11, .inl (is (I64 x11))), (12, .inl (is (I64 x17))), (9, .inl (is (I64 x20))), (13, .inl (is (I64 x21))), (41, .inl (is (I64 x17))), (42, .inl (is (Bl (decide (x17 ≥ 0))))), (43, .inl (is (Bl (decide (x17 ≥ 0))))), (47, .inl (is (Bl ((decide (x17 ≥ 0)) && (decide (x19 ≤ x11)))))), (48, .inl (is (Bl ((decide (x17 ≥ 0)) && (decide (x19 ≤ x11)))))), (51, .inl (is (Bl (((decide (x17 ≥ 0)) && (decide (x19 ≤ x11))) && (decide (x21 < 2048))))))], [(6, pb 151 [is (Bl false), is (Sv ([] : List UInt8)), is (I16 0)]), (10, pb 342 (ar U8 2048 x12 ++ []))]⟩ ?_ ?_
                          · cases hb : (decide (x17 ≥ 0)) && (decide (x19 ≤ x11))
                            · skip
                              refine AL_cons (LR_off (b := false) rfl rfl rfl rfl) (sS (sT1 rfl) sB0 sF0) ?_
                              refine AL_cons (LR_off (b := false) rfl rfl rfl rfl) (sS (sT1 rfl) sB0 sF0) ?_
                              refine AL_cons (LR_pick (b := false) (at_tmp 48 _) (at_tmp 50 _) (at_c (v' := Bl false) rfl) rfl) (sS (sA (sT1 rfl) (sA (sT1 rfl) sT0)) sB0 sF0) ?_
                              exact AL_nil ⟨rfl, weak0 ((sT rfl (sT rfl (sT rfl (sT rfl (sT rfl (sT rfl (sT rfl (sT rfl (sT rfl (sT rfl (sT rfl (sT rfl (sT rfl (sT rfl (sT rfl (sT rfl sT0))))))))))))))))) (sub_keep (sub_keep sub_nil))⟩
                            · skip
                              refine AL_cons (LR_on rfl rfl rfl (LR_move (at_tmp 13 _) rfl)) (sS (sT rfl (sT1 rfl)) sB0 sF0) ?_
                              refine AL_cons (LR_on rfl rfl rfl (LR_bin (at_tmp 49 _) (at_c (v' := I64 2048) rfl) (lss_I64 x21 2048) rfl)) (sS (sT rfl (sA (sT1 rfl) sT0)) sB0 sF0) ?_
                              refine AL_cons (LR_pick (b := true) (at_tmp 48 _) (at_tmp 50 _) (at_c (v' := Bl false) rfl) rfl) (sS (sA (sT1 rfl) (sA (sT1 rfl) sT0)) sB0 sF0) ?_
                              exact AL_nil ⟨rfl, weak0 ((sT rfl (sT rfl (sT rfl (sT rfl (sT rfl (sT rfl (sT rfl (sT rfl (sT rfl (sT rfl (sT rfl (sT rfl (sT rfl (sT rfl (sT rfl (sT rfl sT0))))))))))))))))) (sub_keep (sub_keep sub_nil))⟩
                          refine AL_nil ?_
                          exact thenN (cutLeaf (v := ((decide (x17 ≥ 0)) && (decide (x19 ≤ x11))) && (decide (x21 < 2048))) hr (weak0 ((sT rfl (sT rfl (sT rfl (sT rfl (sT rfl (sT rfl (sT rfl (sT rfl (sT rfl (sT rfl (sT rfl sT0)))))))))))) (sub_keep (sub_keep sub_nil))))
                        · rintro x22 hr
                          show AW Hfaa.prog _ _ _ ⟨[(0, .inl (is (Bl a0))), (1, .inl (is (Sv a1))), (2, .inl (is (I64 a2))), (6, .inr (.inl (6, 0))), (8, .inl (is (I64 x19))), (10, .inr (.inl (10, 0))), (11, .inl (is (I64 x11))), (12, .inl (is (I64 x17))), (9, .inl (is (I64 x20))), (13, .inl (is (I64 x21))), (51, .inl (is (Bl x22)))], [(6, pb 151 [is (Bl false), is (Sv ([] : List UInt8)), is (I16 0)]), (10, pb 342 (ar U8 2048 x12 ++ []))]⟩
                          have hr : some out2 = F284_14 N a0 a1 a2 x11 x12 x17 x19 x20 x21 x22 := hr
                          refine AW_condT (b := x22) rfl (fun h => ?_) (fun h => ?_)
                          · have hr := hr.trans (cond_t h)
                            clear h
                            refine AW_region ?_
                            refine AL_cons (LR_move (at_tmp 13 _) rfl) (sS (sT1 rfl) sB0 sF0) ?_
                            refine AL_cons (LR_move (at_tmp 12 _) rfl) (sS (sT1 rfl) sB0 sF0) ?_
                            obtain ⟨hg50, hr⟩ := guard_some hr
                            refine AL_cons (LR_indexS (i := (x17 : Int)) Hfaa.underlying9 (at_c (v' := Sv str1) rfl) (at_tmp 53 _) (dand hg50) rfl) (sS (sA sT0 (sT1 rfl)) sB0 sF0) ?_
                            obtain ⟨hg51, hr⟩ := guard_some hr
                            refine AL_cons (LR_indexAddr (o := x21.toNat) Hfaa.underlying342 sz5 (at_tmp 10 _) (at_tmp 52 _) (dand hg51) (by first | rfl | omega) rfl) (sS (sA (sT1 rfl) (sT1 rfl)) sB0 sF0) ?_
                            refine AL_cons (LR_storeA (at_tmp 55 _) (at_tmp 54 _) (cells_one (one_is rfl)) (onC (one_is rfl) onN) sz5 rfl (ble_dyn (lnA ln0) (by have := (ltn (dand hg51)); omega)) (stA (ltn (dand hg51)))) (sS (sA (sT1 rfl) (sT1 rfl)) (sB1 rfl) sF0) ?_
                            refine AL_nil ?_
                            refine blN ?_
                            exact thenN (cutLeaf (v := (x19, x20, upd x12 x21.toNat ((str1.getD ((x17 : Int)).toNat 0).toBitVec))) hr (weak0 ((sT rfl (sT rfl (sT rfl (sT rfl (sT rfl (sT rfl (sT rfl (sT rfl sT0))))))))) (sub_keep (sub_keep sub_nil))))
                          · have hr := hr.trans (cond_f h)
                            clear h
                            refine AW_skip ?_
                            refine blN ?_
                            exact thenN (cutLeaf (v := (x19, x20, x12)) hr (weak0 ((sT rfl (sT rfl (sT rfl (sT rfl (sT rfl (sT rfl (sT rfl (sT rfl sT0))))))))) (sub_keep (sub_keep sub_nil))))
            · rintro ⟨x14, x15, x16⟩ hr
              show AW Hfaa.prog _ _ _ ⟨[(0, .inl (is (Bl a0))), (1, .inl (is (Sv a1))), (2, .inl (is (I64 a2))), (6, .inr (.inl (6, 0))), (8, .inl (is (I64 x14))), (10, .inr (.inl (10, 0))), (11, .inl (is (I64 x11))), (9, .inl (is (I64 x15)))], [(6, pb 151 [is (Bl false), is (Sv ([] : List UInt8)), is (I16 0)]), (10, pb 342 (ar U8 2048 x16 ++ []))]⟩
              have hr : some out2 = F284_9 N a0 a1 a2 x11 x14 x15 x16 := hr
              refine AW_region ?_
              refine AL_cons (LR_move (at_tmp 11 _) rfl) (sS (sT1 rfl) sB0 sF0) ?_
              refine AL_cons (LR_bin (at_tmp 21 _) (at_c (v' := I64 1) rfl) (add_I64 x11 1) rfl) (sS (sA (sT1 rfl) sT0) sB0 sF0) ?_
              refine AL_cons (LR_assign (at_tmp 22 _) rfl) (sS (sT1 rfl) sB0 sF0) ?_
              refine AL_nil ?_
              exact thenN (loopNext (x' := (x14, x15, w64 (x11 + 1), x16)) hr (weak0 ((sT rfl (sT rfl (sT rfl (sT rfl (sT rfl (sT rfl (sT rfl (sT rfl sT0))))))))) (sub_keep (sub_keep sub_nil))))
          · have hr := hr.trans (cond_f h)
            clear h
            refine AW_exit ?_
            refine thenX ?_
            obtain ⟨r', hro, hr⟩ := map_inr hr
            refine thenX (loopOut hro (fun he => ?_))
            rw [he] at hr
            refine blH ?_
            exact thenN (cutLeaf (v := (x9, x10, x12)) hr (weak0 ((sT rfl (sT rfl (sT rfl (sT rfl (sT rfl (sT rfl (sT rfl sT0)))))))) (sub_keep (sub_keep sub_nil))))
      · rintro ⟨x3, x4, x5⟩ hr
        show AW Hfaa.prog _ _ _ ⟨[(0, .inl (is (Bl a0))), (1, .inl (is (Sv a1))), (2, .inl (is (I64 a2))), (6, .inr (.inl (6, 0))), (8, .inl (is (I64 x3))), (9, .inl (is (I64 x4))), (10, .inr (.inl (10, 0)))], [(6, pb 151 [is (Bl false), is (Sv ([] : List UInt8)), is (I16 0)]), (10, pb 342 (ar U8 2048 x5 ++ []))]⟩
        have hr : some r = F284_3 N a0 a1 a2 x3 x4 x5 := hr
        refine AW_seq1 ?_
        refine AW_cut (σ := Bool) (fun v => ⟨[(0, .inl (is (Bl a0))), (1, .inl (is (Sv a1))), (2, .inl (is (I64 a2))), (6, .inr (.inl (6, 0))), (8, .inl (is (I64 x3))), (9, .inl (is (I64 x4))), (10, .inr (.inl (10, 0))), (57, .inl (is (Bl v)))], [(6, pb 151 [is (Bl false), is (Sv ([] : List UInt8)), is (I16 0)]), (10, pb 342 (ar U8 2048 x5 ++ []))]⟩) (fun v => some r = F284_4 N a0 a1 a2 x3 x4 x5 v) ?_ ?_
        · skip
          refine AW_region ?_
          refine AL_cons (LR_move (at_tmp 9 _) rfl) (sS (sT1 rfl) sB0 sF0) ?_
          refine AL_cons (LR_bin (at_tmp 56 _) (at_c (v' := I64 0) rfl) (eql_I64 x4 0) rfl) (sS (sA (sT1 rfl) sT0) sB0 sF0) ?_
          refine AL_nil ?_
          exact thenN (cutLeaf (v := x4 == 0) hr (weak0 ((sT rfl (sT rfl (sT rfl (sT rfl (sT rfl (sT rfl (sT rfl (sT rfl sT0))))))))) (sub_keep (sub_keep sub_nil))))
        · rintro x6 hr
          show AW Hfaa.prog _ _ _ ⟨[(0, .inl (is (Bl a0))), (1, .inl (is (Sv a1))), (2, .inl (is (I64 a2))), (6, .inr (.inl (6, 0))), (8, .inl (is (I64 x3))), (9, .inl (is (I64 x4))), (10, .inr (.inl (10, 0))), (57, .inl (is (Bl x6)))], [(6, pb 151 [is (Bl false), is (Sv ([] : List UInt8)), is (I16 0)]), (10, pb 342 (ar U8 2048 x5 ++ []))]⟩
          have hr : some r = F284_4 N a0 a1 a2 x3 x4 x5 x6 := hr
          refine AW_condT (b := x6) rfl (fun h => ?_) (fun h => ?_)
          · have hr := hr.trans (cond_t h)
            clear h
            refine AW_seq1 ?_
            refine AW_region ?_
            refine AL_cons (LR_move (at_tmp 0 _) rfl) (sS (sT1 rfl) sB0 sF0) ?_
            refine AL_cons (bl151 (parts_cons (i := 0) (off := 0) (at_tmp 58 _) (cells_one (one_is rfl)) rfl rfl parts_nil) rfl rfl) (sS (sA (sT1 rfl) sT0) sB0 sF0) ?_
            refine AL_cons (LR_store (at_tmp 6 _) (at_tmp 59 _) (cells_agg _) (onC (one_is rfl) (onC (one_is rfl) (onC (one_is rfl) onN))) sz151 rfl rfl) (sS (sA (sT1 rfl) (sT1 rfl)) (sB1 rfl) sF0) ?_
            refine AL_cons (LR_assign (at_c (v' := Bl true) rfl) rfl) (sS sT0 sB0 sF0) ?_
            refine AL_nil ?_
            refine thenN ?_
            refine AW_ret ?_
            refine thenR ?_
            obtain rfl := Option.some.inj hr
            exact res2 rfl (rvC rfl rfl ag151 sz151 rfl) (rvT rfl)
          · have hr := hr.trans (cond_f h)
            clear h
            refine AW_skip ?_
            refine thenN ?_
            refine AW_cut (σ := Int) (fun v => ⟨[(0, .inl (is (Bl a0))), (2, .inl (is (I64 a2))), (6, .inr (.inl (6, 0))), (8, .inl (is (I64 x3))), (9, .inl (is (I64 x4))), (10, .inr (.inl (10, 0))), (14, .inl (is (I64 v)))], [(6, pb 151 [is (Bl false), is (Sv ([] : List UInt8)), is (I16 0)]), (10, pb 342 (ar U8 2048 x5 ++ []))]⟩) (fun v => some r = F284_5 N a0 a2 x3 x4 x5 v) ?_ ?_
            · skip
              refine AW_region ?_
              refine AL_cons (LR_move (at_tmp 1 _) rfl) (sS (sT1 rfl) sB0 sF0) ?_
              refine AL_cons (LR_bi1 (at_tmp 60 _) (len_S Hfaa.underlying9 a1) rfl) (sS (sT1 rfl) sB0 sF0) ?_
              refine AL_cons (LR_move (at_tmp 9 _) rfl) (sS (sT1 rfl) sB0 sF0) ?_
              refine AL_cons (LR_bin (at_tmp 61 _) (at_tmp 62 _) (sub_I64 (a1.length : Int) x4) rfl) (sS (sA (sT1 rfl) (sT1 rfl)) sB0 sF0) ?_
              refine AL_cons (LR_bin (at_c (v' := I64 4) rfl) (at_tmp 63 _) (mul_I64 4 (w64 ((a1.length : Int) - x4))) rfl) (sS (sA sT0 (sT1 rfl)) sB0 sF0) ?_
              refine AL_cons (LR_assign (at_tmp 64 _) rfl) (sS (sT1 rfl) sB0 sF0) ?_
              refine AL_nil ?_
              exact thenN (cutLeaf (v := w64 (4 * (w64 ((a1.length : Int) - x4)))) hr (weak0 ((sT rfl (sT rfl (sT rfl (sT rfl (sT rfl (sT rfl (sT rfl sT0)))))))) (sub_keep (sub_keep sub_nil))))
            · rintro x7 hr
              show AW Hfaa.prog _ _ _ ⟨[(0, .inl (is (Bl a0))), (2, .inl (is (I64 a2))), (6, .inr (.inl (6, 0))), (8, .inl (is (I64 x3))), (9, .inl (is (I64 x4))), (10, .inr (.inl (10, 0))), (14, .inl (is (I64 x7)))], [(6, pb 151 [is (Bl false), is (Sv ([] : List UInt8)), is (I16 0)]), (10, pb 342 (ar U8 2048 x5 ++ []))]⟩
              have hr : some r = F284_5 N a0 a2 x3 x4 x5 x7 := hr
              refine AW_seq1 ?_
              refine AW_cut (σ := Bool) (fun v => ⟨[(0, .inl (is (Bl a0))), (2, .inl (is (I64 a2))), (6, .inr (.inl (6, 0))), (8, .inl (is (I64 x3))), (9, .inl (is (I64 x4))), (10, .inr (.inl (10, 0))), (14, .inl (is (I64 x7))), (84, .inl (is (Bl v)))], [(6, pb 151 [is (Bl false), is (Sv ([] : List UInt8)), is (I16 0)]), (10, pb 342 (ar U8 2048 x5 ++ []))]⟩) (fun v => some r = F284_6 N a0 a2 x3 x4 x5 x7 v) ?_ ?_
              · skip
                refine AW_region ?_
                refine AL_cons (LR_move (at_tmp 9 _) rfl) (sS (sT1 rfl) sB0 sF0) ?_
                refine AL_cons (LR_move (at_tmp 8 _) rfl) (sS (sT1 rfl) sB0 sF0) ?_
                refine AL_cons (LR_bin (at_tmp 65 _) (at_tmp 66 _) (sub_I64 x4 x3) rfl) (sS (sA (sT1 rfl) (sT1 rfl)) sB0 sF0) ?_
                refine AL_cons (LR_bin (at_tmp 67 _) (at_c (v' := I64 800) rfl) (gtr_I64 (w64 (x4 - x3)) 800) rfl) (sS (sA (sT1 rfl) sT0) sB0 sF0) ?_
                refine AL_cons (LR_move (at_tmp 68 _) rfl) (sS (sT1 rfl) sB0 sF0) ?_
                refine AL_cutAt 3 ⟨[(0, .inl (is (Bl a0))), (2, .inl (is (I64 a2))), (6, .inr (.inl (6, 0))), (8, .inl (is (I64 x3))), (9, .inl (is (I64 x4))), (10, .inr (.inl (10, 0))), (14, .inl (is (I64 x7))), (65, .inl (is (I64 x4))), (66, .inl (is (I64 x3))), (67, .inl (is (I64 (w64 (x4 - x3))))), (68, .inl (is (Bl (decide ((w64 (x4 - x3)) > 800))))), (69, .inl (is (Bl (decide ((w64 (x4 - x3)) > 800))))), (72, .inl (is (Bl ((decide ((w64 (x4 - x3)) > 800)) || (decide (a2 > 16000))))))], [(6, pb 151 [is (Bl false), is (Sv ([] : List UInt8)), is (I16 0)]), (10, pb 342 (ar U8 2048 x5 ++ []))]⟩ ?_ ?_
                · cases hb : decide ((w64 (x4 - x3)) > 800)
                  · skip
                    refine AL_cons (LR_on rfl rfl rfl (LR_move (at_tmp 2 _) rfl)) (sS (sT rfl (sT1 rfl)) sB0 sF0) ?_
                    refine AL_cons (LR_on rfl rfl rfl (LR_bin (at_tmp 70 _) (at_c (v' := I64 16000) rfl) (gtr_I64 a2 16000) rfl)) (sS (sT rfl (sA (sT1 rfl) sT0)) sB0 sF0) ?_
                    refine AL_cons (LR_pick (b := false) (at_tmp 69 _) (at_c (v' := Bl true) rfl) (at_tmp 71 _) rfl) (sS (sA (sT1 rfl) (sA sT0 (sT1 rfl))) sB0 sF0) ?_
                    exact AL_nil ⟨rfl, weak0 ((sT rfl (sT rfl (sT rfl (sT rfl (sT rfl (sT rfl (sT rfl (sT rfl (sT rfl (sT rfl (sT rfl (sT rfl (sT rfl sT0)))))))))))))) (sub_keep (sub_keep sub_nil))⟩
                  · skip
                    refine AL_cons (LR_off (b := true) rfl rfl rfl rfl) (sS (sT1 rfl) sB0 sF0) ?_
                    refine AL_cons (LR_off (b := true) rfl rfl rfl rfl) (sS (sT1 rfl) sB0 sF0) ?_
                    refine AL_cons (LR_pick (b := true) (at_tmp 69 _) (at_c (v' := Bl true) rfl) (at_tmp 71 _) rfl) (sS (sA (sT1 rfl) (sA sT0 (sT1 rfl))) sB0 sF0) ?_
                    exact AL_nil ⟨rfl, weak0 ((sT rfl (sT rfl (sT rfl (sT rfl (sT rfl (sT rfl (sT rfl (sT rfl (sT rfl (sT rfl (sT rfl (sT rfl (sT rfl sT0)))))))))))))) (sub_keep (sub_keep sub_nil))⟩
                refine AL_cons (LR_move (at_tmp 72 _) rfl) (sS (sT1 rfl) sB0 sF0) ?_
                refine AL_cutAt 5 ⟨[(0, .inl (is (Bl a0))), (2, .inl (is (I64 a2))), (6, .inr (.inl (6, 0))), (8, .inl (is (I64 x3))), (9, .inl (is (I64 x4))), (10, .inr (.inl (10, 0))), (14, .inl (is (I64 x7))), (65, .inl (is (I64 x4))), (66, .inl (is (I64 x3))), (67, .inl (is (I64 (w64 (x4 - x3))))), (68, .inl (is (Bl (decide ((w64 (x4 - x3)) > 800))))), (69, .inl (is (Bl (decide ((w64 (x4 - x3)) > 800))))), (72, .inl (is (Bl ((decide ((w64 (x4 - x3)) > 800)) || (decide (a2 > 16000)))))), (73, .inl (is (Bl ((decide ((w64 (x4 - x3)) > 800)) || (decide (a2 > 16000)))))), (78, .inl (is (Bl (((decide ((w64 (x4 - x3)) > 800)) || (decide (a2 > 16000))) || (decide ((w64 (a2 + x7)) > 16000))))))], [(6, pb 151 [is (Bl false), is (Sv ([] : List UInt8)), is (I16 0)]), (10, pb 342 (ar U8 2048 x5 ++ []))]⟩ ?_ ?_
                · cases hb : (decide ((w64 (x4 - x3)) > 800)) || (decide (a2 > 16000))
                  · skip
                    refine AL_cons (LR_on rfl rfl rfl (LR_move (at_tmp 2 _) rfl)) (sS (sT rfl (sT1 rfl)) sB0 sF0) ?_
                    refine AL_cons (LR_on rfl rfl rfl (LR_move (at_tmp 14 _) rfl)) (sS (sT rfl (sT1 rfl)) sB0 sF0) ?_
                    refine AL_cons (LR_on rfl rfl rfl (LR_bin (at_tmp 74 _) (at_tmp 75 _) (add_I64 a2 x7) rfl)) (sS (sT rfl (sA (sT1 rfl) (sT1 rfl))) sB0 sF0) ?_
                    refine AL_cons (LR_on rfl rfl rfl (LR_bin (at_tmp 76 _) (at_c (v' := I64 16000) rfl) (gtr_I64 (w64 (a2 + x7)) 16000) rfl)) (sS (sT rfl (sA (sT1 rfl) sT0)) sB0 sF0) ?_
                    refine AL_cons (LR_pick (b := false) (at_tmp 73 _) (at_c (v' := Bl true) rfl) (at_tmp 77 _) rfl) (sS (sA (sT1 rfl) (sA sT0 (sT1 rfl))) sB0 sF0) ?_
                    exact AL_nil ⟨rfl, weak0 ((sT rfl (sT rfl (sT rfl (sT rfl (sT rfl (sT rfl (sT rfl (sT rfl (sT rfl (sT rfl (sT rfl (sT rfl (sT rfl (sT rfl (sT rfl sT0)))))))))))))))) (sub_keep (sub_keep sub_nil))⟩
                  · skip
                    refine AL_cons (LR_off (b := true) rfl rfl rfl rfl) (sS (sT1 rfl) sB0 sF0) ?_
                    refine AL_cons (LR_off (b := true) rfl rfl rfl rfl) (sS (sT1 rfl) sB0 sF0) ?_
                    refine AL_cons (LR_off (b := true) rfl rfl rfl rfl) (sS (sT1 rfl) sB0 sF0) ?_
                    refine AL_cons (LR_off (b := true) rfl rfl rfl rfl) (sS (sT1 rfl) sB0 sF0) ?_
                    refine AL_cons (LR_pick (b := true) (at_tmp 73 _) (at_c (v' := Bl true) rfl) (at_tmp 77 _) rfl) (sS (sA (sT1 rfl) (sA sT0 (sT1 rfl))) sB0 sF0) ?_
                    exact AL_nil ⟨rfl, weak0 ((sT rfl (sT rfl (sT rfl (sT rfl (sT rfl (sT rfl (sT rfl (sT rfl (sT rfl (sT rfl (sT rfl (sT rfl (sT rfl (sT rfl (sT rfl sT0)))))))))))))))) (sub_keep (sub_keep sub_nil))⟩
                refine AL_cons (LR_move (at_tmp 78 _) rfl) (sS (sT1 rfl) sB0 sF0) ?_
                refine AL_cutAt 5 ⟨[(0, .inl (is (Bl a0))), (2, .inl (is (I64 a2))), (6, .inr (.inl (6, 0))), (8, .inl (is (I64 x3))), (9, .inl (is (I64 x4))), (10, .inr (.inl (10, 0))), (14, .inl (is (I64 x7))), (65, .inl (is (I64 x4))), (66, .inl (is (I64 x3))), (67, .inl (is (I64 (w64 (x4 - x3))))), (68, .inl (is (Bl (decide ((w64 (x4 - x3)) > 800))))), (69, .inl (is (Bl (decide ((w64 (x4 - x3)) > 800))))), (72, .inl (is (Bl ((decide ((w64 (x4 - x3)) > 800)) || (decide (a2 > 16000)))))), (73, .inl (is (Bl ((decide ((w64 (x4 - x3)) > 800)) || (decide (a2 > 16000)))))), (78, .inl (is (Bl (((decide ((w64 (x4 - x3)) > 800)) || (decide (a2 > 16000))) || (decide ((w64 (a2 + x7)) > 16000)))))), (79, .inl (is (Bl (((decide ((w64 (x4 - x3)) > 800)) || (decide (a2 > 16000))) || (decide ((w64 (a2 + x7)) > 16000)))))), (84, .inl (is (Bl ((((decide ((w64 (x4 - x3)) > 800)) || (decide (a2 > 16000))) || (decide ((w64 (a2 + x7)) > 16000))) || (decide ((w64 (a2 + x7)) < (-16000)))))))], [(6, pb 151 [is (Bl false), is (Sv ([] : List UInt8)), is (I16 0)]), (10, pb 342 (ar U8 2048 x5 ++ []))]⟩ ?_ ?_
                · cases hb : ((decide ((w64 (x4 - x3)) > 800)) || (decide (a2 > 16000))) || (decide ((w64 (a2 + x7)) > 16000))
                  · skip
                    refine AL_cons (LR_on rfl rfl rfl (LR_move (at_tmp 2 _) rfl)) (sS (sT rfl (sT1 rfl)) sB0 sF0) ?_
                    refine AL_cons (LR_on rfl rfl rfl (LR_move (at_tmp 14 _) rfl)) (sS (sT rfl (sT1 rfl)) sB0 sF0) ?_
                    refine AL_cons (LR_on rfl rfl rfl (LR_bin (at_tmp 80 _) (at_tmp 81 _) (add_I64 a2 x7) rfl)) (sS (sT rfl (sA (sT1 rfl) (sT1 rfl))) sB0 sF0) ?_
                    refine AL_cons (LR_on rfl rfl rfl (LR_bin (at_tmp 82 _) (at_c (v' := I64 (-16000)) rfl) (lss_I64 (w64 (a2 + x7)) (-16000)) rfl)) (sS (sT rfl (sA (sT1 rfl) sT0)) sB0 sF0) ?_
                    refine AL_cons (LR_pick (b := false) (at_tmp 79 _) (at_c (v' := Bl true) rfl) (at_tmp 83 _) rfl) (sS (sA (sT1 rfl) (sA sT0 (sT1 rfl))) sB0 sF0) ?_
                    exact AL_nil ⟨rfl, weak0 ((sT rfl (sT rfl (sT rfl (sT rfl (sT rfl (sT rfl (sT rfl (sT rfl (sT rfl (sT rfl (sT rfl (sT rfl (sT rfl (sT rfl (sT rfl (sT rfl (sT rfl sT0)))))))))))))))))) (sub_keep (sub_keep sub_nil))⟩
                  · skip
                    refine AL_cons (LR_off (b := true) rfl rfl rfl rfl) (sS (sT1 rfl) sB0 sF0) ?_
                    refine AL_cons (LR_off (b := true) rfl rfl rfl rfl) (sS (sT1 rfl) sB0 sF0) ?_
                    refine AL_cons (LR_off (b := true) rfl rfl rfl rfl) (sS (sT1 rfl) sB0 sF0) ?_
                    refine AL_cons (LR_off (b := true) rfl rfl rfl rfl) (sS (sT1 rfl) sB0 sF0) ?_
                    refine AL_cons (LR_pick (b := true) (at_tmp 79 _) (at_c (v' := Bl true) rfl) (at_tmp 83 _) rfl) (sS (sA (sT1 rfl) (sA sT0 (sT1 rfl))) sB0 sF0) ?_
                    exact AL_nil ⟨rfl, weak0 ((sT rfl (sT rfl (sT rfl (sT rfl (sT rfl (sT rfl (sT rfl (sT rfl (sT rfl (sT rfl (sT rfl (sT rfl (sT rfl (sT rfl (sT rfl (sT rfl (sT rfl sT0)))))))))))))))))) (sub_keep (sub_keep sub_nil))⟩
                refine AL_nil ?_
                exact thenN (cutLeaf (v := (((decide ((w64 (x4 - x3)) > 800)) || (decide (a2 > 16000))) || (decide ((w64 (a2 + x7)) > 16000))) || (decide ((w64 (a2 + x7)) < (-16000)))) hr (weak0 ((sT rfl (sT rfl (sT rfl (sT rfl (sT rfl (sT rfl (sT rfl (sT rfl sT0))))))))) (sub_keep (sub_keep sub_nil))))
              · rintro x8 hr
                show AW Hfaa.prog _ _ _ ⟨[(0, .inl (is (Bl a0))), (2, .inl (is (I64 a2))), (6, .inr (.inl (6, 0))), (8, .inl (is (I64 x3))), (9, .inl (is (I64 x4))), (10, .inr (.inl (10, 0))), (14, .inl (is (I64 x7))), (84, .inl (is (Bl x8)))], [(6, pb 151 [is (Bl false), is (Sv ([] : List UInt8)), is (I16 0)]), (10, pb 342 (ar U8 2048 x5 ++ []))]⟩
                have hr : some r = F284_6 N a0 a2 x3 x4 x5 x7 x8 := hr
                refine AW_condT (b := x8) rfl (fun h => ?_) (fun h => ?_)
                · have hr := hr.trans (cond_t h)
                  clear h
                  refine AW_seq1 ?_
                  refine AW_region ?_
                  refine AL_cons (bl151 parts_nil rfl rfl) (sS sT0 sB0 sF0) ?_
                  refine AL_cons (LR_store (at_tmp 6 _) (at_tmp 85 _) (cells_agg _) (onC (one_is rfl) (onC (one_is rfl) (onC (one_is rfl) onN))) sz151 rfl rfl) (sS (sA (sT1 rfl) (sT1 rfl)) (sB1 rfl) sF0) ?_
                  refine AL_cons (LR_assign (at_c (v' := Bl false) rfl) rfl) (sS sT0 sB0 sF0) ?_
                  refine AL_nil ?_
                  refine thenN ?_
                  refine AW_ret ?_
                  refine thenR ?_
                  obtain rfl := Option.some.inj hr
                  exact res2 rfl (rvC rfl rfl ag151 sz151 rfl) (rvT rfl)
                · have hr := hr.trans (cond_f h)
                  clear h
                  refine AW_skip ?_
                  refine thenN ?_
                  refine AW_seq1 ?_
                  refine AW_region ?_
                  refine AL_cons (LR_move (at_tmp 0 _) rfl) (sS (sT1 rfl) sB0 sF0) ?_
                  refine AL_cons (LR_move (at_tmp 9 _) rfl) (sS (sT1 rfl) sB0 sF0) ?_
                  refine AL_cons (LR_move (at_tmp 8 _) rfl) (sS (sT1 rfl) sB0 sF0) ?_
                  refine AL_cons (LR_bin (at_tmp 87 _) (at_tmp 88 _) (sub_I64 x4 x3) rfl) (sS (sA (sT1 rfl) (sT1 rfl)) sB0 sF0) ?_
                  obtain ⟨hg27, hr⟩ := guard_some hr
                  refine AL_cons (slcE (o' := 0) (l' := ((w64 (x4 - x3) : Int).toNat)) (c' := 2048) (LR_sliceA (i := (0 : Int)) (j := (w64 (x4 - x3) : Int)) Hfaa.underlying342 sz5 (at_tmp 10 _) lo_none (hi_some (at_tmp 89 _)) (dand3 hg27) (by decide) rfl) (by first | rfl | (simp; done) | (simp <;> omega))) (sS (sA (sT1 rfl) (sA sT0 (sT1 rfl))) sB0 sF0) ?_
                  obtain ⟨hg28, hr⟩ := guard_some hr
                  refine AL_cons (LR_convT (f := x5) Hfaa.underlying227 Hfaa.underlying5 Hfaa.underlying9 (at_tmp 90 _) (fun i hi => (zadd _).symm ▸ gA (Nat.lt_of_lt_of_le hi (of_decide_eq_true hg28))) rfl) (sS (sT1 rfl) (sB1 rfl) sF0) ?_
                  refine AL_cons (LR_move (at_tmp 2 _) rfl) (sS (sT1 rfl) sB0 sF0) ?_
                  refine AL_cons (LR_move (at_tmp 14 _) rfl) (sS (sT1 rfl) sB0 sF0) ?_
                  refine AL_cons (LR_bin (at_tmp 92 _) (at_tmp 93 _) (add_I64 a2 x7) rfl) (sS (sA (sT1 rfl) (sT1 rfl)) sB0 sF0) ?_
                  refine AL_cons (LR_conv (vx := I64 (w64 (a2 + x7))) (at_tmp 94 _) (conv_I16 Hfaa.underlying3 Hfaa.underlying44 (w64 (a2 + x7))) rfl) (sS (sT1 rfl) sB0 sF0) ?_
                  refine AL_cons (bl151 (parts_cons (i := 0) (off := 0) (at_tmp 86 _) (cells_one (one_is rfl)) rfl rfl (parts_cons (i := 1) (off := 1) (at_tmp 91 _) (cells_one (one_is rfl)) rfl rfl (parts_cons (i := 2) (off := 2) (at_tmp 95 _) (cells_one (one_is rfl)) rfl rfl parts_nil))) rfl rfl) (sS (sA (sT1 rfl) (sA (sT1 rfl) (sA (sT1 rfl) sT0))) sB0 sF0) ?_
                  refine AL_cons (LR_store (at_tmp 6 _) (at_tmp 96 _) (cells_agg _) (onC (one_is rfl) (onC (one_is rfl) (onC (one_is rfl) onN))) sz151 rfl rfl) (sS (sA (sT1 rfl) (sT1 rfl)) (sB1 rfl) sF0) ?_
                  refine AL_cons (LR_assign (at_c (v' := Bl true) rfl) rfl) (sS sT0 sB0 sF0) ?_
                  refine AL_nil ?_
                  refine thenN ?_
                  refine AW_ret ?_
                  obtain rfl := Option.some.inj hr
                  exact res2 rfl (rvC rfl rfl ag151 sz151 rfl) (rvT rfl)
end Go.Proofs.YfwaawGreat
