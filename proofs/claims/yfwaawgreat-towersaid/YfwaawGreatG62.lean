import Derived.Test.YfwaawGreatG61
namespace Go.Proofs.YfwaawGreat
open Go.Aw
set_option linter.unusedVariables false
set_option maxRecDepth 100000
set_option maxHeartbeats 1000000
/-- math.Frexp -/
def F453 (N : Nat) (a0 : Option Nat) : Option (Option Nat × Int) := (F455 N a0).bind fun y2 => some (y2.1, y2.2)
theorem C453 (N : Nat) (a0 : Option Nat) (r : Option Nat × Int) (hr : some r = F453 N a0) : Aw.Fn Hfaa.prog 453 [fl .f64 a0] (tup [fl .f64 r.1, is (I64 r.2)]) := by
  refine fn_intro Hfaa.func453 rfl rfl rfl ?_
  intro bn0 w0 H0
  refine AW_seq1 ?_
  refine AW_region ?_
  refine AL_cons (LR_assign (at_f rfl) rfl) (sS sT0 sB0 sF0) ?_
  refine AL_cons (LR_assign (at_c (v' := I64 0) rfl) rfl) (sS sT0 sB0 sF0) ?_
  refine AL_nil ?_
  refine thenN ?_
  refine AW_seq1 ?_
  refine AW_condC (fun h => by cases h) (fun _ => ?_)
  refine AW_skip ?_
  refine thenN ?_
  refine AW_seq1 ?_
  refine AW_region ?_
  refine AL_cons (LR_move (at_tmp 0 _) rfl) (sS (sT1 rfl) sB0 sF0) ?_
  obtain ⟨y2, hy2, hr⟩ := bind_some hr
  refine AL_cons (LR_call Hfaa.func455 rfl rfl (C455 N a0 y2 hy2) (all_cons (at_tmp 8 _) all_nil) rfl) (sS (sA (sT1 rfl) sT0) sB0 sF0) ?_
  refine AL_cons (LR_extract (at_tmp 9 _) rfl rfl) (sS (sT1 rfl) sB0 sF0) ?_
  refine AL_cons (LR_extract (at_tmp 9 _) rfl rfl) (sS (sT1 rfl) sB0 sF0) ?_
  refine AL_cons (LR_assign (at_tmp 10 _) rfl) (sS (sT1 rfl) sB0 sF0) ?_
  refine AL_cons (LR_assign (at_tmp 11 _) rfl) (sS (sT1 rfl) sB0 sF0) ?_
  refine AL_nil ?_
  refine thenN ?_
  refine AW_ret ?_
  obtain rfl := Option.some.inj hr
  exact res2 rfl (rvT rfl) (rvT rfl)
/-- math.Copysign -/
def F447 (N : Nat) (a0 : Option Nat) (a1 : Option Nat) : Option (Option Nat) := bif a0.isSome then bif a1.isSome then some (some (((BitVec.ofNat 64 (a0.getD 0)) &&& ~~~(9223372036854775808#64)) ||| ((BitVec.ofNat 64 (a1.getD 0)) &&& (9223372036854775808#64))).toNat) else none else none
theorem C447 (N : Nat) (a0 : Option Nat) (a1 : Option Nat) (r : Option Nat) (hr : some r = F447 N a0 a1) : Aw.Fn Hfaa.prog 447 [fl .f64 a0, fl .f64 a1] (fl .f64 r) := by
  refine fn_intro Hfaa.func447 rfl rfl rfl ?_
  intro bn0 w0 H0
  refine AW_seq1 ?_
  refine AW_region ?_
  refine AL_cons (LR_assign (at_f rfl) rfl) (sS sT0 sB0 sF0) ?_
  refine AL_nil ?_
  refine thenN ?_
  refine AW_seq1 ?_
  refine AW_region ?_
  refine AL_cons (LR_move (at_tmp 0 _) rfl) (sS (sT1 rfl) sB0 sF0) ?_
  obtain ⟨hg3, hr⟩ := guard_some hr
  refine AL_cons (LR_ext (ex262 a0 hg3) (all_cons (at_tmp 5 _) all_nil) rfl) (sS (sA (sT1 rfl) sT0) sB0 sF0) ?_
  refine AL_cons (LR_bin (at_tmp 6 _) (at_c (v' := U64 (9223372036854775808#64)) rfl) (andNot_U64 (BitVec.ofNat 64 (a0.getD 0)) (9223372036854775808#64)) rfl) (sS (sA (sT1 rfl) sT0) sB0 sF0) ?_
  refine AL_cons (LR_move (at_tmp 1 _) rfl) (sS (sT1 rfl) sB0 sF0) ?_
  obtain ⟨hg4, hr⟩ := guard_some hr
  refine AL_cons (LR_ext (ex262 a1 hg4) (all_cons (at_tmp 8 _) all_nil) rfl) (sS (sA (sT1 rfl) sT0) sB0 sF0) ?_
  refine AL_cons (LR_bin (at_tmp 9 _) (at_c (v' := U64 (9223372036854775808#64)) rfl) (and_U64 (BitVec.ofNat 64 (a1.getD 0)) (9223372036854775808#64)) rfl) (sS (sA (sT1 rfl) sT0) sB0 sF0) ?_
  refine AL_cons (LR_bin (at_tmp 7 _) (at_tmp 10 _) (or_U64 ((BitVec.ofNat 64 (a0.getD 0)) &&& ~~~(9223372036854775808#64)) ((BitVec.ofNat 64 (a1.getD 0)) &&& (9223372036854775808#64))) rfl) (sS (sA (sT1 rfl) (sT1 rfl)) sB0 sF0) ?_
  refine AL_cons (LR_ext (ex404 (((BitVec.ofNat 64 (a0.getD 0)) &&& ~~~(9223372036854775808#64)) ||| ((BitVec.ofNat 64 (a1.getD 0)) &&& (9223372036854775808#64)))) (all_cons (at_tmp 11 _) all_nil) rfl) (sS (sA (sT1 rfl) sT0) sB0 sF0) ?_
  refine AL_cons (LR_assign (at_tmp 12 _) rfl) (sS (sT1 rfl) sB0 sF0) ?_
  refine AL_nil ?_
  refine thenN ?_
  refine AW_ret ?_
  obtain rfl := Option.some.inj hr
  exact res1 rfl (rvT rfl)
/-- math.Inf -/
def F450_1 (x1 : BitVec 64) : Option Nat := some x1.toNat
def F450_2 (x2 : Bool) : Option Nat := bif x2 then F450_1 (9218868437227405312#64) else F450_1 (18442240474082181120#64)
def F450 (a0 : Int) : Option Nat := F450_2 (decide (a0 ≥ 0))
theorem C450 (a0 : Int) (r : Option Nat) (hr : r = F450 a0) : Aw.Fn Hfaa.prog 450 [is (I64 a0)] (fl .f64 r) := by
  refine fn_intro Hfaa.func450 rfl rfl rfl ?_
  intro bn0 w0 H0
  refine AW_seq1 ?_
  refine AW_region ?_
  refine AL_cons (LR_assign (at_f rfl) rfl) (sS sT0 sB0 sF0) ?_
  refine AL_nil ?_
  refine thenN ?_
  refine AW_seq1 ?_
  refine AW_region ?_
  refine AL_cons (LR_assign (at_c (v' := U64 (0#64)) rfl) rfl) (sS sT0 sB0 sF0) ?_
  refine AL_nil ?_
  refine thenN ?_
  refine AW_cut (σ := BitVec 64) (fun v => ⟨[(3, .inl (is (U64 v)))], []⟩) (fun v => r = F450_1 v) ?_ ?_
  · skip
    refine AW_cut (σ := Bool) (fun v => ⟨[(5, .inl (is (Bl v)))], []⟩) (fun v => r = F450_2 v) ?_ ?_
    · skip
      refine AW_region ?_
      refine AL_cons (LR_move (at_tmp 0 _) rfl) (sS (sT1 rfl) sB0 sF0) ?_
      refine AL_cons (LR_bin (at_tmp 4 _) (at_c (v' := I64 0) rfl) (geq_I64 a0 0) rfl) (sS (sA (sT1 rfl) sT0) sB0 sF0) ?_
      refine AL_nil ?_
      exact thenN (cutLeaf (v := decide (a0 ≥ 0)) hr (weak0 ((sT rfl sT0)) sub_nil))
    · rintro x2 hr
      show AW Hfaa.prog _ _ _ ⟨[(5, .inl (is (Bl x2)))], []⟩
      have hr : r = F450_2 x2 := hr
      refine AW_condT (b := x2) rfl (fun h => ?_) (fun h => ?_)
      · have hr := hr.trans (cond_t h)
        clear h
        refine AW_region ?_
        refine AL_cons (LR_assign (at_c (v' := U64 (9218868437227405312#64)) rfl) rfl) (sS sT0 sB0 sF0) ?_
        refine AL_nil ?_
        exact thenN (cutLeaf (v := 9218868437227405312#64) hr (weak0 ((sT rfl sT0)) sub_nil))
      · have hr := hr.trans (cond_f h)
        clear h
        refine AW_region ?_
        refine AL_cons (LR_assign (at_c (v' := U64 (18442240474082181120#64)) rfl) rfl) (sS sT0 sB0 sF0) ?_
        refine AL_nil ?_
        exact thenN (cutLeaf (v := 18442240474082181120#64) hr (weak0 ((sT rfl sT0)) sub_nil))
  · rintro x1 hr
    show AW Hfaa.prog _ _ _ ⟨[(3, .inl (is (U64 x1)))], []⟩
    have hr : r = F450_1 x1 := hr
    refine AW_seq1 ?_
    refine AW_region ?_
    refine AL_cons (LR_move (at_tmp 3 _) rfl) (sS (sT1 rfl) sB0 sF0) ?_
    refine AL_cons (LR_ext (ex404 x1) (all_cons (at_tmp 6 _) all_nil) rfl) (sS (sA (sT1 rfl) sT0) sB0 sF0) ?_
    refine AL_cons (LR_assign (at_tmp 7 _) rfl) (sS (sT1 rfl) sB0 sF0) ?_
    refine AL_nil ?_
    refine thenN ?_
    refine AW_ret ?_
    subst hr
    exact res1 rfl (rvT rfl)
/-- math.ldexp -/
def F443_9 (N : Nat) (x10 : Bool) : Option (Option Nat) := bif x10 then lt (F450 (-1)) fun y18 => some y18 else lt (F450 1) fun y20 => some y20
def F443_12 (N : Nat) (x12 : Option Nat) (x14 : BitVec 64) : Option (Option Nat) := some (fbits .mul .f64 x12 (some x14.toNat))
def F443_11 (N : Nat) (x11 : Int) (x12 : Option Nat) (x13 : BitVec 64) : Option (Option Nat) := F443_12 N x12 (x13 ||| ((BitVec.ofInt 64 (w64 (x11 + 1023))) <<< 52))
def F443_10 (N : Nat) (x6 : BitVec 64) (x11 : Int) (x12 : Option Nat) : Option (Option Nat) := F443_11 N x11 x12 (x6 &&& ~~~(9218868437227405312#64))
def F443_14 (N : Nat) (x6 : BitVec 64) (x16 : Int) : Option (Option Nat) := F443_10 N x6 x16 (some 4368491638549381120)
def F443_13 (N : Nat) (x6 : BitVec 64) (x7 : Int) (x15 : Bool) : Option (Option Nat) := bif x15 then F443_14 N x6 (w64 (x7 + 53)) else F443_10 N x6 x7 (some 4607182418800017408)
def F443_8 (N : Nat) (x3 : Option Nat) (x6 : BitVec 64) (x7 : Int) (x9 : Bool) : Option (Option Nat) := bif x9 then F443_9 N (fcmp .lss .f64 x3 (some 0)) else F443_13 N x6 x7 (decide (x7 < (-1022)))
def F443_7 (N : Nat) (x3 : Option Nat) (x6 : BitVec 64) (x7 : Int) (x8 : Bool) : Option (Option Nat) := bif x8 then (F447 N (some 0) x3).bind fun y8 => some y8 else F443_8 N x3 x6 x7 (decide (x7 > 1023))
def F443_6 (N : Nat) (x3 : Option Nat) (x6 : BitVec 64) (x7 : Int) : Option (Option Nat) := F443_7 N x3 x6 x7 (decide (x7 < (-1075)))
def F443_5 (N : Nat) (x3 : Option Nat) (x5 : Int) (x6 : BitVec 64) : Option (Option Nat) := F443_6 N x3 x6 (w64 (x5 + (w64 ((w64 ((BitVec.ofInt 64 (w64 ((x6 >>> 52).toNat : Int)) &&& BitVec.ofInt 64 2047).toNat : Int)) - 1023))))
def F443_4 (N : Nat) (x3 : Option Nat) (x5 : Int) : Option (Option Nat) := bif x3.isSome then F443_5 N x3 x5 (BitVec.ofNat 64 (x3.getD 0)) else none
def F443_3 (N : Nat) (a1 : Int) (x3 : Option Nat) (x4 : Int) : Option (Option Nat) := F443_4 N x3 (w64 (a1 + x4))
def F443_2 (N : Nat) (a0 : Option Nat) (a1 : Int) (x2 : Bool) : Option (Option Nat) := bif x2 then some a0 else (F445 N a0).bind fun y21 => F443_3 N a1 y21.1 y21.2
def F443_1 (N : Nat) (a0 : Option Nat) (a1 : Int) (x1 : Bool) : Option (Option Nat) := bif x1 then some a0 else (F430 N a0 0).bind fun y22 => F443_2 N a0 a1 (y22 || (F429 a0))
def F443 (N : Nat) (a0 : Option Nat) (a1 : Int) : Option (Option Nat) := F443_1 N a0 a1 (fcmp .eql .f64 a0 (some 0))
theorem C443 (N : Nat) (a0 : Option Nat) (a1 : Int) (r : Option Nat) (hr : some r = F443 N a0 a1) : Aw.Fn Hfaa.prog 443 [fl .f64 a0, is (I64 a1)] (fl .f64 r) := by
  refine fn_intro Hfaa.func443 rfl rfl rfl ?_
  intro bn0 w0 H0
  refine AW_seq1 ?_
  refine AW_region ?_
  refine AL_cons (LR_assign (at_f rfl) rfl) (sS sT0 sB0 sF0) ?_
  refine AL_nil ?_
  refine thenN ?_
  refine AW_seq1 ?_
  refine AW_block ?_
  refine AW_cut (σ := Bool) (fun v => ⟨[(0, .inl (fl .f64 a0)), (1, .inl (is (I64 a1))), (8, .inl (is (Bl v)))], []⟩) (fun v => some r = F443_1 N a0 a1 v) ?_ ?_
  · skip
    refine AW_region ?_
    refine AL_cons (LR_move (at_tmp 0 _) rfl) (sS (sT1 rfl) sB0 sF0) ?_
    refine AL_cons (LR_fcmp rfl (at_tmp 9 _) (at_f rfl) rfl) (sS (sA (sT1 rfl) sT0) sB0 sF0) ?_
    refine AL_cons (LR_assign (at_tmp 10 _) rfl) (sS (sT1 rfl) sB0 sF0) ?_
    refine AL_nil ?_
    exact thenN (cutLeaf (v := fcmp .eql .f64 a0 (some 0)) hr (weak0 ((sT rfl (sT rfl (sT rfl sT0)))) sub_nil))
  · rintro x1 hr
    show AW Hfaa.prog _ _ _ ⟨[(0, .inl (fl .f64 a0)), (1, .inl (is (I64 a1))), (8, .inl (is (Bl x1)))], []⟩
    have hr : some r = F443_1 N a0 a1 x1 := hr
    refine AW_condT (b := x1) rfl (fun h => ?_) (fun h => ?_)
    · have hr := hr.trans (cond_t h)
      clear h
      refine AW_seq1 ?_
      refine AW_region ?_
      refine AL_cons (LR_move (at_tmp 0 _) rfl) (sS (sT1 rfl) sB0 sF0) ?_
      refine AL_cons (LR_assign (at_tmp 11 _) rfl) (sS (sT1 rfl) sB0 sF0) ?_
      refine AL_nil ?_
      refine thenN ?_
      refine AW_ret ?_
      refine blR ?_
      refine thenR ?_
      obtain rfl := Option.some.inj hr
      exact res1 rfl (rvT rfl)
    · have hr := hr.trans (cond_f h)
      clear h
      refine AW_cut (σ := Bool) (fun v => ⟨[(0, .inl (fl .f64 a0)), (1, .inl (is (I64 a1))), (12, .inl (is (Bl v)))], []⟩) (fun v => some r = F443_2 N a0 a1 v) ?_ ?_
      · skip
        refine AW_region ?_
        refine AL_cons (LR_move (at_tmp 0 _) rfl) (sS (sT1 rfl) sB0 sF0) ?_
        obtain ⟨y22, hy22, hr⟩ := bind_some hr
        refine AL_cons (LR_call Hfaa.func430 rfl rfl (C430 N a0 0 y22 hy22) (all_cons (at_tmp 13 _) (all_cons (at_c (v' := I64 0) rfl) all_nil)) rfl) (sS (sA (sT1 rfl) (sA sT0 sT0)) sB0 sF0) ?_
        refine AL_cons (LR_move (at_tmp 14 _) rfl) (sS (sT1 rfl) sB0 sF0) ?_
        refine AL_cutAt 3 ⟨[(0, .inl (fl .f64 a0)), (1, .inl (is (I64 a1))), (8, .inl (is (Bl x1))), (13, .inl (fl .f64 a0)), (14, .inl (is (Bl y22))), (15, .inl (is (Bl y22))), (18, .inl (is (Bl (y22 || (F429 a0)))))], []⟩ ?_ ?_
        · cases hb : y22
          · skip
            refine AL_cons (LR_on rfl rfl rfl (LR_move (at_tmp 0 _) rfl)) (sS (sT rfl (sT1 rfl)) sB0 sF0) ?_
            refine AL_cons (LR_on rfl rfl rfl (LR_call Hfaa.func429 rfl rfl (C429 a0 _ rfl) (all_cons (at_tmp 16 _) all_nil) rfl)) (sS (sT rfl (sA (sT1 rfl) sT0)) sB0 sF0) ?_
            refine AL_cons (LR_pick (b := false) (at_tmp 15 _) (at_c (v' := Bl true) rfl) (at_tmp 17 _) rfl) (sS (sA (sT1 rfl) (sA sT0 (sT1 rfl))) sB0 sF0) ?_
            exact AL_nil ⟨rfl, weak0 ((sT rfl (sT rfl (sT rfl (sT rfl (sT rfl (sT rfl (sT rfl sT0)))))))) sub_nil⟩
          · skip
            refine AL_cons (LR_off (b := true) rfl rfl rfl rfl) (sS (sT1 rfl) sB0 sF0) ?_
            refine AL_cons (LR_off (b := true) rfl rfl rfl rfl) (sS (sT1 rfl) sB0 sF0) ?_
            refine AL_cons (LR_pick (b := true) (at_tmp 15 _) (at_c (v' := Bl true) rfl) (at_tmp 17 _) rfl) (sS (sA (sT1 rfl) (sA sT0 (sT1 rfl))) sB0 sF0) ?_
            exact AL_nil ⟨rfl, weak0 ((sT rfl (sT rfl (sT rfl (sT rfl (sT rfl (sT rfl (sT rfl sT0)))))))) sub_nil⟩
        refine AL_cons (LR_assign (at_tmp 18 _) rfl) (sS (sT1 rfl) sB0 sF0) ?_
        refine AL_nil ?_
        exact thenN (cutLeaf (v := y22 || (F429 a0)) hr (weak0 ((sT rfl (sT rfl (sT rfl sT0)))) sub_nil))
      · rintro x2 hr
        show AW Hfaa.prog _ _ _ ⟨[(0, .inl (fl .f64 a0)), (1, .inl (is (I64 a1))), (12, .inl (is (Bl x2)))], []⟩
        have hr : some r = F443_2 N a0 a1 x2 := hr
        refine AW_condT (b := x2) rfl (fun h => ?_) (fun h => ?_)
        · have hr := hr.trans (cond_t h)
          clear h
          refine AW_seq1 ?_
          refine AW_region ?_
          refine AL_cons (LR_move (at_tmp 0 _) rfl) (sS (sT1 rfl) sB0 sF0) ?_
          refine AL_cons (LR_assign (at_tmp 19 _) rfl) (sS (sT1 rfl) sB0 sF0) ?_
          refine AL_nil ?_
          refine thenN ?_
          refine AW_ret ?_
          refine blR ?_
          refine thenR ?_
          obtain rfl := Option.some.inj hr
          exact res1 rfl (rvT rfl)
        · have hr := hr.trans (cond_f h)
          clear h
          refine AW_skip ?_
          refine blN ?_
          refine thenN ?_
          refine AW_cut (σ := Option Nat × Int) (fun v => ⟨[(0, .inl (fl .f64 v.1)), (1, .inl (is (I64 a1))), (5, .inl (is (I64 v.2)))], []⟩) (fun v => some r = F443_3 N a1 v.1 v.2) ?_ ?_
          · skip
            refine AW_region ?_
            refine AL_cons (LR_move (at_tmp 0 _) rfl) (sS (sT1 rfl) sB0 sF0) ?_
            obtain ⟨y21, hy21, hr⟩ := bind_some hr
            refine AL_cons (LR_call Hfaa.func445 rfl rfl (C445 N a0 y21 hy21) (all_cons (at_tmp 21 _) all_nil) rfl) (sS (sA (sT1 rfl) sT0) sB0 sF0) ?_
            refine AL_cons (LR_move (at_tmp 22 _) rfl) (sS (sT1 rfl) sB0 sF0) ?_
            refine AL_cons (LR_extract (at_tmp 20 _) rfl rfl) (sS (sT1 rfl) sB0 sF0) ?_
            refine AL_cons (LR_extract (at_tmp 20 _) rfl rfl) (sS (sT1 rfl) sB0 sF0) ?_
            refine AL_cons (LR_assign (at_tmp 23 _) rfl) (sS (sT1 rfl) sB0 sF0) ?_
            refine AL_cons (LR_assign (at_tmp 24 _) rfl) (sS (sT1 rfl) sB0 sF0) ?_
            refine AL_nil ?_
            exact thenN (cutLeaf (v := (y21.1, y21.2)) hr (weak0 ((sT rfl (sT rfl (sT rfl sT0)))) sub_nil))
          · rintro ⟨x3, x4⟩ hr
            show AW Hfaa.prog _ _ _ ⟨[(0, .inl (fl .f64 x3)), (1, .inl (is (I64 a1))), (5, .inl (is (I64 x4)))], []⟩
            have hr : some r = F443_3 N a1 x3 x4 := hr
            refine AW_cut (σ := Int) (fun v => ⟨[(0, .inl (fl .f64 x3)), (1, .inl (is (I64 v)))], []⟩) (fun v => some r = F443_4 N x3 v) ?_ ?_
            · skip
              refine AW_region ?_
              refine AL_cons (LR_move (at_tmp 1 _) rfl) (sS (sT1 rfl) sB0 sF0) ?_
              refine AL_cons (LR_move (at_tmp 5 _) rfl) (sS (sT1 rfl) sB0 sF0) ?_
              refine AL_cons (LR_bin (at_tmp 25 _) (at_tmp 26 _) (add_I64 a1 x4) rfl) (sS (sA (sT1 rfl) (sT1 rfl)) sB0 sF0) ?_
              refine AL_cons (LR_assign (at_tmp 27 _) rfl) (sS (sT1 rfl) sB0 sF0) ?_
              refine AL_nil ?_
              exact thenN (cutLeaf (v := w64 (a1 + x4)) hr (weak0 ((sT rfl (sT rfl sT0))) sub_nil))
            · rintro x5 hr
              show AW Hfaa.prog _ _ _ ⟨[(0, .inl (fl .f64 x3)), (1, .inl (is (I64 x5)))], []⟩
              have hr : some r = F443_4 N x3 x5 := hr
              refine AW_cut (σ := BitVec 64) (fun v => ⟨[(0, .inl (fl .f64 x3)), (1, .inl (is (I64 x5))), (6, .inl (is (U64 v)))], []⟩) (fun v => some r = F443_5 N x3 x5 v) ?_ ?_
              · skip
                refine AW_region ?_
                refine AL_cons (LR_move (at_tmp 0 _) rfl) (sS (sT1 rfl) sB0 sF0) ?_
                obtain ⟨hg2, hr⟩ := guard_some hr
                refine AL_cons (LR_ext (ex262 x3 hg2) (all_cons (at_tmp 28 _) all_nil) rfl) (sS (sA (sT1 rfl) sT0) sB0 sF0) ?_
                refine AL_cons (LR_assign (at_tmp 29 _) rfl) (sS (sT1 rfl) sB0 sF0) ?_
                refine AL_nil ?_
                exact thenN (cutLeaf (v := BitVec.ofNat 64 (x3.getD 0)) hr (weak0 ((sT rfl (sT rfl (sT rfl sT0)))) sub_nil))
              · rintro x6 hr
                show AW Hfaa.prog _ _ _ ⟨[(0, .inl (fl .f64 x3)), (1, .inl (is (I64 x5))), (6, .inl (is (U64 x6)))], []⟩
                have hr : some r = F443_5 N x3 x5 x6 := hr
                refine AW_cut (σ := Int) (fun v => ⟨[(0, .inl (fl .f64 x3)), (1, .inl (is (I64 v))), (6, .inl (is (U64 x6)))], []⟩) (fun v => some r = F443_6 N x3 x6 v) ?_ ?_
                · skip
                  refine AW_region ?_
                  refine AL_cons (LR_move (at_tmp 1 _) rfl) (sS (sT1 rfl) sB0 sF0) ?_
                  refine AL_cons (LR_move (at_tmp 6 _) rfl) (sS (sT1 rfl) sB0 sF0) ?_
                  refine AL_cons (LR_bin (at_tmp 31 _) (at_c (v' := U64 (52#64)) rfl) (shr_U64 x6 ((52#64).toNat : Int) (Int.natCast_nonneg _)) rfl) (sS (sA (sT1 rfl) sT0) sB0 sF0) ?_
                  refine AL_cons (LR_conv (vx := U64 (x6 >>> 52)) (at_tmp 32 _) (conv_I64 Hfaa.underlying30 Hfaa.underlying3 ((x6 >>> 52).toNat : Int)) rfl) (sS (sT1 rfl) sB0 sF0) ?_
                  refine AL_cons (LR_bin (at_tmp 33 _) (at_c (v' := I64 2047) rfl) (and_I64 (w64 ((x6 >>> 52).toNat : Int)) 2047) rfl) (sS (sA (sT1 rfl) sT0) sB0 sF0) ?_
                  refine AL_cons (LR_bin (at_tmp 34 _) (at_c (v' := I64 1023) rfl) (sub_I64 (w64 ((BitVec.ofInt 64 (w64 ((x6 >>> 52).toNat : Int)) &&& BitVec.ofInt 64 2047).toNat : Int)) 1023) rfl) (sS (sA (sT1 rfl) sT0) sB0 sF0) ?_
                  refine AL_cons (LR_bin (at_tmp 30 _) (at_tmp 35 _) (add_I64 x5 (w64 ((w64 ((BitVec.ofInt 64 (w64 ((x6 >>> 52).toNat : Int)) &&& BitVec.ofInt 64 2047).toNat : Int)) - 1023))) rfl) (sS (sA (sT1 rfl) (sT1 rfl)) sB0 sF0) ?_
                  refine AL_cons (LR_assign (at_tmp 36 _) rfl) (sS (sT1 rfl) sB0 sF0) ?_
                  refine AL_nil ?_
                  exact thenN (cutLeaf (v := w64 (x5 + (w64 ((w64 ((BitVec.ofInt 64 (w64 ((x6 >>> 52).toNat : Int)) &&& BitVec.ofInt 64 2047).toNat : Int)) - 1023)))) hr (weak0 ((sT rfl (sT rfl (sT rfl sT0)))) sub_nil))
                · rintro x7 hr
                  show AW Hfaa.prog _ _ _ ⟨[(0, .inl (fl .f64 x3)), (1, .inl (is (I64 x7))), (6, .inl (is (U64 x6)))], []⟩
                  have hr : some r = F443_6 N x3 x6 x7 := hr
                  refine AW_seq1 ?_
                  refine AW_cut (σ := Bool) (fun v => ⟨[(0, .inl (fl .f64 x3)), (1, .inl (is (I64 x7))), (6, .inl (is (U64 x6))), (38, .inl (is (Bl v)))], []⟩) (fun v => some r = F443_7 N x3 x6 x7 v) ?_ ?_
                  · skip
                    refine AW_region ?_
                    refine AL_cons (LR_move (at_tmp 1 _) rfl) (sS (sT1 rfl) sB0 sF0) ?_
                    refine AL_cons (LR_bin (at_tmp 37 _) (at_c (v' := I64 (-1075)) rfl) (lss_I64 x7 (-1075)) rfl) (sS (sA (sT1 rfl) sT0) sB0 sF0) ?_
                    refine AL_nil ?_
                    exact thenN (cutLeaf (v := decide (x7 < (-1075))) hr (weak0 ((sT rfl (sT rfl (sT rfl (sT rfl sT0))))) sub_nil))
                  · rintro x8 hr
                    show AW Hfaa.prog _ _ _ ⟨[(0, .inl (fl .f64 x3)), (1, .inl (is (I64 x7))), (6, .inl (is (U64 x6))), (38, .inl (is (Bl x8)))], []⟩
                    have hr : some r = F443_7 N x3 x6 x7 x8 := hr
                    refine AW_condT (b := x8) rfl (fun h => ?_) (fun h => ?_)
                    · have hr := hr.trans (cond_t h)
                      clear h
                      refine AW_seq1 ?_
                      refine AW_region ?_
                      refine AL_cons (LR_move (at_tmp 0 _) rfl) (sS (sT1 rfl) sB0 sF0) ?_
                      obtain ⟨y8, hy8, hr⟩ := bind_some hr
                      refine AL_cons (LR_call Hfaa.func447 rfl rfl (C447 N (some 0) x3 y8 hy8) (all_cons (at_f rfl) (all_cons (at_tmp 39 _) all_nil)) rfl) (sS (sA sT0 (sA (sT1 rfl) sT0)) sB0 sF0) ?_
                      refine AL_cons (LR_assign (at_tmp 40 _) rfl) (sS (sT1 rfl) sB0 sF0) ?_
                      refine AL_nil ?_
                      refine thenN ?_
                      refine AW_ret ?_
                      refine thenR ?_
                      obtain rfl := Option.some.inj hr
                      exact res1 rfl (rvT rfl)
                    · have hr := hr.trans (cond_f h)
                      clear h
                      refine AW_skip ?_
                      refine thenN ?_
                      refine AW_seq1 ?_
                      refine AW_cut (σ := Bool) (fun v => ⟨[(0, .inl (fl .f64 x3)), (1, .inl (is (I64 x7))), (6, .inl (is (U64 x6))), (42, .inl (is (Bl v)))], []⟩) (fun v => some r = F443_8 N x3 x6 x7 v) ?_ ?_
                      · skip
                        refine AW_region ?_
                        refine AL_cons (LR_move (at_tmp 1 _) rfl) (sS (sT1 rfl) sB0 sF0) ?_
                        refine AL_cons (LR_bin (at_tmp 41 _) (at_c (v' := I64 1023) rfl) (gtr_I64 x7 1023) rfl) (sS (sA (sT1 rfl) sT0) sB0 sF0) ?_
                        refine AL_nil ?_
                        exact thenN (cutLeaf (v := decide (x7 > 1023)) hr (weak0 ((sT rfl (sT rfl (sT rfl (sT rfl sT0))))) sub_nil))
                      · rintro x9 hr
                        show AW Hfaa.prog _ _ _ ⟨[(0, .inl (fl .f64 x3)), (1, .inl (is (I64 x7))), (6, .inl (is (U64 x6))), (42, .inl (is (Bl x9)))], []⟩
                        have hr : some r = F443_8 N x3 x6 x7 x9 := hr
                        refine AW_condT (b := x9) rfl (fun h => ?_) (fun h => ?_)
                        · have hr := hr.trans (cond_t h)
                          clear h
                          refine AW_seq1 ?_
                          refine AW_cut (σ := Bool) (fun v => ⟨[(44, .inl (is (Bl v)))], []⟩) (fun v => some r = F443_9 N v) ?_ ?_
                          · skip
                            refine AW_region ?_
                            refine AL_cons (LR_move (at_tmp 0 _) rfl) (sS (sT1 rfl) sB0 sF0) ?_
                            refine AL_cons (LR_fcmp rfl (at_tmp 43 _) (at_f rfl) rfl) (sS (sA (sT1 rfl) sT0) sB0 sF0) ?_
                            refine AL_nil ?_
                            exact thenN (cutLeaf (v := fcmp .lss .f64 x3 (some 0)) hr (weak0 ((sT rfl sT0)) sub_nil))
                          · rintro x10 hr
                            show AW Hfaa.prog _ _ _ ⟨[(44, .inl (is (Bl x10)))], []⟩
                            have hr : some r = F443_9 N x10 := hr
                            refine AW_condT (b := x10) rfl (fun h => ?_) (fun h => ?_)
                            · have hr := hr.trans (cond_t h)
                              clear h
                              refine AW_seq1 ?_
                              refine AW_region ?_
                              obtain ⟨y18, hy18, hr⟩ := lt_some hr
                              refine AL_cons (LR_call Hfaa.func450 rfl rfl (C450 (-1) y18 hy18) (all_cons (at_c (v' := I64 (-1)) rfl) all_nil) rfl) (sS (sA sT0 sT0) sB0 sF0) ?_
                              refine AL_cons (LR_assign (at_tmp 45 _) rfl) (sS (sT1 rfl) sB0 sF0) ?_
                              refine AL_nil ?_
                              refine thenN ?_
                              refine AW_ret ?_
                              refine thenR ?_
                              refine thenR ?_
                              obtain rfl := Option.some.inj hr
                              exact res1 rfl (rvT rfl)
                            · have hr := hr.trans (cond_f h)
                              clear h
                              refine AW_skip ?_
                              refine thenN ?_
                              refine AW_seq1 ?_
                              refine AW_region ?_
                              obtain ⟨y20, hy20, hr⟩ := lt_some hr
                              refine AL_cons (LR_call Hfaa.func450 rfl rfl (C450 1 y20 hy20) (all_cons (at_c (v' := I64 1) rfl) all_nil) rfl) (sS (sA sT0 sT0) sB0 sF0) ?_
                              refine AL_cons (LR_assign (at_tmp 46 _) rfl) (sS (sT1 rfl) sB0 sF0) ?_
                              refine AL_nil ?_
                              refine thenN ?_
                              refine AW_ret ?_
                              refine thenR ?_
                              obtain rfl := Option.some.inj hr
                              exact res1 rfl (rvT rfl)
                        · have hr := hr.trans (cond_f h)
                          clear h
                          refine AW_skip ?_
                          refine thenN ?_
                          refine AW_seq1 ?_
                          refine AW_region ?_
                          refine AL_cons (LR_assign (at_f rfl) rfl) (sS sT0 sB0 sF0) ?_
                          refine AL_nil ?_
                          refine thenN ?_
                          refine AW_cut (σ := Int × Option Nat) (fun v => ⟨[(1, .inl (is (I64 v.1))), (6, .inl (is (U64 x6))), (7, .inl (fl .f64 v.2))], []⟩) (fun v => some r = F443_10 N x6 v.1 v.2) ?_ ?_
                          · skip
                            refine AW_cut (σ := Bool) (fun v => ⟨[(1, .inl (is (I64 x7))), (6, .inl (is (U64 x6))), (7, .inl (fl .f64 (some 4607182418800017408))), (48, .inl (is (Bl v)))], []⟩) (fun v => some r = F443_13 N x6 x7 v) ?_ ?_
                            · skip
                              refine AW_region ?_
                              refine AL_cons (LR_move (at_tmp 1 _) rfl) (sS (sT1 rfl) sB0 sF0) ?_
                              refine AL_cons (LR_bin (at_tmp 47 _) (at_c (v' := I64 (-1022)) rfl) (lss_I64 x7 (-1022)) rfl) (sS (sA (sT1 rfl) sT0) sB0 sF0) ?_
                              refine AL_nil ?_
                              exact thenN (cutLeaf (v := decide (x7 < (-1022))) hr (weak0 ((sT rfl (sT rfl (sT rfl (sT rfl sT0))))) sub_nil))
                            · rintro x15 hr
                              show AW Hfaa.prog _ _ _ ⟨[(1, .inl (is (I64 x7))), (6, .inl (is (U64 x6))), (7, .inl (fl .f64 (some 4607182418800017408))), (48, .inl (is (Bl x15)))], []⟩
                              have hr : some r = F443_13 N x6 x7 x15 := hr
                              refine AW_condT (b := x15) rfl (fun h => ?_) (fun h => ?_)
                              · have hr := hr.trans (cond_t h)
                                clear h
                                refine AW_cut (σ := Int) (fun v => ⟨[(1, .inl (is (I64 v))), (6, .inl (is (U64 x6)))], []⟩) (fun v => some r = F443_14 N x6 v) ?_ ?_
                                · skip
                                  refine AW_region ?_
                                  refine AL_cons (LR_move (at_tmp 1 _) rfl) (sS (sT1 rfl) sB0 sF0) ?_
                                  refine AL_cons (LR_bin (at_tmp 49 _) (at_c (v' := I64 53) rfl) (add_I64 x7 53) rfl) (sS (sA (sT1 rfl) sT0) sB0 sF0) ?_
                                  refine AL_cons (LR_assign (at_tmp 50 _) rfl) (sS (sT1 rfl) sB0 sF0) ?_
                                  refine AL_nil ?_
                                  exact thenN (cutLeaf (v := w64 (x7 + 53)) hr (weak0 ((sT rfl (sT rfl sT0))) sub_nil))
                                · rintro x16 hr
                                  show AW Hfaa.prog _ _ _ ⟨[(1, .inl (is (I64 x16))), (6, .inl (is (U64 x6)))], []⟩
                                  have hr : some r = F443_14 N x6 x16 := hr
                                  refine AW_region ?_
                                  refine AL_cons (LR_assign (at_f rfl) rfl) (sS sT0 sB0 sF0) ?_
                                  refine AL_nil ?_
                                  exact thenN (cutLeaf (v := (x16, (some 4368491638549381120))) hr (weak0 ((sT rfl (sT rfl (sT rfl sT0)))) sub_nil))
                              · have hr := hr.trans (cond_f h)
                                clear h
                                refine AW_skip ?_
                                exact thenN (cutLeaf (v := (x7, (some 4607182418800017408))) hr (weak0 ((sT rfl (sT rfl (sT rfl sT0)))) sub_nil))
                          · rintro ⟨x11, x12⟩ hr
                            show AW Hfaa.prog _ _ _ ⟨[(1, .inl (is (I64 x11))), (6, .inl (is (U64 x6))), (7, .inl (fl .f64 x12))], []⟩
                            have hr : some r = F443_10 N x6 x11 x12 := hr
                            refine AW_cut (σ := BitVec 64) (fun v => ⟨[(1, .inl (is (I64 x11))), (6, .inl (is (U64 v))), (7, .inl (fl .f64 x12))], []⟩) (fun v => some r = F443_11 N x11 x12 v) ?_ ?_
                            · skip
                              refine AW_region ?_
                              refine AL_cons (LR_move (at_tmp 6 _) rfl) (sS (sT1 rfl) sB0 sF0) ?_
                              refine AL_cons (LR_bin (at_tmp 51 _) (at_c (v' := U64 (9218868437227405312#64)) rfl) (andNot_U64 x6 (9218868437227405312#64)) rfl) (sS (sA (sT1 rfl) sT0) sB0 sF0) ?_
                              refine AL_cons (LR_assign (at_tmp 52 _) rfl) (sS (sT1 rfl) sB0 sF0) ?_
                              refine AL_nil ?_
                              exact thenN (cutLeaf (v := x6 &&& ~~~(9218868437227405312#64)) hr (weak0 ((sT rfl (sT rfl (sT rfl sT0)))) sub_nil))
                            · rintro x13 hr
                              show AW Hfaa.prog _ _ _ ⟨[(1, .inl (is (I64 x11))), (6, .inl (is (U64 x13))), (7, .inl (fl .f64 x12))], []⟩
                              have hr : some r = F443_11 N x11 x12 x13 := hr
                              refine AW_cut (σ := BitVec 64) (fun v => ⟨[(6, .inl (is (U64 v))), (7, .inl (fl .f64 x12))], []⟩) (fun v => some r = F443_12 N x12 v) ?_ ?_
                              · skip
                                refine AW_region ?_
                                refine AL_cons (LR_move (at_tmp 6 _) rfl) (sS (sT1 rfl) sB0 sF0) ?_
                                refine AL_cons (LR_move (at_tmp 1 _) rfl) (sS (sT1 rfl) sB0 sF0) ?_
                                refine AL_cons (LR_bin (at_tmp 54 _) (at_c (v' := I64 1023) rfl) (add_I64 x11 1023) rfl) (sS (sA (sT1 rfl) sT0) sB0 sF0) ?_
                                refine AL_cons (LR_conv (vx := I64 (w64 (x11 + 1023))) (at_tmp 55 _) (conv_U64 Hfaa.underlying3 Hfaa.underlying30 (w64 (x11 + 1023))) rfl) (sS (sT1 rfl) sB0 sF0) ?_
                                refine AL_cons (LR_bin (at_tmp 56 _) (at_c (v' := U64 (52#64)) rfl) (shl_U64 (BitVec.ofInt 64 (w64 (x11 + 1023))) ((52#64).toNat : Int) (Int.natCast_nonneg _)) rfl) (sS (sA (sT1 rfl) sT0) sB0 sF0) ?_
                                refine AL_cons (LR_bin (at_tmp 53 _) (at_tmp 57 _) (or_U64 x13 ((BitVec.ofInt 64 (w64 (x11 + 1023))) <<< 52)) rfl) (sS (sA (sT1 rfl) (sT1 rfl)) sB0 sF0) ?_
                                refine AL_cons (LR_assign (at_tmp 58 _) rfl) (sS (sT1 rfl) sB0 sF0) ?_
                                refine AL_nil ?_
                                exact thenN (cutLeaf (v := x13 ||| ((BitVec.ofInt 64 (w64 (x11 + 1023))) <<< 52)) hr (weak0 ((sT rfl (sT rfl sT0))) sub_nil))
                              · rintro x14 hr
                                show AW Hfaa.prog _ _ _ ⟨[(6, .inl (is (U64 x14))), (7, .inl (fl .f64 x12))], []⟩
                                have hr : some r = F443_12 N x12 x14 := hr
                                refine AW_seq1 ?_
                                refine AW_region ?_
                                refine AL_cons (LR_move (at_tmp 7 _) rfl) (sS (sT1 rfl) sB0 sF0) ?_
                                refine AL_cons (LR_move (at_tmp 6 _) rfl) (sS (sT1 rfl) sB0 sF0) ?_
                                refine AL_cons (LR_ext (ex404 x14) (all_cons (at_tmp 60 _) all_nil) rfl) (sS (sA (sT1 rfl) sT0) sB0 sF0) ?_
                                refine AL_cons (LR_fbin rfl (at_tmp 59 _) (at_tmp 61 _) rfl) (sS (sA (sT1 rfl) (sT1 rfl)) sB0 sF0) ?_
                                refine AL_cons (LR_assign (at_tmp 62 _) rfl) (sS (sT1 rfl) sB0 sF0) ?_
                                refine AL_nil ?_
                                refine thenN ?_
                                refine AW_ret ?_
                                obtain rfl := Option.some.inj hr
                                exact res1 rfl (rvT rfl)
/-- math.Ldexp -/
def F428 (N : Nat) (a0 : Option Nat) (a1 : Int) : Option (Option Nat) := (F443 N a0 a1).bind fun y2 => some y2
theorem C428 (N : Nat) (a0 : Option Nat) (a1 : Int) (r : Option Nat) (hr : some r = F428 N a0 a1) : Aw.Fn Hfaa.prog 428 [fl .f64 a0, is (I64 a1)] (fl .f64 r) := by
  refine fn_intro Hfaa.func428 rfl rfl rfl ?_
  intro bn0 w0 H0
  refine AW_seq1 ?_
  refine AW_region ?_
  refine AL_cons (LR_assign (at_f rfl) rfl) (sS sT0 sB0 sF0) ?_
  refine AL_nil ?_
  refine thenN ?_
  refine AW_seq1 ?_
  refine AW_condC (fun h => by cases h) (fun _ => ?_)
  refine AW_skip ?_
  refine thenN ?_
  refine AW_seq1 ?_
  refine AW_region ?_
  refine AL_cons (LR_move (at_tmp 0 _) rfl) (sS (sT1 rfl) sB0 sF0) ?_
  refine AL_cons (LR_move (at_tmp 1 _) rfl) (sS (sT1 rfl) sB0 sF0) ?_
  obtain ⟨y2, hy2, hr⟩ := bind_some hr
  refine AL_cons (LR_call Hfaa.func443 rfl rfl (C443 N a0 a1 y2 hy2) (all_cons (at_tmp 8 _) (all_cons (at_tmp 9 _) all_nil)) rfl) (sS (sA (sT1 rfl) (sA (sT1 rfl) sT0)) sB0 sF0) ?_
  refine AL_cons (LR_assign (at_tmp 10 _) rfl) (sS (sT1 rfl) sB0 sF0) ?_
  refine AL_nil ?_
  refine thenN ?_
  refine AW_ret ?_
  obtain rfl := Option.some.inj hr
  exact res1 rfl (rvT rfl)
/-- math.mod -/
def F452_6 (N : Nat) (x7 : Option Nat) : Option (Option Nat) := some x7
def F452_7 (N : Nat) (x6 : Option Nat) (x8 : Bool) : Option (Option Nat) := bif x8 then F452_6 N (fneg .f64 x6) else F452_6 N x6
def F452_5 (N : Nat) (a0 : Option Nat) (x6 : Option Nat) : Option (Option Nat) := F452_7 N x6 (fcmp .lss .f64 a0 (some 0))
def F452_11 (N : Nat) (a0 : Option Nat) (x2 : Option Nat) (x3 : Option Nat) (x4 : Int) (x9 : Option Nat) (x13 : Int) : Option ((Option Nat) ⊕ (Option Nat)) := (F428 N x2 (w64 (x13 - x4))).bind fun y23 => some (.inl (fbits .sub .f64 x9 y23))
def F452_12 (N : Nat) (a0 : Option Nat) (x2 : Option Nat) (x3 : Option Nat) (x4 : Int) (x9 : Option Nat) (x12 : Int) (x14 : Bool) : Option ((Option Nat) ⊕ (Option Nat)) := bif x14 then F452_11 N a0 x2 x3 x4 x9 (w64 (x12 - 1)) else F452_11 N a0 x2 x3 x4 x9 x12
def F452_10 (N : Nat) (a0 : Option Nat) (x2 : Option Nat) (x3 : Option Nat) (x4 : Int) (x9 : Option Nat) (x11 : Option Nat) (x12 : Int) : Option ((Option Nat) ⊕ (Option Nat)) := F452_12 N a0 x2 x3 x4 x9 x12 (fcmp .lss .f64 x11 x3)
def F452_9 (N : Nat) (a0 : Option Nat) (x2 : Option Nat) (x3 : Option Nat) (x4 : Int) (x9 : Option Nat) (x10 : Bool) : Option ((Option Nat) ⊕ (Option Nat)) := bif x10 then (F453 N x9).bind fun y24 => F452_10 N a0 x2 x3 x4 x9 y24.1 y24.2 else (F452_5 N a0 x9).map Sum.inr
def F452_L8b (N : Nat) (a0 : Option Nat) (x2 : Option Nat) (x3 : Option Nat) (x4 : Int) (x9 : Option Nat) : Option ((Option Nat) ⊕ (Option Nat)) := F452_9 N a0 x2 x3 x4 x9 (fcmp .geq .f64 x9 x2)
def F452_L8 (N : Nat) (a0 : Option Nat) (x2 : Option Nat) (x3 : Option Nat) (x4 : Int) : (Option Nat) → Option ((Option Nat) ⊕ (Option Nat)) := fun v => F452_L8b N a0 x2 x3 x4 v
def F452_4 (N : Nat) (a0 : Option Nat) (x2 : Option Nat) (x3 : Option Nat) (x4 : Int) (x5 : Option Nat) : Option (Option Nat) := iterL (F452_L8 N a0 x2 x3 x4) N x5
def F452_13 (N : Nat) (a0 : Option Nat) (x2 : Option Nat) (x3 : Option Nat) (x4 : Int) (x15 : Bool) : Option (Option Nat) := bif x15 then F452_4 N a0 x2 x3 x4 (fneg .f64 a0) else F452_4 N a0 x2 x3 x4 a0
def F452_3 (N : Nat) (a0 : Option Nat) (x2 : Option Nat) (x3 : Option Nat) (x4 : Int) : Option (Option Nat) := F452_13 N a0 x2 x3 x4 (fcmp .lss .f64 a0 (some 0))
def F452_2 (N : Nat) (a0 : Option Nat) (x2 : Option Nat) : Option (Option Nat) := (F453 N x2).bind fun y25 => F452_3 N a0 x2 y25.1 y25.2
def F452_1 (N : Nat) (a0 : Option Nat) (a1 : Option Nat) (x1 : Bool) : Option (Option Nat) := bif x1 then lt (F446) fun y10 => some y10 else (F444 N a1).bind fun y26 => F452_2 N a0 y26
def F452 (N : Nat) (a0 : Option Nat) (a1 : Option Nat) : Option (Option Nat) := bif fcmp .eql .f64 a1 (some 0) then F452_1 N a0 a1 true else (F430 N a0 0).bind fun y28 => F452_1 N a0 a1 ((y28 || (F429 a0)) || (F429 a1))
theorem C452 (N : Nat) (a0 : Option Nat) (a1 : Option Nat) (r : Option Nat) (hr : some r = F452 N a0 a1) : Aw.Fn Hfaa.prog 452 [fl .f64 a0, fl .f64 a1] (fl .f64 r) := by
  refine fn_intro Hfaa.func452 rfl rfl rfl ?_
  intro bn0 w0 H0
  refine AW_seq1 ?_
  refine AW_region ?_
  refine AL_cons (LR_assign (at_f rfl) rfl) (sS sT0 sB0 sF0) ?_
  refine AL_nil ?_
  refine thenN ?_
  refine AW_seq1 ?_
  refine AW_cut (σ := Bool) (fun v => ⟨[(0, .inl (fl .f64 a0)), (1, .inl (fl .f64 a1)), (23, .inl (is (Bl v)))], []⟩) (fun v => some r = F452_1 N a0 a1 v) ?_ ?_
  · skip
    refine AW_region ?_
    refine AL_cons (LR_move (at_tmp 1 _) rfl) (sS (sT1 rfl) sB0 sF0) ?_
    refine AL_cons (LR_fcmp rfl (at_tmp 10 _) (at_f rfl) rfl) (sS (sA (sT1 rfl) sT0) sB0 sF0) ?_
    refine AL_cons (LR_move (at_tmp 11 _) rfl) (sS (sT1 rfl) sB0 sF0) ?_
    cases hb : fcmp .eql .f64 a1 (some 0)
    · have hr := hr.trans (cond_f hb)
      refine AL_cons (LR_on rfl rfl rfl (LR_move (at_tmp 0 _) rfl)) (sS (sT rfl (sT1 rfl)) sB0 sF0) ?_
      obtain ⟨y28, hy28, hr⟩ := bind_some hr
      refine AL_cons (LR_on rfl rfl rfl (LR_call Hfaa.func430 rfl rfl (C430 N a0 0 y28 hy28) (all_cons (at_tmp 13 _) (all_cons (at_c (v' := I64 0) rfl) all_nil)) rfl)) (sS (sT rfl (sA (sT1 rfl) (sA sT0 sT0))) sB0 sF0) ?_
      refine AL_cons (LR_pick (b := false) (at_tmp 12 _) (at_c (v' := Bl true) rfl) (at_tmp 14 _) rfl) (sS (sA (sT1 rfl) (sA sT0 (sT1 rfl))) sB0 sF0) ?_
      refine AL_cons (LR_move (at_tmp 15 _) rfl) (sS (sT1 rfl) sB0 sF0) ?_
      refine AL_cutAt 3 ⟨[(0, .inl (fl .f64 a0)), (1, .inl (fl .f64 a1)), (4, .inl (fl .f64 (some 0))), (10, .inl (fl .f64 a1)), (11, .inl (is (Bl false))), (12, .inl (is (Bl false))), (13, .inl (fl .f64 a0)), (14, .inl (is (Bl y28))), (15, .inl (is (Bl y28))), (16, .inl (is (Bl y28))), (19, .inl (is (Bl (y28 || (F429 a0)))))], []⟩ ?_ ?_
      · cases hb : y28
        · skip
          refine AL_cons (LR_on rfl rfl rfl (LR_move (at_tmp 0 _) rfl)) (sS (sT rfl (sT1 rfl)) sB0 sF0) ?_
          refine AL_cons (LR_on rfl rfl rfl (LR_call Hfaa.func429 rfl rfl (C429 a0 _ rfl) (all_cons (at_tmp 17 _) all_nil) rfl)) (sS (sT rfl (sA (sT1 rfl) sT0)) sB0 sF0) ?_
          refine AL_cons (LR_pick (b := false) (at_tmp 16 _) (at_c (v' := Bl true) rfl) (at_tmp 18 _) rfl) (sS (sA (sT1 rfl) (sA sT0 (sT1 rfl))) sB0 sF0) ?_
          exact AL_nil ⟨rfl, weak0 ((sT rfl (sT rfl (sT rfl (sT rfl (sT rfl (sT rfl (sT rfl (sT rfl (sT rfl (sT rfl (sT rfl sT0)))))))))))) sub_nil⟩
        · skip
          refine AL_cons (LR_off (b := true) rfl rfl rfl rfl) (sS (sT1 rfl) sB0 sF0) ?_
          refine AL_cons (LR_off (b := true) rfl rfl rfl rfl) (sS (sT1 rfl) sB0 sF0) ?_
          refine AL_cons (LR_pick (b := true) (at_tmp 16 _) (at_c (v' := Bl true) rfl) (at_tmp 18 _) rfl) (sS (sA (sT1 rfl) (sA sT0 (sT1 rfl))) sB0 sF0) ?_
          exact AL_nil ⟨rfl, weak0 ((sT rfl (sT rfl (sT rfl (sT rfl (sT rfl (sT rfl (sT rfl (sT rfl (sT rfl (sT rfl (sT rfl sT0)))))))))))) sub_nil⟩
      refine AL_cons (LR_move (at_tmp 19 _) rfl) (sS (sT1 rfl) sB0 sF0) ?_
      refine AL_cutAt 3 ⟨[(0, .inl (fl .f64 a0)), (1, .inl (fl .f64 a1)), (4, .inl (fl .f64 (some 0))), (10, .inl (fl .f64 a1)), (11, .inl (is (Bl false))), (12, .inl (is (Bl false))), (13, .inl (fl .f64 a0)), (14, .inl (is (Bl y28))), (15, .inl (is (Bl y28))), (16, .inl (is (Bl y28))), (19, .inl (is (Bl (y28 || (F429 a0))))), (20, .inl (is (Bl (y28 || (F429 a0))))), (23, .inl (is (Bl ((y28 || (F429 a0)) || (F429 a1)))))], []⟩ ?_ ?_
      · cases hb : y28 || (F429 a0)
        · skip
          refine AL_cons (LR_on rfl rfl rfl (LR_move (at_tmp 1 _) rfl)) (sS (sT rfl (sT1 rfl)) sB0 sF0) ?_
          refine AL_cons (LR_on rfl rfl rfl (LR_call Hfaa.func429 rfl rfl (C429 a1 _ rfl) (all_cons (at_tmp 21 _) all_nil) rfl)) (sS (sT rfl (sA (sT1 rfl) sT0)) sB0 sF0) ?_
          refine AL_cons (LR_pick (b := false) (at_tmp 20 _) (at_c (v' := Bl true) rfl) (at_tmp 22 _) rfl) (sS (sA (sT1 rfl) (sA sT0 (sT1 rfl))) sB0 sF0) ?_
          exact AL_nil ⟨rfl, weak0 ((sT rfl (sT rfl (sT rfl (sT rfl (sT rfl (sT rfl (sT rfl (sT rfl (sT rfl (sT rfl (sT rfl (sT rfl (sT rfl sT0)))))))))))))) sub_nil⟩
        · skip
          refine AL_cons (LR_off (b := true) rfl rfl rfl rfl) (sS (sT1 rfl) sB0 sF0) ?_
          refine AL_cons (LR_off (b := true) rfl rfl rfl rfl) (sS (sT1 rfl) sB0 sF0) ?_
          refine AL_cons (LR_pick (b := true) (at_tmp 20 _) (at_c (v' := Bl true) rfl) (at_tmp 22 _) rfl) (sS (sA (sT1 rfl) (sA sT0 (sT1 rfl))) sB0 sF0) ?_
          exact AL_nil ⟨rfl, weak0 ((sT rfl (sT rfl (sT rfl (sT rfl (sT rfl (sT rfl (sT rfl (sT rfl (sT rfl (sT rfl (sT rfl (sT rfl (sT rfl sT0)))))))))))))) sub_nil⟩
      refine AL_nil ?_
      exact thenN (cutLeaf (v := (y28 || (F429 a0)) || (F429 a1)) hr (weak0 ((sT rfl (sT rfl (sT rfl sT0)))) sub_nil))
    · have hr := hr.trans (cond_t hb)
      refine AL_cons (LR_off (b := true) rfl rfl rfl rfl) (sS (sT1 rfl) sB0 sF0) ?_
      refine AL_cons (LR_off (b := true) rfl rfl rfl rfl) (sS (sT1 rfl) sB0 sF0) ?_
      refine AL_cons (LR_pick (b := true) (at_tmp 12 _) (at_c (v' := Bl true) rfl) (at_tmp 14 _) rfl) (sS (sA (sT1 rfl) (sA sT0 (sT1 rfl))) sB0 sF0) ?_
      refine AL_cons (LR_move (at_tmp 15 _) rfl) (sS (sT1 rfl) sB0 sF0) ?_
      refine AL_cons (LR_off (b := true) rfl rfl rfl rfl) (sS (sT1 rfl) sB0 sF0) ?_
      refine AL_cons (LR_off (b := true) rfl rfl rfl rfl) (sS (sT1 rfl) sB0 sF0) ?_
      refine AL_cons (LR_pick (b := true) (at_tmp 16 _) (at_c (v' := Bl true) rfl) (at_tmp 18 _) rfl) (sS (sA (sT1 rfl) (sA sT0 (sT1 rfl))) sB0 sF0) ?_
      refine AL_cons (LR_move (at_tmp 19 _) rfl) (sS (sT1 rfl) sB0 sF0) ?_
      refine AL_cons (LR_off (b := true) rfl rfl rfl rfl) (sS (sT1 rfl) sB0 sF0) ?_
      refine AL_cons (LR_off (b := true) rfl rfl rfl rfl) (sS (sT1 rfl) sB0 sF0) ?_
      refine AL_cons (LR_pick (b := true) (at_tmp 20 _) (at_c (v' := Bl true) rfl) (at_tmp 22 _) rfl) (sS (sA (sT1 rfl) (sA sT0 (sT1 rfl))) sB0 sF0) ?_
      refine AL_nil ?_
      exact thenN (cutLeaf (v := true) hr (weak0 ((sT rfl (sT rfl (sT rfl sT0)))) sub_nil))
  · rintro x1 hr
    show AW Hfaa.prog _ _ _ ⟨[(0, .inl (fl .f64 a0)), (1, .inl (fl .f64 a1)), (23, .inl (is (Bl x1)))], []⟩
    have hr : some r = F452_1 N a0 a1 x1 := hr
    refine AW_condT (b := x1) rfl (fun h => ?_) (fun h => ?_)
    · have hr := hr.trans (cond_t h)
      clear h
      refine AW_seq1 ?_
      refine AW_region ?_
      obtain ⟨y10, hy10, hr⟩ := lt_some hr
      refine AL_cons (LR_call Hfaa.func446 rfl rfl (C446 y10 hy10) all_nil rfl) (sS sT0 sB0 sF0) ?_
      refine AL_cons (LR_assign (at_tmp 24 _) rfl) (sS (sT1 rfl) sB0 sF0) ?_
      refine AL_nil ?_
      refine thenN ?_
      refine AW_ret ?_
      refine thenR ?_
      obtain rfl := Option.some.inj hr
      exact res1 rfl (rvT rfl)
    · have hr := hr.trans (cond_f h)
      clear h
      refine AW_skip ?_
      refine thenN ?_
      refine AW_cut (σ := Option Nat) (fun v => ⟨[(0, .inl (fl .f64 a0)), (1, .inl (fl .f64 v))], []⟩) (fun v => some r = F452_2 N a0 v) ?_ ?_
      · skip
        refine AW_region ?_
        refine AL_cons (LR_move (at_tmp 1 _) rfl) (sS (sT1 rfl) sB0 sF0) ?_
        obtain ⟨y26, hy26, hr⟩ := bind_some hr
        refine AL_cons (LR_call Hfaa.func444 rfl rfl (C444 N a1 y26 hy26) (all_cons (at_tmp 25 _) all_nil) rfl) (sS (sA (sT1 rfl) sT0) sB0 sF0) ?_
        refine AL_cons (LR_assign (at_tmp 26 _) rfl) (sS (sT1 rfl) sB0 sF0) ?_
        refine AL_nil ?_
        exact thenN (cutLeaf (v := y26) hr (weak0 ((sT rfl (sT rfl sT0))) sub_nil))
      · rintro x2 hr
        show AW Hfaa.prog _ _ _ ⟨[(0, .inl (fl .f64 a0)), (1, .inl (fl .f64 x2))], []⟩
        have hr : some r = F452_2 N a0 x2 := hr
        refine AW_cut (σ := Option Nat × Int) (fun v => ⟨[(0, .inl (fl .f64 a0)), (1, .inl (fl .f64 x2)), (5, .inl (fl .f64 v.1)), (6, .inl (is (I64 v.2)))], []⟩) (fun v => some r = F452_3 N a0 x2 v.1 v.2) ?_ ?_
        · skip
          refine AW_region ?_
          refine AL_cons (LR_move (at_tmp 1 _) rfl) (sS (sT1 rfl) sB0 sF0) ?_
          obtain ⟨y25, hy25, hr⟩ := bind_some hr
          refine AL_cons (LR_call Hfaa.func453 rfl rfl (C453 N x2 y25 hy25) (all_cons (at_tmp 28 _) all_nil) rfl) (sS (sA (sT1 rfl) sT0) sB0 sF0) ?_
          refine AL_cons (LR_move (at_tmp 29 _) rfl) (sS (sT1 rfl) sB0 sF0) ?_
          refine AL_cons (LR_extract (at_tmp 27 _) rfl rfl) (sS (sT1 rfl) sB0 sF0) ?_
          refine AL_cons (LR_extract (at_tmp 27 _) rfl rfl) (sS (sT1 rfl) sB0 sF0) ?_
          refine AL_cons (LR_assign (at_tmp 30 _) rfl) (sS (sT1 rfl) sB0 sF0) ?_
          refine AL_cons (LR_assign (at_tmp 31 _) rfl) (sS (sT1 rfl) sB0 sF0) ?_
          refine AL_nil ?_
          exact thenN (cutLeaf (v := (y25.1, y25.2)) hr (weak0 ((sT rfl (sT rfl (sT rfl (sT rfl sT0))))) sub_nil))
        · rintro ⟨x3, x4⟩ hr
          show AW Hfaa.prog _ _ _ ⟨[(0, .inl (fl .f64 a0)), (1, .inl (fl .f64 x2)), (5, .inl (fl .f64 x3)), (6, .inl (is (I64 x4)))], []⟩
          have hr : some r = F452_3 N a0 x2 x3 x4 := hr
          refine AW_seq1 ?_
          refine AW_region ?_
          refine AL_cons (LR_move (at_tmp 0 _) rfl) (sS (sT1 rfl) sB0 sF0) ?_
          refine AL_cons (LR_assign (at_tmp 32 _) rfl) (sS (sT1 rfl) sB0 sF0) ?_
          refine AL_nil ?_
          refine thenN ?_
          refine AW_cut (σ := Option Nat) (fun v => ⟨[(0, .inl (fl .f64 a0)), (1, .inl (fl .f64 x2)), (5, .inl (fl .f64 x3)), (6, .inl (is (I64 x4))), (7, .inl (fl .f64 v))], []⟩) (fun v => some r = F452_4 N a0 x2 x3 x4 v) ?_ ?_
          · skip
            refine AW_cut (σ := Bool) (fun v => ⟨[(0, .inl (fl .f64 a0)), (1, .inl (fl .f64 x2)), (5, .inl (fl .f64 x3)), (6, .inl (is (I64 x4))), (7, .inl (fl .f64 a0)), (34, .inl (is (Bl v)))], []⟩) (fun v => some r = F452_13 N a0 x2 x3 x4 v) ?_ ?_
            · skip
              refine AW_region ?_
              refine AL_cons (LR_move (at_tmp 0 _) rfl) (sS (sT1 rfl) sB0 sF0) ?_
              refine AL_cons (LR_fcmp rfl (at_tmp 33 _) (at_f rfl) rfl) (sS (sA (sT1 rfl) sT0) sB0 sF0) ?_
              refine AL_nil ?_
              exact thenN (cutLeaf (v := fcmp .lss .f64 a0 (some 0)) hr (weak0 ((sT rfl (sT rfl (sT rfl (sT rfl (sT rfl (sT rfl sT0))))))) sub_nil))
            · rintro x15 hr
              show AW Hfaa.prog _ _ _ ⟨[(0, .inl (fl .f64 a0)), (1, .inl (fl .f64 x2)), (5, .inl (fl .f64 x3)), (6, .inl (is (I64 x4))), (7, .inl (fl .f64 a0)), (34, .inl (is (Bl x15)))], []⟩
              have hr : some r = F452_13 N a0 x2 x3 x4 x15 := hr
              refine AW_condT (b := x15) rfl (fun h => ?_) (fun h => ?_)
              · have hr := hr.trans (cond_t h)
                clear h
                refine AW_region ?_
                refine AL_cons (LR_move (at_tmp 0 _) rfl) (sS (sT1 rfl) sB0 sF0) ?_
                refine AL_cons (LR_fneg (at_tmp 35 _) rfl) (sS (sT1 rfl) sB0 sF0) ?_
                refine AL_cons (LR_assign (at_tmp 36 _) rfl) (sS (sT1 rfl) sB0 sF0) ?_
                refine AL_nil ?_
                exact thenN (cutLeaf (v := fneg .f64 a0) hr (weak0 ((sT rfl (sT rfl (sT rfl (sT rfl (sT rfl sT0)))))) sub_nil))
              · have hr := hr.trans (cond_f h)
                clear h
                refine AW_skip ?_
                exact thenN (cutLeaf (v := a0) hr (weak0 ((sT rfl (sT rfl (sT rfl (sT rfl (sT rfl sT0)))))) sub_nil))
          · rintro x5 hr
            show AW Hfaa.prog _ _ _ ⟨[(0, .inl (fl .f64 a0)), (1, .inl (fl .f64 x2)), (5, .inl (fl .f64 x3)), (6, .inl (is (I64 x4))), (7, .inl (fl .f64 x5))], []⟩
            have hr : some r = F452_4 N a0 x2 x3 x4 x5 := hr
            refine AW_cut (σ := Option Nat) (fun v => ⟨[(0, .inl (fl .f64 a0)), (7, .inl (fl .f64 v))], []⟩) (fun v => some r = F452_5 N a0 v) ?_ ?_
            · skip
              refine AW_block ?_
              refine AW_iterR (σ := Option Nat) (r := r) (x0 := x5) (emb := fun v => ⟨[(0, .inl (fl .f64 a0)), (1, .inl (fl .f64 x2)), (5, .inl (fl .f64 x3)), (6, .inl (is (I64 x4))), (7, .inl (fl .f64 v))], []⟩) ?_ hr ?_
              · exact weak0 ((sT rfl (sT rfl (sT rfl (sT rfl (sT rfl sT0)))))) sub_nil
              rintro x9 out2 hr
              show AW Hfaa.prog _ _ _ ⟨[(0, .inl (fl .f64 a0)), (1, .inl (fl .f64 x2)), (5, .inl (fl .f64 x3)), (6, .inl (is (I64 x4))), (7, .inl (fl .f64 x9))], []⟩
              have hr : some out2 = F452_L8b N a0 x2 x3 x4 x9 := hr
              refine AW_seq1 ?_
              refine AW_cut (σ := Bool) (fun v => ⟨[(0, .inl (fl .f64 a0)), (1, .inl (fl .f64 x2)), (5, .inl (fl .f64 x3)), (6, .inl (is (I64 x4))), (7, .inl (fl .f64 x9)), (39, .inl (is (Bl v)))], []⟩) (fun v => some out2 = F452_9 N a0 x2 x3 x4 x9 v) ?_ ?_
              · skip
                refine AW_region ?_
                refine AL_cons (LR_move (at_tmp 7 _) rfl) (sS (sT1 rfl) sB0 sF0) ?_
                refine AL_cons (LR_move (at_tmp 1 _) rfl) (sS (sT1 rfl) sB0 sF0) ?_
                refine AL_cons (LR_fcmp rfl (at_tmp 37 _) (at_tmp 38 _) rfl) (sS (sA (sT1 rfl) (sT1 rfl)) sB0 sF0) ?_
                refine AL_nil ?_
                exact thenN (cutLeaf (v := fcmp .geq .f64 x9 x2) hr (weak0 ((sT rfl (sT rfl (sT rfl (sT rfl (sT rfl (sT rfl sT0))))))) sub_nil))
              · rintro x10 hr
                show AW Hfaa.prog _ _ _ ⟨[(0, .inl (fl .f64 a0)), (1, .inl (fl .f64 x2)), (5, .inl (fl .f64 x3)), (6, .inl (is (I64 x4))), (7, .inl (fl .f64 x9)), (39, .inl (is (Bl x10)))], []⟩
                have hr : some out2 = F452_9 N a0 x2 x3 x4 x9 x10 := hr
                refine AW_condT (b := x10) rfl (fun h => ?_) (fun h => ?_)
                · have hr := hr.trans (cond_t h)
                  clear h
                  refine AW_skip ?_
                  refine thenN ?_
                  refine AW_block ?_
                  refine AW_cut (σ := Option Nat × Int) (fun v => ⟨[(0, .inl (fl .f64 a0)), (1, .inl (fl .f64 x2)), (5, .inl (fl .f64 x3)), (6, .inl (is (I64 x4))), (7, .inl (fl .f64 x9)), (8, .inl (fl .f64 v.1)), (9, .inl (is (I64 v.2)))], []⟩) (fun v => some out2 = F452_10 N a0 x2 x3 x4 x9 v.1 v.2) ?_ ?_
                  · skip
                    refine AW_region ?_
                    refine AL_cons (LR_move (at_tmp 7 _) rfl) (sS (sT1 rfl) sB0 sF0) ?_
                    obtain ⟨y24, hy24, hr⟩ := bind_some hr
                    refine AL_cons (LR_call Hfaa.func453 rfl rfl (C453 N x9 y24 hy24) (all_cons (at_tmp 41 _) all_nil) rfl) (sS (sA (sT1 rfl) sT0) sB0 sF0) ?_
                    refine AL_cons (LR_move (at_tmp 42 _) rfl) (sS (sT1 rfl) sB0 sF0) ?_
                    refine AL_cons (LR_extract (at_tmp 40 _) rfl rfl) (sS (sT1 rfl) sB0 sF0) ?_
                    refine AL_cons (LR_extract (at_tmp 40 _) rfl rfl) (sS (sT1 rfl) sB0 sF0) ?_
                    refine AL_cons (LR_assign (at_tmp 43 _) rfl) (sS (sT1 rfl) sB0 sF0) ?_
                    refine AL_cons (LR_assign (at_tmp 44 _) rfl) (sS (sT1 rfl) sB0 sF0) ?_
                    refine AL_nil ?_
                    exact thenN (cutLeaf (v := (y24.1, y24.2)) hr (weak0 ((sT rfl (sT rfl (sT rfl (sT rfl (sT rfl (sT rfl (sT rfl sT0)))))))) sub_nil))
                  · rintro ⟨x11, x12⟩ hr
                    show AW Hfaa.prog _ _ _ ⟨[(0, .inl (fl .f64 a0)), (1, .inl (fl .f64 x2)), (5, .inl (fl .f64 x3)), (6, .inl (is (I64 x4))), (7, .inl (fl .f64 x9)), (8, .inl (fl .f64 x11)), (9, .inl (is (I64 x12)))], []⟩
                    have hr : some out2 = F452_10 N a0 x2 x3 x4 x9 x11 x12 := hr
                    refine AW_cut (σ := Int) (fun v => ⟨[(0, .inl (fl .f64 a0)), (1, .inl (fl .f64 x2)), (5, .inl (fl .f64 x3)), (6, .inl (is (I64 x4))), (7, .inl (fl .f64 x9)), (9, .inl (is (I64 v)))], []⟩) (fun v => some out2 = F452_11 N a0 x2 x3 x4 x9 v) ?_ ?_
                    · skip
                      refine AW_cut (σ := Bool) (fun v => ⟨[(0, .inl (fl .f64 a0)), (1, .inl (fl .f64 x2)), (5, .inl (fl .f64 x3)), (6, .inl (is (I64 x4))), (7, .inl (fl .f64 x9)), (9, .inl (is (I64 x12))), (47, .inl (is (Bl v)))], []⟩) (fun v => some out2 = F452_12 N a0 x2 x3 x4 x9 x12 v) ?_ ?_
                      · skip
                        refine AW_region ?_
                        refine AL_cons (LR_move (at_tmp 8 _) rfl) (sS (sT1 rfl) sB0 sF0) ?_
                        refine AL_cons (LR_move (at_tmp 5 _) rfl) (sS (sT1 rfl) sB0 sF0) ?_
                        refine AL_cons (LR_fcmp rfl (at_tmp 45 _) (at_tmp 46 _) rfl) (sS (sA (sT1 rfl) (sT1 rfl)) sB0 sF0) ?_
                        refine AL_nil ?_
                        exact thenN (cutLeaf (v := fcmp .lss .f64 x11 x3) hr (weak0 ((sT rfl (sT rfl (sT rfl (sT rfl (sT rfl (sT rfl (sT rfl sT0)))))))) sub_nil))
                      · rintro x14 hr
                        show AW Hfaa.prog _ _ _ ⟨[(0, .inl (fl .f64 a0)), (1, .inl (fl .f64 x2)), (5, .inl (fl .f64 x3)), (6, .inl (is (I64 x4))), (7, .inl (fl .f64 x9)), (9, .inl (is (I64 x12))), (47, .inl (is (Bl x14)))], []⟩
                        have hr : some out2 = F452_12 N a0 x2 x3 x4 x9 x12 x14 := hr
                        refine AW_condT (b := x14) rfl (fun h => ?_) (fun h => ?_)
                        · have hr := hr.trans (cond_t h)
                          clear h
                          refine AW_region ?_
                          refine AL_cons (LR_move (at_tmp 9 _) rfl) (sS (sT1 rfl) sB0 sF0) ?_
                          refine AL_cons (LR_bin (at_tmp 48 _) (at_c (v' := I64 1) rfl) (sub_I64 x12 1) rfl) (sS (sA (sT1 rfl) sT0) sB0 sF0) ?_
                          refine AL_cons (LR_assign (at_tmp 49 _) rfl) (sS (sT1 rfl) sB0 sF0) ?_
                          refine AL_nil ?_
                          exact thenN (cutLeaf (v := w64 (x12 - 1)) hr (weak0 ((sT rfl (sT rfl (sT rfl (sT rfl (sT rfl (sT rfl sT0))))))) sub_nil))
                        · have hr := hr.trans (cond_f h)
                          clear h
                          refine AW_skip ?_
                          exact thenN (cutLeaf (v := x12) hr (weak0 ((sT rfl (sT rfl (sT rfl (sT rfl (sT rfl (sT rfl sT0))))))) sub_nil))
                    · rintro x13 hr
                      show AW Hfaa.prog _ _ _ ⟨[(0, .inl (fl .f64 a0)), (1, .inl (fl .f64 x2)), (5, .inl (fl .f64 x3)), (6, .inl (is (I64 x4))), (7, .inl (fl .f64 x9)), (9, .inl (is (I64 x13)))], []⟩
                      have hr : some out2 = F452_11 N a0 x2 x3 x4 x9 x13 := hr
                      refine AW_region ?_
                      refine AL_cons (LR_move (at_tmp 7 _) rfl) (sS (sT1 rfl) sB0 sF0) ?_
                      refine AL_cons (LR_move (at_tmp 1 _) rfl) (sS (sT1 rfl) sB0 sF0) ?_
                      refine AL_cons (LR_move (at_tmp 9 _) rfl) (sS (sT1 rfl) sB0 sF0) ?_
                      refine AL_cons (LR_move (at_tmp 6 _) rfl) (sS (sT1 rfl) sB0 sF0) ?_
                      refine AL_cons (LR_bin (at_tmp 52 _) (at_tmp 53 _) (sub_I64 x13 x4) rfl) (sS (sA (sT1 rfl) (sT1 rfl)) sB0 sF0) ?_
                      obtain ⟨y23, hy23, hr⟩ := bind_some hr
                      refine AL_cons (LR_call Hfaa.func428 rfl rfl (C428 N x2 (w64 (x13 - x4)) y23 hy23) (all_cons (at_tmp 51 _) (all_cons (at_tmp 54 _) all_nil)) rfl) (sS (sA (sT1 rfl) (sA (sT1 rfl) sT0)) sB0 sF0) ?_
                      refine AL_cons (LR_fbin rfl (at_tmp 50 _) (at_tmp 55 _) rfl) (sS (sA (sT1 rfl) (sT1 rfl)) sB0 sF0) ?_
                      refine AL_cons (LR_assign (at_tmp 56 _) rfl) (sS (sT1 rfl) sB0 sF0) ?_
                      refine AL_nil ?_
                      refine blN ?_
                      exact thenN (loopNext (x' := fbits .sub .f64 x9 y23) hr (weak0 ((sT rfl (sT rfl (sT rfl (sT rfl (sT rfl sT0)))))) sub_nil))
                · have hr := hr.trans (cond_f h)
                  clear h
                  refine AW_exit ?_
                  refine thenX ?_
                  obtain ⟨r', hro, hr⟩ := map_inr hr
                  refine thenX (loopOut hro (fun he => ?_))
                  rw [he] at hr
                  refine blH ?_
                  exact thenN (cutLeaf (v := x9) hr (weak0 ((sT rfl (sT rfl sT0))) sub_nil))
            · rintro x6 hr
              show AW Hfaa.prog _ _ _ ⟨[(0, .inl (fl .f64 a0)), (7, .inl (fl .f64 x6))], []⟩
              have hr : some r = F452_5 N a0 x6 := hr
              refine AW_cut (σ := Option Nat) (fun v => ⟨[(7, .inl (fl .f64 v))], []⟩) (fun v => some r = F452_6 N v) ?_ ?_
              · skip
                refine AW_cut (σ := Bool) (fun v => ⟨[(7, .inl (fl .f64 x6)), (58, .inl (is (Bl v)))], []⟩) (fun v => some r = F452_7 N x6 v) ?_ ?_
                · skip
                  refine AW_region ?_
                  refine AL_cons (LR_move (at_tmp 0 _) rfl) (sS (sT1 rfl) sB0 sF0) ?_
                  refine AL_cons (LR_fcmp rfl (at_tmp 57 _) (at_f rfl) rfl) (sS (sA (sT1 rfl) sT0) sB0 sF0) ?_
                  refine AL_nil ?_
                  exact thenN (cutLeaf (v := fcmp .lss .f64 a0 (some 0)) hr (weak0 ((sT rfl (sT rfl sT0))) sub_nil))
                · rintro x8 hr
                  show AW Hfaa.prog _ _ _ ⟨[(7, .inl (fl .f64 x6)), (58, .inl (is (Bl x8)))], []⟩
                  have hr : some r = F452_7 N x6 x8 := hr
                  refine AW_condT (b := x8) rfl (fun h => ?_) (fun h => ?_)
                  · have hr := hr.trans (cond_t h)
                    clear h
                    refine AW_region ?_
                    refine AL_cons (LR_move (at_tmp 7 _) rfl) (sS (sT1 rfl) sB0 sF0) ?_
                    refine AL_cons (LR_fneg (at_tmp 59 _) rfl) (sS (sT1 rfl) sB0 sF0) ?_
                    refine AL_cons (LR_assign (at_tmp 60 _) rfl) (sS (sT1 rfl) sB0 sF0) ?_
                    refine AL_nil ?_
                    exact thenN (cutLeaf (v := fneg .f64 x6) hr (weak0 ((sT rfl sT0)) sub_nil))
                  · have hr := hr.trans (cond_f h)
                    clear h
                    refine AW_skip ?_
                    exact thenN (cutLeaf (v := x6) hr (weak0 ((sT rfl sT0)) sub_nil))
              · rintro x7 hr
                show AW Hfaa.prog _ _ _ ⟨[(7, .inl (fl .f64 x7))], []⟩
                have hr : some r = F452_6 N x7 := hr
                refine AW_seq1 ?_
                refine AW_region ?_
                refine AL_cons (LR_move (at_tmp 7 _) rfl) (sS (sT1 rfl) sB0 sF0) ?_
                refine AL_cons (LR_assign (at_tmp 61 _) rfl) (sS (sT1 rfl) sB0 sF0) ?_
                refine AL_nil ?_
                refine thenN ?_
                refine AW_ret ?_
                obtain rfl := Option.some.inj hr
                exact res1 rfl (rvT rfl)
/-- math.Mod -/
def F448 (N : Nat) (a0 : Option Nat) (a1 : Option Nat) : Option (Option Nat) := (F452 N a0 a1).bind fun y2 => some y2
theorem C448 (N : Nat) (a0 : Option Nat) (a1 : Option Nat) (r : Option Nat) (hr : some r = F448 N a0 a1) : Aw.Fn Hfaa.prog 448 [fl .f64 a0, fl .f64 a1] (fl .f64 r) := by
  refine fn_intro Hfaa.func448 rfl rfl rfl ?_
  intro bn0 w0 H0
  refine AW_seq1 ?_
  refine AW_region ?_
  refine AL_cons (LR_assign (at_f rfl) rfl) (sS sT0 sB0 sF0) ?_
  refine AL_nil ?_
  refine thenN ?_
  refine AW_seq1 ?_
  refine AW_condC (fun h => by cases h) (fun _ => ?_)
  refine AW_skip ?_
  refine thenN ?_
  refine AW_seq1 ?_
  refine AW_region ?_
  refine AL_cons (LR_move (at_tmp 0 _) rfl) (sS (sT1 rfl) sB0 sF0) ?_
  refine AL_cons (LR_move (at_tmp 1 _) rfl) (sS (sT1 rfl) sB0 sF0) ?_
  obtain ⟨y2, hy2, hr⟩ := bind_some hr
  refine AL_cons (LR_call Hfaa.func452 rfl rfl (C452 N a0 a1 y2 hy2) (all_cons (at_tmp 8 _) (all_cons (at_tmp 9 _) all_nil)) rfl) (sS (sA (sT1 rfl) (sA (sT1 rfl) sT0)) sB0 sF0) ?_
  refine AL_cons (LR_assign (at_tmp 10 _) rfl) (sS (sT1 rfl) sB0 sF0) ?_
  refine AL_nil ?_
  refine thenN ?_
  refine AW_ret ?_
  obtain rfl := Option.some.inj hr
  exact res1 rfl (rvT rfl)
/-- math.remainder -/
def F435_8 (N : Nat) (x9 : Option Nat) : Option (Option Nat) := some x9
def F435_7 (N : Nat) (x4 : Bool) (x8 : Option Nat) : Option (Option Nat) := bif x4 then F435_8 N (fneg .f64 x8) else F435_8 N x8
def F435_12 (N : Nat) (x4 : Bool) (x5 : Option Nat) (x12 : Option Nat) (x13 : Bool) : Option (Option Nat) := bif x13 then F435_7 N x4 (fbits .sub .f64 x12 x5) else F435_7 N x4 x12
def F435_11 (N : Nat) (x4 : Bool) (x5 : Option Nat) (x12 : Option Nat) : Option (Option Nat) := F435_12 N x4 x5 x12 (fcmp .geq .f64 (fbits .add .f64 x12 x12) x5)
def F435_10 (N : Nat) (x4 : Bool) (x5 : Option Nat) (x7 : Option Nat) (x11 : Bool) : Option (Option Nat) := bif x11 then F435_11 N x4 x5 (fbits .sub .f64 x7 x5) else F435_7 N x4 x7
def F435_16 (N : Nat) (x4 : Bool) (x5 : Option Nat) (x16 : Option Nat) (x17 : Bool) : Option (Option Nat) := bif x17 then F435_7 N x4 (fbits .sub .f64 x16 x5) else F435_7 N x4 x16
def F435_15 (N : Nat) (x4 : Bool) (x5 : Option Nat) (x14 : Option Nat) (x16 : Option Nat) : Option (Option Nat) := F435_16 N x4 x5 x16 (fcmp .geq .f64 x16 x14)
def F435_14 (N : Nat) (x4 : Bool) (x5 : Option Nat) (x7 : Option Nat) (x14 : Option Nat) (x15 : Bool) : Option (Option Nat) := bif x15 then F435_15 N x4 x5 x14 (fbits .sub .f64 x7 x5) else F435_7 N x4 x7
def F435_13 (N : Nat) (x4 : Bool) (x5 : Option Nat) (x7 : Option Nat) (x14 : Option Nat) : Option (Option Nat) := F435_14 N x4 x5 x7 x14 (fcmp .gtr .f64 x7 x14)
def F435_9 (N : Nat) (x4 : Bool) (x5 : Option Nat) (x7 : Option Nat) (x10 : Bool) : Option (Option Nat) := bif x10 then F435_10 N x4 x5 x7 (fcmp .gtr .f64 (fbits .add .f64 x7 x7) x5) else F435_13 N x4 x5 x7 (fbits .mul .f64 (some 4602678819172646912) x5)
def F435_6 (N : Nat) (x4 : Bool) (x5 : Option Nat) (x7 : Option Nat) : Option (Option Nat) := F435_9 N x4 x5 x7 (fcmp .lss .f64 x5 (some 9007199254740992))
def F435_17 (N : Nat) (x3 : Option Nat) (x4 : Bool) (x5 : Option Nat) (x18 : Bool) : Option (Option Nat) := bif x18 then (F448 N x3 (fbits .add .f64 x5 x5)).bind fun y18 => F435_6 N x4 x5 y18 else F435_6 N x4 x5 x3
def F435_5 (N : Nat) (x3 : Option Nat) (x4 : Bool) (x5 : Option Nat) (x6 : Bool) : Option (Option Nat) := bif x6 then bif x4 then some (fneg .f64 (some 0)) else some (some 0) else F435_17 N x3 x4 x5 (fcmp .leq .f64 x5 (some 9214364837600034815))
def F435_4 (N : Nat) (x3 : Option Nat) (x4 : Bool) (x5 : Option Nat) : Option (Option Nat) := F435_5 N x3 x4 x5 (fcmp .eql .f64 x3 x5)
def F435_18 (N : Nat) (a1 : Option Nat) (x3 : Option Nat) (x4 : Bool) (x19 : Bool) : Option (Option Nat) := bif x19 then F435_4 N x3 x4 (fneg .f64 a1) else F435_4 N x3 x4 a1
def F435_3 (N : Nat) (a1 : Option Nat) (x3 : Option Nat) (x4 : Bool) : Option (Option Nat) := F435_18 N a1 x3 x4 (fcmp .lss .f64 a1 (some 0))
def F435_20 (N : Nat) (a1 : Option Nat) (x21 : Option Nat) : Option (Option Nat) := F435_3 N a1 x21 true
def F435_19 (N : Nat) (a0 : Option Nat) (a1 : Option Nat) (x20 : Bool) : Option (Option Nat) := bif x20 then F435_20 N a1 (fneg .f64 a0) else F435_3 N a1 a0 false
def F435_2 (N : Nat) (a0 : Option Nat) (a1 : Option Nat) (x2 : Bool) : Option (Option Nat) := bif x2 then some a0 else F435_19 N a0 a1 (fcmp .lss .f64 a0 (some 0))
def F435_1 (N : Nat) (a0 : Option Nat) (a1 : Option Nat) (x1 : Bool) : Option (Option Nat) := bif x1 then lt (F446) fun y15 => some y15 else (F430 N a1 0).bind fun y19 => F435_2 N a0 a1 y19
def F435 (N : Nat) (a0 : Option Nat) (a1 : Option Nat) : Option (Option Nat) := lt (F429 a0) fun y20 => bif y20 || (F429 a1) then F435_1 N a0 a1 true else (F430 N a0 0).bind fun y22 => F435_1 N a0 a1 (y22 || (fcmp .eql .f64 a1 (some 0)))
theorem C435 (N : Nat) (a0 : Option Nat) (a1 : Option Nat) (r : Option Nat) (hr : some r = F435 N a0 a1) : Aw.Fn Hfaa.prog 435 [fl .f64 a0, fl .f64 a1] (fl .f64 r) := by
  refine fn_intro Hfaa.func435 rfl rfl rfl ?_
  intro bn0 w0 H0
  refine AW_seq1 ?_
  refine AW_region ?_
  refine AL_cons (LR_assign (at_f rfl) rfl) (sS sT0 sB0 sF0) ?_
  refine AL_nil ?_
  refine thenN ?_
  refine AW_seq1 ?_
  refine AW_block ?_
  refine AW_cut (σ := Bool) (fun v => ⟨[(0, .inl (fl .f64 a0)), (1, .inl (fl .f64 a1)), (8, .inl (is (Bl v)))], []⟩) (fun v => some r = F435_1 N a0 a1 v) ?_ ?_
  · skip
    refine AW_region ?_
    refine AL_cons (LR_move (at_tmp 0 _) rfl) (sS (sT1 rfl) sB0 sF0) ?_
    obtain ⟨y20, hy20, hr⟩ := lt_some hr
    refine AL_cons (LR_call Hfaa.func429 rfl rfl (C429 a0 y20 hy20) (all_cons (at_tmp 9 _) all_nil) rfl) (sS (sA (sT1 rfl) sT0) sB0 sF0) ?_
    refine AL_cons (LR_move (at_tmp 10 _) rfl) (sS (sT1 rfl) sB0 sF0) ?_
    refine AL_cutAt 3 ⟨[(0, .inl (fl .f64 a0)), (1, .inl (fl .f64 a1)), (4, .inl (fl .f64 (some 0))), (9, .inl (fl .f64 a0)), (10, .inl (is (Bl y20))), (11, .inl (is (Bl y20))), (14, .inl (is (Bl (y20 || (F429 a1)))))], []⟩ ?_ ?_
    · cases hb : y20
      · skip
        refine AL_cons (LR_on rfl rfl rfl (LR_move (at_tmp 1 _) rfl)) (sS (sT rfl (sT1 rfl)) sB0 sF0) ?_
        refine AL_cons (LR_on rfl rfl rfl (LR_call Hfaa.func429 rfl rfl (C429 a1 _ rfl) (all_cons (at_tmp 12 _) all_nil) rfl)) (sS (sT rfl (sA (sT1 rfl) sT0)) sB0 sF0) ?_
        refine AL_cons (LR_pick (b := false) (at_tmp 11 _) (at_c (v' := Bl true) rfl) (at_tmp 13 _) rfl) (sS (sA (sT1 rfl) (sA sT0 (sT1 rfl))) sB0 sF0) ?_
        exact AL_nil ⟨rfl, weak0 ((sT rfl (sT rfl (sT rfl (sT rfl (sT rfl (sT rfl (sT rfl sT0)))))))) sub_nil⟩
      · skip
        refine AL_cons (LR_off (b := true) rfl rfl rfl rfl) (sS (sT1 rfl) sB0 sF0) ?_
        refine AL_cons (LR_off (b := true) rfl rfl rfl rfl) (sS (sT1 rfl) sB0 sF0) ?_
        refine AL_cons (LR_pick (b := true) (at_tmp 11 _) (at_c (v' := Bl true) rfl) (at_tmp 13 _) rfl) (sS (sA (sT1 rfl) (sA sT0 (sT1 rfl))) sB0 sF0) ?_
        exact AL_nil ⟨rfl, weak0 ((sT rfl (sT rfl (sT rfl (sT rfl (sT rfl (sT rfl (sT rfl sT0)))))))) sub_nil⟩
    refine AL_cons (LR_move (at_tmp 14 _) rfl) (sS (sT1 rfl) sB0 sF0) ?_
    cases hb : y20 || (F429 a1)
    · have hr := hr.trans (cond_f hb)
      refine AL_cons (LR_on rfl rfl rfl (LR_move (at_tmp 0 _) rfl)) (sS (sT rfl (sT1 rfl)) sB0 sF0) ?_
      obtain ⟨y22, hy22, hr⟩ := bind_some hr
      refine AL_cons (LR_on rfl rfl rfl (LR_call Hfaa.func430 rfl rfl (C430 N a0 0 y22 hy22) (all_cons (at_tmp 16 _) (all_cons (at_c (v' := I64 0) rfl) all_nil)) rfl)) (sS (sT rfl (sA (sT1 rfl) (sA sT0 sT0))) sB0 sF0) ?_
      refine AL_cons (LR_pick (b := false) (at_tmp 15 _) (at_c (v' := Bl true) rfl) (at_tmp 17 _) rfl) (sS (sA (sT1 rfl) (sA sT0 (sT1 rfl))) sB0 sF0) ?_
      refine AL_cons (LR_move (at_tmp 18 _) rfl) (sS (sT1 rfl) sB0 sF0) ?_
      refine AL_cutAt 3 ⟨[(0, .inl (fl .f64 a0)), (1, .inl (fl .f64 a1)), (4, .inl (fl .f64 (some 0))), (9, .inl (fl .f64 a0)), (10, .inl (is (Bl y20))), (11, .inl (is (Bl y20))), (14, .inl (is (Bl false))), (15, .inl (is (Bl false))), (16, .inl (fl .f64 a0)), (17, .inl (is (Bl y22))), (18, .inl (is (Bl y22))), (19, .inl (is (Bl y22))), (22, .inl (is (Bl (y22 || (fcmp .eql .f64 a1 (some 0))))))], []⟩ ?_ ?_
      · cases hb : y22
        · skip
          refine AL_cons (LR_on rfl rfl rfl (LR_move (at_tmp 1 _) rfl)) (sS (sT rfl (sT1 rfl)) sB0 sF0) ?_
          refine AL_cons (LR_on rfl rfl rfl (LR_fcmp rfl (at_tmp 20 _) (at_f rfl) rfl)) (sS (sT rfl (sA (sT1 rfl) sT0)) sB0 sF0) ?_
          refine AL_cons (LR_pick (b := false) (at_tmp 19 _) (at_c (v' := Bl true) rfl) (at_tmp 21 _) rfl) (sS (sA (sT1 rfl) (sA sT0 (sT1 rfl))) sB0 sF0) ?_
          exact AL_nil ⟨rfl, weak0 ((sT rfl (sT rfl (sT rfl (sT rfl (sT rfl (sT rfl (sT rfl (sT rfl (sT rfl (sT rfl (sT rfl (sT rfl (sT rfl sT0)))))))))))))) sub_nil⟩
        · skip
          refine AL_cons (LR_off (b := true) rfl rfl rfl rfl) (sS (sT1 rfl) sB0 sF0) ?_
          refine AL_cons (LR_off (b := true) rfl rfl rfl rfl) (sS (sT1 rfl) sB0 sF0) ?_
          refine AL_cons (LR_pick (b := true) (at_tmp 19 _) (at_c (v' := Bl true) rfl) (at_tmp 21 _) rfl) (sS (sA (sT1 rfl) (sA sT0 (sT1 rfl))) sB0 sF0) ?_
          exact AL_nil ⟨rfl, weak0 ((sT rfl (sT rfl (sT rfl (sT rfl (sT rfl (sT rfl (sT rfl (sT rfl (sT rfl (sT rfl (sT rfl (sT rfl (sT rfl sT0)))))))))))))) sub_nil⟩
      refine AL_cons (LR_assign (at_tmp 22 _) rfl) (sS (sT1 rfl) sB0 sF0) ?_
      refine AL_nil ?_
      exact thenN (cutLeaf (v := y22 || (fcmp .eql .f64 a1 (some 0))) hr (weak0 ((sT rfl (sT rfl (sT rfl sT0)))) sub_nil))
    · have hr := hr.trans (cond_t hb)
      refine AL_cons (LR_off (b := true) rfl rfl rfl rfl) (sS (sT1 rfl) sB0 sF0) ?_
      refine AL_cons (LR_off (b := true) rfl rfl rfl rfl) (sS (sT1 rfl) sB0 sF0) ?_
      refine AL_cons (LR_pick (b := true) (at_tmp 15 _) (at_c (v' := Bl true) rfl) (at_tmp 17 _) rfl) (sS (sA (sT1 rfl) (sA sT0 (sT1 rfl))) sB0 sF0) ?_
      refine AL_cons (LR_move (at_tmp 18 _) rfl) (sS (sT1 rfl) sB0 sF0) ?_
      refine AL_cons (LR_off (b := true) rfl rfl rfl rfl) (sS (sT1 rfl) sB0 sF0) ?_
      refine AL_cons (LR_off (b := true) rfl rfl rfl rfl) (sS (sT1 rfl) sB0 sF0) ?_
      refine AL_cons (LR_pick (b := true) (at_tmp 19 _) (at_c (v' := Bl true) rfl) (at_tmp 21 _) rfl) (sS (sA (sT1 rfl) (sA sT0 (sT1 rfl))) sB0 sF0) ?_
      refine AL_cons (LR_assign (at_tmp 22 _) rfl) (sS (sT1 rfl) sB0 sF0) ?_
      refine AL_nil ?_
      exact thenN (cutLeaf (v := true) hr (weak0 ((sT rfl (sT rfl (sT rfl sT0)))) sub_nil))
  · rintro x1 hr
    show AW Hfaa.prog _ _ _ ⟨[(0, .inl (fl .f64 a0)), (1, .inl (fl .f64 a1)), (8, .inl (is (Bl x1)))], []⟩
    have hr : some r = F435_1 N a0 a1 x1 := hr
    refine AW_condT (b := x1) rfl (fun h => ?_) (fun h => ?_)
    · have hr := hr.trans (cond_t h)
      clear h
      refine AW_seq1 ?_
      refine AW_region ?_
      obtain ⟨y15, hy15, hr⟩ := lt_some hr
      refine AL_cons (LR_call Hfaa.func446 rfl rfl (C446 y15 hy15) all_nil rfl) (sS sT0 sB0 sF0) ?_
      refine AL_cons (LR_assign (at_tmp 23 _) rfl) (sS (sT1 rfl) sB0 sF0) ?_
      refine AL_nil ?_
      refine thenN ?_
      refine AW_ret ?_
      refine blR ?_
      refine thenR ?_
      obtain rfl := Option.some.inj hr
      exact res1 rfl (rvT rfl)
    · have hr := hr.trans (cond_f h)
      clear h
      refine AW_cut (σ := Bool) (fun v => ⟨[(0, .inl (fl .f64 a0)), (1, .inl (fl .f64 a1)), (24, .inl (is (Bl v)))], []⟩) (fun v => some r = F435_2 N a0 a1 v) ?_ ?_
      · skip
        refine AW_region ?_
        refine AL_cons (LR_move (at_tmp 1 _) rfl) (sS (sT1 rfl) sB0 sF0) ?_
        obtain ⟨y19, hy19, hr⟩ := bind_some hr
        refine AL_cons (LR_call Hfaa.func430 rfl rfl (C430 N a1 0 y19 hy19) (all_cons (at_tmp 25 _) (all_cons (at_c (v' := I64 0) rfl) all_nil)) rfl) (sS (sA (sT1 rfl) (sA sT0 sT0)) sB0 sF0) ?_
        refine AL_cons (LR_assign (at_tmp 26 _) rfl) (sS (sT1 rfl) sB0 sF0) ?_
        refine AL_nil ?_
        exact thenN (cutLeaf (v := y19) hr (weak0 ((sT rfl (sT rfl (sT rfl sT0)))) sub_nil))
      · rintro x2 hr
        show AW Hfaa.prog _ _ _ ⟨[(0, .inl (fl .f64 a0)), (1, .inl (fl .f64 a1)), (24, .inl (is (Bl x2)))], []⟩
        have hr : some r = F435_2 N a0 a1 x2 := hr
        refine AW_condT (b := x2) rfl (fun h => ?_) (fun h => ?_)
        · have hr := hr.trans (cond_t h)
          clear h
          refine AW_seq1 ?_
          refine AW_region ?_
          refine AL_cons (LR_move (at_tmp 0 _) rfl) (sS (sT1 rfl) sB0 sF0) ?_
          refine AL_cons (LR_assign (at_tmp 27 _) rfl) (sS (sT1 rfl) sB0 sF0) ?_
          refine AL_nil ?_
          refine thenN ?_
          refine AW_ret ?_
          refine blR ?_
          refine thenR ?_
          obtain rfl := Option.some.inj hr
          exact res1 rfl (rvT rfl)
        · have hr := hr.trans (cond_f h)
          clear h
          refine AW_skip ?_
          refine blN ?_
          refine thenN ?_
          refine AW_seq1 ?_
          refine AW_region ?_
          refine AL_cons (LR_assign (at_c (v' := Bl false) rfl) rfl) (sS sT0 sB0 sF0) ?_
          refine AL_nil ?_
          refine thenN ?_
          refine AW_cut (σ := Option Nat × Bool) (fun v => ⟨[(0, .inl (fl .f64 v.1)), (1, .inl (fl .f64 a1)), (5, .inl (is (Bl v.2)))], []⟩) (fun v => some r = F435_3 N a1 v.1 v.2) ?_ ?_
          · skip
            refine AW_cut (σ := Bool) (fun v => ⟨[(0, .inl (fl .f64 a0)), (1, .inl (fl .f64 a1)), (5, .inl (is (Bl false))), (29, .inl (is (Bl v)))], []⟩) (fun v => some r = F435_19 N a0 a1 v) ?_ ?_
            · skip
              refine AW_region ?_
              refine AL_cons (LR_move (at_tmp 0 _) rfl) (sS (sT1 rfl) sB0 sF0) ?_
              refine AL_cons (LR_fcmp rfl (at_tmp 28 _) (at_f rfl) rfl) (sS (sA (sT1 rfl) sT0) sB0 sF0) ?_
              refine AL_nil ?_
              exact thenN (cutLeaf (v := fcmp .lss .f64 a0 (some 0)) hr (weak0 ((sT rfl (sT rfl (sT rfl (sT rfl sT0))))) sub_nil))
            · rintro x20 hr
              show AW Hfaa.prog _ _ _ ⟨[(0, .inl (fl .f64 a0)), (1, .inl (fl .f64 a1)), (5, .inl (is (Bl false))), (29, .inl (is (Bl x20)))], []⟩
              have hr : some r = F435_19 N a0 a1 x20 := hr
              refine AW_condT (b := x20) rfl (fun h => ?_) (fun h => ?_)
              · have hr := hr.trans (cond_t h)
                clear h
                refine AW_cut (σ := Option Nat) (fun v => ⟨[(0, .inl (fl .f64 v)), (1, .inl (fl .f64 a1))], []⟩) (fun v => some r = F435_20 N a1 v) ?_ ?_
                · skip
                  refine AW_region ?_
                  refine AL_cons (LR_move (at_tmp 0 _) rfl) (sS (sT1 rfl) sB0 sF0) ?_
                  refine AL_cons (LR_fneg (at_tmp 30 _) rfl) (sS (sT1 rfl) sB0 sF0) ?_
                  refine AL_cons (LR_assign (at_tmp 31 _) rfl) (sS (sT1 rfl) sB0 sF0) ?_
                  refine AL_nil ?_
                  exact thenN (cutLeaf (v := fneg .f64 a0) hr (weak0 ((sT rfl (sT rfl sT0))) sub_nil))
                · rintro x21 hr
                  show AW Hfaa.prog _ _ _ ⟨[(0, .inl (fl .f64 x21)), (1, .inl (fl .f64 a1))], []⟩
                  have hr : some r = F435_20 N a1 x21 := hr
                  refine AW_region ?_
                  refine AL_cons (LR_assign (at_c (v' := Bl true) rfl) rfl) (sS sT0 sB0 sF0) ?_
                  refine AL_nil ?_
                  exact thenN (cutLeaf (v := (x21, true)) hr (weak0 ((sT rfl (sT rfl (sT rfl sT0)))) sub_nil))
              · have hr := hr.trans (cond_f h)
                clear h
                refine AW_skip ?_
                exact thenN (cutLeaf (v := (a0, false)) hr (weak0 ((sT rfl (sT rfl (sT rfl sT0)))) sub_nil))
          · rintro ⟨x3, x4⟩ hr
            show AW Hfaa.prog _ _ _ ⟨[(0, .inl (fl .f64 x3)), (1, .inl (fl .f64 a1)), (5, .inl (is (Bl x4)))], []⟩
            have hr : some r = F435_3 N a1 x3 x4 := hr
            refine AW_cut (σ := Option Nat) (fun v => ⟨[(0, .inl (fl .f64 x3)), (1, .inl (fl .f64 v)), (5, .inl (is (Bl x4)))], []⟩) (fun v => some r = F435_4 N x3 x4 v) ?_ ?_
            · skip
              refine AW_cut (σ := Bool) (fun v => ⟨[(0, .inl (fl .f64 x3)), (1, .inl (fl .f64 a1)), (5, .inl (is (Bl x4))), (33, .inl (is (Bl v)))], []⟩) (fun v => some r = F435_18 N a1 x3 x4 v) ?_ ?_
              · skip
                refine AW_region ?_
                refine AL_cons (LR_move (at_tmp 1 _) rfl) (sS (sT1 rfl) sB0 sF0) ?_
                refine AL_cons (LR_fcmp rfl (at_tmp 32 _) (at_f rfl) rfl) (sS (sA (sT1 rfl) sT0) sB0 sF0) ?_
                refine AL_nil ?_
                exact thenN (cutLeaf (v := fcmp .lss .f64 a1 (some 0)) hr (weak0 ((sT rfl (sT rfl (sT rfl (sT rfl sT0))))) sub_nil))
              · rintro x19 hr
                show AW Hfaa.prog _ _ _ ⟨[(0, .inl (fl .f64 x3)), (1, .inl (fl .f64 a1)), (5, .inl (is (Bl x4))), (33, .inl (is (Bl x19)))], []⟩
                have hr : some r = F435_18 N a1 x3 x4 x19 := hr
                refine AW_condT (b := x19) rfl (fun h => ?_) (fun h => ?_)
                · have hr := hr.trans (cond_t h)
                  clear h
                  refine AW_region ?_
                  refine AL_cons (LR_move (at_tmp 1 _) rfl) (sS (sT1 rfl) sB0 sF0) ?_
                  refine AL_cons (LR_fneg (at_tmp 34 _) rfl) (sS (sT1 rfl) sB0 sF0) ?_
                  refine AL_cons (LR_assign (at_tmp 35 _) rfl) (sS (sT1 rfl) sB0 sF0) ?_
                  refine AL_nil ?_
                  exact thenN (cutLeaf (v := fneg .f64 a1) hr (weak0 ((sT rfl (sT rfl (sT rfl sT0)))) sub_nil))
                · have hr := hr.trans (cond_f h)
                  clear h
                  refine AW_skip ?_
                  exact thenN (cutLeaf (v := a1) hr (weak0 ((sT rfl (sT rfl (sT rfl sT0)))) sub_nil))
            · rintro x5 hr
              show AW Hfaa.prog _ _ _ ⟨[(0, .inl (fl .f64 x3)), (1, .inl (fl .f64 x5)), (5, .inl (is (Bl x4)))], []⟩
              have hr : some r = F435_4 N x3 x4 x5 := hr
              refine AW_seq1 ?_
              refine AW_cut (σ := Bool) (fun v => ⟨[(0, .inl (fl .f64 x3)), (1, .inl (fl .f64 x5)), (5, .inl (is (Bl x4))), (38, .inl (is (Bl v)))], []⟩) (fun v => some r = F435_5 N x3 x4 x5 v) ?_ ?_
              · skip
                refine AW_region ?_
                refine AL_cons (LR_move (at_tmp 0 _) rfl) (sS (sT1 rfl) sB0 sF0) ?_
                refine AL_cons (LR_move (at_tmp 1 _) rfl) (sS (sT1 rfl) sB0 sF0) ?_
                refine AL_cons (LR_fcmp rfl (at_tmp 36 _) (at_tmp 37 _) rfl) (sS (sA (sT1 rfl) (sT1 rfl)) sB0 sF0) ?_
                refine AL_nil ?_
                exact thenN (cutLeaf (v := fcmp .eql .f64 x3 x5) hr (weak0 ((sT rfl (sT rfl (sT rfl (sT rfl sT0))))) sub_nil))
              · rintro x6 hr
                show AW Hfaa.prog _ _ _ ⟨[(0, .inl (fl .f64 x3)), (1, .inl (fl .f64 x5)), (5, .inl (is (Bl x4))), (38, .inl (is (Bl x6)))], []⟩
                have hr : some r = F435_5 N x3 x4 x5 x6 := hr
                refine AW_condT (b := x6) rfl (fun h => ?_) (fun h => ?_)
                · have hr := hr.trans (cond_t h)
                  clear h
                  refine AW_seq1 ?_
                  refine AW_seq1 ?_
                  refine AW_region ?_
                  refine AL_cons (LR_move (at_tmp 5 _) rfl) (sS (sT1 rfl) sB0 sF0) ?_
                  refine AL_nil ?_
                  refine thenN ?_
                  refine AW_condT (b := x4) rfl (fun h => ?_) (fun h => ?_)
                  · have hr := hr.trans (cond_t h)
                    clear h
                    refine AW_seq1 ?_
                    refine AW_region ?_
                    refine AL_cons (LR_assign (at_f rfl) rfl) (sS sT0 sB0 sF0) ?_
                    refine AL_nil ?_
                    refine thenN ?_
                    refine AW_seq1 ?_
                    refine AW_region ?_
                    refine AL_cons (LR_move (at_tmp 6 _) rfl) (sS (sT1 rfl) sB0 sF0) ?_
                    refine AL_cons (LR_fneg (at_tmp 40 _) rfl) (sS (sT1 rfl) sB0 sF0) ?_
                    refine AL_cons (LR_assign (at_tmp 41 _) rfl) (sS (sT1 rfl) sB0 sF0) ?_
                    refine AL_nil ?_
                    refine thenN ?_
                    refine AW_ret ?_
                    refine thenR ?_
                    refine thenR ?_
                    obtain rfl := Option.some.inj hr
                    exact res1 rfl (rvT rfl)
                  · have hr := hr.trans (cond_f h)
                    clear h
                    refine AW_skip ?_
                    refine thenN ?_
                    refine AW_seq1 ?_
                    refine AW_region ?_
                    refine AL_cons (LR_assign (at_f rfl) rfl) (sS sT0 sB0 sF0) ?_
                    refine AL_nil ?_
                    refine thenN ?_
                    refine AW_ret ?_
                    refine thenR ?_
                    obtain rfl := Option.some.inj hr
                    exact res1 rfl (rvT rfl)
                · have hr := hr.trans (cond_f h)
                  clear h
                  refine AW_skip ?_
                  refine thenN ?_
                  refine AW_cut (σ := Option Nat) (fun v => ⟨[(0, .inl (fl .f64 v)), (1, .inl (fl .f64 x5)), (5, .inl (is (Bl x4)))], []⟩) (fun v => some r = F435_6 N x4 x5 v) ?_ ?_
                  · skip
                    refine AW_cut (σ := Bool) (fun v => ⟨[(0, .inl (fl .f64 x3)), (1, .inl (fl .f64 x5)), (5, .inl (is (Bl x4))), (43, .inl (is (Bl v)))], []⟩) (fun v => some r = F435_17 N x3 x4 x5 v) ?_ ?_
                    · skip
                      refine AW_region ?_
                      refine AL_cons (LR_move (at_tmp 1 _) rfl) (sS (sT1 rfl) sB0 sF0) ?_
                      refine AL_cons (LR_fcmp rfl (at_tmp 42 _) (at_f rfl) rfl) (sS (sA (sT1 rfl) sT0) sB0 sF0) ?_
                      refine AL_nil ?_
                      exact thenN (cutLeaf (v := fcmp .leq .f64 x5 (some 9214364837600034815)) hr (weak0 ((sT rfl (sT rfl (sT rfl (sT rfl sT0))))) sub_nil))
                    · rintro x18 hr
                      show AW Hfaa.prog _ _ _ ⟨[(0, .inl (fl .f64 x3)), (1, .inl (fl .f64 x5)), (5, .inl (is (Bl x4))), (43, .inl (is (Bl x18)))], []⟩
                      have hr : some r = F435_17 N x3 x4 x5 x18 := hr
                      refine AW_condT (b := x18) rfl (fun h => ?_) (fun h => ?_)
                      · have hr := hr.trans (cond_t h)
                        clear h
                        refine AW_region ?_
                        refine AL_cons (LR_move (at_tmp 0 _) rfl) (sS (sT1 rfl) sB0 sF0) ?_
                        refine AL_cons (LR_move (at_tmp 1 _) rfl) (sS (sT1 rfl) sB0 sF0) ?_
                        refine AL_cons (LR_move (at_tmp 1 _) rfl) (sS (sT1 rfl) sB0 sF0) ?_
                        refine AL_cons (LR_fbin rfl (at_tmp 45 _) (at_tmp 46 _) rfl) (sS (sA (sT1 rfl) (sT1 rfl)) sB0 sF0) ?_
                        obtain ⟨y18, hy18, hr⟩ := bind_some hr
                        refine AL_cons (LR_call Hfaa.func448 rfl rfl (C448 N x3 (fbits .add .f64 x5 x5) y18 hy18) (all_cons (at_tmp 44 _) (all_cons (at_tmp 47 _) all_nil)) rfl) (sS (sA (sT1 rfl) (sA (sT1 rfl) sT0)) sB0 sF0) ?_
                        refine AL_cons (LR_assign (at_tmp 48 _) rfl) (sS (sT1 rfl) sB0 sF0) ?_
                        refine AL_nil ?_
                        exact thenN (cutLeaf (v := y18) hr (weak0 ((sT rfl (sT rfl (sT rfl sT0)))) sub_nil))
                      · have hr := hr.trans (cond_f h)
                        clear h
                        refine AW_skip ?_
                        exact thenN (cutLeaf (v := x3) hr (weak0 ((sT rfl (sT rfl (sT rfl sT0)))) sub_nil))
                  · rintro x7 hr
                    show AW Hfaa.prog _ _ _ ⟨[(0, .inl (fl .f64 x7)), (1, .inl (fl .f64 x5)), (5, .inl (is (Bl x4)))], []⟩
                    have hr : some r = F435_6 N x4 x5 x7 := hr
                    refine AW_cut (σ := Option Nat) (fun v => ⟨[(0, .inl (fl .f64 v)), (5, .inl (is (Bl x4)))], []⟩) (fun v => some r = F435_7 N x4 v) ?_ ?_
                    · skip
                      refine AW_cut (σ := Bool) (fun v => ⟨[(0, .inl (fl .f64 x7)), (1, .inl (fl .f64 x5)), (5, .inl (is (Bl x4))), (50, .inl (is (Bl v)))], []⟩) (fun v => some r = F435_9 N x4 x5 x7 v) ?_ ?_
                      · skip
                        refine AW_region ?_
                        refine AL_cons (LR_move (at_tmp 1 _) rfl) (sS (sT1 rfl) sB0 sF0) ?_
                        refine AL_cons (LR_fcmp rfl (at_tmp 49 _) (at_f rfl) rfl) (sS (sA (sT1 rfl) sT0) sB0 sF0) ?_
                        refine AL_nil ?_
                        exact thenN (cutLeaf (v := fcmp .lss .f64 x5 (some 9007199254740992)) hr (weak0 ((sT rfl (sT rfl (sT rfl (sT rfl sT0))))) sub_nil))
                      · rintro x10 hr
                        show AW Hfaa.prog _ _ _ ⟨[(0, .inl (fl .f64 x7)), (1, .inl (fl .f64 x5)), (5, .inl (is (Bl x4))), (50, .inl (is (Bl x10)))], []⟩
                        have hr : some r = F435_9 N x4 x5 x7 x10 := hr
                        refine AW_condT (b := x10) rfl (fun h => ?_) (fun h => ?_)
                        · have hr := hr.trans (cond_t h)
                          clear h
                          refine AW_cut (σ := Bool) (fun v => ⟨[(0, .inl (fl .f64 x7)), (1, .inl (fl .f64 x5)), (5, .inl (is (Bl x4))), (55, .inl (is (Bl v)))], []⟩) (fun v => some r = F435_10 N x4 x5 x7 v) ?_ ?_
                          · skip
                            refine AW_region ?_
                            refine AL_cons (LR_move (at_tmp 0 _) rfl) (sS (sT1 rfl) sB0 sF0) ?_
                            refine AL_cons (LR_move (at_tmp 0 _) rfl) (sS (sT1 rfl) sB0 sF0) ?_
                            refine AL_cons (LR_fbin rfl (at_tmp 51 _) (at_tmp 52 _) rfl) (sS (sA (sT1 rfl) (sT1 rfl)) sB0 sF0) ?_
                            refine AL_cons (LR_move (at_tmp 1 _) rfl) (sS (sT1 rfl) sB0 sF0) ?_
                            refine AL_cons (LR_fcmp rfl (at_tmp 53 _) (at_tmp 54 _) rfl) (sS (sA (sT1 rfl) (sT1 rfl)) sB0 sF0) ?_
                            refine AL_nil ?_
                            exact thenN (cutLeaf (v := fcmp .gtr .f64 (fbits .add .f64 x7 x7) x5) hr (weak0 ((sT rfl (sT rfl (sT rfl (sT rfl sT0))))) sub_nil))
                          · rintro x11 hr
                            show AW Hfaa.prog _ _ _ ⟨[(0, .inl (fl .f64 x7)), (1, .inl (fl .f64 x5)), (5, .inl (is (Bl x4))), (55, .inl (is (Bl x11)))], []⟩
                            have hr : some r = F435_10 N x4 x5 x7 x11 := hr
                            refine AW_condT (b := x11) rfl (fun h => ?_) (fun h => ?_)
                            · have hr := hr.trans (cond_t h)
                              clear h
                              refine AW_cut (σ := Option Nat) (fun v => ⟨[(0, .inl (fl .f64 v)), (1, .inl (fl .f64 x5)), (5, .inl (is (Bl x4)))], []⟩) (fun v => some r = F435_11 N x4 x5 v) ?_ ?_
                              · skip
                                refine AW_region ?_
                                refine AL_cons (LR_move (at_tmp 0 _) rfl) (sS (sT1 rfl) sB0 sF0) ?_
                                refine AL_cons (LR_move (at_tmp 1 _) rfl) (sS (sT1 rfl) sB0 sF0) ?_
                                refine AL_cons (LR_fbin rfl (at_tmp 56 _) (at_tmp 57 _) rfl) (sS (sA (sT1 rfl) (sT1 rfl)) sB0 sF0) ?_
                                refine AL_cons (LR_assign (at_tmp 58 _) rfl) (sS (sT1 rfl) sB0 sF0) ?_
                                refine AL_nil ?_
                                exact thenN (cutLeaf (v := fbits .sub .f64 x7 x5) hr (weak0 ((sT rfl (sT rfl (sT rfl sT0)))) sub_nil))
                              · rintro x12 hr
                                show AW Hfaa.prog _ _ _ ⟨[(0, .inl (fl .f64 x12)), (1, .inl (fl .f64 x5)), (5, .inl (is (Bl x4)))], []⟩
                                have hr : some r = F435_11 N x4 x5 x12 := hr
                                refine AW_cut (σ := Bool) (fun v => ⟨[(0, .inl (fl .f64 x12)), (1, .inl (fl .f64 x5)), (5, .inl (is (Bl x4))), (63, .inl (is (Bl v)))], []⟩) (fun v => some r = F435_12 N x4 x5 x12 v) ?_ ?_
                                · skip
                                  refine AW_region ?_
                                  refine AL_cons (LR_move (at_tmp 0 _) rfl) (sS (sT1 rfl) sB0 sF0) ?_
                                  refine AL_cons (LR_move (at_tmp 0 _) rfl) (sS (sT1 rfl) sB0 sF0) ?_
                                  refine AL_cons (LR_fbin rfl (at_tmp 59 _) (at_tmp 60 _) rfl) (sS (sA (sT1 rfl) (sT1 rfl)) sB0 sF0) ?_
                                  refine AL_cons (LR_move (at_tmp 1 _) rfl) (sS (sT1 rfl) sB0 sF0) ?_
                                  refine AL_cons (LR_fcmp rfl (at_tmp 61 _) (at_tmp 62 _) rfl) (sS (sA (sT1 rfl) (sT1 rfl)) sB0 sF0) ?_
                                  refine AL_nil ?_
                                  exact thenN (cutLeaf (v := fcmp .geq .f64 (fbits .add .f64 x12 x12) x5) hr (weak0 ((sT rfl (sT rfl (sT rfl (sT rfl sT0))))) sub_nil))
                                · rintro x13 hr
                                  show AW Hfaa.prog _ _ _ ⟨[(0, .inl (fl .f64 x12)), (1, .inl (fl .f64 x5)), (5, .inl (is (Bl x4))), (63, .inl (is (Bl x13)))], []⟩
                                  have hr : some r = F435_12 N x4 x5 x12 x13 := hr
                                  refine AW_condT (b := x13) rfl (fun h => ?_) (fun h => ?_)
                                  · have hr := hr.trans (cond_t h)
                                    clear h
                                    refine AW_region ?_
                                    refine AL_cons (LR_move (at_tmp 0 _) rfl) (sS (sT1 rfl) sB0 sF0) ?_
                                    refine AL_cons (LR_move (at_tmp 1 _) rfl) (sS (sT1 rfl) sB0 sF0) ?_
                                    refine AL_cons (LR_fbin rfl (at_tmp 64 _) (at_tmp 65 _) rfl) (sS (sA (sT1 rfl) (sT1 rfl)) sB0 sF0) ?_
                                    refine AL_cons (LR_assign (at_tmp 66 _) rfl) (sS (sT1 rfl) sB0 sF0) ?_
                                    refine AL_nil ?_
                                    exact thenN (cutLeaf (v := fbits .sub .f64 x12 x5) hr (weak0 ((sT rfl (sT rfl sT0))) sub_nil))
                                  · have hr := hr.trans (cond_f h)
                                    clear h
                                    refine AW_skip ?_
                                    exact thenN (cutLeaf (v := x12) hr (weak0 ((sT rfl (sT rfl sT0))) sub_nil))
                            · have hr := hr.trans (cond_f h)
                              clear h
                              refine AW_skip ?_
                              exact thenN (cutLeaf (v := x7) hr (weak0 ((sT rfl (sT rfl sT0))) sub_nil))
                        · have hr := hr.trans (cond_f h)
                          clear h
                          refine AW_cut (σ := Option Nat) (fun v => ⟨[(0, .inl (fl .f64 x7)), (1, .inl (fl .f64 x5)), (5, .inl (is (Bl x4))), (7, .inl (fl .f64 v))], []⟩) (fun v => some r = F435_13 N x4 x5 x7 v) ?_ ?_
                          · skip
                            refine AW_region ?_
                            refine AL_cons (LR_move (at_tmp 1 _) rfl) (sS (sT1 rfl) sB0 sF0) ?_
                            refine AL_cons (LR_fbin rfl (at_f rfl) (at_tmp 67 _) rfl) (sS (sA sT0 (sT1 rfl)) sB0 sF0) ?_
                            refine AL_cons (LR_assign (at_tmp 68 _) rfl) (sS (sT1 rfl) sB0 sF0) ?_
                            refine AL_nil ?_
                            exact thenN (cutLeaf (v := fbits .mul .f64 (some 4602678819172646912) x5) hr (weak0 ((sT rfl (sT rfl (sT rfl (sT rfl sT0))))) sub_nil))
                          · rintro x14 hr
                            show AW Hfaa.prog _ _ _ ⟨[(0, .inl (fl .f64 x7)), (1, .inl (fl .f64 x5)), (5, .inl (is (Bl x4))), (7, .inl (fl .f64 x14))], []⟩
                            have hr : some r = F435_13 N x4 x5 x7 x14 := hr
                            refine AW_cut (σ := Bool) (fun v => ⟨[(0, .inl (fl .f64 x7)), (1, .inl (fl .f64 x5)), (5, .inl (is (Bl x4))), (7, .inl (fl .f64 x14)), (71, .inl (is (Bl v)))], []⟩) (fun v => some r = F435_14 N x4 x5 x7 x14 v) ?_ ?_
                            · skip
                              refine AW_region ?_
                              refine AL_cons (LR_move (at_tmp 0 _) rfl) (sS (sT1 rfl) sB0 sF0) ?_
                              refine AL_cons (LR_move (at_tmp 7 _) rfl) (sS (sT1 rfl) sB0 sF0) ?_
                              refine AL_cons (LR_fcmp rfl (at_tmp 69 _) (at_tmp 70 _) rfl) (sS (sA (sT1 rfl) (sT1 rfl)) sB0 sF0) ?_
                              refine AL_nil ?_
                              exact thenN (cutLeaf (v := fcmp .gtr .f64 x7 x14) hr (weak0 ((sT rfl (sT rfl (sT rfl (sT rfl (sT rfl sT0)))))) sub_nil))
                            · rintro x15 hr
                              show AW Hfaa.prog _ _ _ ⟨[(0, .inl (fl .f64 x7)), (1, .inl (fl .f64 x5)), (5, .inl (is (Bl x4))), (7, .inl (fl .f64 x14)), (71, .inl (is (Bl x15)))], []⟩
                              have hr : some r = F435_14 N x4 x5 x7 x14 x15 := hr
                              refine AW_condT (b := x15) rfl (fun h => ?_) (fun h => ?_)
                              · have hr := hr.trans (cond_t h)
                                clear h
                                refine AW_cut (σ := Option Nat) (fun v => ⟨[(0, .inl (fl .f64 v)), (1, .inl (fl .f64 x5)), (5, .inl (is (Bl x4))), (7, .inl (fl .f64 x14))], []⟩) (fun v => some r = F435_15 N x4 x5 x14 v) ?_ ?_
                                · skip
                                  refine AW_region ?_
                                  refine AL_cons (LR_move (at_tmp 0 _) rfl) (sS (sT1 rfl) sB0 sF0) ?_
                                  refine AL_cons (LR_move (at_tmp 1 _) rfl) (sS (sT1 rfl) sB0 sF0) ?_
                                  refine AL_cons (LR_fbin rfl (at_tmp 72 _) (at_tmp 73 _) rfl) (sS (sA (sT1 rfl) (sT1 rfl)) sB0 sF0) ?_
                                  refine AL_cons (LR_assign (at_tmp 74 _) rfl) (sS (sT1 rfl) sB0 sF0) ?_
                                  refine AL_nil ?_
                                  exact thenN (cutLeaf (v := fbits .sub .f64 x7 x5) hr (weak0 ((sT rfl (sT rfl (sT rfl (sT rfl sT0))))) sub_nil))
                                · rintro x16 hr
                                  show AW Hfaa.prog _ _ _ ⟨[(0, .inl (fl .f64 x16)), (1, .inl (fl .f64 x5)), (5, .inl (is (Bl x4))), (7, .inl (fl .f64 x14))], []⟩
                                  have hr : some r = F435_15 N x4 x5 x14 x16 := hr
                                  refine AW_cut (σ := Bool) (fun v => ⟨[(0, .inl (fl .f64 x16)), (1, .inl (fl .f64 x5)), (5, .inl (is (Bl x4))), (77, .inl (is (Bl v)))], []⟩) (fun v => some r = F435_16 N x4 x5 x16 v) ?_ ?_
                                  · skip
                                    refine AW_region ?_
                                    refine AL_cons (LR_move (at_tmp 0 _) rfl) (sS (sT1 rfl) sB0 sF0) ?_
                                    refine AL_cons (LR_move (at_tmp 7 _) rfl) (sS (sT1 rfl) sB0 sF0) ?_
                                    refine AL_cons (LR_fcmp rfl (at_tmp 75 _) (at_tmp 76 _) rfl) (sS (sA (sT1 rfl) (sT1 rfl)) sB0 sF0) ?_
                                    refine AL_nil ?_
                                    exact thenN (cutLeaf (v := fcmp .geq .f64 x16 x14) hr (weak0 ((sT rfl (sT rfl (sT rfl (sT rfl sT0))))) sub_nil))
                                  · rintro x17 hr
                                    show AW Hfaa.prog _ _ _ ⟨[(0, .inl (fl .f64 x16)), (1, .inl (fl .f64 x5)), (5, .inl (is (Bl x4))), (77, .inl (is (Bl x17)))], []⟩
                                    have hr : some r = F435_16 N x4 x5 x16 x17 := hr
                                    refine AW_condT (b := x17) rfl (fun h => ?_) (fun h => ?_)
                                    · have hr := hr.trans (cond_t h)
                                      clear h
                                      refine AW_region ?_
                                      refine AL_cons (LR_move (at_tmp 0 _) rfl) (sS (sT1 rfl) sB0 sF0) ?_
                                      refine AL_cons (LR_move (at_tmp 1 _) rfl) (sS (sT1 rfl) sB0 sF0) ?_
                                      refine AL_cons (LR_fbin rfl (at_tmp 78 _) (at_tmp 79 _) rfl) (sS (sA (sT1 rfl) (sT1 rfl)) sB0 sF0) ?_
                                      refine AL_cons (LR_assign (at_tmp 80 _) rfl) (sS (sT1 rfl) sB0 sF0) ?_
                                      refine AL_nil ?_
                                      exact thenN (cutLeaf (v := fbits .sub .f64 x16 x5) hr (weak0 ((sT rfl (sT rfl sT0))) sub_nil))
                                    · have hr := hr.trans (cond_f h)
                                      clear h
                                      refine AW_skip ?_
                                      exact thenN (cutLeaf (v := x16) hr (weak0 ((sT rfl (sT rfl sT0))) sub_nil))
                              · have hr := hr.trans (cond_f h)
                                clear h
                                refine AW_skip ?_
                                exact thenN (cutLeaf (v := x7) hr (weak0 ((sT rfl (sT rfl sT0))) sub_nil))
                    · rintro x8 hr
                      show AW Hfaa.prog _ _ _ ⟨[(0, .inl (fl .f64 x8)), (5, .inl (is (Bl x4)))], []⟩
                      have hr : some r = F435_7 N x4 x8 := hr
                      refine AW_cut (σ := Option Nat) (fun v => ⟨[(0, .inl (fl .f64 v))], []⟩) (fun v => some r = F435_8 N v) ?_ ?_
                      · skip
                        refine AW_seq1 ?_
                        refine AW_region ?_
                        refine AL_cons (LR_move (at_tmp 5 _) rfl) (sS (sT1 rfl) sB0 sF0) ?_
                        refine AL_nil ?_
                        refine thenN ?_
                        refine AW_condT (b := x4) rfl (fun h => ?_) (fun h => ?_)
                        · have hr := hr.trans (cond_t h)
                          clear h
                          refine AW_region ?_
                          refine AL_cons (LR_move (at_tmp 0 _) rfl) (sS (sT1 rfl) sB0 sF0) ?_
                          refine AL_cons (LR_fneg (at_tmp 82 _) rfl) (sS (sT1 rfl) sB0 sF0) ?_
                          refine AL_cons (LR_assign (at_tmp 83 _) rfl) (sS (sT1 rfl) sB0 sF0) ?_
                          refine AL_nil ?_
                          exact thenN (cutLeaf (v := fneg .f64 x8) hr (weak0 ((sT rfl sT0)) sub_nil))
                        · have hr := hr.trans (cond_f h)
                          clear h
                          refine AW_skip ?_
                          exact thenN (cutLeaf (v := x8) hr (weak0 ((sT rfl sT0)) sub_nil))
                      · rintro x9 hr
                        show AW Hfaa.prog _ _ _ ⟨[(0, .inl (fl .f64 x9))], []⟩
                        have hr : some r = F435_8 N x9 := hr
                        refine AW_seq1 ?_
                        refine AW_region ?_
                        refine AL_cons (LR_move (at_tmp 0 _) rfl) (sS (sT1 rfl) sB0 sF0) ?_
                        refine AL_cons (LR_assign (at_tmp 84 _) rfl) (sS (sT1 rfl) sB0 sF0) ?_
                        refine AL_nil ?_
                        refine thenN ?_
                        refine AW_ret ?_
                        obtain rfl := Option.some.inj hr
                        exact res1 rfl (rvT rfl)
end Go.Proofs.YfwaawGreat
