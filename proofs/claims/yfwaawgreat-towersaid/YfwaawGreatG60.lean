import Derived.Test.YfwaawGreatG1
import Derived.Test.YfwaawGreatG2
import Derived.Test.YfwaawGreatG8
import Derived.Test.YfwaawGreatG32
import Derived.Test.YfwaawGreatG34
import Derived.Test.YfwaawGreatG58
namespace Go.Proofs.YfwaawGreat
open Go.Aw
set_option linter.unusedVariables false
set_option maxRecDepth 100000
set_option maxHeartbeats 1000000
/-- native.FromInt64 -/
def F339 (N : Nat) (a0 : Int) : Option (BitVec 64) := (F385 N (some (FloatKind.f64.nearest a0))).bind fun y2 => some y2
theorem C339 (N : Nat) (a0 : Int) (r : BitVec 64) (hr : some r = F339 N a0) : Aw.Fn Hfaa.prog 339 [is (I64 a0)] (is (U64 r)) := by
  refine fn_intro Hfaa.func339 rfl rfl rfl ?_
  intro bn0 w0 H0
  refine AW_seq1 ?_
  refine AW_region ?_
  refine AL_cons (LR_assign (at_c (v' := U64 (0#64)) rfl) rfl) (sS sT0 sB0 sF0) ?_
  refine AL_nil ?_
  refine thenN ?_
  refine AW_seq1 ?_
  refine AW_region ?_
  refine AL_cons (LR_move (at_tmp 0 _) rfl) (sS (sT1 rfl) sB0 sF0) ?_
  refine AL_cons (LR_convIF (q := .i64) (i := a0) Hfaa.underlying2 Hfaa.underlying188 (at_tmp 3 _) rfl) (sS (sT1 rfl) sB0 sF0) ?_
  obtain ⟨y2, hy2, hr⟩ := bind_some hr
  refine AL_cons (LR_call Hfaa.func385 rfl rfl (C385 N (some (FloatKind.f64.nearest a0)) y2 hy2) (all_cons (at_tmp 4 _) all_nil) rfl) (sS (sA (sT1 rfl) sT0) sB0 sF0) ?_
  refine AL_cons (LR_assign (at_tmp 5 _) rfl) (sS (sT1 rfl) sB0 sF0) ?_
  refine AL_nil ?_
  refine thenN ?_
  refine AW_ret ?_
  obtain rfl := Option.some.inj hr
  exact res1 rfl (rvT rfl)
/-- native.FromUint64 -/
def F340 (N : Nat) (a0 : BitVec 64) : Option (BitVec 64) := (F385 N (some (FloatKind.f64.nearest (a0.toNat : Int)))).bind fun y2 => some y2
theorem C340 (N : Nat) (a0 : BitVec 64) (r : BitVec 64) (hr : some r = F340 N a0) : Aw.Fn Hfaa.prog 340 [is (U64 a0)] (is (U64 r)) := by
  refine fn_intro Hfaa.func340 rfl rfl rfl ?_
  intro bn0 w0 H0
  refine AW_seq1 ?_
  refine AW_region ?_
  refine AL_cons (LR_assign (at_c (v' := U64 (0#64)) rfl) rfl) (sS sT0 sB0 sF0) ?_
  refine AL_nil ?_
  refine thenN ?_
  refine AW_seq1 ?_
  refine AW_region ?_
  refine AL_cons (LR_move (at_tmp 0 _) rfl) (sS (sT1 rfl) sB0 sF0) ?_
  refine AL_cons (LR_convIF (q := .u64) (i := (a0.toNat : Int)) Hfaa.underlying30 Hfaa.underlying188 (at_tmp 3 _) rfl) (sS (sT1 rfl) sB0 sF0) ?_
  obtain ⟨y2, hy2, hr⟩ := bind_some hr
  refine AL_cons (LR_call Hfaa.func385 rfl rfl (C385 N (some (FloatKind.f64.nearest (a0.toNat : Int))) y2 hy2) (all_cons (at_tmp 4 _) all_nil) rfl) (sS (sA (sT1 rfl) sT0) sB0 sF0) ?_
  refine AL_cons (LR_assign (at_tmp 5 _) rfl) (sS (sT1 rfl) sB0 sF0) ?_
  refine AL_nil ?_
  refine thenN ?_
  refine AW_ret ?_
  obtain rfl := Option.some.inj hr
  exact res1 rfl (rvT rfl)
/-- native.FromInt64To32 -/
def F341 (N : Nat) (a0 : Int) : Option (BitVec 32) := (F387 N (some (FloatKind.f32.nearest a0))).bind fun y2 => some y2
theorem C341 (N : Nat) (a0 : Int) (r : BitVec 32) (hr : some r = F341 N a0) : Aw.Fn Hfaa.prog 341 [is (I64 a0)] (is (U32 r)) := by
  refine fn_intro Hfaa.func341 rfl rfl rfl ?_
  intro bn0 w0 H0
  refine AW_seq1 ?_
  refine AW_region ?_
  refine AL_cons (LR_assign (at_c (v' := U32 (0#32)) rfl) rfl) (sS sT0 sB0 sF0) ?_
  refine AL_nil ?_
  refine thenN ?_
  refine AW_seq1 ?_
  refine AW_region ?_
  refine AL_cons (LR_move (at_tmp 0 _) rfl) (sS (sT1 rfl) sB0 sF0) ?_
  refine AL_cons (LR_convIF (q := .i64) (i := a0) Hfaa.underlying2 Hfaa.underlying191 (at_tmp 3 _) rfl) (sS (sT1 rfl) sB0 sF0) ?_
  obtain ⟨y2, hy2, hr⟩ := bind_some hr
  refine AL_cons (LR_call Hfaa.func387 rfl rfl (C387 N (some (FloatKind.f32.nearest a0)) y2 hy2) (all_cons (at_tmp 4 _) all_nil) rfl) (sS (sA (sT1 rfl) sT0) sB0 sF0) ?_
  refine AL_cons (LR_assign (at_tmp 5 _) rfl) (sS (sT1 rfl) sB0 sF0) ?_
  refine AL_nil ?_
  refine thenN ?_
  refine AW_ret ?_
  obtain rfl := Option.some.inj hr
  exact res1 rfl (rvT rfl)
/-- native.FromUint64To32 -/
def F342 (N : Nat) (a0 : BitVec 64) : Option (BitVec 32) := (F387 N (some (FloatKind.f32.nearest (a0.toNat : Int)))).bind fun y2 => some y2
theorem C342 (N : Nat) (a0 : BitVec 64) (r : BitVec 32) (hr : some r = F342 N a0) : Aw.Fn Hfaa.prog 342 [is (U64 a0)] (is (U32 r)) := by
  refine fn_intro Hfaa.func342 rfl rfl rfl ?_
  intro bn0 w0 H0
  refine AW_seq1 ?_
  refine AW_region ?_
  refine AL_cons (LR_assign (at_c (v' := U32 (0#32)) rfl) rfl) (sS sT0 sB0 sF0) ?_
  refine AL_nil ?_
  refine thenN ?_
  refine AW_seq1 ?_
  refine AW_region ?_
  refine AL_cons (LR_move (at_tmp 0 _) rfl) (sS (sT1 rfl) sB0 sF0) ?_
  refine AL_cons (LR_convIF (q := .u64) (i := (a0.toNat : Int)) Hfaa.underlying30 Hfaa.underlying191 (at_tmp 3 _) rfl) (sS (sT1 rfl) sB0 sF0) ?_
  obtain ⟨y2, hy2, hr⟩ := bind_some hr
  refine AL_cons (LR_call Hfaa.func387 rfl rfl (C387 N (some (FloatKind.f32.nearest (a0.toNat : Int))) y2 hy2) (all_cons (at_tmp 4 _) all_nil) rfl) (sS (sA (sT1 rfl) sT0) sB0 sF0) ?_
  refine AL_cons (LR_assign (at_tmp 5 _) rfl) (sS (sT1 rfl) sB0 sF0) ?_
  refine AL_nil ?_
  refine thenN ?_
  refine AW_ret ?_
  obtain rfl := Option.some.inj hr
  exact res1 rfl (rvT rfl)
/-- calc/na.from -/
def F238_1 (N : Nat) (a0 : Bool) (a1 : Bool) (a2 : BitVec 64) (x1 : Bool) : Option (BitVec 64) := bif x1 then (F339 N (w64 (a2.toNat : Int))).bind fun y8 => some y8 else bif a0 then (F340 N a2).bind fun y10 => some y10 else bif a1 then (F341 N (w64 (a2.toNat : Int))).bind fun y12 => some (BitVec.ofInt 64 (y12.toNat : Int)) else (F342 N a2).bind fun y14 => some (BitVec.ofInt 64 (y14.toNat : Int))
def F238 (N : Nat) (a0 : Bool) (a1 : Bool) (a2 : BitVec 64) : Option (BitVec 64) := F238_1 N a0 a1 a2 (a0 && a1)
theorem C238 (N : Nat) (a0 : Bool) (a1 : Bool) (a2 : BitVec 64) (r : BitVec 64) (hr : some r = F238 N a0 a1 a2) : Aw.Fn Hfaa.prog 238 [is (Bl a0), is (Bl a1), is (U64 a2)] (is (U64 r)) := by
  refine fn_intro Hfaa.func238 rfl rfl rfl ?_
  intro bn0 w0 H0
  refine AW_seq1 ?_
  refine AW_region ?_
  refine AL_cons (LR_assign (at_c (v' := U64 (0#64)) rfl) rfl) (sS sT0 sB0 sF0) ?_
  refine AL_nil ?_
  refine thenN ?_
  refine AW_seq1 ?_
  refine AW_block ?_
  refine AW_cut (σ := Bool) (fun v => ⟨[(0, .inl (is (Bl a0))), (1, .inl (is (Bl a1))), (2, .inl (is (U64 a2))), (7, .inl (is (Bl v)))], []⟩) (fun v => some r = F238_1 N a0 a1 a2 v) ?_ ?_
  · skip
    refine AW_region ?_
    refine AL_cons (LR_move (at_tmp 0 _) rfl) (sS (sT1 rfl) sB0 sF0) ?_
    refine AL_cons (LR_move (at_tmp 8 _) rfl) (sS (sT1 rfl) sB0 sF0) ?_
    refine AL_cutAt 2 ⟨[(0, .inl (is (Bl a0))), (1, .inl (is (Bl a1))), (2, .inl (is (U64 a2))), (6, .inl (is (U64 (0#64)))), (8, .inl (is (Bl a0))), (9, .inl (is (Bl a0))), (11, .inl (is (Bl (a0 && a1))))], []⟩ ?_ ?_
    · cases hb : a0
      · skip
        refine AL_cons (LR_off (b := false) rfl rfl rfl rfl) (sS (sT1 rfl) sB0 sF0) ?_
        refine AL_cons (LR_pick (b := false) (at_tmp 9 _) (at_tmp 10 _) (at_c (v' := Bl false) rfl) rfl) (sS (sA (sT1 rfl) (sA (sT1 rfl) sT0)) sB0 sF0) ?_
        exact AL_nil ⟨rfl, weak0 ((sT rfl (sT rfl (sT rfl (sT rfl (sT rfl (sT rfl (sT rfl sT0)))))))) sub_nil⟩
      · skip
        refine AL_cons (LR_on rfl rfl rfl (LR_move (at_tmp 1 _) rfl)) (sS (sT rfl (sT1 rfl)) sB0 sF0) ?_
        refine AL_cons (LR_pick (b := true) (at_tmp 9 _) (at_tmp 10 _) (at_c (v' := Bl false) rfl) rfl) (sS (sA (sT1 rfl) (sA (sT1 rfl) sT0)) sB0 sF0) ?_
        exact AL_nil ⟨rfl, weak0 ((sT rfl (sT rfl (sT rfl (sT rfl (sT rfl (sT rfl (sT rfl sT0)))))))) sub_nil⟩
    refine AL_cons (LR_assign (at_tmp 11 _) rfl) (sS (sT1 rfl) sB0 sF0) ?_
    refine AL_nil ?_
    exact thenN (cutLeaf (v := a0 && a1) hr (weak0 ((sT rfl (sT rfl (sT rfl (sT rfl sT0))))) sub_nil))
  · rintro x1 hr
    show AW Hfaa.prog _ _ _ ⟨[(0, .inl (is (Bl a0))), (1, .inl (is (Bl a1))), (2, .inl (is (U64 a2))), (7, .inl (is (Bl x1)))], []⟩
    have hr : some r = F238_1 N a0 a1 a2 x1 := hr
    refine AW_condT (b := x1) rfl (fun h => ?_) (fun h => ?_)
    · have hr := hr.trans (cond_t h)
      clear h
      refine AW_seq1 ?_
      refine AW_region ?_
      refine AL_cons (LR_move (at_tmp 2 _) rfl) (sS (sT1 rfl) sB0 sF0) ?_
      refine AL_cons (LR_conv (vx := U64 a2) (at_tmp 12 _) (conv_I64 Hfaa.underlying30 Hfaa.underlying2 (a2.toNat : Int)) rfl) (sS (sT1 rfl) sB0 sF0) ?_
      obtain ⟨y8, hy8, hr⟩ := bind_some hr
      refine AL_cons (LR_call Hfaa.func339 rfl rfl (C339 N (w64 (a2.toNat : Int)) y8 hy8) (all_cons (at_tmp 13 _) all_nil) rfl) (sS (sA (sT1 rfl) sT0) sB0 sF0) ?_
      refine AL_cons (LR_assign (at_tmp 14 _) rfl) (sS (sT1 rfl) sB0 sF0) ?_
      refine AL_nil ?_
      refine thenN ?_
      refine AW_ret ?_
      refine blR ?_
      refine thenR ?_
      obtain rfl := Option.some.inj hr
      exact res1 rfl (rvT rfl)
    · have hr := hr.trans (cond_f h)
      clear h
      refine AW_seq1 ?_
      refine AW_region ?_
      refine AL_cons (LR_move (at_tmp 0 _) rfl) (sS (sT1 rfl) sB0 sF0) ?_
      refine AL_cons (LR_assign (at_tmp 16 _) rfl) (sS (sT1 rfl) sB0 sF0) ?_
      refine AL_nil ?_
      refine thenN ?_
      refine AW_condT (b := a0) rfl (fun h => ?_) (fun h => ?_)
      · have hr := hr.trans (cond_t h)
        clear h
        refine AW_seq1 ?_
        refine AW_region ?_
        refine AL_cons (LR_move (at_tmp 2 _) rfl) (sS (sT1 rfl) sB0 sF0) ?_
        obtain ⟨y10, hy10, hr⟩ := bind_some hr
        refine AL_cons (LR_call Hfaa.func340 rfl rfl (C340 N a2 y10 hy10) (all_cons (at_tmp 17 _) all_nil) rfl) (sS (sA (sT1 rfl) sT0) sB0 sF0) ?_
        refine AL_cons (LR_assign (at_tmp 18 _) rfl) (sS (sT1 rfl) sB0 sF0) ?_
        refine AL_nil ?_
        refine thenN ?_
        refine AW_ret ?_
        refine blR ?_
        refine thenR ?_
        obtain rfl := Option.some.inj hr
        exact res1 rfl (rvT rfl)
      · have hr := hr.trans (cond_f h)
        clear h
        refine AW_seq1 ?_
        refine AW_region ?_
        refine AL_cons (LR_move (at_tmp 1 _) rfl) (sS (sT1 rfl) sB0 sF0) ?_
        refine AL_cons (LR_assign (at_tmp 20 _) rfl) (sS (sT1 rfl) sB0 sF0) ?_
        refine AL_nil ?_
        refine thenN ?_
        refine AW_condT (b := a1) rfl (fun h => ?_) (fun h => ?_)
        · have hr := hr.trans (cond_t h)
          clear h
          refine AW_seq1 ?_
          refine AW_region ?_
          refine AL_cons (LR_move (at_tmp 2 _) rfl) (sS (sT1 rfl) sB0 sF0) ?_
          refine AL_cons (LR_conv (vx := U64 a2) (at_tmp 21 _) (conv_I64 Hfaa.underlying30 Hfaa.underlying2 (a2.toNat : Int)) rfl) (sS (sT1 rfl) sB0 sF0) ?_
          obtain ⟨y12, hy12, hr⟩ := bind_some hr
          refine AL_cons (LR_call Hfaa.func341 rfl rfl (C341 N (w64 (a2.toNat : Int)) y12 hy12) (all_cons (at_tmp 22 _) all_nil) rfl) (sS (sA (sT1 rfl) sT0) sB0 sF0) ?_
          refine AL_cons (LR_conv (vx := U32 y12) (at_tmp 23 _) (conv_U64 Hfaa.underlying65 Hfaa.underlying30 (y12.toNat : Int)) rfl) (sS (sT1 rfl) sB0 sF0) ?_
          refine AL_cons (LR_assign (at_tmp 24 _) rfl) (sS (sT1 rfl) sB0 sF0) ?_
          refine AL_nil ?_
          refine thenN ?_
          refine AW_ret ?_
          refine blR ?_
          refine thenR ?_
          obtain rfl := Option.some.inj hr
          exact res1 rfl (rvT rfl)
        · have hr := hr.trans (cond_f h)
          clear h
          refine AW_skip ?_
          refine blN ?_
          refine thenN ?_
          refine AW_seq1 ?_
          refine AW_region ?_
          refine AL_cons (LR_move (at_tmp 2 _) rfl) (sS (sT1 rfl) sB0 sF0) ?_
          obtain ⟨y14, hy14, hr⟩ := bind_some hr
          refine AL_cons (LR_call Hfaa.func342 rfl rfl (C342 N a2 y14 hy14) (all_cons (at_tmp 25 _) all_nil) rfl) (sS (sA (sT1 rfl) sT0) sB0 sF0) ?_
          refine AL_cons (LR_conv (vx := U32 y14) (at_tmp 26 _) (conv_U64 Hfaa.underlying65 Hfaa.underlying30 (y14.toNat : Int)) rfl) (sS (sT1 rfl) sB0 sF0) ?_
          refine AL_cons (LR_assign (at_tmp 27 _) rfl) (sS (sT1 rfl) sB0 sF0) ?_
          refine AL_nil ?_
          refine thenN ?_
          refine AW_ret ?_
          obtain rfl := Option.some.inj hr
          exact res1 rfl (rvT rfl)
/-- native.ToInt64From32 -/
def F343_2 (N : Nat) (x1 : Option Nat) (x2 : Bool) : Option (Int × Bool) := bif x2 then bif fiOk .f32 .i64 x1 then some (fiVal .f32 .i64 x1, true) else none else some (0, false)
def F343_1 (N : Nat) (x1 : Option Nat) : Option (Int × Bool) := F343_2 N x1 ((fcmp .geq .f32 x1 (some 3741319168)) && (fcmp .lss .f32 x1 (some 1593835520)))
def F343 (N : Nat) (a0 : BitVec 32) : Option (Int × Bool) := lt (F386 a0) fun y2 => F343_1 N y2
theorem C343 (N : Nat) (a0 : BitVec 32) (r : Int × Bool) (hr : some r = F343 N a0) : Aw.Fn Hfaa.prog 343 [is (U32 a0)] (tup [is (I64 r.1), is (Bl r.2)]) := by
  refine fn_intro Hfaa.func343 rfl rfl rfl ?_
  intro bn0 w0 H0
  refine AW_seq1 ?_
  refine AW_region ?_
  refine AL_cons (LR_assign (at_c (v' := I64 0) rfl) rfl) (sS sT0 sB0 sF0) ?_
  refine AL_cons (LR_assign (at_c (v' := Bl false) rfl) rfl) (sS sT0 sB0 sF0) ?_
  refine AL_nil ?_
  refine thenN ?_
  refine AW_cut (σ := Option Nat) (fun v => ⟨[(4, .inl (fl .f32 v))], []⟩) (fun v => some r = F343_1 N v) ?_ ?_
  · skip
    refine AW_region ?_
    refine AL_cons (LR_move (at_tmp 0 _) rfl) (sS (sT1 rfl) sB0 sF0) ?_
    obtain ⟨y2, hy2, hr⟩ := lt_some hr
    refine AL_cons (LR_call Hfaa.func386 rfl rfl (C386 a0 y2 hy2) (all_cons (at_tmp 5 _) all_nil) rfl) (sS (sA (sT1 rfl) sT0) sB0 sF0) ?_
    refine AL_cons (LR_assign (at_tmp 6 _) rfl) (sS (sT1 rfl) sB0 sF0) ?_
    refine AL_nil ?_
    exact thenN (cutLeaf (v := y2) hr (weak0 ((sT rfl sT0)) sub_nil))
  · rintro x1 hr
    show AW Hfaa.prog _ _ _ ⟨[(4, .inl (fl .f32 x1))], []⟩
    have hr : some r = F343_1 N x1 := hr
    refine AW_seq1 ?_
    refine AW_cut (σ := Bool) (fun v => ⟨[(4, .inl (fl .f32 x1)), (12, .inl (is (Bl v)))], []⟩) (fun v => some r = F343_2 N x1 v) ?_ ?_
    · skip
      refine AW_region ?_
      refine AL_cons (LR_move (at_tmp 4 _) rfl) (sS (sT1 rfl) sB0 sF0) ?_
      refine AL_cons (LR_fcmp rfl (at_tmp 7 _) (at_f rfl) rfl) (sS (sA (sT1 rfl) sT0) sB0 sF0) ?_
      refine AL_cons (LR_move (at_tmp 8 _) rfl) (sS (sT1 rfl) sB0 sF0) ?_
      refine AL_cutAt 3 ⟨[(4, .inl (fl .f32 x1)), (7, .inl (fl .f32 x1)), (8, .inl (is (Bl (fcmp .geq .f32 x1 (some 3741319168))))), (9, .inl (is (Bl (fcmp .geq .f32 x1 (some 3741319168))))), (12, .inl (is (Bl ((fcmp .geq .f32 x1 (some 3741319168)) && (fcmp .lss .f32 x1 (some 1593835520))))))], []⟩ ?_ ?_
      · cases hb : fcmp .geq .f32 x1 (some 3741319168)
        · skip
          refine AL_cons (LR_off (b := false) rfl rfl rfl rfl) (sS (sT1 rfl) sB0 sF0) ?_
          refine AL_cons (LR_off (b := false) rfl rfl rfl rfl) (sS (sT1 rfl) sB0 sF0) ?_
          refine AL_cons (LR_pick (b := false) (at_tmp 9 _) (at_tmp 11 _) (at_c (v' := Bl false) rfl) rfl) (sS (sA (sT1 rfl) (sA (sT1 rfl) sT0)) sB0 sF0) ?_
          exact AL_nil ⟨rfl, weak0 ((sT rfl (sT rfl (sT rfl (sT rfl (sT rfl sT0)))))) sub_nil⟩
        · skip
          refine AL_cons (LR_on rfl rfl rfl (LR_move (at_tmp 4 _) rfl)) (sS (sT rfl (sT1 rfl)) sB0 sF0) ?_
          refine AL_cons (LR_on rfl rfl rfl (LR_fcmp rfl (at_tmp 10 _) (at_f rfl) rfl)) (sS (sT rfl (sA (sT1 rfl) sT0)) sB0 sF0) ?_
          refine AL_cons (LR_pick (b := true) (at_tmp 9 _) (at_tmp 11 _) (at_c (v' := Bl false) rfl) rfl) (sS (sA (sT1 rfl) (sA (sT1 rfl) sT0)) sB0 sF0) ?_
          exact AL_nil ⟨rfl, weak0 ((sT rfl (sT rfl (sT rfl (sT rfl (sT rfl sT0)))))) sub_nil⟩
      refine AL_nil ?_
      exact thenN (cutLeaf (v := (fcmp .geq .f32 x1 (some 3741319168)) && (fcmp .lss .f32 x1 (some 1593835520))) hr (weak0 ((sT rfl (sT rfl sT0))) sub_nil))
    · rintro x2 hr
      show AW Hfaa.prog _ _ _ ⟨[(4, .inl (fl .f32 x1)), (12, .inl (is (Bl x2)))], []⟩
      have hr : some r = F343_2 N x1 x2 := hr
      refine AW_condT (b := x2) rfl (fun h => ?_) (fun h => ?_)
      · have hr := hr.trans (cond_t h)
        clear h
        refine AW_seq1 ?_
        refine AW_region ?_
        refine AL_cons (LR_move (at_tmp 4 _) rfl) (sS (sT1 rfl) sB0 sF0) ?_
        obtain ⟨hg4, hr⟩ := guard_some hr
        refine AL_cons (LR_convFI Hfaa.underlying191 Hfaa.underlying2 (at_tmp 13 _) hg4 rfl) (sS (sT1 rfl) sB0 sF0) ?_
        refine AL_cons (LR_assign (at_tmp 14 _) rfl) (sS (sT1 rfl) sB0 sF0) ?_
        refine AL_cons (LR_assign (at_c (v' := Bl true) rfl) rfl) (sS sT0 sB0 sF0) ?_
        refine AL_nil ?_
        refine thenN ?_
        refine AW_ret ?_
        refine thenR ?_
        obtain rfl := Option.some.inj hr
        exact res2 rfl (rvT rfl) (rvT rfl)
      · have hr := hr.trans (cond_f h)
        clear h
        refine AW_skip ?_
        refine thenN ?_
        refine AW_seq1 ?_
        refine AW_region ?_
        refine AL_cons (LR_assign (at_c (v' := I64 0) rfl) rfl) (sS sT0 sB0 sF0) ?_
        refine AL_cons (LR_assign (at_c (v' := Bl false) rfl) rfl) (sS sT0 sB0 sF0) ?_
        refine AL_nil ?_
        refine thenN ?_
        refine AW_ret ?_
        obtain rfl := Option.some.inj hr
        exact res2 rfl (rvT rfl) (rvT rfl)
/-- native.ToInt64 -/
def F344_2 (N : Nat) (x1 : Option Nat) (x2 : Bool) : Option (Int × Bool) := bif x2 then bif fiOk .f64 .i64 x1 then some (fiVal .f64 .i64 x1, true) else none else some (0, false)
def F344_1 (N : Nat) (x1 : Option Nat) : Option (Int × Bool) := F344_2 N x1 ((fcmp .geq .f64 x1 (some 14114281232179134464)) && (fcmp .lss .f64 x1 (some 4890909195324358656)))
def F344 (N : Nat) (a0 : BitVec 64) : Option (Int × Bool) := lt (F384 a0) fun y2 => F344_1 N y2
theorem C344 (N : Nat) (a0 : BitVec 64) (r : Int × Bool) (hr : some r = F344 N a0) : Aw.Fn Hfaa.prog 344 [is (U64 a0)] (tup [is (I64 r.1), is (Bl r.2)]) := by
  refine fn_intro Hfaa.func344 rfl rfl rfl ?_
  intro bn0 w0 H0
  refine AW_seq1 ?_
  refine AW_region ?_
  refine AL_cons (LR_assign (at_c (v' := I64 0) rfl) rfl) (sS sT0 sB0 sF0) ?_
  refine AL_cons (LR_assign (at_c (v' := Bl false) rfl) rfl) (sS sT0 sB0 sF0) ?_
  refine AL_nil ?_
  refine thenN ?_
  refine AW_cut (σ := Option Nat) (fun v => ⟨[(4, .inl (fl .f64 v))], []⟩) (fun v => some r = F344_1 N v) ?_ ?_
  · skip
    refine AW_region ?_
    refine AL_cons (LR_move (at_tmp 0 _) rfl) (sS (sT1 rfl) sB0 sF0) ?_
    obtain ⟨y2, hy2, hr⟩ := lt_some hr
    refine AL_cons (LR_call Hfaa.func384 rfl rfl (C384 a0 y2 hy2) (all_cons (at_tmp 5 _) all_nil) rfl) (sS (sA (sT1 rfl) sT0) sB0 sF0) ?_
    refine AL_cons (LR_assign (at_tmp 6 _) rfl) (sS (sT1 rfl) sB0 sF0) ?_
    refine AL_nil ?_
    exact thenN (cutLeaf (v := y2) hr (weak0 ((sT rfl sT0)) sub_nil))
  · rintro x1 hr
    show AW Hfaa.prog _ _ _ ⟨[(4, .inl (fl .f64 x1))], []⟩
    have hr : some r = F344_1 N x1 := hr
    refine AW_seq1 ?_
    refine AW_cut (σ := Bool) (fun v => ⟨[(4, .inl (fl .f64 x1)), (12, .inl (is (Bl v)))], []⟩) (fun v => some r = F344_2 N x1 v) ?_ ?_
    · skip
      refine AW_region ?_
      refine AL_cons (LR_move (at_tmp 4 _) rfl) (sS (sT1 rfl) sB0 sF0) ?_
      refine AL_cons (LR_fcmp rfl (at_tmp 7 _) (at_f rfl) rfl) (sS (sA (sT1 rfl) sT0) sB0 sF0) ?_
      refine AL_cons (LR_move (at_tmp 8 _) rfl) (sS (sT1 rfl) sB0 sF0) ?_
      refine AL_cutAt 3 ⟨[(4, .inl (fl .f64 x1)), (7, .inl (fl .f64 x1)), (8, .inl (is (Bl (fcmp .geq .f64 x1 (some 14114281232179134464))))), (9, .inl (is (Bl (fcmp .geq .f64 x1 (some 14114281232179134464))))), (12, .inl (is (Bl ((fcmp .geq .f64 x1 (some 14114281232179134464)) && (fcmp .lss .f64 x1 (some 4890909195324358656))))))], []⟩ ?_ ?_
      · cases hb : fcmp .geq .f64 x1 (some 14114281232179134464)
        · skip
          refine AL_cons (LR_off (b := false) rfl rfl rfl rfl) (sS (sT1 rfl) sB0 sF0) ?_
          refine AL_cons (LR_off (b := false) rfl rfl rfl rfl) (sS (sT1 rfl) sB0 sF0) ?_
          refine AL_cons (LR_pick (b := false) (at_tmp 9 _) (at_tmp 11 _) (at_c (v' := Bl false) rfl) rfl) (sS (sA (sT1 rfl) (sA (sT1 rfl) sT0)) sB0 sF0) ?_
          exact AL_nil ⟨rfl, weak0 ((sT rfl (sT rfl (sT rfl (sT rfl (sT rfl sT0)))))) sub_nil⟩
        · skip
          refine AL_cons (LR_on rfl rfl rfl (LR_move (at_tmp 4 _) rfl)) (sS (sT rfl (sT1 rfl)) sB0 sF0) ?_
          refine AL_cons (LR_on rfl rfl rfl (LR_fcmp rfl (at_tmp 10 _) (at_f rfl) rfl)) (sS (sT rfl (sA (sT1 rfl) sT0)) sB0 sF0) ?_
          refine AL_cons (LR_pick (b := true) (at_tmp 9 _) (at_tmp 11 _) (at_c (v' := Bl false) rfl) rfl) (sS (sA (sT1 rfl) (sA (sT1 rfl) sT0)) sB0 sF0) ?_
          exact AL_nil ⟨rfl, weak0 ((sT rfl (sT rfl (sT rfl (sT rfl (sT rfl sT0)))))) sub_nil⟩
      refine AL_nil ?_
      exact thenN (cutLeaf (v := (fcmp .geq .f64 x1 (some 14114281232179134464)) && (fcmp .lss .f64 x1 (some 4890909195324358656))) hr (weak0 ((sT rfl (sT rfl sT0))) sub_nil))
    · rintro x2 hr
      show AW Hfaa.prog _ _ _ ⟨[(4, .inl (fl .f64 x1)), (12, .inl (is (Bl x2)))], []⟩
      have hr : some r = F344_2 N x1 x2 := hr
      refine AW_condT (b := x2) rfl (fun h => ?_) (fun h => ?_)
      · have hr := hr.trans (cond_t h)
        clear h
        refine AW_seq1 ?_
        refine AW_region ?_
        refine AL_cons (LR_move (at_tmp 4 _) rfl) (sS (sT1 rfl) sB0 sF0) ?_
        obtain ⟨hg4, hr⟩ := guard_some hr
        refine AL_cons (LR_convFI Hfaa.underlying188 Hfaa.underlying2 (at_tmp 13 _) hg4 rfl) (sS (sT1 rfl) sB0 sF0) ?_
        refine AL_cons (LR_assign (at_tmp 14 _) rfl) (sS (sT1 rfl) sB0 sF0) ?_
        refine AL_cons (LR_assign (at_c (v' := Bl true) rfl) rfl) (sS sT0 sB0 sF0) ?_
        refine AL_nil ?_
        refine thenN ?_
        refine AW_ret ?_
        refine thenR ?_
        obtain rfl := Option.some.inj hr
        exact res2 rfl (rvT rfl) (rvT rfl)
      · have hr := hr.trans (cond_f h)
        clear h
        refine AW_skip ?_
        refine thenN ?_
        refine AW_seq1 ?_
        refine AW_region ?_
        refine AL_cons (LR_assign (at_c (v' := I64 0) rfl) rfl) (sS sT0 sB0 sF0) ?_
        refine AL_cons (LR_assign (at_c (v' := Bl false) rfl) rfl) (sS sT0 sB0 sF0) ?_
        refine AL_nil ?_
        refine thenN ?_
        refine AW_ret ?_
        obtain rfl := Option.some.inj hr
        exact res2 rfl (rvT rfl) (rvT rfl)
/-- calc/na.whole -/
def F345_1 (N : Nat) (a0 : Int) (x1 : Bool) : Option (List UInt8) := bif x1 then some ([33] : List UInt8) else (F170 N a0).bind fun y2 => some y2
def F345 (N : Nat) (a0 : Int) (a1 : Bool) : Option (List UInt8) := F345_1 N a0 (!a1)
theorem C345 (N : Nat) (a0 : Int) (a1 : Bool) (r : List UInt8) (hr : some r = F345 N a0 a1) : Aw.Fn Hfaa.prog 345 [is (I64 a0), is (Bl a1)] (is (Sv r)) := by
  refine fn_intro Hfaa.func345 rfl rfl rfl ?_
  intro bn0 w0 H0
  refine AW_seq1 ?_
  refine AW_region ?_
  refine AL_cons (LR_assign (at_c (v' := Sv ([] : List UInt8)) rfl) rfl) (sS sT0 sB0 sF0) ?_
  refine AL_nil ?_
  refine thenN ?_
  refine AW_seq1 ?_
  refine AW_cut (σ := Bool) (fun v => ⟨[(0, .inl (is (I64 a0))), (6, .inl (is (Bl v)))], []⟩) (fun v => some r = F345_1 N a0 v) ?_ ?_
  · skip
    refine AW_region ?_
    refine AL_cons (LR_move (at_tmp 1 _) rfl) (sS (sT1 rfl) sB0 sF0) ?_
    refine AL_cons (LR_un (at_tmp 5 _) (not_Bl a1) rfl) (sS (sT1 rfl) sB0 sF0) ?_
    refine AL_nil ?_
    exact thenN (cutLeaf (v := !a1) hr (weak0 ((sT rfl (sT rfl sT0))) sub_nil))
  · rintro x1 hr
    show AW Hfaa.prog _ _ _ ⟨[(0, .inl (is (I64 a0))), (6, .inl (is (Bl x1)))], []⟩
    have hr : some r = F345_1 N a0 x1 := hr
    refine AW_condT (b := x1) rfl (fun h => ?_) (fun h => ?_)
    · have hr := hr.trans (cond_t h)
      clear h
      refine AW_seq1 ?_
      refine AW_region ?_
      refine AL_cons (LR_assign (at_c (v' := Sv ([33] : List UInt8)) rfl) rfl) (sS sT0 sB0 sF0) ?_
      refine AL_nil ?_
      refine thenN ?_
      refine AW_ret ?_
      refine thenR ?_
      obtain rfl := Option.some.inj hr
      exact res1 rfl (rvT rfl)
    · have hr := hr.trans (cond_f h)
      clear h
      refine AW_skip ?_
      refine thenN ?_
      refine AW_seq1 ?_
      refine AW_region ?_
      refine AL_cons (LR_move (at_tmp 0 _) rfl) (sS (sT1 rfl) sB0 sF0) ?_
      obtain ⟨y2, hy2, hr⟩ := bind_some hr
      refine AL_cons (LR_call Hfaa.func170 rfl rfl (C170 N a0 y2 hy2) (all_cons (at_tmp 7 _) all_nil) rfl) (sS (sA (sT1 rfl) sT0) sB0 sF0) ?_
      refine AL_cons (LR_assign (at_tmp 8 _) rfl) (sS (sT1 rfl) sB0 sF0) ?_
      refine AL_nil ?_
      refine thenN ?_
      refine AW_ret ?_
      obtain rfl := Option.some.inj hr
      exact res1 rfl (rvT rfl)
/-- calc/na.toInt -/
def F239_2 (N : Nat) (x3 : Int) (x4 : Bool) : Option (List UInt8) := (F345 N x3 x4).bind fun y4 => some y4
def F239_1 (N : Nat) (a0 : Bool) (a1 : BitVec 64) (x1 : Int) (x2 : Bool) : Option (List UInt8) := bif a0 then (F344 N a1).bind fun y5 => F239_2 N y5.1 y5.2 else F239_2 N x1 x2
def F239 (N : Nat) (a0 : Bool) (a1 : BitVec 64) : Option (List UInt8) := (F343 N (BitVec.ofInt 32 (a1.toNat : Int))).bind fun y6 => F239_1 N a0 a1 y6.1 y6.2
theorem C239 (N : Nat) (a0 : Bool) (a1 : BitVec 64) (r : List UInt8) (hr : some r = F239 N a0 a1) : Aw.Fn Hfaa.prog 239 [is (Bl a0), is (U64 a1)] (is (Sv r)) := by
  refine fn_intro Hfaa.func239 rfl rfl rfl ?_
  intro bn0 w0 H0
  refine AW_seq1 ?_
  refine AW_region ?_
  refine AL_cons (LR_assign (at_c (v' := Sv ([] : List UInt8)) rfl) rfl) (sS sT0 sB0 sF0) ?_
  refine AL_nil ?_
  refine thenN ?_
  refine AW_cut (σ := Int × Bool) (fun v => ⟨[(0, .inl (is (Bl a0))), (1, .inl (is (U64 a1))), (5, .inl (is (I64 v.1))), (6, .inl (is (Bl v.2)))], []⟩) (fun v => some r = F239_1 N a0 a1 v.1 v.2) ?_ ?_
  · skip
    refine AW_region ?_
    refine AL_cons (LR_move (at_tmp 1 _) rfl) (sS (sT1 rfl) sB0 sF0) ?_
    refine AL_cons (LR_conv (vx := U64 a1) (at_tmp 8 _) (conv_U32 Hfaa.underlying30 Hfaa.underlying65 (a1.toNat : Int)) rfl) (sS (sT1 rfl) sB0 sF0) ?_
    obtain ⟨y6, hy6, hr⟩ := bind_some hr
    refine AL_cons (LR_call Hfaa.func343 rfl rfl (C343 N (BitVec.ofInt 32 (a1.toNat : Int)) y6 hy6) (all_cons (at_tmp 9 _) all_nil) rfl) (sS (sA (sT1 rfl) sT0) sB0 sF0) ?_
    refine AL_cons (LR_move (at_tmp 10 _) rfl) (sS (sT1 rfl) sB0 sF0) ?_
    refine AL_cons (LR_extract (at_tmp 7 _) rfl rfl) (sS (sT1 rfl) sB0 sF0) ?_
    refine AL_cons (LR_extract (at_tmp 7 _) rfl rfl) (sS (sT1 rfl) sB0 sF0) ?_
    refine AL_cons (LR_assign (at_tmp 11 _) rfl) (sS (sT1 rfl) sB0 sF0) ?_
    refine AL_cons (LR_assign (at_tmp 12 _) rfl) (sS (sT1 rfl) sB0 sF0) ?_
    refine AL_nil ?_
    exact thenN (cutLeaf (v := (y6.1, y6.2)) hr (weak0 ((sT rfl (sT rfl (sT rfl (sT rfl sT0))))) sub_nil))
  · rintro ⟨x1, x2⟩ hr
    show AW Hfaa.prog _ _ _ ⟨[(0, .inl (is (Bl a0))), (1, .inl (is (U64 a1))), (5, .inl (is (I64 x1))), (6, .inl (is (Bl x2)))], []⟩
    have hr : some r = F239_1 N a0 a1 x1 x2 := hr
    refine AW_cut (σ := Int × Bool) (fun v => ⟨[(5, .inl (is (I64 v.1))), (6, .inl (is (Bl v.2)))], []⟩) (fun v => some r = F239_2 N v.1 v.2) ?_ ?_
    · skip
      refine AW_seq1 ?_
      refine AW_region ?_
      refine AL_cons (LR_move (at_tmp 0 _) rfl) (sS (sT1 rfl) sB0 sF0) ?_
      refine AL_nil ?_
      refine thenN ?_
      refine AW_condT (b := a0) rfl (fun h => ?_) (fun h => ?_)
      · have hr := hr.trans (cond_t h)
        clear h
        refine AW_region ?_
        refine AL_cons (LR_move (at_tmp 1 _) rfl) (sS (sT1 rfl) sB0 sF0) ?_
        obtain ⟨y5, hy5, hr⟩ := bind_some hr
        refine AL_cons (LR_call Hfaa.func344 rfl rfl (C344 N a1 y5 hy5) (all_cons (at_tmp 15 _) all_nil) rfl) (sS (sA (sT1 rfl) sT0) sB0 sF0) ?_
        refine AL_cons (LR_move (at_tmp 16 _) rfl) (sS (sT1 rfl) sB0 sF0) ?_
        refine AL_cons (LR_extract (at_tmp 14 _) rfl rfl) (sS (sT1 rfl) sB0 sF0) ?_
        refine AL_cons (LR_extract (at_tmp 14 _) rfl rfl) (sS (sT1 rfl) sB0 sF0) ?_
        refine AL_cons (LR_assign (at_tmp 17 _) rfl) (sS (sT1 rfl) sB0 sF0) ?_
        refine AL_cons (LR_assign (at_tmp 18 _) rfl) (sS (sT1 rfl) sB0 sF0) ?_
        refine AL_nil ?_
        exact thenN (cutLeaf (v := (y5.1, y5.2)) hr (weak0 ((sT rfl (sT rfl sT0))) sub_nil))
      · have hr := hr.trans (cond_f h)
        clear h
        refine AW_skip ?_
        exact thenN (cutLeaf (v := (x1, x2)) hr (weak0 ((sT rfl (sT rfl sT0))) sub_nil))
    · rintro ⟨x3, x4⟩ hr
      show AW Hfaa.prog _ _ _ ⟨[(5, .inl (is (I64 x3))), (6, .inl (is (Bl x4)))], []⟩
      have hr : some r = F239_2 N x3 x4 := hr
      refine AW_seq1 ?_
      refine AW_region ?_
      refine AL_cons (LR_move (at_tmp 5 _) rfl) (sS (sT1 rfl) sB0 sF0) ?_
      refine AL_cons (LR_move (at_tmp 6 _) rfl) (sS (sT1 rfl) sB0 sF0) ?_
      obtain ⟨y4, hy4, hr⟩ := bind_some hr
      refine AL_cons (LR_call Hfaa.func345 rfl rfl (C345 N x3 x4 y4 hy4) (all_cons (at_tmp 19 _) (all_cons (at_tmp 20 _) all_nil)) rfl) (sS (sA (sT1 rfl) (sA (sT1 rfl) sT0)) sB0 sF0) ?_
      refine AL_cons (LR_assign (at_tmp 21 _) rfl) (sS (sT1 rfl) sB0 sF0) ?_
      refine AL_nil ?_
      refine thenN ?_
      refine AW_ret ?_
      obtain rfl := Option.some.inj hr
      exact res1 rfl (rvT rfl)
/-- native.Narrow -/
def F347_3 (N : Nat) (x1 : Option Nat) (x4 : Bool) : Option (BitVec 32) := bif x4 then some (4286578688#32) else bif fcOk .f64 .f32 x1 then (F387 N (fcVal .f64 .f32 x1)).bind fun y4 => some y4 else none
def F347_2 (N : Nat) (x1 : Option Nat) (x2 : Option Nat) (x3 : Bool) : Option (BitVec 32) := bif x3 then some (2139095040#32) else F347_3 N x1 (fcmp .leq .f64 x1 (fneg .f64 x2))
def F347_1 (N : Nat) (x1 : Option Nat) (x2 : Option Nat) : Option (BitVec 32) := F347_2 N x1 x2 (fcmp .geq .f64 x1 x2)
def F347 (N : Nat) (a0 : BitVec 64) : Option (BitVec 32) := lt (F384 a0) fun y5 => lt (F384 (5183643170835005440#64)) fun y6 => F347_1 N y5 y6
theorem C347 (N : Nat) (a0 : BitVec 64) (r : BitVec 32) (hr : some r = F347 N a0) : Aw.Fn Hfaa.prog 347 [is (U64 a0)] (is (U32 r)) := by
  refine fn_intro Hfaa.func347 rfl rfl rfl ?_
  intro bn0 w0 H0
  refine AW_seq1 ?_
  refine AW_region ?_
  refine AL_cons (LR_assign (at_c (v' := U32 (0#32)) rfl) rfl) (sS sT0 sB0 sF0) ?_
  refine AL_nil ?_
  refine thenN ?_
  refine AW_cut (σ := Option Nat × Option Nat) (fun v => ⟨[(3, .inl (fl .f64 v.1)), (4, .inl (fl .f64 v.2))], []⟩) (fun v => some r = F347_1 N v.1 v.2) ?_ ?_
  · skip
    refine AW_region ?_
    refine AL_cons (LR_move (at_tmp 0 _) rfl) (sS (sT1 rfl) sB0 sF0) ?_
    obtain ⟨y5, hy5, hr⟩ := lt_some hr
    refine AL_cons (LR_call Hfaa.func384 rfl rfl (C384 a0 y5 hy5) (all_cons (at_tmp 5 _) all_nil) rfl) (sS (sA (sT1 rfl) sT0) sB0 sF0) ?_
    obtain ⟨y6, hy6, hr⟩ := lt_some hr
    refine AL_cons (LR_call Hfaa.func384 rfl rfl (C384 (5183643170835005440#64) y6 hy6) (all_cons (at_c (v' := U64 (5183643170835005440#64)) rfl) all_nil) rfl) (sS (sA sT0 sT0) sB0 sF0) ?_
    refine AL_cons (LR_assign (at_tmp 6 _) rfl) (sS (sT1 rfl) sB0 sF0) ?_
    refine AL_cons (LR_assign (at_tmp 7 _) rfl) (sS (sT1 rfl) sB0 sF0) ?_
    refine AL_nil ?_
    exact thenN (cutLeaf (v := (y5, y6)) hr (weak0 ((sT rfl (sT rfl sT0))) sub_nil))
  · rintro ⟨x1, x2⟩ hr
    show AW Hfaa.prog _ _ _ ⟨[(3, .inl (fl .f64 x1)), (4, .inl (fl .f64 x2))], []⟩
    have hr : some r = F347_1 N x1 x2 := hr
    refine AW_seq1 ?_
    refine AW_block ?_
    refine AW_cut (σ := Bool) (fun v => ⟨[(3, .inl (fl .f64 x1)), (4, .inl (fl .f64 x2)), (8, .inl (is (Bl v)))], []⟩) (fun v => some r = F347_2 N x1 x2 v) ?_ ?_
    · skip
      refine AW_region ?_
      refine AL_cons (LR_move (at_tmp 3 _) rfl) (sS (sT1 rfl) sB0 sF0) ?_
      refine AL_cons (LR_move (at_tmp 4 _) rfl) (sS (sT1 rfl) sB0 sF0) ?_
      refine AL_cons (LR_fcmp rfl (at_tmp 9 _) (at_tmp 10 _) rfl) (sS (sA (sT1 rfl) (sT1 rfl)) sB0 sF0) ?_
      refine AL_cons (LR_assign (at_tmp 11 _) rfl) (sS (sT1 rfl) sB0 sF0) ?_
      refine AL_nil ?_
      exact thenN (cutLeaf (v := fcmp .geq .f64 x1 x2) hr (weak0 ((sT rfl (sT rfl (sT rfl sT0)))) sub_nil))
    · rintro x3 hr
      show AW Hfaa.prog _ _ _ ⟨[(3, .inl (fl .f64 x1)), (4, .inl (fl .f64 x2)), (8, .inl (is (Bl x3)))], []⟩
      have hr : some r = F347_2 N x1 x2 x3 := hr
      refine AW_condT (b := x3) rfl (fun h => ?_) (fun h => ?_)
      · have hr := hr.trans (cond_t h)
        clear h
        refine AW_seq1 ?_
        refine AW_region ?_
        refine AL_cons (LR_assign (at_c (v' := U32 (2139095040#32)) rfl) rfl) (sS sT0 sB0 sF0) ?_
        refine AL_nil ?_
        refine thenN ?_
        refine AW_ret ?_
        refine blR ?_
        refine thenR ?_
        obtain rfl := Option.some.inj hr
        exact res1 rfl (rvT rfl)
      · have hr := hr.trans (cond_f h)
        clear h
        refine AW_cut (σ := Bool) (fun v => ⟨[(3, .inl (fl .f64 x1)), (12, .inl (is (Bl v)))], []⟩) (fun v => some r = F347_3 N x1 v) ?_ ?_
        · skip
          refine AW_region ?_
          refine AL_cons (LR_move (at_tmp 3 _) rfl) (sS (sT1 rfl) sB0 sF0) ?_
          refine AL_cons (LR_move (at_tmp 4 _) rfl) (sS (sT1 rfl) sB0 sF0) ?_
          refine AL_cons (LR_fneg (at_tmp 14 _) rfl) (sS (sT1 rfl) sB0 sF0) ?_
          refine AL_cons (LR_fcmp rfl (at_tmp 13 _) (at_tmp 15 _) rfl) (sS (sA (sT1 rfl) (sT1 rfl)) sB0 sF0) ?_
          refine AL_cons (LR_assign (at_tmp 16 _) rfl) (sS (sT1 rfl) sB0 sF0) ?_
          refine AL_nil ?_
          exact thenN (cutLeaf (v := fcmp .leq .f64 x1 (fneg .f64 x2)) hr (weak0 ((sT rfl (sT rfl sT0))) sub_nil))
        · rintro x4 hr
          show AW Hfaa.prog _ _ _ ⟨[(3, .inl (fl .f64 x1)), (12, .inl (is (Bl x4)))], []⟩
          have hr : some r = F347_3 N x1 x4 := hr
          refine AW_condT (b := x4) rfl (fun h => ?_) (fun h => ?_)
          · have hr := hr.trans (cond_t h)
            clear h
            refine AW_seq1 ?_
            refine AW_region ?_
            refine AL_cons (LR_assign (at_c (v' := U32 (4286578688#32)) rfl) rfl) (sS sT0 sB0 sF0) ?_
            refine AL_nil ?_
            refine thenN ?_
            refine AW_ret ?_
            refine blR ?_
            refine thenR ?_
            obtain rfl := Option.some.inj hr
            exact res1 rfl (rvT rfl)
          · have hr := hr.trans (cond_f h)
            clear h
            refine AW_skip ?_
            refine blN ?_
            refine thenN ?_
            refine AW_seq1 ?_
            refine AW_region ?_
            refine AL_cons (LR_move (at_tmp 3 _) rfl) (sS (sT1 rfl) sB0 sF0) ?_
            obtain ⟨hg2, hr⟩ := guard_some hr
            refine AL_cons (LR_convFF Hfaa.underlying188 Hfaa.underlying191 (at_tmp 17 _) hg2 rfl) (sS (sT1 rfl) sB0 sF0) ?_
            obtain ⟨y4, hy4, hr⟩ := bind_some hr
            refine AL_cons (LR_call Hfaa.func387 rfl rfl (C387 N (fcVal .f64 .f32 x1) y4 hy4) (all_cons (at_tmp 18 _) all_nil) rfl) (sS (sA (sT1 rfl) sT0) sB0 sF0) ?_
            refine AL_cons (LR_assign (at_tmp 19 _) rfl) (sS (sT1 rfl) sB0 sF0) ?_
            refine AL_nil ?_
            refine thenN ?_
            refine AW_ret ?_
            obtain rfl := Option.some.inj hr
            exact res1 rfl (rvT rfl)
/-- native.Widen -/
def F346 (N : Nat) (a0 : BitVec 32) : Option (BitVec 64) := lt (F386 a0) fun y3 => bif fcOk .f32 .f64 y3 then (F385 N (fcVal .f32 .f64 y3)).bind fun y4 => some y4 else none
theorem C346 (N : Nat) (a0 : BitVec 32) (r : BitVec 64) (hr : some r = F346 N a0) : Aw.Fn Hfaa.prog 346 [is (U32 a0)] (is (U64 r)) := by
  refine fn_intro Hfaa.func346 rfl rfl rfl ?_
  intro bn0 w0 H0
  refine AW_seq1 ?_
  refine AW_region ?_
  refine AL_cons (LR_assign (at_c (v' := U64 (0#64)) rfl) rfl) (sS sT0 sB0 sF0) ?_
  refine AL_nil ?_
  refine thenN ?_
  refine AW_seq1 ?_
  refine AW_region ?_
  refine AL_cons (LR_move (at_tmp 0 _) rfl) (sS (sT1 rfl) sB0 sF0) ?_
  obtain ⟨y3, hy3, hr⟩ := lt_some hr
  refine AL_cons (LR_call Hfaa.func386 rfl rfl (C386 a0 y3 hy3) (all_cons (at_tmp 3 _) all_nil) rfl) (sS (sA (sT1 rfl) sT0) sB0 sF0) ?_
  obtain ⟨hg2, hr⟩ := guard_some hr
  refine AL_cons (LR_convFF Hfaa.underlying191 Hfaa.underlying188 (at_tmp 4 _) hg2 rfl) (sS (sT1 rfl) sB0 sF0) ?_
  obtain ⟨y4, hy4, hr⟩ := bind_some hr
  refine AL_cons (LR_call Hfaa.func385 rfl rfl (C385 N (fcVal .f32 .f64 y3) y4 hy4) (all_cons (at_tmp 5 _) all_nil) rfl) (sS (sA (sT1 rfl) sT0) sB0 sF0) ?_
  refine AL_cons (LR_assign (at_tmp 6 _) rfl) (sS (sT1 rfl) sB0 sF0) ?_
  refine AL_nil ?_
  refine thenN ?_
  refine AW_ret ?_
  obtain rfl := Option.some.inj hr
  exact res1 rfl (rvT rfl)
/-- calc/na.through -/
def F240_4 (N : Nat) (a0_0 : BitVec 8) (a0_1 : BitVec 8) (a1_0 : BitVec 8) (a1_1 : BitVec 8) (a2 : BitVec 8) (a4 : BitVec 64) (x4 : Bool) : Option (BitVec 64) := bif x4 then (F346 N (BitVec.ofInt 32 (a4.toNat : Int))).bind fun y28 => (F347 N y28).bind fun y29 => some (BitVec.ofInt 64 (y29.toNat : Int)) else (F49 N a0_0 a0_1 a1_0 a1_1 a2 a4).bind fun y32 => (F49 N a1_0 a1_1 a0_0 a0_1 a2 y32).bind fun y33 => some y33
def F240_3 (N : Nat) (a0_0 : BitVec 8) (a0_1 : BitVec 8) (a1_0 : BitVec 8) (a1_1 : BitVec 8) (a2 : BitVec 8) (a4 : BitVec 64) (x3 : Bool) : Option (BitVec 64) := bif x3 then (F347 N a4).bind fun y23 => (F346 N y23).bind fun y24 => some y24 else lt (F13) fun y34 => F240_4 N a0_0 a0_1 a1_0 a1_1 a2 a4 ((a1_0 == y34.1) && (a1_1 == y34.2))
def F240_2 (N : Nat) (a0_0 : BitVec 8) (a0_1 : BitVec 8) (a1_0 : BitVec 8) (a1_1 : BitVec 8) (a2 : BitVec 8) (a4 : BitVec 64) (x2 : Bool) : Option (BitVec 64) := bif x2 then lt (F234 a0_0 a0_1 a4) fun y19 => some y19 else lt (F14) fun y35 => F240_3 N a0_0 a0_1 a1_0 a1_1 a2 a4 ((a1_0 == y35.1) && (a1_1 == y35.2))
def F240_1 (N : Nat) (a0_0 : BitVec 8) (a0_1 : BitVec 8) (a1_0 : BitVec 8) (a1_1 : BitVec 8) (a2 : BitVec 8) (a3 : BitVec 64) (a4 : BitVec 64) (x1 : Bool) : Option (BitVec 64) := bif x1 then some a3 else F240_2 N a0_0 a0_1 a1_0 a1_1 a2 a4 ((a1_0 == a0_0) && (a1_1 == a0_1))
def F240 (N : Nat) (a0_0 : BitVec 8) (a0_1 : BitVec 8) (a1_0 : BitVec 8) (a1_1 : BitVec 8) (a2 : BitVec 8) (a3 : BitVec 64) (a4 : BitVec 64) : Option (BitVec 64) := lt (F40 a1_0 a1_1) fun y36 => F240_1 N a0_0 a0_1 a1_0 a1_1 a2 a3 a4 (!y36)
theorem C240 (N : Nat) (a0_0 : BitVec 8) (a0_1 : BitVec 8) (a1_0 : BitVec 8) (a1_1 : BitVec 8) (a2 : BitVec 8) (a3 : BitVec 64) (a4 : BitVec 64) (r : BitVec 64) (hr : some r = F240 N a0_0 a0_1 a1_0 a1_1 a2 a3 a4) : Aw.Fn Hfaa.prog 240 [agg [is (U8 a0_0), is (U8 a0_1)], agg [is (U8 a1_0), is (U8 a1_1)], is (U8 a2), is (U64 a3), is (U64 a4)] (is (U64 r)) := by
  refine fn_intro Hfaa.func240 rfl rfl rfl ?_
  intro bn0 w0 H0
  refine AW_seq1 ?_
  refine AW_region ?_
  refine AL_cons (LR_box (at_tmp 0 _) (cells_agg _) rfl) (sS (sT1 rfl) sB0 (sF1 rfl)) ?_
  refine AL_cons (LR_box (at_tmp 1 _) (cells_agg _) rfl) (sS (sT1 rfl) sB0 (sF1 rfl)) ?_
  refine AL_cons (LR_assign (at_c (v' := U64 (0#64)) rfl) rfl) (sS sT0 sB0 sF0) ?_
  refine AL_nil ?_
  refine thenN ?_
  refine AW_seq1 ?_
  refine AW_block ?_
  refine AW_cut (σ := Bool) (fun v => ⟨[(2, .inl (is (U8 a2))), (3, .inl (is (U64 a3))), (4, .inl (is (U64 a4))), (5, .inr (.inl (5, 0))), (6, .inr (.inl (6, 0))), (11, .inl (is (Bl v)))], [(5, pb 23 [is (U8 a0_0), is (U8 a0_1)]), (6, pb 23 [is (U8 a1_0), is (U8 a1_1)])]⟩) (fun v => some r = F240_1 N a0_0 a0_1 a1_0 a1_1 a2 a3 a4 v) ?_ ?_
  · skip
    refine AW_region ?_
    refine AL_cons (LR_loads (at_tmp 6 _) ag23 sz23 rfl rfl rfl) (sS (sT1 rfl) (sB1 rfl) sF0) ?_
    obtain ⟨y36, hy36, hr⟩ := lt_some hr
    refine AL_cons (LR_call Hfaa.func40 rfl rfl (C40 a1_0 a1_1 y36 hy36) (all_cons (at_tmp 12 _) all_nil) rfl) (sS (sA (sT1 rfl) sT0) sB0 sF0) ?_
    refine AL_cons (LR_un (at_tmp 13 _) (not_Bl y36) rfl) (sS (sT1 rfl) sB0 sF0) ?_
    refine AL_cons (LR_assign (at_tmp 14 _) rfl) (sS (sT1 rfl) sB0 sF0) ?_
    refine AL_nil ?_
    exact thenN (cutLeaf (v := !y36) hr (weak0 ((sT rfl (sT rfl (sT rfl (sT rfl (sT rfl (sT rfl sT0))))))) (sub_keep (sub_keep sub_nil))))
  · rintro x1 hr
    show AW Hfaa.prog _ _ _ ⟨[(2, .inl (is (U8 a2))), (3, .inl (is (U64 a3))), (4, .inl (is (U64 a4))), (5, .inr (.inl (5, 0))), (6, .inr (.inl (6, 0))), (11, .inl (is (Bl x1)))], [(5, pb 23 [is (U8 a0_0), is (U8 a0_1)]), (6, pb 23 [is (U8 a1_0), is (U8 a1_1)])]⟩
    have hr : some r = F240_1 N a0_0 a0_1 a1_0 a1_1 a2 a3 a4 x1 := hr
    refine AW_condT (b := x1) rfl (fun h => ?_) (fun h => ?_)
    · have hr := hr.trans (cond_t h)
      clear h
      refine AW_seq1 ?_
      refine AW_region ?_
      refine AL_cons (LR_move (at_tmp 3 _) rfl) (sS (sT1 rfl) sB0 sF0) ?_
      refine AL_cons (LR_assign (at_tmp 15 _) rfl) (sS (sT1 rfl) sB0 sF0) ?_
      refine AL_nil ?_
      refine thenN ?_
      refine AW_ret ?_
      refine blR ?_
      refine thenR ?_
      obtain rfl := Option.some.inj hr
      exact res1 rfl (rvT rfl)
    · have hr := hr.trans (cond_f h)
      clear h
      refine AW_cut (σ := Bool) (fun v => ⟨[(2, .inl (is (U8 a2))), (4, .inl (is (U64 a4))), (5, .inr (.inl (5, 0))), (6, .inr (.inl (6, 0))), (16, .inl (is (Bl v)))], [(5, pb 23 [is (U8 a0_0), is (U8 a0_1)]), (6, pb 23 [is (U8 a1_0), is (U8 a1_1)])]⟩) (fun v => some r = F240_2 N a0_0 a0_1 a1_0 a1_1 a2 a4 v) ?_ ?_
      · skip
        refine AW_region ?_
        refine AL_cons (LR_loads (at_tmp 6 _) ag23 sz23 rfl rfl rfl) (sS (sT1 rfl) (sB1 rfl) sF0) ?_
        refine AL_cons (LR_loads (at_tmp 5 _) ag23 sz23 rfl rfl rfl) (sS (sT1 rfl) (sB1 rfl) sF0) ?_
        refine AL_cons (LR_binA (at_tmp 17 _) (at_tmp 18 _) (eqlA23 a1_0 a1_1 a0_0 a0_1) rfl) (sS (sA (sT1 rfl) (sT1 rfl)) sB0 sF0) ?_
        refine AL_cons (LR_assign (at_tmp 19 _) rfl) (sS (sT1 rfl) sB0 sF0) ?_
        refine AL_nil ?_
        exact thenN (cutLeaf (v := (a1_0 == a0_0) && (a1_1 == a0_1)) hr (weak0 ((sT rfl (sT rfl (sT rfl (sT rfl (sT rfl sT0)))))) (sub_keep (sub_keep sub_nil))))
      · rintro x2 hr
        show AW Hfaa.prog _ _ _ ⟨[(2, .inl (is (U8 a2))), (4, .inl (is (U64 a4))), (5, .inr (.inl (5, 0))), (6, .inr (.inl (6, 0))), (16, .inl (is (Bl x2)))], [(5, pb 23 [is (U8 a0_0), is (U8 a0_1)]), (6, pb 23 [is (U8 a1_0), is (U8 a1_1)])]⟩
        have hr : some r = F240_2 N a0_0 a0_1 a1_0 a1_1 a2 a4 x2 := hr
        refine AW_condT (b := x2) rfl (fun h => ?_) (fun h => ?_)
        · have hr := hr.trans (cond_t h)
          clear h
          refine AW_seq1 ?_
          refine AW_region ?_
          refine AL_cons (LR_loads (at_tmp 5 _) ag23 sz23 rfl rfl rfl) (sS (sT1 rfl) (sB1 rfl) sF0) ?_
          refine AL_cons (LR_move (at_tmp 4 _) rfl) (sS (sT1 rfl) sB0 sF0) ?_
          obtain ⟨y19, hy19, hr⟩ := lt_some hr
          refine AL_cons (LR_call Hfaa.func234 rfl rfl (C234 a0_0 a0_1 a4 y19 hy19) (all_cons (at_tmp 20 _) (all_cons (at_tmp 21 _) all_nil)) rfl) (sS (sA (sT1 rfl) (sA (sT1 rfl) sT0)) sB0 sF0) ?_
          refine AL_cons (LR_assign (at_tmp 22 _) rfl) (sS (sT1 rfl) sB0 sF0) ?_
          refine AL_nil ?_
          refine thenN ?_
          refine AW_ret ?_
          refine blR ?_
          refine thenR ?_
          obtain rfl := Option.some.inj hr
          exact res1 rfl (rvT rfl)
        · have hr := hr.trans (cond_f h)
          clear h
          refine AW_cut (σ := Bool) (fun v => ⟨[(2, .inl (is (U8 a2))), (4, .inl (is (U64 a4))), (5, .inr (.inl (5, 0))), (6, .inr (.inl (6, 0))), (23, .inl (is (Bl v)))], [(5, pb 23 [is (U8 a0_0), is (U8 a0_1)]), (6, pb 23 [is (U8 a1_0), is (U8 a1_1)])]⟩) (fun v => some r = F240_3 N a0_0 a0_1 a1_0 a1_1 a2 a4 v) ?_ ?_
          · skip
            obtain ⟨y35, hy35, hr⟩ := lt_some hr
            refine AW_draw mixed
              (lrC (LR_loads (at_tmp 6 _) ag23 sz23 rfl rfl rfl)
              (lrC (LR_call Hfaa.func14 rfl rfl (C14 y35 hy35) all_nil rfl)
              (lrC (LR_binA (at_tmp 24 _) (at_tmp 25 _) (eqlA23 a1_0 a1_1 y35.1 y35.2) rfl)
              (lrC (LR_assign (at_tmp 26 _) rfl)
              lrN))))
              (by kernel_rfl)
              (saC (sS (sT1 rfl) (sB1 rfl) sF0) (saC (sS sT0 sB0 sF0) (saC (sS (sA (sT1 rfl) (sT1 rfl)) sB0 sF0) (saC (sS (sT1 rfl) sB0 sF0) saN)))) ?_
            exact thenN (cutLeaf (v := (a1_0 == y35.1) && (a1_1 == y35.2)) hr (weak0 ((sT rfl (sT rfl (sT rfl (sT rfl (sT rfl sT0)))))) (sub_keep (sub_keep sub_nil))))
          · rintro x3 hr
            show AW Hfaa.prog _ _ _ ⟨[(2, .inl (is (U8 a2))), (4, .inl (is (U64 a4))), (5, .inr (.inl (5, 0))), (6, .inr (.inl (6, 0))), (23, .inl (is (Bl x3)))], [(5, pb 23 [is (U8 a0_0), is (U8 a0_1)]), (6, pb 23 [is (U8 a1_0), is (U8 a1_1)])]⟩
            have hr : some r = F240_3 N a0_0 a0_1 a1_0 a1_1 a2 a4 x3 := hr
            refine AW_condT (b := x3) rfl (fun h => ?_) (fun h => ?_)
            · have hr := hr.trans (cond_t h)
              clear h
              refine AW_seq1 ?_
              refine AW_region ?_
              refine AL_cons (LR_move (at_tmp 4 _) rfl) (sS (sT1 rfl) sB0 sF0) ?_
              obtain ⟨y23, hy23, hr⟩ := bind_some hr
              refine AL_cons (LR_call Hfaa.func347 rfl rfl (C347 N a4 y23 hy23) (all_cons (at_tmp 27 _) all_nil) rfl) (sS (sA (sT1 rfl) sT0) sB0 sF0) ?_
              obtain ⟨y24, hy24, hr⟩ := bind_some hr
              refine AL_cons (LR_call Hfaa.func346 rfl rfl (C346 N y23 y24 hy24) (all_cons (at_tmp 28 _) all_nil) rfl) (sS (sA (sT1 rfl) sT0) sB0 sF0) ?_
              refine AL_cons (LR_assign (at_tmp 29 _) rfl) (sS (sT1 rfl) sB0 sF0) ?_
              refine AL_nil ?_
              refine thenN ?_
              refine AW_ret ?_
              refine blR ?_
              refine thenR ?_
              obtain rfl := Option.some.inj hr
              exact res1 rfl (rvT rfl)
            · have hr := hr.trans (cond_f h)
              clear h
              refine AW_cut (σ := Bool) (fun v => ⟨[(2, .inl (is (U8 a2))), (4, .inl (is (U64 a4))), (5, .inr (.inl (5, 0))), (6, .inr (.inl (6, 0))), (30, .inl (is (Bl v)))], [(5, pb 23 [is (U8 a0_0), is (U8 a0_1)]), (6, pb 23 [is (U8 a1_0), is (U8 a1_1)])]⟩) (fun v => some r = F240_4 N a0_0 a0_1 a1_0 a1_1 a2 a4 v) ?_ ?_
              · skip
                obtain ⟨y34, hy34, hr⟩ := lt_some hr
                refine AW_draw mixed
                  (lrC (LR_loads (at_tmp 6 _) ag23 sz23 rfl rfl rfl)
                  (lrC (LR_call Hfaa.func13 rfl rfl (C13 y34 hy34) all_nil rfl)
                  (lrC (LR_binA (at_tmp 31 _) (at_tmp 32 _) (eqlA23 a1_0 a1_1 y34.1 y34.2) rfl)
                  (lrC (LR_assign (at_tmp 33 _) rfl)
                  lrN))))
                  (by kernel_rfl)
                  (saC (sS (sT1 rfl) (sB1 rfl) sF0) (saC (sS sT0 sB0 sF0) (saC (sS (sA (sT1 rfl) (sT1 rfl)) sB0 sF0) (saC (sS (sT1 rfl) sB0 sF0) saN)))) ?_
                exact thenN (cutLeaf (v := (a1_0 == y34.1) && (a1_1 == y34.2)) hr (weak0 ((sT rfl (sT rfl (sT rfl (sT rfl (sT rfl sT0)))))) (sub_keep (sub_keep sub_nil))))
              · rintro x4 hr
                show AW Hfaa.prog _ _ _ ⟨[(2, .inl (is (U8 a2))), (4, .inl (is (U64 a4))), (5, .inr (.inl (5, 0))), (6, .inr (.inl (6, 0))), (30, .inl (is (Bl x4)))], [(5, pb 23 [is (U8 a0_0), is (U8 a0_1)]), (6, pb 23 [is (U8 a1_0), is (U8 a1_1)])]⟩
                have hr : some r = F240_4 N a0_0 a0_1 a1_0 a1_1 a2 a4 x4 := hr
                refine AW_condT (b := x4) rfl (fun h => ?_) (fun h => ?_)
                · have hr := hr.trans (cond_t h)
                  clear h
                  refine AW_seq1 ?_
                  refine AW_region ?_
                  refine AL_cons (LR_move (at_tmp 4 _) rfl) (sS (sT1 rfl) sB0 sF0) ?_
                  refine AL_cons (LR_conv (vx := U64 a4) (at_tmp 34 _) (conv_U32 Hfaa.underlying30 Hfaa.underlying65 (a4.toNat : Int)) rfl) (sS (sT1 rfl) sB0 sF0) ?_
                  obtain ⟨y28, hy28, hr⟩ := bind_some hr
                  refine AL_cons (LR_call Hfaa.func346 rfl rfl (C346 N (BitVec.ofInt 32 (a4.toNat : Int)) y28 hy28) (all_cons (at_tmp 35 _) all_nil) rfl) (sS (sA (sT1 rfl) sT0) sB0 sF0) ?_
                  obtain ⟨y29, hy29, hr⟩ := bind_some hr
                  refine AL_cons (LR_call Hfaa.func347 rfl rfl (C347 N y28 y29 hy29) (all_cons (at_tmp 36 _) all_nil) rfl) (sS (sA (sT1 rfl) sT0) sB0 sF0) ?_
                  refine AL_cons (LR_conv (vx := U32 y29) (at_tmp 37 _) (conv_U64 Hfaa.underlying65 Hfaa.underlying30 (y29.toNat : Int)) rfl) (sS (sT1 rfl) sB0 sF0) ?_
                  refine AL_cons (LR_assign (at_tmp 38 _) rfl) (sS (sT1 rfl) sB0 sF0) ?_
                  refine AL_nil ?_
                  refine thenN ?_
                  refine AW_ret ?_
                  refine blR ?_
                  refine thenR ?_
                  obtain rfl := Option.some.inj hr
                  exact res1 rfl (rvT rfl)
                · have hr := hr.trans (cond_f h)
                  clear h
                  refine AW_skip ?_
                  refine blN ?_
                  refine thenN ?_
                  refine AW_seq1 ?_
                  obtain ⟨y32, hy32, hr⟩ := bind_some hr
                  obtain ⟨y33, hy33, hr⟩ := bind_some hr
                  refine AW_draw mixed
                    (lrC (LR_loads (at_tmp 6 _) ag23 sz23 rfl rfl rfl)
                    (lrC (LR_loads (at_tmp 5 _) ag23 sz23 rfl rfl rfl)
                    (lrC (LR_move (at_tmp 2 _) rfl)
                    (lrC (LR_loads (at_tmp 5 _) ag23 sz23 rfl rfl rfl)
                    (lrC (LR_loads (at_tmp 6 _) ag23 sz23 rfl rfl rfl)
                    (lrC (LR_move (at_tmp 2 _) rfl)
                    (lrC (LR_move (at_tmp 4 _) rfl)
                    (lrC (LR_call Hfaa.func49 rfl rfl (C49 N a0_0 a0_1 a1_0 a1_1 a2 a4 y32 hy32) (all_cons (at_tmp 42 _) (all_cons (at_tmp 43 _) (all_cons (at_tmp 44 _) (all_cons (at_tmp 45 _) all_nil)))) rfl)
                    (lrC (LR_call Hfaa.func49 rfl rfl (C49 N a1_0 a1_1 a0_0 a0_1 a2 y32 y33 hy33) (all_cons (at_tmp 39 _) (all_cons (at_tmp 40 _) (all_cons (at_tmp 41 _) (all_cons (at_tmp 46 _) all_nil)))) rfl)
                    (lrC (LR_assign (at_tmp 47 _) rfl)
                    lrN))))))))))
                    (by kernel_rfl)
                    (saC (sS (sT1 rfl) (sB1 rfl) sF0) (saC (sS (sT1 rfl) (sB1 rfl) sF0) (saC (sS (sT1 rfl) sB0 sF0) (saC (sS (sT1 rfl) (sB1 rfl) sF0) (saC (sS (sT1 rfl) (sB1 rfl) sF0) (saC (sS (sT1 rfl) sB0 sF0) (saC (sS (sT1 rfl) sB0 sF0) (saC (sS (sA (sT1 rfl) (sA (sT1 rfl) (sA (sT1 rfl) (sA (sT1 rfl) sT0)))) sB0 sF0) (saC (sS (sA (sT1 rfl) (sA (sT1 rfl) (sA (sT1 rfl) (sA (sT1 rfl) sT0)))) sB0 sF0) (saC (sS (sT1 rfl) sB0 sF0) saN)))))))))) ?_
                  refine thenN ?_
                  refine AW_ret ?_
                  obtain rfl := Option.some.inj hr
                  exact res1 rfl (rvT rfl)
/-- calc/na.settle -/
def F348_5 (N : Nat) (b1_0 : Nat → BitVec 64) (b1_1 : NS (List UInt8)) (x5 : Bool) : Option ((Nat → BitVec 64) × NS (List UInt8)) := bif x5 then bif decide (b1_1.2.1 < 4294967296) then some ((b1_0, app b1_1 ([116, 111, 111, 32, 98, 105, 103] : List UInt8))) else none else some (b1_0, b1_1)
def F348_4 (N : Nat) (b1_0 : Nat → BitVec 64) (b1_1 : NS (List UInt8)) (a3_0 : BitVec 8) (x4 : Bool) : Option ((Nat → BitVec 64) × NS (List UInt8)) := bif x4 then bif decide (b1_1.2.1 < 4294967296) then some ((b1_0, app b1_1 ([119, 114, 111, 110, 103] : List UInt8))) else none else F348_5 N b1_0 b1_1 (a3_0 == (4#8))
def F348_3 (N : Nat) (a0_0 : BitVec 8) (a0_1 : BitVec 8) (b1_0 : Nat → BitVec 64) (b1_1 : NS (List UInt8)) (a2_1 : BitVec 8) (a3_0 : BitVec 8) (x3 : Bool) : Option ((Nat → BitVec 64) × NS (List UInt8)) := bif x3 then lt (F66 a0_0 a0_1) fun y2 => some ((upd b1_0 ((a2_1 &&& (7#8)).toNat) y2, b1_1)) else F348_4 N b1_0 b1_1 a3_0 (a3_0 == (3#8))
def F348_2 (N : Nat) (a0_0 : BitVec 8) (a0_1 : BitVec 8) (b1_0 : Nat → BitVec 64) (b1_1 : NS (List UInt8)) (a2_1 : BitVec 8) (a3_0 : BitVec 8) (a3_1 : Bool) (a3_2 : List UInt8) (a3_3 : Int) (a3_4 : Int) (a3_5 : Int) (x2 : Bool) : Option ((Nat → BitVec 64) × NS (List UInt8)) := bif x2 then lt (F67 a0_0 a0_1 a3_1) fun y1 => some ((upd b1_0 ((a2_1 &&& (7#8)).toNat) y1, b1_1)) else F348_3 N a0_0 a0_1 b1_0 b1_1 a2_1 a3_0 (a3_0 == (2#8))
def F348_1 (N : Nat) (a0_0 : BitVec 8) (a0_1 : BitVec 8) (b1_0 : Nat → BitVec 64) (b1_1 : NS (List UInt8)) (a2_1 : BitVec 8) (a3_0 : BitVec 8) (a3_1 : Bool) (a3_2 : List UInt8) (a3_3 : Int) (a3_4 : Int) (a3_5 : Int) (a4 : BitVec 64) (x1 : Bool) : Option ((Nat → BitVec 64) × NS (List UInt8)) := bif x1 then some ((upd b1_0 ((a2_1 &&& (7#8)).toNat) a4, b1_1)) else F348_2 N a0_0 a0_1 b1_0 b1_1 a2_1 a3_0 a3_1 a3_2 a3_3 a3_4 a3_5 (a3_0 == (1#8))
def F348 (N : Nat) (a0_0 : BitVec 8) (a0_1 : BitVec 8) (b1_0 : Nat → BitVec 64) (b1_1 : NS (List UInt8)) (a2_0 : BitVec 8) (a2_1 : BitVec 8) (a2_2 : BitVec 8) (a2_3 : BitVec 8) (a2_4 : BitVec 64) (a2_5 : List UInt8) (a3_0 : BitVec 8) (a3_1 : Bool) (a3_2 : List UInt8) (a3_3 : Int) (a3_4 : Int) (a3_5 : Int) (a4 : BitVec 64) : Option ((Nat → BitVec 64) × NS (List UInt8)) := F348_1 N a0_0 a0_1 b1_0 b1_1 a2_1 a3_0 a3_1 a3_2 a3_3 a3_4 a3_5 a4 (a3_0 == (0#8))
theorem C348 (N : Nat) (a0_0 : BitVec 8) (a0_1 : BitVec 8) (b1_0 : Nat → BitVec 64) (b1_1 : NS (List UInt8)) (a2_0 : BitVec 8) (a2_1 : BitVec 8) (a2_2 : BitVec 8) (a2_3 : BitVec 8) (a2_4 : BitVec 64) (a2_5 : List UInt8) (a3_0 : BitVec 8) (a3_1 : Bool) (a3_2 : List UInt8) (a3_3 : Int) (a3_4 : Int) (a3_5 : Int) (a4 : BitVec 64) (r : (Nat → BitVec 64) × NS (List UInt8)) (hr : some r = F348 N a0_0 a0_1 b1_0 b1_1 a2_0 a2_1 a2_2 a2_3 a2_4 a2_5 a3_0 a3_1 a3_2 a3_3 a3_4 a3_5 a4) : FnB Hfaa.prog 348 [.inl (agg [is (U8 a0_0), is (U8 a0_1)]), .inr (.inl (1, 0)), .inl (agg [is (U8 a2_0), is (U8 a2_1), is (U8 a2_2), is (U8 a2_3), is (U64 a2_4), is (Sv a2_5)]), .inl (agg [is (U8 a3_0), is (Bl a3_1), is (Sv a3_2), is (I16 a3_3), is (I64 a3_4), is (I32 a3_5)]), .inl (is (U64 a4))] [(1, gc 90 (ar U64 8 b1_0 ++ []) ([]) (k1 Sv) 1 b1_1)] (tup []) [(1, gc 90 (ar U64 8 r.1 ++ []) ([]) (k1 Sv) 1 r.2)] := by
  refine fnB_intro Hfaa.func348 rfl rfl rfl rfl rfl ⟨hf_gc _ _ _ _ _ _, trivial⟩ ?_
  intro bn0 w0 H0
  refine AW_seq1 ?_
  refine AW_region ?_
  refine AL_cons (LR_box (at_tmp 0 _) (cells_agg _) rfl) (sS (sT1 rfl) sB0 (sF1 rfl)) ?_
  refine AL_cons (LR_box (at_tmp 2 _) (cells_agg _) rfl) (sS (sT1 rfl) sB0 (sF1 rfl)) ?_
  refine AL_cons (LR_box (at_tmp 3 _) (cells_agg _) rfl) (sS (sT1 rfl) sB0 (sF1 rfl)) ?_
  refine AL_nil ?_
  refine thenN ?_
  refine AW_seq1 ?_
  refine AW_draw mixed
    (lrC (LR_move (at_tmp 1 _) rfl)
    (lrC (LR_fieldAddr (off := 0) (o := 1) (at_tmp 7 _) (fun b w => fa96_1 b 0 w) rfl)
    (lrC (LR_load (at_tmp 12 _) na5 rfl rfl)
    (lrC (LR_bin (at_tmp 13 _) (at_c (v' := U8 (7#8)) rfl) (and_U8 a2_1 (7#8)) rfl)
    (lrC (LR_nilCheck (at_tmp 11 _) rfl)
    (lrC (LR_fieldAddr (off := 0) (o := 0) (at_tmp 15 _) (fun b w => fa90_0 b 0 w) rfl)
    (lrC (LR_indexAddr (o := (a2_1 &&& (7#8)).toNat) Hfaa.underlying35 sz30 (at_tmp 16 _) (at_tmp 14 _) (natIx (and7 a2_1)) (by first | rfl | omega) rfl)
    (lrC (LR_assign (at_tmp 17 _) rfl)
    lrN))))))))
    (by kernel_rfl)
    (saC (sS (sT1 rfl) sB0 sF0) (saC (sS (sT1 rfl) sB0 sF0) (saC (sS (sT1 rfl) (sB1 rfl) sF0) (saC (sS (sA (sT1 rfl) sT0) sB0 sF0) (saC (sS (sT1 rfl) sB0 sF0) (saC (sS (sT1 rfl) sB0 sF0) (saC (sS (sA (sT1 rfl) (sT1 rfl)) sB0 sF0) (saC (sS (sT1 rfl) sB0 sF0) saN)))))))) ?_
  refine thenN ?_
  refine AW_seq1 ?_
  refine AW_region ?_
  refine AL_cons (LR_fieldAddr (off := 0) (o := 0) (at_tmp 8 _) (fun b w => fa297_0 b 0 w) rfl) (sS (sT1 rfl) sB0 sF0) ?_
  refine AL_cons (LR_load (at_tmp 18 _) na295 rfl rfl) (sS (sT1 rfl) (sB1 rfl) sF0) ?_
  refine AL_nil ?_
  refine thenN ?_
  refine AW_block ?_
  refine AW_cut (σ := Bool) (fun v => ⟨[(1, .inr (.inl (1, 0))), (4, .inl (is (U64 a4))), (5, .inr (.inl (5, 0))), (8, .inr (.inl (8, 0))), (10, .inr (.inl (1, (a2_1 &&& (7#8)).toNat))), (19, .inl (is (U8 a3_0))), (20, .inl (is (Bl v)))], [(1, gc 90 (ar U64 8 b1_0 ++ []) ([]) (k1 Sv) 1 b1_1), (5, pb 23 [is (U8 a0_0), is (U8 a0_1)]), (8, pb 297 [is (U8 a3_0), is (Bl a3_1), is (Sv a3_2), is (I16 a3_3), is (I64 a3_4), is (I32 a3_5)])]⟩) (fun v => some r = F348_1 N a0_0 a0_1 b1_0 b1_1 a2_1 a3_0 a3_1 a3_2 a3_3 a3_4 a3_5 a4 v) ?_ ?_
  · skip
    refine AW_region ?_
    refine AL_cons (LR_bin (at_tmp 19 _) (at_c (v' := U8 (0#8)) rfl) (eql_U8 a3_0 (0#8)) rfl) (sS (sA (sT1 rfl) sT0) sB0 sF0) ?_
    refine AL_cons (LR_assign (at_tmp 21 _) rfl) (sS (sT1 rfl) sB0 sF0) ?_
    refine AL_nil ?_
    exact thenN (cutLeaf (v := a3_0 == (0#8)) hr (weakB ((sT rfl (sT rfl (sT rfl (sT rfl (sT rfl (sT rfl (sT rfl sT0)))))))) (sub_keep (sub_keep (sub_drop (sub_keep sub_nil)))) rfl))
  · rintro x1 hr
    show AW Hfaa.prog _ _ _ ⟨[(1, .inr (.inl (1, 0))), (4, .inl (is (U64 a4))), (5, .inr (.inl (5, 0))), (8, .inr (.inl (8, 0))), (10, .inr (.inl (1, (a2_1 &&& (7#8)).toNat))), (19, .inl (is (U8 a3_0))), (20, .inl (is (Bl x1)))], [(1, gc 90 (ar U64 8 b1_0 ++ []) ([]) (k1 Sv) 1 b1_1), (5, pb 23 [is (U8 a0_0), is (U8 a0_1)]), (8, pb 297 [is (U8 a3_0), is (Bl a3_1), is (Sv a3_2), is (I16 a3_3), is (I64 a3_4), is (I32 a3_5)])]⟩
    have hr : some r = F348_1 N a0_0 a0_1 b1_0 b1_1 a2_1 a3_0 a3_1 a3_2 a3_3 a3_4 a3_5 a4 x1 := hr
    refine AW_condT (b := x1) rfl (fun h => ?_) (fun h => ?_)
    · have hr := hr.trans (cond_t h)
      clear h
      refine AW_region ?_
      refine AL_cons (LR_move (at_tmp 10 _) rfl) (sS (sT1 rfl) sB0 sF0) ?_
      refine AL_cons (LR_move (at_tmp 4 _) rfl) (sS (sT1 rfl) sB0 sF0) ?_
      refine AL_cons (LR_nilCheck (at_tmp 22 _) rfl) (sS (sT1 rfl) sB0 sF0) ?_
      refine AL_opn 1 1001 (fun sv => (ar U64 8 b1_0 ++ (is ( sv) :: []))) rfl rfl (fun _ => by first | rfl | simp) ?_
      intro sv1 hsv1
      refine AL_cons (LR_storeA (at_tmp 24 _) (at_tmp 23 _) (cells_one (one_is rfl)) (onC (one_is rfl) onN) sz30 rfl (ble_dyn (lnA (lnC ln0)) (by have := (and7 a2_1); omega)) (stA (and7 a2_1))) (sS (sA (sT1 rfl) (sT1 rfl)) (sB1 rfl) sF0) ?_
      refine AL_imp (imp_close (k := 1) (r := 1001) ((ar U64 8 (upd b1_0 ((a2_1 &&& (7#8)).toNat) a4) ++ [])) ([]) rfl (by first | rfl | simp) rfl rfl rfl rfl) ?_
      refine AL_nil ?_
      refine blN ?_
      obtain rfl := Option.some.inj hr
      exact ⟨res0 rfl , (sub_keep (sub_drop (sub_drop (sub_drop sub_nil))))⟩
    · have hr := hr.trans (cond_f h)
      clear h
      refine AW_cut (σ := Bool) (fun v => ⟨[(1, .inr (.inl (1, 0))), (5, .inr (.inl (5, 0))), (8, .inr (.inl (8, 0))), (10, .inr (.inl (1, (a2_1 &&& (7#8)).toNat))), (19, .inl (is (U8 a3_0))), (25, .inl (is (Bl v)))], [(1, gc 90 (ar U64 8 b1_0 ++ []) ([]) (k1 Sv) 1 b1_1), (5, pb 23 [is (U8 a0_0), is (U8 a0_1)]), (8, pb 297 [is (U8 a3_0), is (Bl a3_1), is (Sv a3_2), is (I16 a3_3), is (I64 a3_4), is (I32 a3_5)])]⟩) (fun v => some r = F348_2 N a0_0 a0_1 b1_0 b1_1 a2_1 a3_0 a3_1 a3_2 a3_3 a3_4 a3_5 v) ?_ ?_
      · skip
        refine AW_region ?_
        refine AL_cons (LR_bin (at_tmp 19 _) (at_c (v' := U8 (1#8)) rfl) (eql_U8 a3_0 (1#8)) rfl) (sS (sA (sT1 rfl) sT0) sB0 sF0) ?_
        refine AL_cons (LR_assign (at_tmp 26 _) rfl) (sS (sT1 rfl) sB0 sF0) ?_
        refine AL_nil ?_
        exact thenN (cutLeaf (v := a3_0 == (1#8)) hr (weakB ((sT rfl (sT rfl (sT rfl (sT rfl (sT rfl (sT rfl sT0))))))) (sub_keep (sub_keep (sub_keep sub_nil))) rfl))
      · rintro x2 hr
        show AW Hfaa.prog _ _ _ ⟨[(1, .inr (.inl (1, 0))), (5, .inr (.inl (5, 0))), (8, .inr (.inl (8, 0))), (10, .inr (.inl (1, (a2_1 &&& (7#8)).toNat))), (19, .inl (is (U8 a3_0))), (25, .inl (is (Bl x2)))], [(1, gc 90 (ar U64 8 b1_0 ++ []) ([]) (k1 Sv) 1 b1_1), (5, pb 23 [is (U8 a0_0), is (U8 a0_1)]), (8, pb 297 [is (U8 a3_0), is (Bl a3_1), is (Sv a3_2), is (I16 a3_3), is (I64 a3_4), is (I32 a3_5)])]⟩
        have hr : some r = F348_2 N a0_0 a0_1 b1_0 b1_1 a2_1 a3_0 a3_1 a3_2 a3_3 a3_4 a3_5 x2 := hr
        refine AW_condT (b := x2) rfl (fun h => ?_) (fun h => ?_)
        · have hr := hr.trans (cond_t h)
          clear h
          refine AW_region ?_
          refine AL_cons (LR_move (at_tmp 10 _) rfl) (sS (sT1 rfl) sB0 sF0) ?_
          refine AL_cons (LR_loads (at_tmp 5 _) ag23 sz23 rfl rfl rfl) (sS (sT1 rfl) (sB1 rfl) sF0) ?_
          refine AL_cons (LR_fieldAddr (off := 0) (o := 1) (at_tmp 8 _) (fun b w => fa297_1 b 0 w) rfl) (sS (sT1 rfl) sB0 sF0) ?_
          refine AL_cons (LR_fieldAddr (off := 1) (o := 1) (at_tmp 29 _) (fun b w => fa76_0 b 1 w) rfl) (sS (sT1 rfl) sB0 sF0) ?_
          refine AL_cons (LR_load (at_tmp 30 _) na4 rfl rfl) (sS (sT1 rfl) (sB1 rfl) sF0) ?_
          obtain ⟨y1, hy1, hr⟩ := lt_some hr
          refine AL_cons (LR_call Hfaa.func67 rfl rfl (C67 a0_0 a0_1 a3_1 y1 hy1) (all_cons (at_tmp 28 _) (all_cons (at_tmp 31 _) all_nil)) rfl) (sS (sA (sT1 rfl) (sA (sT1 rfl) sT0)) sB0 sF0) ?_
          refine AL_cons (LR_nilCheck (at_tmp 27 _) rfl) (sS (sT1 rfl) sB0 sF0) ?_
          refine AL_opn 1 1002 (fun sv => (ar U64 8 b1_0 ++ (is ( sv) :: []))) rfl rfl (fun _ => by first | rfl | simp) ?_
          intro sv2 hsv2
          refine AL_cons (LR_storeA (at_tmp 33 _) (at_tmp 32 _) (cells_one (one_is rfl)) (onC (one_is rfl) onN) sz30 rfl (ble_dyn (lnA (lnC ln0)) (by have := (and7 a2_1); omega)) (stA (and7 a2_1))) (sS (sA (sT1 rfl) (sT1 rfl)) (sB1 rfl) sF0) ?_
          refine AL_imp (imp_close (k := 1) (r := 1002) ((ar U64 8 (upd b1_0 ((a2_1 &&& (7#8)).toNat) y1) ++ [])) ([]) rfl (by first | rfl | simp) rfl rfl rfl rfl) ?_
          refine AL_nil ?_
          refine blN ?_
          obtain rfl := Option.some.inj hr
          exact ⟨res0 rfl , (sub_keep (sub_drop (sub_drop (sub_drop sub_nil))))⟩
        · have hr := hr.trans (cond_f h)
          clear h
          refine AW_cut (σ := Bool) (fun v => ⟨[(1, .inr (.inl (1, 0))), (5, .inr (.inl (5, 0))), (10, .inr (.inl (1, (a2_1 &&& (7#8)).toNat))), (19, .inl (is (U8 a3_0))), (34, .inl (is (Bl v)))], [(1, gc 90 (ar U64 8 b1_0 ++ []) ([]) (k1 Sv) 1 b1_1), (5, pb 23 [is (U8 a0_0), is (U8 a0_1)])]⟩) (fun v => some r = F348_3 N a0_0 a0_1 b1_0 b1_1 a2_1 a3_0 v) ?_ ?_
          · skip
            refine AW_region ?_
            refine AL_cons (LR_bin (at_tmp 19 _) (at_c (v' := U8 (2#8)) rfl) (eql_U8 a3_0 (2#8)) rfl) (sS (sA (sT1 rfl) sT0) sB0 sF0) ?_
            refine AL_cons (LR_assign (at_tmp 35 _) rfl) (sS (sT1 rfl) sB0 sF0) ?_
            refine AL_nil ?_
            exact thenN (cutLeaf (v := a3_0 == (2#8)) hr (weakB ((sT rfl (sT rfl (sT rfl (sT rfl (sT rfl sT0)))))) (sub_keep (sub_keep (sub_drop sub_nil))) rfl))
          · rintro x3 hr
            show AW Hfaa.prog _ _ _ ⟨[(1, .inr (.inl (1, 0))), (5, .inr (.inl (5, 0))), (10, .inr (.inl (1, (a2_1 &&& (7#8)).toNat))), (19, .inl (is (U8 a3_0))), (34, .inl (is (Bl x3)))], [(1, gc 90 (ar U64 8 b1_0 ++ []) ([]) (k1 Sv) 1 b1_1), (5, pb 23 [is (U8 a0_0), is (U8 a0_1)])]⟩
            have hr : some r = F348_3 N a0_0 a0_1 b1_0 b1_1 a2_1 a3_0 x3 := hr
            refine AW_condT (b := x3) rfl (fun h => ?_) (fun h => ?_)
            · have hr := hr.trans (cond_t h)
              clear h
              refine AW_region ?_
              refine AL_cons (LR_move (at_tmp 10 _) rfl) (sS (sT1 rfl) sB0 sF0) ?_
              refine AL_cons (LR_loads (at_tmp 5 _) ag23 sz23 rfl rfl rfl) (sS (sT1 rfl) (sB1 rfl) sF0) ?_
              obtain ⟨y2, hy2, hr⟩ := lt_some hr
              refine AL_cons (LR_call Hfaa.func66 rfl rfl (C66 a0_0 a0_1 y2 hy2) (all_cons (at_tmp 37 _) all_nil) rfl) (sS (sA (sT1 rfl) sT0) sB0 sF0) ?_
              refine AL_cons (LR_nilCheck (at_tmp 36 _) rfl) (sS (sT1 rfl) sB0 sF0) ?_
              refine AL_opn 1 1003 (fun sv => (ar U64 8 b1_0 ++ (is ( sv) :: []))) rfl rfl (fun _ => by first | rfl | simp) ?_
              intro sv3 hsv3
              refine AL_cons (LR_storeA (at_tmp 39 _) (at_tmp 38 _) (cells_one (one_is rfl)) (onC (one_is rfl) onN) sz30 rfl (ble_dyn (lnA (lnC ln0)) (by have := (and7 a2_1); omega)) (stA (and7 a2_1))) (sS (sA (sT1 rfl) (sT1 rfl)) (sB1 rfl) sF0) ?_
              refine AL_imp (imp_close (k := 1) (r := 1003) ((ar U64 8 (upd b1_0 ((a2_1 &&& (7#8)).toNat) y2) ++ [])) ([]) rfl (by first | rfl | simp) rfl rfl rfl rfl) ?_
              refine AL_nil ?_
              refine blN ?_
              obtain rfl := Option.some.inj hr
              exact ⟨res0 rfl , (sub_keep (sub_drop (sub_drop sub_nil)))⟩
            · have hr := hr.trans (cond_f h)
              clear h
              refine AW_cut (σ := Bool) (fun v => ⟨[(1, .inr (.inl (1, 0))), (19, .inl (is (U8 a3_0))), (40, .inl (is (Bl v)))], [(1, gc 90 (ar U64 8 b1_0 ++ []) ([]) (k1 Sv) 1 b1_1)]⟩) (fun v => some r = F348_4 N b1_0 b1_1 a3_0 v) ?_ ?_
              · skip
                refine AW_region ?_
                refine AL_cons (LR_bin (at_tmp 19 _) (at_c (v' := U8 (3#8)) rfl) (eql_U8 a3_0 (3#8)) rfl) (sS (sA (sT1 rfl) sT0) sB0 sF0) ?_
                refine AL_cons (LR_assign (at_tmp 41 _) rfl) (sS (sT1 rfl) sB0 sF0) ?_
                refine AL_nil ?_
                exact thenN (cutLeaf (v := a3_0 == (3#8)) hr (weakB ((sT rfl (sT rfl (sT rfl sT0)))) (sub_keep (sub_drop sub_nil)) rfl))
              · rintro x4 hr
                show AW Hfaa.prog _ _ _ ⟨[(1, .inr (.inl (1, 0))), (19, .inl (is (U8 a3_0))), (40, .inl (is (Bl x4)))], [(1, gc 90 (ar U64 8 b1_0 ++ []) ([]) (k1 Sv) 1 b1_1)]⟩
                have hr : some r = F348_4 N b1_0 b1_1 a3_0 x4 := hr
                refine AW_condT (b := x4) rfl (fun h => ?_) (fun h => ?_)
                · have hr := hr.trans (cond_t h)
                  clear h
                  refine AW_region ?_
                  refine AL_cons (LR_move (at_tmp 1 _) rfl) (sS (sT1 rfl) sB0 sF0) ?_
                  refine AL_cons (LR_move (at_tmp 1 _) rfl) (sS (sT1 rfl) sB0 sF0) ?_
                  refine AL_cons (LR_nilCheck (at_tmp 43 _) rfl) (sS (sT1 rfl) sB0 sF0) ?_
                  refine AL_cons (LR_fieldAddr (off := 0) (o := 8) (at_tmp 44 _) (fun b w => fa90_1 b 0 w) rfl) (sS (sT1 rfl) sB0 sF0) ?_
                  refine AL_opn 1 1004 (fun sv => (ar U64 8 b1_0 ++ (is ( sv) :: []))) rfl rfl (fun _ => by first | rfl | simp) ?_
                  intro sv4 hsv4
                  refine AL_cons (LR_load (at_tmp 45 _) na57 (gP g0) rfl) (sS (sT1 rfl) (sB1 rfl) sF0) ?_
                  refine AL_cons (LR_bs1 Hfaa.underlying57 el9 (fun _ => rfl) (at_c (v' := Sv ([119, 114, 111, 110, 103] : List UInt8)) rfl) rfl) (sS sT0 sB0 sF0) ?_
                  obtain ⟨hg1, hr⟩ := guard_some hr
                  refine AL_consV (app_opk (K := (k1 Sv)) (r := 1004) (z := b1_1) (u := ([119, 114, 111, 110, 103] : List UInt8)) Hfaa.underlying57 eN9 k1_len (k1_cell fun _ => rfl) (at_tmp 46 _) (at_tmp 47 _) (oneAt_k1 rfl) (of_decide_eq_true hg1) rfl rfl) (sS (sA (sT1 rfl) (sT1 rfl)) (sB1 rfl) sF0) rfl ?_
                  intro sv5 hsv5
                  refine AL_cons (LR_nilCheck (at_tmp 42 _) rfl) (sS (sT1 rfl) sB0 sF0) ?_
                  refine AL_cons (LR_fieldAddr (off := 0) (o := 8) (at_tmp 49 _) (fun b w => fa90_1 b 0 w) rfl) (sS (sT1 rfl) sB0 sF0) ?_
                  refine AL_cons (LR_storeA (at_tmp 50 _) (at_tmp 48 _) (cells_one (one_is hsv5)) (onC (one_is hsv5) onN) sz57 rfl (bleLen (lnA (lnC ln0)) rfl) (stP st0)) (sS (sA (sT1 rfl) (sT1 rfl)) (sB1 rfl) sF0) ?_
                  refine AL_imp (imp_close (k := 1) (r := 1004) (ar U64 8 b1_0 ++ []) ([]) rfl (by first | rfl | simp) rfl rfl rfl rfl) ?_
                  refine AL_nil ?_
                  refine blN ?_
                  obtain rfl := Option.some.inj hr
                  exact ⟨res0 rfl , (sub_keep (sub_drop sub_nil))⟩
                · have hr := hr.trans (cond_f h)
                  clear h
                  refine AW_cut (σ := Bool) (fun v => ⟨[(1, .inr (.inl (1, 0))), (51, .inl (is (Bl v)))], [(1, gc 90 (ar U64 8 b1_0 ++ []) ([]) (k1 Sv) 1 b1_1)]⟩) (fun v => some r = F348_5 N b1_0 b1_1 v) ?_ ?_
                  · skip
                    refine AW_region ?_
                    refine AL_cons (LR_bin (at_tmp 19 _) (at_c (v' := U8 (4#8)) rfl) (eql_U8 a3_0 (4#8)) rfl) (sS (sA (sT1 rfl) sT0) sB0 sF0) ?_
                    refine AL_cons (LR_assign (at_tmp 52 _) rfl) (sS (sT1 rfl) sB0 sF0) ?_
                    refine AL_nil ?_
                    exact thenN (cutLeaf (v := a3_0 == (4#8)) hr (weakB ((sT rfl (sT rfl sT0))) (sub_keep sub_nil) rfl))
                  · rintro x5 hr
                    show AW Hfaa.prog _ _ _ ⟨[(1, .inr (.inl (1, 0))), (51, .inl (is (Bl x5)))], [(1, gc 90 (ar U64 8 b1_0 ++ []) ([]) (k1 Sv) 1 b1_1)]⟩
                    have hr : some r = F348_5 N b1_0 b1_1 x5 := hr
                    refine AW_condT (b := x5) rfl (fun h => ?_) (fun h => ?_)
                    · have hr := hr.trans (cond_t h)
                      clear h
                      refine AW_region ?_
                      refine AL_cons (LR_move (at_tmp 1 _) rfl) (sS (sT1 rfl) sB0 sF0) ?_
                      refine AL_cons (LR_move (at_tmp 1 _) rfl) (sS (sT1 rfl) sB0 sF0) ?_
                      refine AL_cons (LR_nilCheck (at_tmp 54 _) rfl) (sS (sT1 rfl) sB0 sF0) ?_
                      refine AL_cons (LR_fieldAddr (off := 0) (o := 8) (at_tmp 55 _) (fun b w => fa90_1 b 0 w) rfl) (sS (sT1 rfl) sB0 sF0) ?_
                      refine AL_opn 1 1005 (fun sv => (ar U64 8 b1_0 ++ (is ( sv) :: []))) rfl rfl (fun _ => by first | rfl | simp) ?_
                      intro sv6 hsv6
                      refine AL_cons (LR_load (at_tmp 56 _) na57 (gP g0) rfl) (sS (sT1 rfl) (sB1 rfl) sF0) ?_
                      refine AL_cons (LR_bs1 Hfaa.underlying57 el9 (fun _ => rfl) (at_c (v' := Sv ([116, 111, 111, 32, 98, 105, 103] : List UInt8)) rfl) rfl) (sS sT0 sB0 sF0) ?_
                      obtain ⟨hg2, hr⟩ := guard_some hr
                      refine AL_consV (app_opk (K := (k1 Sv)) (r := 1005) (z := b1_1) (u := ([116, 111, 111, 32, 98, 105, 103] : List UInt8)) Hfaa.underlying57 eN9 k1_len (k1_cell fun _ => rfl) (at_tmp 57 _) (at_tmp 58 _) (oneAt_k1 rfl) (of_decide_eq_true hg2) rfl rfl) (sS (sA (sT1 rfl) (sT1 rfl)) (sB1 rfl) sF0) rfl ?_
                      intro sv7 hsv7
                      refine AL_cons (LR_nilCheck (at_tmp 53 _) rfl) (sS (sT1 rfl) sB0 sF0) ?_
                      refine AL_cons (LR_fieldAddr (off := 0) (o := 8) (at_tmp 60 _) (fun b w => fa90_1 b 0 w) rfl) (sS (sT1 rfl) sB0 sF0) ?_
                      refine AL_cons (LR_storeA (at_tmp 61 _) (at_tmp 59 _) (cells_one (one_is hsv7)) (onC (one_is hsv7) onN) sz57 rfl (bleLen (lnA (lnC ln0)) rfl) (stP st0)) (sS (sA (sT1 rfl) (sT1 rfl)) (sB1 rfl) sF0) ?_
                      refine AL_imp (imp_close (k := 1) (r := 1005) (ar U64 8 b1_0 ++ []) ([]) rfl (by first | rfl | simp) rfl rfl rfl rfl) ?_
                      refine AL_nil ?_
                      refine blN ?_
                      obtain rfl := Option.some.inj hr
                      exact ⟨res0 rfl , (sub_keep (sub_drop sub_nil))⟩
                    · have hr := hr.trans (cond_f h)
                      clear h
                      refine AW_skip ?_
                      refine blN ?_
                      obtain rfl := Option.some.inj hr
                      exact ⟨res0 rfl , (sub_keep sub_nil)⟩
end Go.Proofs.YfwaawGreat
