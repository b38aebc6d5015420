import Derived.Test.YfwaawGreatG58
import Derived.Test.YfwaawGreatG60
import Derived.Test.YfwaawGreatG61
import Derived.Test.YfwaawGreatG62
namespace Go.Proofs.YfwaawGreat
open Go.Aw
set_option linter.unusedVariables false
set_option maxRecDepth 100000
set_option maxHeartbeats 1000000
/-- native.ldexp -/
def F416 (N : Nat) (a0 : Option Nat) (a1 : Int) : Option (Option Nat) := (F428 N a0 a1).bind fun y2 => some y2
theorem C416 (N : Nat) (a0 : Option Nat) (a1 : Int) (r : Option Nat) (hr : some r = F416 N a0 a1) : Aw.Fn Hfaa.prog 416 [fl .f64 a0, is (I64 a1)] (fl .f64 r) := by
  refine fn_intro Hfaa.func416 rfl rfl rfl ?_
  intro bn0 w0 H0
  refine AW_seq1 ?_
  refine AW_region ?_
  refine AL_cons (LR_assign (at_f rfl) rfl) (sS sT0 sB0 sF0) ?_
  refine AL_nil ?_
  refine thenN ?_
  refine AW_seq1 ?_
  refine AW_region ?_
  refine AL_cons (LR_move (at_tmp 0 _) rfl) (sS (sT1 rfl) sB0 sF0) ?_
  refine AL_cons (LR_move (at_tmp 1 _) rfl) (sS (sT1 rfl) sB0 sF0) ?_
  obtain ⟨y2, hy2, hr⟩ := bind_some hr
  refine AL_cons (LR_call Hfaa.func428 rfl rfl (C428 N a0 a1 y2 hy2) (all_cons (at_tmp 5 _) (all_cons (at_tmp 6 _) all_nil)) rfl) (sS (sA (sT1 rfl) (sA (sT1 rfl) sT0)) sB0 sF0) ?_
  refine AL_cons (LR_assign (at_tmp 7 _) rfl) (sS (sT1 rfl) sB0 sF0) ?_
  refine AL_nil ?_
  refine thenN ?_
  refine AW_ret ?_
  obtain rfl := Option.some.inj hr
  exact res1 rfl (rvT rfl)
/-- native.ScaleB64 -/
def F394 (N : Nat) (a0 : BitVec 64) (a1 : Int) : Option (BitVec 64) := lt (F384 a0) fun y4 => (F416 N y4 (w64 a1)).bind fun y5 => (F385 N y5).bind fun y6 => some y6
theorem C394 (N : Nat) (a0 : BitVec 64) (a1 : Int) (r : BitVec 64) (hr : some r = F394 N a0 a1) : Aw.Fn Hfaa.prog 394 [is (U64 a0), is (I16 a1)] (is (U64 r)) := by
  refine fn_intro Hfaa.func394 rfl rfl rfl ?_
  intro bn0 w0 H0
  refine AW_seq1 ?_
  refine AW_region ?_
  refine AL_cons (LR_assign (at_c (v' := U64 (0#64)) rfl) rfl) (sS sT0 sB0 sF0) ?_
  refine AL_nil ?_
  refine thenN ?_
  refine AW_seq1 ?_
  refine AW_region ?_
  refine AL_cons (LR_move (at_tmp 0 _) rfl) (sS (sT1 rfl) sB0 sF0) ?_
  obtain ⟨y4, hy4, hr⟩ := lt_some hr
  refine AL_cons (LR_call Hfaa.func384 rfl rfl (C384 a0 y4 hy4) (all_cons (at_tmp 5 _) all_nil) rfl) (sS (sA (sT1 rfl) sT0) sB0 sF0) ?_
  refine AL_cons (LR_move (at_tmp 1 _) rfl) (sS (sT1 rfl) sB0 sF0) ?_
  refine AL_cons (LR_conv (vx := I16 a1) (at_tmp 7 _) (conv_I64 Hfaa.underlying44 Hfaa.underlying3 a1) rfl) (sS (sT1 rfl) sB0 sF0) ?_
  obtain ⟨y5, hy5, hr⟩ := bind_some hr
  refine AL_cons (LR_call Hfaa.func416 rfl rfl (C416 N y4 (w64 a1) y5 hy5) (all_cons (at_tmp 6 _) (all_cons (at_tmp 8 _) all_nil)) rfl) (sS (sA (sT1 rfl) (sA (sT1 rfl) sT0)) sB0 sF0) ?_
  obtain ⟨y6, hy6, hr⟩ := bind_some hr
  refine AL_cons (LR_call Hfaa.func385 rfl rfl (C385 N y5 y6 hy6) (all_cons (at_tmp 9 _) all_nil) rfl) (sS (sA (sT1 rfl) sT0) sB0 sF0) ?_
  refine AL_cons (LR_assign (at_tmp 10 _) rfl) (sS (sT1 rfl) sB0 sF0) ?_
  refine AL_nil ?_
  refine thenN ?_
  refine AW_ret ?_
  obtain rfl := Option.some.inj hr
  exact res1 rfl (rvT rfl)
/-- calc/na.scaled -/
def F352_1 (N : Nat) (a0 : Bool) (a1 : BitVec 64) (x1 : Int) : Option (BitVec 64) := bif a0 then (F394 N a1 x1).bind fun y4 => some y4 else (F346 N (BitVec.ofInt 32 (a1.toNat : Int))).bind fun y8 => (F394 N y8 x1).bind fun y9 => (F347 N y9).bind fun y10 => some (BitVec.ofInt 64 (y10.toNat : Int))
def F352 (N : Nat) (a0 : Bool) (a1 : BitVec 64) (a2 : Int) : Option (BitVec 64) := F352_1 N a0 a1 (w16 (min (max a2 (-5000)) 5000))
theorem C352 (N : Nat) (a0 : Bool) (a1 : BitVec 64) (a2 : Int) (r : BitVec 64) (hr : some r = F352 N a0 a1 a2) : Aw.Fn Hfaa.prog 352 [is (Bl a0), is (U64 a1), is (I64 a2)] (is (U64 r)) := by
  refine fn_intro Hfaa.func352 rfl rfl rfl ?_
  intro bn0 w0 H0
  refine AW_seq1 ?_
  refine AW_region ?_
  refine AL_cons (LR_assign (at_c (v' := U64 (0#64)) rfl) rfl) (sS sT0 sB0 sF0) ?_
  refine AL_nil ?_
  refine thenN ?_
  refine AW_cut (σ := Int) (fun v => ⟨[(0, .inl (is (Bl a0))), (1, .inl (is (U64 a1))), (7, .inl (is (I16 v)))], []⟩) (fun v => some r = F352_1 N a0 a1 v) ?_ ?_
  · skip
    refine AW_region ?_
    refine AL_cons (LR_move (at_tmp 2 _) rfl) (sS (sT1 rfl) sB0 sF0) ?_
    refine AL_cons (LR_bi2 (vx := I64 a2) (vy := I64 (-5000)) (v := I64 (max a2 (-5000))) (at_tmp 8 _) (at_c (v' := I64 (-5000)) rfl) (fun cs w => max_I .i64 a2 (-5000) cs w) rfl) (sS (sA (sT1 rfl) sT0) sB0 sF0) ?_
    refine AL_cons (LR_bi2 (vx := I64 (max a2 (-5000))) (vy := I64 5000) (v := I64 (min (max a2 (-5000)) 5000)) (at_tmp 9 _) (at_c (v' := I64 5000) rfl) (fun cs w => min_I .i64 (max a2 (-5000)) 5000 cs w) rfl) (sS (sA (sT1 rfl) sT0) sB0 sF0) ?_
    refine AL_cons (LR_conv (vx := I64 (min (max a2 (-5000)) 5000)) (at_tmp 10 _) (conv_I16 Hfaa.underlying2 Hfaa.underlying44 (min (max a2 (-5000)) 5000)) rfl) (sS (sT1 rfl) sB0 sF0) ?_
    refine AL_cons (LR_assign (at_tmp 11 _) rfl) (sS (sT1 rfl) sB0 sF0) ?_
    refine AL_nil ?_
    exact thenN (cutLeaf (v := w16 (min (max a2 (-5000)) 5000)) hr (weak0 ((sT rfl (sT rfl (sT rfl sT0)))) sub_nil))
  · rintro x1 hr
    show AW Hfaa.prog _ _ _ ⟨[(0, .inl (is (Bl a0))), (1, .inl (is (U64 a1))), (7, .inl (is (I16 x1)))], []⟩
    have hr : some r = F352_1 N a0 a1 x1 := hr
    refine AW_seq1 ?_
    refine AW_seq1 ?_
    refine AW_region ?_
    refine AL_cons (LR_move (at_tmp 0 _) rfl) (sS (sT1 rfl) sB0 sF0) ?_
    refine AL_nil ?_
    refine thenN ?_
    refine AW_condT (b := a0) rfl (fun h => ?_) (fun h => ?_)
    · have hr := hr.trans (cond_t h)
      clear h
      refine AW_seq1 ?_
      refine AW_region ?_
      refine AL_cons (LR_move (at_tmp 1 _) rfl) (sS (sT1 rfl) sB0 sF0) ?_
      refine AL_cons (LR_move (at_tmp 7 _) rfl) (sS (sT1 rfl) sB0 sF0) ?_
      obtain ⟨y4, hy4, hr⟩ := bind_some hr
      refine AL_cons (LR_call Hfaa.func394 rfl rfl (C394 N a1 x1 y4 hy4) (all_cons (at_tmp 13 _) (all_cons (at_tmp 14 _) all_nil)) rfl) (sS (sA (sT1 rfl) (sA (sT1 rfl) sT0)) sB0 sF0) ?_
      refine AL_cons (LR_assign (at_tmp 15 _) rfl) (sS (sT1 rfl) sB0 sF0) ?_
      refine AL_nil ?_
      refine thenN ?_
      refine AW_ret ?_
      refine thenR ?_
      obtain rfl := Option.some.inj hr
      exact res1 rfl (rvT rfl)
    · have hr := hr.trans (cond_f h)
      clear h
      refine AW_skip ?_
      refine thenN ?_
      refine AW_seq1 ?_
      refine AW_region ?_
      refine AL_cons (LR_move (at_tmp 1 _) rfl) (sS (sT1 rfl) sB0 sF0) ?_
      refine AL_cons (LR_conv (vx := U64 a1) (at_tmp 16 _) (conv_U32 Hfaa.underlying30 Hfaa.underlying65 (a1.toNat : Int)) rfl) (sS (sT1 rfl) sB0 sF0) ?_
      obtain ⟨y8, hy8, hr⟩ := bind_some hr
      refine AL_cons (LR_call Hfaa.func346 rfl rfl (C346 N (BitVec.ofInt 32 (a1.toNat : Int)) y8 hy8) (all_cons (at_tmp 17 _) all_nil) rfl) (sS (sA (sT1 rfl) sT0) sB0 sF0) ?_
      refine AL_cons (LR_move (at_tmp 7 _) rfl) (sS (sT1 rfl) sB0 sF0) ?_
      obtain ⟨y9, hy9, hr⟩ := bind_some hr
      refine AL_cons (LR_call Hfaa.func394 rfl rfl (C394 N y8 x1 y9 hy9) (all_cons (at_tmp 18 _) (all_cons (at_tmp 19 _) all_nil)) rfl) (sS (sA (sT1 rfl) (sA (sT1 rfl) sT0)) sB0 sF0) ?_
      obtain ⟨y10, hy10, hr⟩ := bind_some hr
      refine AL_cons (LR_call Hfaa.func347 rfl rfl (C347 N y9 y10 hy10) (all_cons (at_tmp 20 _) all_nil) rfl) (sS (sA (sT1 rfl) sT0) sB0 sF0) ?_
      refine AL_cons (LR_conv (vx := U32 y10) (at_tmp 21 _) (conv_U64 Hfaa.underlying65 Hfaa.underlying30 (y10.toNat : Int)) rfl) (sS (sT1 rfl) sB0 sF0) ?_
      refine AL_cons (LR_assign (at_tmp 22 _) rfl) (sS (sT1 rfl) sB0 sF0) ?_
      refine AL_nil ?_
      refine thenN ?_
      refine AW_ret ?_
      obtain rfl := Option.some.inj hr
      exact res1 rfl (rvT rfl)
/-- math.ilogb -/
def F431_1 (N : Nat) (x1 : Option Nat) (x2 : Int) : Option (Int) := bif x1.isSome then some (w64 ((w64 ((w64 ((((BitVec.ofNat 64 (x1.getD 0)) >>> 52) &&& (2047#64)).toNat : Int)) - 1023)) + x2)) else none
def F431 (N : Nat) (a0 : Option Nat) : Option (Int) := (F445 N a0).bind fun y2 => F431_1 N y2.1 y2.2
theorem C431 (N : Nat) (a0 : Option Nat) (r : Int) (hr : some r = F431 N a0) : Aw.Fn Hfaa.prog 431 [fl .f64 a0] (is (I64 r)) := by
  refine fn_intro Hfaa.func431 rfl rfl rfl ?_
  intro bn0 w0 H0
  refine AW_seq1 ?_
  refine AW_region ?_
  refine AL_cons (LR_assign (at_c (v' := I64 0) rfl) rfl) (sS sT0 sB0 sF0) ?_
  refine AL_nil ?_
  refine thenN ?_
  refine AW_cut (σ := Option Nat × Int) (fun v => ⟨[(0, .inl (fl .f64 v.1)), (3, .inl (is (I64 v.2)))], []⟩) (fun v => some r = F431_1 N v.1 v.2) ?_ ?_
  · skip
    refine AW_region ?_
    refine AL_cons (LR_move (at_tmp 0 _) rfl) (sS (sT1 rfl) sB0 sF0) ?_
    obtain ⟨y2, hy2, hr⟩ := bind_some hr
    refine AL_cons (LR_call Hfaa.func445 rfl rfl (C445 N a0 y2 hy2) (all_cons (at_tmp 5 _) all_nil) rfl) (sS (sA (sT1 rfl) sT0) sB0 sF0) ?_
    refine AL_cons (LR_move (at_tmp 6 _) rfl) (sS (sT1 rfl) sB0 sF0) ?_
    refine AL_cons (LR_extract (at_tmp 4 _) rfl rfl) (sS (sT1 rfl) sB0 sF0) ?_
    refine AL_cons (LR_extract (at_tmp 4 _) rfl rfl) (sS (sT1 rfl) sB0 sF0) ?_
    refine AL_cons (LR_assign (at_tmp 7 _) rfl) (sS (sT1 rfl) sB0 sF0) ?_
    refine AL_cons (LR_assign (at_tmp 8 _) rfl) (sS (sT1 rfl) sB0 sF0) ?_
    refine AL_nil ?_
    exact thenN (cutLeaf (v := (y2.1, y2.2)) hr (weak0 ((sT rfl (sT rfl sT0))) sub_nil))
  · rintro ⟨x1, x2⟩ hr
    show AW Hfaa.prog _ _ _ ⟨[(0, .inl (fl .f64 x1)), (3, .inl (is (I64 x2)))], []⟩
    have hr : some r = F431_1 N x1 x2 := hr
    refine AW_seq1 ?_
    refine AW_region ?_
    refine AL_cons (LR_move (at_tmp 0 _) rfl) (sS (sT1 rfl) sB0 sF0) ?_
    obtain ⟨hg2, hr⟩ := guard_some hr
    refine AL_cons (LR_ext (ex262 x1 hg2) (all_cons (at_tmp 9 _) all_nil) rfl) (sS (sA (sT1 rfl) sT0) sB0 sF0) ?_
    refine AL_cons (LR_bin (at_tmp 10 _) (at_c (v' := U64 (52#64)) rfl) (shr_U64 (BitVec.ofNat 64 (x1.getD 0)) ((52#64).toNat : Int) (Int.natCast_nonneg _)) rfl) (sS (sA (sT1 rfl) sT0) sB0 sF0) ?_
    refine AL_cons (LR_bin (at_tmp 11 _) (at_c (v' := U64 (2047#64)) rfl) (and_U64 ((BitVec.ofNat 64 (x1.getD 0)) >>> 52) (2047#64)) rfl) (sS (sA (sT1 rfl) sT0) sB0 sF0) ?_
    refine AL_cons (LR_conv (vx := U64 (((BitVec.ofNat 64 (x1.getD 0)) >>> 52) &&& (2047#64))) (at_tmp 12 _) (conv_I64 Hfaa.underlying30 Hfaa.underlying3 ((((BitVec.ofNat 64 (x1.getD 0)) >>> 52) &&& (2047#64)).toNat : Int)) rfl) (sS (sT1 rfl) sB0 sF0) ?_
    refine AL_cons (LR_bin (at_tmp 13 _) (at_c (v' := I64 1023) rfl) (sub_I64 (w64 ((((BitVec.ofNat 64 (x1.getD 0)) >>> 52) &&& (2047#64)).toNat : Int)) 1023) rfl) (sS (sA (sT1 rfl) sT0) sB0 sF0) ?_
    refine AL_cons (LR_move (at_tmp 3 _) rfl) (sS (sT1 rfl) sB0 sF0) ?_
    refine AL_cons (LR_bin (at_tmp 14 _) (at_tmp 15 _) (add_I64 (w64 ((w64 ((((BitVec.ofNat 64 (x1.getD 0)) >>> 52) &&& (2047#64)).toNat : Int)) - 1023)) x2) rfl) (sS (sA (sT1 rfl) (sT1 rfl)) sB0 sF0) ?_
    refine AL_cons (LR_assign (at_tmp 16 _) rfl) (sS (sT1 rfl) sB0 sF0) ?_
    refine AL_nil ?_
    refine thenN ?_
    refine AW_ret ?_
    obtain rfl := Option.some.inj hr
    exact res1 rfl (rvT rfl)
/-- math.Ilogb -/
def F417_3 (N : Nat) (a0 : Option Nat) (x3 : Bool) : Option (Int) := bif x3 then some 2147483647 else (F431 N a0).bind fun y8 => some y8
def F417_2 (N : Nat) (a0 : Option Nat) (x2 : Bool) : Option (Int) := bif x2 then some 2147483647 else (F430 N a0 0).bind fun y9 => F417_3 N a0 y9
def F417_1 (N : Nat) (a0 : Option Nat) (x1 : Bool) : Option (Int) := bif x1 then some (-2147483648) else lt (F429 a0) fun y10 => F417_2 N a0 y10
def F417 (N : Nat) (a0 : Option Nat) : Option (Int) := F417_1 N a0 (fcmp .eql .f64 a0 (some 0))
theorem C417 (N : Nat) (a0 : Option Nat) (r : Int) (hr : some r = F417 N a0) : Aw.Fn Hfaa.prog 417 [fl .f64 a0] (is (I64 r)) := by
  refine fn_intro Hfaa.func417 rfl rfl rfl ?_
  intro bn0 w0 H0
  refine AW_seq1 ?_
  refine AW_region ?_
  refine AL_cons (LR_assign (at_c (v' := I64 0) rfl) rfl) (sS sT0 sB0 sF0) ?_
  refine AL_nil ?_
  refine thenN ?_
  refine AW_seq1 ?_
  refine AW_block ?_
  refine AW_cut (σ := Bool) (fun v => ⟨[(0, .inl (fl .f64 a0)), (3, .inl (is (Bl v)))], []⟩) (fun v => some r = F417_1 N a0 v) ?_ ?_
  · skip
    refine AW_region ?_
    refine AL_cons (LR_move (at_tmp 0 _) rfl) (sS (sT1 rfl) sB0 sF0) ?_
    refine AL_cons (LR_fcmp rfl (at_tmp 4 _) (at_f rfl) rfl) (sS (sA (sT1 rfl) sT0) sB0 sF0) ?_
    refine AL_cons (LR_assign (at_tmp 5 _) rfl) (sS (sT1 rfl) sB0 sF0) ?_
    refine AL_nil ?_
    exact thenN (cutLeaf (v := fcmp .eql .f64 a0 (some 0)) hr (weak0 ((sT rfl (sT rfl sT0))) sub_nil))
  · rintro x1 hr
    show AW Hfaa.prog _ _ _ ⟨[(0, .inl (fl .f64 a0)), (3, .inl (is (Bl x1)))], []⟩
    have hr : some r = F417_1 N a0 x1 := hr
    refine AW_condT (b := x1) rfl (fun h => ?_) (fun h => ?_)
    · have hr := hr.trans (cond_t h)
      clear h
      refine AW_seq1 ?_
      refine AW_region ?_
      refine AL_cons (LR_assign (at_c (v' := I64 (-2147483648)) rfl) rfl) (sS sT0 sB0 sF0) ?_
      refine AL_nil ?_
      refine thenN ?_
      refine AW_ret ?_
      refine blR ?_
      refine thenR ?_
      obtain rfl := Option.some.inj hr
      exact res1 rfl (rvT rfl)
    · have hr := hr.trans (cond_f h)
      clear h
      refine AW_cut (σ := Bool) (fun v => ⟨[(0, .inl (fl .f64 a0)), (6, .inl (is (Bl v)))], []⟩) (fun v => some r = F417_2 N a0 v) ?_ ?_
      · skip
        refine AW_region ?_
        refine AL_cons (LR_move (at_tmp 0 _) rfl) (sS (sT1 rfl) sB0 sF0) ?_
        obtain ⟨y10, hy10, hr⟩ := lt_some hr
        refine AL_cons (LR_call Hfaa.func429 rfl rfl (C429 a0 y10 hy10) (all_cons (at_tmp 7 _) all_nil) rfl) (sS (sA (sT1 rfl) sT0) sB0 sF0) ?_
        refine AL_cons (LR_assign (at_tmp 8 _) rfl) (sS (sT1 rfl) sB0 sF0) ?_
        refine AL_nil ?_
        exact thenN (cutLeaf (v := y10) hr (weak0 ((sT rfl (sT rfl sT0))) sub_nil))
      · rintro x2 hr
        show AW Hfaa.prog _ _ _ ⟨[(0, .inl (fl .f64 a0)), (6, .inl (is (Bl x2)))], []⟩
        have hr : some r = F417_2 N a0 x2 := hr
        refine AW_condT (b := x2) rfl (fun h => ?_) (fun h => ?_)
        · have hr := hr.trans (cond_t h)
          clear h
          refine AW_seq1 ?_
          refine AW_region ?_
          refine AL_cons (LR_assign (at_c (v' := I64 2147483647) rfl) rfl) (sS sT0 sB0 sF0) ?_
          refine AL_nil ?_
          refine thenN ?_
          refine AW_ret ?_
          refine blR ?_
          refine thenR ?_
          obtain rfl := Option.some.inj hr
          exact res1 rfl (rvT rfl)
        · have hr := hr.trans (cond_f h)
          clear h
          refine AW_cut (σ := Bool) (fun v => ⟨[(0, .inl (fl .f64 a0)), (9, .inl (is (Bl v)))], []⟩) (fun v => some r = F417_3 N a0 v) ?_ ?_
          · skip
            refine AW_region ?_
            refine AL_cons (LR_move (at_tmp 0 _) rfl) (sS (sT1 rfl) sB0 sF0) ?_
            obtain ⟨y9, hy9, hr⟩ := bind_some hr
            refine AL_cons (LR_call Hfaa.func430 rfl rfl (C430 N a0 0 y9 hy9) (all_cons (at_tmp 10 _) (all_cons (at_c (v' := I64 0) rfl) all_nil)) rfl) (sS (sA (sT1 rfl) (sA sT0 sT0)) sB0 sF0) ?_
            refine AL_cons (LR_assign (at_tmp 11 _) rfl) (sS (sT1 rfl) sB0 sF0) ?_
            refine AL_nil ?_
            exact thenN (cutLeaf (v := y9) hr (weak0 ((sT rfl (sT rfl sT0))) sub_nil))
          · rintro x3 hr
            show AW Hfaa.prog _ _ _ ⟨[(0, .inl (fl .f64 a0)), (9, .inl (is (Bl x3)))], []⟩
            have hr : some r = F417_3 N a0 x3 := hr
            refine AW_condT (b := x3) rfl (fun h => ?_) (fun h => ?_)
            · have hr := hr.trans (cond_t h)
              clear h
              refine AW_seq1 ?_
              refine AW_region ?_
              refine AL_cons (LR_assign (at_c (v' := I64 2147483647) rfl) rfl) (sS sT0 sB0 sF0) ?_
              refine AL_nil ?_
              refine thenN ?_
              refine AW_ret ?_
              refine blR ?_
              refine thenR ?_
              obtain rfl := Option.some.inj hr
              exact res1 rfl (rvT rfl)
            · have hr := hr.trans (cond_f h)
              clear h
              refine AW_skip ?_
              refine blN ?_
              refine thenN ?_
              refine AW_seq1 ?_
              refine AW_region ?_
              refine AL_cons (LR_move (at_tmp 0 _) rfl) (sS (sT1 rfl) sB0 sF0) ?_
              obtain ⟨y8, hy8, hr⟩ := bind_some hr
              refine AL_cons (LR_call Hfaa.func431 rfl rfl (C431 N a0 y8 hy8) (all_cons (at_tmp 12 _) all_nil) rfl) (sS (sA (sT1 rfl) sT0) sB0 sF0) ?_
              refine AL_cons (LR_assign (at_tmp 13 _) rfl) (sS (sT1 rfl) sB0 sF0) ?_
              refine AL_nil ?_
              refine thenN ?_
              refine AW_ret ?_
              obtain rfl := Option.some.inj hr
              exact res1 rfl (rvT rfl)
/-- native.ilogb -/
def F395 (N : Nat) (a0 : Option Nat) : Option (Int) := (F417 N a0).bind fun y2 => some y2
theorem C395 (N : Nat) (a0 : Option Nat) (r : Int) (hr : some r = F395 N a0) : Aw.Fn Hfaa.prog 395 [fl .f64 a0] (is (I64 r)) := by
  refine fn_intro Hfaa.func395 rfl rfl rfl ?_
  intro bn0 w0 H0
  refine AW_seq1 ?_
  refine AW_region ?_
  refine AL_cons (LR_assign (at_c (v' := I64 0) rfl) rfl) (sS sT0 sB0 sF0) ?_
  refine AL_nil ?_
  refine thenN ?_
  refine AW_seq1 ?_
  refine AW_region ?_
  refine AL_cons (LR_move (at_tmp 0 _) rfl) (sS (sT1 rfl) sB0 sF0) ?_
  obtain ⟨y2, hy2, hr⟩ := bind_some hr
  refine AL_cons (LR_call Hfaa.func417 rfl rfl (C417 N a0 y2 hy2) (all_cons (at_tmp 3 _) all_nil) rfl) (sS (sA (sT1 rfl) sT0) sB0 sF0) ?_
  refine AL_cons (LR_assign (at_tmp 4 _) rfl) (sS (sT1 rfl) sB0 sF0) ?_
  refine AL_nil ?_
  refine thenN ?_
  refine AW_ret ?_
  obtain rfl := Option.some.inj hr
  exact res1 rfl (rvT rfl)
/-- native.LogB64 -/
def F353_2 (N : Nat) (x1 : Int) (x2 : Bool) : Option (Int × Bool) := bif x2 then some (0, false) else some (x1, true)
def F353_1 (N : Nat) (x1 : Int) : Option (Int × Bool) := F353_2 N x1 ((decide (x1 < (-2000))) || (decide (x1 > 2000)))
def F353 (N : Nat) (a0 : BitVec 64) : Option (Int × Bool) := lt (F384 a0) fun y3 => (F395 N y3).bind fun y4 => F353_1 N y4
theorem C353 (N : Nat) (a0 : BitVec 64) (r : Int × Bool) (hr : some r = F353 N a0) : Aw.Fn Hfaa.prog 353 [is (U64 a0)] (tup [is (I64 r.1), is (Bl r.2)]) := by
  refine fn_intro Hfaa.func353 rfl rfl rfl ?_
  intro bn0 w0 H0
  refine AW_seq1 ?_
  refine AW_region ?_
  refine AL_cons (LR_assign (at_c (v' := I64 0) rfl) rfl) (sS sT0 sB0 sF0) ?_
  refine AL_cons (LR_assign (at_c (v' := Bl false) rfl) rfl) (sS sT0 sB0 sF0) ?_
  refine AL_nil ?_
  refine thenN ?_
  refine AW_cut (σ := Int) (fun v => ⟨[(4, .inl (is (I64 v)))], []⟩) (fun v => some r = F353_1 N v) ?_ ?_
  · skip
    refine AW_region ?_
    refine AL_cons (LR_move (at_tmp 0 _) rfl) (sS (sT1 rfl) sB0 sF0) ?_
    obtain ⟨y3, hy3, hr⟩ := lt_some hr
    refine AL_cons (LR_call Hfaa.func384 rfl rfl (C384 a0 y3 hy3) (all_cons (at_tmp 5 _) all_nil) rfl) (sS (sA (sT1 rfl) sT0) sB0 sF0) ?_
    obtain ⟨y4, hy4, hr⟩ := bind_some hr
    refine AL_cons (LR_call Hfaa.func395 rfl rfl (C395 N y3 y4 hy4) (all_cons (at_tmp 6 _) all_nil) rfl) (sS (sA (sT1 rfl) sT0) sB0 sF0) ?_
    refine AL_cons (LR_assign (at_tmp 7 _) rfl) (sS (sT1 rfl) sB0 sF0) ?_
    refine AL_nil ?_
    exact thenN (cutLeaf (v := y4) hr (weak0 ((sT rfl sT0)) sub_nil))
  · rintro x1 hr
    show AW Hfaa.prog _ _ _ ⟨[(4, .inl (is (I64 x1)))], []⟩
    have hr : some r = F353_1 N x1 := hr
    refine AW_seq1 ?_
    refine AW_cut (σ := Bool) (fun v => ⟨[(4, .inl (is (I64 x1))), (13, .inl (is (Bl v)))], []⟩) (fun v => some r = F353_2 N x1 v) ?_ ?_
    · skip
      refine AW_region ?_
      refine AL_cons (LR_move (at_tmp 4 _) rfl) (sS (sT1 rfl) sB0 sF0) ?_
      refine AL_cons (LR_bin (at_tmp 8 _) (at_c (v' := I64 (-2000)) rfl) (lss_I64 x1 (-2000)) rfl) (sS (sA (sT1 rfl) sT0) sB0 sF0) ?_
      refine AL_cons (LR_move (at_tmp 9 _) rfl) (sS (sT1 rfl) sB0 sF0) ?_
      refine AL_cutAt 3 ⟨[(4, .inl (is (I64 x1))), (8, .inl (is (I64 x1))), (9, .inl (is (Bl (decide (x1 < (-2000)))))), (10, .inl (is (Bl (decide (x1 < (-2000)))))), (13, .inl (is (Bl ((decide (x1 < (-2000))) || (decide (x1 > 2000))))))], []⟩ ?_ ?_
      · cases hb : decide (x1 < (-2000))
        · skip
          refine AL_cons (LR_on rfl rfl rfl (LR_move (at_tmp 4 _) rfl)) (sS (sT rfl (sT1 rfl)) sB0 sF0) ?_
          refine AL_cons (LR_on rfl rfl rfl (LR_bin (at_tmp 11 _) (at_c (v' := I64 2000) rfl) (gtr_I64 x1 2000) rfl)) (sS (sT rfl (sA (sT1 rfl) sT0)) sB0 sF0) ?_
          refine AL_cons (LR_pick (b := false) (at_tmp 10 _) (at_c (v' := Bl true) rfl) (at_tmp 12 _) rfl) (sS (sA (sT1 rfl) (sA sT0 (sT1 rfl))) sB0 sF0) ?_
          exact AL_nil ⟨rfl, weak0 ((sT rfl (sT rfl (sT rfl (sT rfl (sT rfl sT0)))))) sub_nil⟩
        · skip
          refine AL_cons (LR_off (b := true) rfl rfl rfl rfl) (sS (sT1 rfl) sB0 sF0) ?_
          refine AL_cons (LR_off (b := true) rfl rfl rfl rfl) (sS (sT1 rfl) sB0 sF0) ?_
          refine AL_cons (LR_pick (b := true) (at_tmp 10 _) (at_c (v' := Bl true) rfl) (at_tmp 12 _) rfl) (sS (sA (sT1 rfl) (sA sT0 (sT1 rfl))) sB0 sF0) ?_
          exact AL_nil ⟨rfl, weak0 ((sT rfl (sT rfl (sT rfl (sT rfl (sT rfl sT0)))))) sub_nil⟩
      refine AL_nil ?_
      exact thenN (cutLeaf (v := (decide (x1 < (-2000))) || (decide (x1 > 2000))) hr (weak0 ((sT rfl (sT rfl sT0))) sub_nil))
    · rintro x2 hr
      show AW Hfaa.prog _ _ _ ⟨[(4, .inl (is (I64 x1))), (13, .inl (is (Bl x2)))], []⟩
      have hr : some r = F353_2 N x1 x2 := hr
      refine AW_condT (b := x2) rfl (fun h => ?_) (fun h => ?_)
      · have hr := hr.trans (cond_t h)
        clear h
        refine AW_seq1 ?_
        refine AW_region ?_
        refine AL_cons (LR_assign (at_c (v' := I64 0) rfl) rfl) (sS sT0 sB0 sF0) ?_
        refine AL_cons (LR_assign (at_c (v' := Bl false) rfl) rfl) (sS sT0 sB0 sF0) ?_
        refine AL_nil ?_
        refine thenN ?_
        refine AW_ret ?_
        refine thenR ?_
        obtain rfl := Option.some.inj hr
        exact res2 rfl (rvT rfl) (rvT rfl)
      · have hr := hr.trans (cond_f h)
        clear h
        refine AW_skip ?_
        refine thenN ?_
        refine AW_seq1 ?_
        refine AW_region ?_
        refine AL_cons (LR_move (at_tmp 4 _) rfl) (sS (sT1 rfl) sB0 sF0) ?_
        refine AL_cons (LR_assign (at_tmp 14 _) rfl) (sS (sT1 rfl) sB0 sF0) ?_
        refine AL_cons (LR_assign (at_c (v' := Bl true) rfl) rfl) (sS sT0 sB0 sF0) ?_
        refine AL_nil ?_
        refine thenN ?_
        refine AW_ret ?_
        obtain rfl := Option.some.inj hr
        exact res2 rfl (rvT rfl) (rvT rfl)
/-- native.Max64 -/
def F396 (N : Nat) (a0 : BitVec 64) (a1 : BitVec 64) : Option (BitVec 64) := lt (F384 a0) fun y4 => lt (F384 a1) fun y5 => (F385 N (fmax .f64 y4 y5)).bind fun y6 => some y6
theorem C396 (N : Nat) (a0 : BitVec 64) (a1 : BitVec 64) (r : BitVec 64) (hr : some r = F396 N a0 a1) : Aw.Fn Hfaa.prog 396 [is (U64 a0), is (U64 a1)] (is (U64 r)) := by
  refine fn_intro Hfaa.func396 rfl rfl rfl ?_
  intro bn0 w0 H0
  refine AW_seq1 ?_
  refine AW_region ?_
  refine AL_cons (LR_assign (at_c (v' := U64 (0#64)) rfl) rfl) (sS sT0 sB0 sF0) ?_
  refine AL_nil ?_
  refine thenN ?_
  refine AW_seq1 ?_
  refine AW_region ?_
  refine AL_cons (LR_move (at_tmp 0 _) rfl) (sS (sT1 rfl) sB0 sF0) ?_
  obtain ⟨y4, hy4, hr⟩ := lt_some hr
  refine AL_cons (LR_call Hfaa.func384 rfl rfl (C384 a0 y4 hy4) (all_cons (at_tmp 5 _) all_nil) rfl) (sS (sA (sT1 rfl) sT0) sB0 sF0) ?_
  refine AL_cons (LR_move (at_tmp 1 _) rfl) (sS (sT1 rfl) sB0 sF0) ?_
  obtain ⟨y5, hy5, hr⟩ := lt_some hr
  refine AL_cons (LR_call Hfaa.func384 rfl rfl (C384 a1 y5 hy5) (all_cons (at_tmp 7 _) all_nil) rfl) (sS (sA (sT1 rfl) sT0) sB0 sF0) ?_
  refine AL_cons (LR_fmx (at_tmp 6 _) (at_tmp 8 _) rfl) (sS (sA (sT1 rfl) (sT1 rfl)) sB0 sF0) ?_
  obtain ⟨y6, hy6, hr⟩ := bind_some hr
  refine AL_cons (LR_call Hfaa.func385 rfl rfl (C385 N (fmax .f64 y4 y5) y6 hy6) (all_cons (at_tmp 9 _) all_nil) rfl) (sS (sA (sT1 rfl) sT0) sB0 sF0) ?_
  refine AL_cons (LR_assign (at_tmp 10 _) rfl) (sS (sT1 rfl) sB0 sF0) ?_
  refine AL_nil ?_
  refine thenN ?_
  refine AW_ret ?_
  obtain rfl := Option.some.inj hr
  exact res1 rfl (rvT rfl)
/-- native.Min64 -/
def F397 (N : Nat) (a0 : BitVec 64) (a1 : BitVec 64) : Option (BitVec 64) := lt (F384 a0) fun y4 => lt (F384 a1) fun y5 => (F385 N (fmin .f64 y4 y5)).bind fun y6 => some y6
theorem C397 (N : Nat) (a0 : BitVec 64) (a1 : BitVec 64) (r : BitVec 64) (hr : some r = F397 N a0 a1) : Aw.Fn Hfaa.prog 397 [is (U64 a0), is (U64 a1)] (is (U64 r)) := by
  refine fn_intro Hfaa.func397 rfl rfl rfl ?_
  intro bn0 w0 H0
  refine AW_seq1 ?_
  refine AW_region ?_
  refine AL_cons (LR_assign (at_c (v' := U64 (0#64)) rfl) rfl) (sS sT0 sB0 sF0) ?_
  refine AL_nil ?_
  refine thenN ?_
  refine AW_seq1 ?_
  refine AW_region ?_
  refine AL_cons (LR_move (at_tmp 0 _) rfl) (sS (sT1 rfl) sB0 sF0) ?_
  obtain ⟨y4, hy4, hr⟩ := lt_some hr
  refine AL_cons (LR_call Hfaa.func384 rfl rfl (C384 a0 y4 hy4) (all_cons (at_tmp 5 _) all_nil) rfl) (sS (sA (sT1 rfl) sT0) sB0 sF0) ?_
  refine AL_cons (LR_move (at_tmp 1 _) rfl) (sS (sT1 rfl) sB0 sF0) ?_
  obtain ⟨y5, hy5, hr⟩ := lt_some hr
  refine AL_cons (LR_call Hfaa.func384 rfl rfl (C384 a1 y5 hy5) (all_cons (at_tmp 7 _) all_nil) rfl) (sS (sA (sT1 rfl) sT0) sB0 sF0) ?_
  refine AL_cons (LR_fmm (at_tmp 6 _) (at_tmp 8 _) rfl) (sS (sA (sT1 rfl) (sT1 rfl)) sB0 sF0) ?_
  obtain ⟨y6, hy6, hr⟩ := bind_some hr
  refine AL_cons (LR_call Hfaa.func385 rfl rfl (C385 N (fmin .f64 y4 y5) y6 hy6) (all_cons (at_tmp 9 _) all_nil) rfl) (sS (sA (sT1 rfl) sT0) sB0 sF0) ?_
  refine AL_cons (LR_assign (at_tmp 10 _) rfl) (sS (sT1 rfl) sB0 sF0) ?_
  refine AL_nil ?_
  refine thenN ?_
  refine AW_ret ?_
  obtain rfl := Option.some.inj hr
  exact res1 rfl (rvT rfl)
/-- native.Max32 -/
def F398 (N : Nat) (a0 : BitVec 32) (a1 : BitVec 32) : Option (BitVec 32) := lt (F386 a0) fun y4 => lt (F386 a1) fun y5 => (F387 N (fmax .f32 y4 y5)).bind fun y6 => some y6
theorem C398 (N : Nat) (a0 : BitVec 32) (a1 : BitVec 32) (r : BitVec 32) (hr : some r = F398 N a0 a1) : Aw.Fn Hfaa.prog 398 [is (U32 a0), is (U32 a1)] (is (U32 r)) := by
  refine fn_intro Hfaa.func398 rfl rfl rfl ?_
  intro bn0 w0 H0
  refine AW_seq1 ?_
  refine AW_region ?_
  refine AL_cons (LR_assign (at_c (v' := U32 (0#32)) rfl) rfl) (sS sT0 sB0 sF0) ?_
  refine AL_nil ?_
  refine thenN ?_
  refine AW_seq1 ?_
  refine AW_region ?_
  refine AL_cons (LR_move (at_tmp 0 _) rfl) (sS (sT1 rfl) sB0 sF0) ?_
  obtain ⟨y4, hy4, hr⟩ := lt_some hr
  refine AL_cons (LR_call Hfaa.func386 rfl rfl (C386 a0 y4 hy4) (all_cons (at_tmp 5 _) all_nil) rfl) (sS (sA (sT1 rfl) sT0) sB0 sF0) ?_
  refine AL_cons (LR_move (at_tmp 1 _) rfl) (sS (sT1 rfl) sB0 sF0) ?_
  obtain ⟨y5, hy5, hr⟩ := lt_some hr
  refine AL_cons (LR_call Hfaa.func386 rfl rfl (C386 a1 y5 hy5) (all_cons (at_tmp 7 _) all_nil) rfl) (sS (sA (sT1 rfl) sT0) sB0 sF0) ?_
  refine AL_cons (LR_fmx (at_tmp 6 _) (at_tmp 8 _) rfl) (sS (sA (sT1 rfl) (sT1 rfl)) sB0 sF0) ?_
  obtain ⟨y6, hy6, hr⟩ := bind_some hr
  refine AL_cons (LR_call Hfaa.func387 rfl rfl (C387 N (fmax .f32 y4 y5) y6 hy6) (all_cons (at_tmp 9 _) all_nil) rfl) (sS (sA (sT1 rfl) sT0) sB0 sF0) ?_
  refine AL_cons (LR_assign (at_tmp 10 _) rfl) (sS (sT1 rfl) sB0 sF0) ?_
  refine AL_nil ?_
  refine thenN ?_
  refine AW_ret ?_
  obtain rfl := Option.some.inj hr
  exact res1 rfl (rvT rfl)
/-- native.Min32 -/
def F399 (N : Nat) (a0 : BitVec 32) (a1 : BitVec 32) : Option (BitVec 32) := lt (F386 a0) fun y4 => lt (F386 a1) fun y5 => (F387 N (fmin .f32 y4 y5)).bind fun y6 => some y6
theorem C399 (N : Nat) (a0 : BitVec 32) (a1 : BitVec 32) (r : BitVec 32) (hr : some r = F399 N a0 a1) : Aw.Fn Hfaa.prog 399 [is (U32 a0), is (U32 a1)] (is (U32 r)) := by
  refine fn_intro Hfaa.func399 rfl rfl rfl ?_
  intro bn0 w0 H0
  refine AW_seq1 ?_
  refine AW_region ?_
  refine AL_cons (LR_assign (at_c (v' := U32 (0#32)) rfl) rfl) (sS sT0 sB0 sF0) ?_
  refine AL_nil ?_
  refine thenN ?_
  refine AW_seq1 ?_
  refine AW_region ?_
  refine AL_cons (LR_move (at_tmp 0 _) rfl) (sS (sT1 rfl) sB0 sF0) ?_
  obtain ⟨y4, hy4, hr⟩ := lt_some hr
  refine AL_cons (LR_call Hfaa.func386 rfl rfl (C386 a0 y4 hy4) (all_cons (at_tmp 5 _) all_nil) rfl) (sS (sA (sT1 rfl) sT0) sB0 sF0) ?_
  refine AL_cons (LR_move (at_tmp 1 _) rfl) (sS (sT1 rfl) sB0 sF0) ?_
  obtain ⟨y5, hy5, hr⟩ := lt_some hr
  refine AL_cons (LR_call Hfaa.func386 rfl rfl (C386 a1 y5 hy5) (all_cons (at_tmp 7 _) all_nil) rfl) (sS (sA (sT1 rfl) sT0) sB0 sF0) ?_
  refine AL_cons (LR_fmm (at_tmp 6 _) (at_tmp 8 _) rfl) (sS (sA (sT1 rfl) (sT1 rfl)) sB0 sF0) ?_
  obtain ⟨y6, hy6, hr⟩ := bind_some hr
  refine AL_cons (LR_call Hfaa.func387 rfl rfl (C387 N (fmin .f32 y4 y5) y6 hy6) (all_cons (at_tmp 9 _) all_nil) rfl) (sS (sA (sT1 rfl) sT0) sB0 sF0) ?_
  refine AL_cons (LR_assign (at_tmp 10 _) rfl) (sS (sT1 rfl) sB0 sF0) ?_
  refine AL_nil ?_
  refine thenN ?_
  refine AW_ret ?_
  obtain rfl := Option.some.inj hr
  exact res1 rfl (rvT rfl)
/-- calc/na.choose -/
def F354_1 (N : Nat) (a0 : Bool) (a1 : Bool) (a2 : BitVec 64) (a3 : BitVec 64) (x1 : Bool) : Option (BitVec 64) := bif x1 then (F396 N a2 a3).bind fun y8 => some y8 else bif a0 then (F397 N a2 a3).bind fun y10 => some y10 else bif a1 then (F398 N (BitVec.ofInt 32 (a2.toNat : Int)) (BitVec.ofInt 32 (a3.toNat : Int))).bind fun y12 => some (BitVec.ofInt 64 (y12.toNat : Int)) else (F399 N (BitVec.ofInt 32 (a2.toNat : Int)) (BitVec.ofInt 32 (a3.toNat : Int))).bind fun y14 => some (BitVec.ofInt 64 (y14.toNat : Int))
def F354 (N : Nat) (a0 : Bool) (a1 : Bool) (a2 : BitVec 64) (a3 : BitVec 64) : Option (BitVec 64) := F354_1 N a0 a1 a2 a3 (a0 && a1)
theorem C354 (N : Nat) (a0 : Bool) (a1 : Bool) (a2 : BitVec 64) (a3 : BitVec 64) (r : BitVec 64) (hr : some r = F354 N a0 a1 a2 a3) : Aw.Fn Hfaa.prog 354 [is (Bl a0), is (Bl a1), is (U64 a2), is (U64 a3)] (is (U64 r)) := by
  refine fn_intro Hfaa.func354 rfl rfl rfl ?_
  intro bn0 w0 H0
  refine AW_seq1 ?_
  refine AW_region ?_
  refine AL_cons (LR_assign (at_c (v' := U64 (0#64)) rfl) rfl) (sS sT0 sB0 sF0) ?_
  refine AL_nil ?_
  refine thenN ?_
  refine AW_seq1 ?_
  refine AW_block ?_
  refine AW_cut (σ := Bool) (fun v => ⟨[(0, .inl (is (Bl a0))), (1, .inl (is (Bl a1))), (2, .inl (is (U64 a2))), (3, .inl (is (U64 a3))), (9, .inl (is (Bl v)))], []⟩) (fun v => some r = F354_1 N a0 a1 a2 a3 v) ?_ ?_
  · skip
    refine AW_region ?_
    refine AL_cons (LR_move (at_tmp 0 _) rfl) (sS (sT1 rfl) sB0 sF0) ?_
    refine AL_cons (LR_move (at_tmp 10 _) rfl) (sS (sT1 rfl) sB0 sF0) ?_
    refine AL_cutAt 2 ⟨[(0, .inl (is (Bl a0))), (1, .inl (is (Bl a1))), (2, .inl (is (U64 a2))), (3, .inl (is (U64 a3))), (8, .inl (is (U64 (0#64)))), (10, .inl (is (Bl a0))), (11, .inl (is (Bl a0))), (13, .inl (is (Bl (a0 && a1))))], []⟩ ?_ ?_
    · cases hb : a0
      · skip
        refine AL_cons (LR_off (b := false) rfl rfl rfl rfl) (sS (sT1 rfl) sB0 sF0) ?_
        refine AL_cons (LR_pick (b := false) (at_tmp 11 _) (at_tmp 12 _) (at_c (v' := Bl false) rfl) rfl) (sS (sA (sT1 rfl) (sA (sT1 rfl) sT0)) sB0 sF0) ?_
        exact AL_nil ⟨rfl, weak0 ((sT rfl (sT rfl (sT rfl (sT rfl (sT rfl (sT rfl (sT rfl (sT rfl sT0))))))))) sub_nil⟩
      · skip
        refine AL_cons (LR_on rfl rfl rfl (LR_move (at_tmp 1 _) rfl)) (sS (sT rfl (sT1 rfl)) sB0 sF0) ?_
        refine AL_cons (LR_pick (b := true) (at_tmp 11 _) (at_tmp 12 _) (at_c (v' := Bl false) rfl) rfl) (sS (sA (sT1 rfl) (sA (sT1 rfl) sT0)) sB0 sF0) ?_
        exact AL_nil ⟨rfl, weak0 ((sT rfl (sT rfl (sT rfl (sT rfl (sT rfl (sT rfl (sT rfl (sT rfl sT0))))))))) sub_nil⟩
    refine AL_cons (LR_assign (at_tmp 13 _) rfl) (sS (sT1 rfl) sB0 sF0) ?_
    refine AL_nil ?_
    exact thenN (cutLeaf (v := a0 && a1) hr (weak0 ((sT rfl (sT rfl (sT rfl (sT rfl (sT rfl sT0)))))) sub_nil))
  · rintro x1 hr
    show AW Hfaa.prog _ _ _ ⟨[(0, .inl (is (Bl a0))), (1, .inl (is (Bl a1))), (2, .inl (is (U64 a2))), (3, .inl (is (U64 a3))), (9, .inl (is (Bl x1)))], []⟩
    have hr : some r = F354_1 N a0 a1 a2 a3 x1 := hr
    refine AW_condT (b := x1) rfl (fun h => ?_) (fun h => ?_)
    · have hr := hr.trans (cond_t h)
      clear h
      refine AW_seq1 ?_
      refine AW_region ?_
      refine AL_cons (LR_move (at_tmp 2 _) rfl) (sS (sT1 rfl) sB0 sF0) ?_
      refine AL_cons (LR_move (at_tmp 3 _) rfl) (sS (sT1 rfl) sB0 sF0) ?_
      obtain ⟨y8, hy8, hr⟩ := bind_some hr
      refine AL_cons (LR_call Hfaa.func396 rfl rfl (C396 N a2 a3 y8 hy8) (all_cons (at_tmp 14 _) (all_cons (at_tmp 15 _) all_nil)) rfl) (sS (sA (sT1 rfl) (sA (sT1 rfl) sT0)) sB0 sF0) ?_
      refine AL_cons (LR_assign (at_tmp 16 _) rfl) (sS (sT1 rfl) sB0 sF0) ?_
      refine AL_nil ?_
      refine thenN ?_
      refine AW_ret ?_
      refine blR ?_
      refine thenR ?_
      obtain rfl := Option.some.inj hr
      exact res1 rfl (rvT rfl)
    · have hr := hr.trans (cond_f h)
      clear h
      refine AW_seq1 ?_
      refine AW_region ?_
      refine AL_cons (LR_move (at_tmp 0 _) rfl) (sS (sT1 rfl) sB0 sF0) ?_
      refine AL_cons (LR_assign (at_tmp 18 _) rfl) (sS (sT1 rfl) sB0 sF0) ?_
      refine AL_nil ?_
      refine thenN ?_
      refine AW_condT (b := a0) rfl (fun h => ?_) (fun h => ?_)
      · have hr := hr.trans (cond_t h)
        clear h
        refine AW_seq1 ?_
        refine AW_region ?_
        refine AL_cons (LR_move (at_tmp 2 _) rfl) (sS (sT1 rfl) sB0 sF0) ?_
        refine AL_cons (LR_move (at_tmp 3 _) rfl) (sS (sT1 rfl) sB0 sF0) ?_
        obtain ⟨y10, hy10, hr⟩ := bind_some hr
        refine AL_cons (LR_call Hfaa.func397 rfl rfl (C397 N a2 a3 y10 hy10) (all_cons (at_tmp 19 _) (all_cons (at_tmp 20 _) all_nil)) rfl) (sS (sA (sT1 rfl) (sA (sT1 rfl) sT0)) sB0 sF0) ?_
        refine AL_cons (LR_assign (at_tmp 21 _) rfl) (sS (sT1 rfl) sB0 sF0) ?_
        refine AL_nil ?_
        refine thenN ?_
        refine AW_ret ?_
        refine blR ?_
        refine thenR ?_
        obtain rfl := Option.some.inj hr
        exact res1 rfl (rvT rfl)
      · have hr := hr.trans (cond_f h)
        clear h
        refine AW_seq1 ?_
        refine AW_region ?_
        refine AL_cons (LR_move (at_tmp 1 _) rfl) (sS (sT1 rfl) sB0 sF0) ?_
        refine AL_cons (LR_assign (at_tmp 23 _) rfl) (sS (sT1 rfl) sB0 sF0) ?_
        refine AL_nil ?_
        refine thenN ?_
        refine AW_condT (b := a1) rfl (fun h => ?_) (fun h => ?_)
        · have hr := hr.trans (cond_t h)
          clear h
          refine AW_seq1 ?_
          refine AW_region ?_
          refine AL_cons (LR_move (at_tmp 2 _) rfl) (sS (sT1 rfl) sB0 sF0) ?_
          refine AL_cons (LR_conv (vx := U64 a2) (at_tmp 24 _) (conv_U32 Hfaa.underlying30 Hfaa.underlying65 (a2.toNat : Int)) rfl) (sS (sT1 rfl) sB0 sF0) ?_
          refine AL_cons (LR_move (at_tmp 3 _) rfl) (sS (sT1 rfl) sB0 sF0) ?_
          refine AL_cons (LR_conv (vx := U64 a3) (at_tmp 26 _) (conv_U32 Hfaa.underlying30 Hfaa.underlying65 (a3.toNat : Int)) rfl) (sS (sT1 rfl) sB0 sF0) ?_
          obtain ⟨y12, hy12, hr⟩ := bind_some hr
          refine AL_cons (LR_call Hfaa.func398 rfl rfl (C398 N (BitVec.ofInt 32 (a2.toNat : Int)) (BitVec.ofInt 32 (a3.toNat : Int)) y12 hy12) (all_cons (at_tmp 25 _) (all_cons (at_tmp 27 _) all_nil)) rfl) (sS (sA (sT1 rfl) (sA (sT1 rfl) sT0)) sB0 sF0) ?_
          refine AL_cons (LR_conv (vx := U32 y12) (at_tmp 28 _) (conv_U64 Hfaa.underlying65 Hfaa.underlying30 (y12.toNat : Int)) rfl) (sS (sT1 rfl) sB0 sF0) ?_
          refine AL_cons (LR_assign (at_tmp 29 _) rfl) (sS (sT1 rfl) sB0 sF0) ?_
          refine AL_nil ?_
          refine thenN ?_
          refine AW_ret ?_
          refine blR ?_
          refine thenR ?_
          obtain rfl := Option.some.inj hr
          exact res1 rfl (rvT rfl)
        · have hr := hr.trans (cond_f h)
          clear h
          refine AW_skip ?_
          refine blN ?_
          refine thenN ?_
          refine AW_seq1 ?_
          refine AW_region ?_
          refine AL_cons (LR_move (at_tmp 2 _) rfl) (sS (sT1 rfl) sB0 sF0) ?_
          refine AL_cons (LR_conv (vx := U64 a2) (at_tmp 30 _) (conv_U32 Hfaa.underlying30 Hfaa.underlying65 (a2.toNat : Int)) rfl) (sS (sT1 rfl) sB0 sF0) ?_
          refine AL_cons (LR_move (at_tmp 3 _) rfl) (sS (sT1 rfl) sB0 sF0) ?_
          refine AL_cons (LR_conv (vx := U64 a3) (at_tmp 32 _) (conv_U32 Hfaa.underlying30 Hfaa.underlying65 (a3.toNat : Int)) rfl) (sS (sT1 rfl) sB0 sF0) ?_
          obtain ⟨y14, hy14, hr⟩ := bind_some hr
          refine AL_cons (LR_call Hfaa.func399 rfl rfl (C399 N (BitVec.ofInt 32 (a2.toNat : Int)) (BitVec.ofInt 32 (a3.toNat : Int)) y14 hy14) (all_cons (at_tmp 31 _) (all_cons (at_tmp 33 _) all_nil)) rfl) (sS (sA (sT1 rfl) (sA (sT1 rfl) sT0)) sB0 sF0) ?_
          refine AL_cons (LR_conv (vx := U32 y14) (at_tmp 34 _) (conv_U64 Hfaa.underlying65 Hfaa.underlying30 (y14.toNat : Int)) rfl) (sS (sT1 rfl) sB0 sF0) ?_
          refine AL_cons (LR_assign (at_tmp 35 _) rfl) (sS (sT1 rfl) sB0 sF0) ?_
          refine AL_nil ?_
          refine thenN ?_
          refine AW_ret ?_
          obtain rfl := Option.some.inj hr
          exact res1 rfl (rvT rfl)
/-- math.Nextafter -/
def F432_1 (N : Nat) (x1 : Option Nat) : Option (Option Nat) := some x1
def F432_5 (N : Nat) (a0 : Option Nat) (x5 : Bool) : Option (Option Nat) := bif x5 then bif a0.isSome then F432_1 N (some ((BitVec.ofNat 64 (a0.getD 0)) + (1#64)).toNat) else none else bif a0.isSome then F432_1 N (some ((BitVec.ofNat 64 (a0.getD 0)) - (1#64)).toNat) else none
def F432_4 (N : Nat) (a0 : Option Nat) (a1 : Option Nat) (x4 : Bool) : Option (Option Nat) := bif x4 then (F447 N (some (1#64).toNat) a1).bind fun y7 => F432_1 N y7 else F432_5 N a0 ((fcmp .gtr .f64 a1 a0) == (fcmp .gtr .f64 a0 (some 0)))
def F432_3 (N : Nat) (a0 : Option Nat) (a1 : Option Nat) (x3 : Bool) : Option (Option Nat) := bif x3 then F432_1 N a0 else F432_4 N a0 a1 (fcmp .eql .f64 a0 (some 0))
def F432_2 (N : Nat) (a0 : Option Nat) (a1 : Option Nat) (x2 : Bool) : Option (Option Nat) := bif x2 then lt (F446) fun y6 => F432_1 N y6 else F432_3 N a0 a1 (fcmp .eql .f64 a0 a1)
def F432 (N : Nat) (a0 : Option Nat) (a1 : Option Nat) : Option (Option Nat) := lt (F429 a0) fun y8 => F432_2 N a0 a1 (y8 || (F429 a1))
theorem C432 (N : Nat) (a0 : Option Nat) (a1 : Option Nat) (r : Option Nat) (hr : some r = F432 N a0 a1) : Aw.Fn Hfaa.prog 432 [fl .f64 a0, fl .f64 a1] (fl .f64 r) := by
  refine fn_intro Hfaa.func432 rfl rfl rfl ?_
  intro bn0 w0 H0
  refine AW_seq1 ?_
  refine AW_region ?_
  refine AL_cons (LR_assign (at_f rfl) rfl) (sS sT0 sB0 sF0) ?_
  refine AL_nil ?_
  refine thenN ?_
  refine AW_cut (σ := Option Nat) (fun v => ⟨[(4, .inl (fl .f64 v))], []⟩) (fun v => some r = F432_1 N v) ?_ ?_
  · skip
    refine AW_block ?_
    refine AW_cut (σ := Bool) (fun v => ⟨[(0, .inl (fl .f64 a0)), (1, .inl (fl .f64 a1)), (9, .inl (is (Bl v)))], []⟩) (fun v => some r = F432_2 N a0 a1 v) ?_ ?_
    · skip
      refine AW_region ?_
      refine AL_cons (LR_move (at_tmp 0 _) rfl) (sS (sT1 rfl) sB0 sF0) ?_
      obtain ⟨y8, hy8, hr⟩ := lt_some hr
      refine AL_cons (LR_call Hfaa.func429 rfl rfl (C429 a0 y8 hy8) (all_cons (at_tmp 10 _) all_nil) rfl) (sS (sA (sT1 rfl) sT0) sB0 sF0) ?_
      refine AL_cons (LR_move (at_tmp 11 _) rfl) (sS (sT1 rfl) sB0 sF0) ?_
      refine AL_cutAt 3 ⟨[(0, .inl (fl .f64 a0)), (1, .inl (fl .f64 a1)), (4, .inl (fl .f64 (some 0))), (10, .inl (fl .f64 a0)), (11, .inl (is (Bl y8))), (12, .inl (is (Bl y8))), (15, .inl (is (Bl (y8 || (F429 a1)))))], []⟩ ?_ ?_
      · cases hb : y8
        · skip
          refine AL_cons (LR_on rfl rfl rfl (LR_move (at_tmp 1 _) rfl)) (sS (sT rfl (sT1 rfl)) sB0 sF0) ?_
          refine AL_cons (LR_on rfl rfl rfl (LR_call Hfaa.func429 rfl rfl (C429 a1 _ rfl) (all_cons (at_tmp 13 _) all_nil) rfl)) (sS (sT rfl (sA (sT1 rfl) sT0)) sB0 sF0) ?_
          refine AL_cons (LR_pick (b := false) (at_tmp 12 _) (at_c (v' := Bl true) rfl) (at_tmp 14 _) rfl) (sS (sA (sT1 rfl) (sA sT0 (sT1 rfl))) sB0 sF0) ?_
          exact AL_nil ⟨rfl, weak0 ((sT rfl (sT rfl (sT rfl (sT rfl (sT rfl (sT rfl (sT rfl sT0)))))))) sub_nil⟩
        · skip
          refine AL_cons (LR_off (b := true) rfl rfl rfl rfl) (sS (sT1 rfl) sB0 sF0) ?_
          refine AL_cons (LR_off (b := true) rfl rfl rfl rfl) (sS (sT1 rfl) sB0 sF0) ?_
          refine AL_cons (LR_pick (b := true) (at_tmp 12 _) (at_c (v' := Bl true) rfl) (at_tmp 14 _) rfl) (sS (sA (sT1 rfl) (sA sT0 (sT1 rfl))) sB0 sF0) ?_
          exact AL_nil ⟨rfl, weak0 ((sT rfl (sT rfl (sT rfl (sT rfl (sT rfl (sT rfl (sT rfl sT0)))))))) sub_nil⟩
      refine AL_cons (LR_assign (at_tmp 15 _) rfl) (sS (sT1 rfl) sB0 sF0) ?_
      refine AL_nil ?_
      exact thenN (cutLeaf (v := y8 || (F429 a1)) hr (weak0 ((sT rfl (sT rfl (sT rfl sT0)))) sub_nil))
    · rintro x2 hr
      show AW Hfaa.prog _ _ _ ⟨[(0, .inl (fl .f64 a0)), (1, .inl (fl .f64 a1)), (9, .inl (is (Bl x2)))], []⟩
      have hr : some r = F432_2 N a0 a1 x2 := hr
      refine AW_condT (b := x2) rfl (fun h => ?_) (fun h => ?_)
      · have hr := hr.trans (cond_t h)
        clear h
        refine AW_region ?_
        obtain ⟨y6, hy6, hr⟩ := lt_some hr
        refine AL_cons (LR_call Hfaa.func446 rfl rfl (C446 y6 hy6) all_nil rfl) (sS sT0 sB0 sF0) ?_
        refine AL_cons (LR_assign (at_tmp 16 _) rfl) (sS (sT1 rfl) sB0 sF0) ?_
        refine AL_nil ?_
        refine blN ?_
        exact thenN (cutLeaf (v := y6) hr (weak0 ((sT rfl sT0)) sub_nil))
      · have hr := hr.trans (cond_f h)
        clear h
        refine AW_cut (σ := Bool) (fun v => ⟨[(0, .inl (fl .f64 a0)), (1, .inl (fl .f64 a1)), (17, .inl (is (Bl v)))], []⟩) (fun v => some r = F432_3 N a0 a1 v) ?_ ?_
        · skip
          refine AW_region ?_
          refine AL_cons (LR_move (at_tmp 0 _) rfl) (sS (sT1 rfl) sB0 sF0) ?_
          refine AL_cons (LR_move (at_tmp 1 _) rfl) (sS (sT1 rfl) sB0 sF0) ?_
          refine AL_cons (LR_fcmp rfl (at_tmp 18 _) (at_tmp 19 _) rfl) (sS (sA (sT1 rfl) (sT1 rfl)) sB0 sF0) ?_
          refine AL_cons (LR_assign (at_tmp 20 _) rfl) (sS (sT1 rfl) sB0 sF0) ?_
          refine AL_nil ?_
          exact thenN (cutLeaf (v := fcmp .eql .f64 a0 a1) hr (weak0 ((sT rfl (sT rfl (sT rfl sT0)))) sub_nil))
        · rintro x3 hr
          show AW Hfaa.prog _ _ _ ⟨[(0, .inl (fl .f64 a0)), (1, .inl (fl .f64 a1)), (17, .inl (is (Bl x3)))], []⟩
          have hr : some r = F432_3 N a0 a1 x3 := hr
          refine AW_condT (b := x3) rfl (fun h => ?_) (fun h => ?_)
          · have hr := hr.trans (cond_t h)
            clear h
            refine AW_region ?_
            refine AL_cons (LR_move (at_tmp 0 _) rfl) (sS (sT1 rfl) sB0 sF0) ?_
            refine AL_cons (LR_assign (at_tmp 21 _) rfl) (sS (sT1 rfl) sB0 sF0) ?_
            refine AL_nil ?_
            refine blN ?_
            exact thenN (cutLeaf (v := a0) hr (weak0 ((sT rfl sT0)) sub_nil))
          · have hr := hr.trans (cond_f h)
            clear h
            refine AW_cut (σ := Bool) (fun v => ⟨[(0, .inl (fl .f64 a0)), (1, .inl (fl .f64 a1)), (22, .inl (is (Bl v)))], []⟩) (fun v => some r = F432_4 N a0 a1 v) ?_ ?_
            · skip
              refine AW_region ?_
              refine AL_cons (LR_move (at_tmp 0 _) rfl) (sS (sT1 rfl) sB0 sF0) ?_
              refine AL_cons (LR_fcmp rfl (at_tmp 23 _) (at_f rfl) rfl) (sS (sA (sT1 rfl) sT0) sB0 sF0) ?_
              refine AL_cons (LR_assign (at_tmp 24 _) rfl) (sS (sT1 rfl) sB0 sF0) ?_
              refine AL_nil ?_
              exact thenN (cutLeaf (v := fcmp .eql .f64 a0 (some 0)) hr (weak0 ((sT rfl (sT rfl (sT rfl sT0)))) sub_nil))
            · rintro x4 hr
              show AW Hfaa.prog _ _ _ ⟨[(0, .inl (fl .f64 a0)), (1, .inl (fl .f64 a1)), (22, .inl (is (Bl x4)))], []⟩
              have hr : some r = F432_4 N a0 a1 x4 := hr
              refine AW_condT (b := x4) rfl (fun h => ?_) (fun h => ?_)
              · have hr := hr.trans (cond_t h)
                clear h
                refine AW_region ?_
                refine AL_cons (LR_ext (ex404 (1#64)) (all_cons (at_c (v' := U64 (1#64)) rfl) all_nil) rfl) (sS (sA sT0 sT0) sB0 sF0) ?_
                refine AL_cons (LR_move (at_tmp 1 _) rfl) (sS (sT1 rfl) sB0 sF0) ?_
                obtain ⟨y7, hy7, hr⟩ := bind_some hr
                refine AL_cons (LR_call Hfaa.func447 rfl rfl (C447 N (some (1#64).toNat) a1 y7 hy7) (all_cons (at_tmp 25 _) (all_cons (at_tmp 26 _) all_nil)) rfl) (sS (sA (sT1 rfl) (sA (sT1 rfl) sT0)) sB0 sF0) ?_
                refine AL_cons (LR_assign (at_tmp 27 _) rfl) (sS (sT1 rfl) sB0 sF0) ?_
                refine AL_nil ?_
                refine blN ?_
                exact thenN (cutLeaf (v := y7) hr (weak0 ((sT rfl sT0)) sub_nil))
              · have hr := hr.trans (cond_f h)
                clear h
                refine AW_cut (σ := Bool) (fun v => ⟨[(0, .inl (fl .f64 a0)), (28, .inl (is (Bl v)))], []⟩) (fun v => some r = F432_5 N a0 v) ?_ ?_
                · skip
                  refine AW_region ?_
                  refine AL_cons (LR_move (at_tmp 1 _) rfl) (sS (sT1 rfl) sB0 sF0) ?_
                  refine AL_cons (LR_move (at_tmp 0 _) rfl) (sS (sT1 rfl) sB0 sF0) ?_
                  refine AL_cons (LR_fcmp rfl (at_tmp 29 _) (at_tmp 30 _) rfl) (sS (sA (sT1 rfl) (sT1 rfl)) sB0 sF0) ?_
                  refine AL_cons (LR_move (at_tmp 0 _) rfl) (sS (sT1 rfl) sB0 sF0) ?_
                  refine AL_cons (LR_fcmp rfl (at_tmp 32 _) (at_f rfl) rfl) (sS (sA (sT1 rfl) sT0) sB0 sF0) ?_
                  refine AL_cons (LR_bin (at_tmp 31 _) (at_tmp 33 _) (eql_Bl Hfaa.underlying4 (fcmp .gtr .f64 a1 a0) (fcmp .gtr .f64 a0 (some 0))) rfl) (sS (sA (sT1 rfl) (sT1 rfl)) sB0 sF0) ?_
                  refine AL_cons (LR_assign (at_tmp 34 _) rfl) (sS (sT1 rfl) sB0 sF0) ?_
                  refine AL_nil ?_
                  exact thenN (cutLeaf (v := (fcmp .gtr .f64 a1 a0) == (fcmp .gtr .f64 a0 (some 0))) hr (weak0 ((sT rfl (sT rfl sT0))) sub_nil))
                · rintro x5 hr
                  show AW Hfaa.prog _ _ _ ⟨[(0, .inl (fl .f64 a0)), (28, .inl (is (Bl x5)))], []⟩
                  have hr : some r = F432_5 N a0 x5 := hr
                  refine AW_condT (b := x5) rfl (fun h => ?_) (fun h => ?_)
                  · have hr := hr.trans (cond_t h)
                    clear h
                    refine AW_region ?_
                    refine AL_cons (LR_move (at_tmp 0 _) rfl) (sS (sT1 rfl) sB0 sF0) ?_
                    obtain ⟨hg3, hr⟩ := guard_some hr
                    refine AL_cons (LR_ext (ex262 a0 hg3) (all_cons (at_tmp 35 _) all_nil) rfl) (sS (sA (sT1 rfl) sT0) sB0 sF0) ?_
                    refine AL_cons (LR_bin (at_tmp 36 _) (at_c (v' := U64 (1#64)) rfl) (add_U64 (BitVec.ofNat 64 (a0.getD 0)) (1#64)) rfl) (sS (sA (sT1 rfl) sT0) sB0 sF0) ?_
                    refine AL_cons (LR_ext (ex404 ((BitVec.ofNat 64 (a0.getD 0)) + (1#64))) (all_cons (at_tmp 37 _) all_nil) rfl) (sS (sA (sT1 rfl) sT0) sB0 sF0) ?_
                    refine AL_cons (LR_assign (at_tmp 38 _) rfl) (sS (sT1 rfl) sB0 sF0) ?_
                    refine AL_nil ?_
                    refine blN ?_
                    exact thenN (cutLeaf (v := some ((BitVec.ofNat 64 (a0.getD 0)) + (1#64)).toNat) hr (weak0 ((sT rfl sT0)) sub_nil))
                  · have hr := hr.trans (cond_f h)
                    clear h
                    refine AW_region ?_
                    refine AL_cons (LR_move (at_tmp 0 _) rfl) (sS (sT1 rfl) sB0 sF0) ?_
                    obtain ⟨hg4, hr⟩ := guard_some hr
                    refine AL_cons (LR_ext (ex262 a0 hg4) (all_cons (at_tmp 5 _) all_nil) rfl) (sS (sA (sT1 rfl) sT0) sB0 sF0) ?_
                    refine AL_cons (LR_bin (at_tmp 6 _) (at_c (v' := U64 (1#64)) rfl) (sub_U64 (BitVec.ofNat 64 (a0.getD 0)) (1#64)) rfl) (sS (sA (sT1 rfl) sT0) sB0 sF0) ?_
                    refine AL_cons (LR_ext (ex404 ((BitVec.ofNat 64 (a0.getD 0)) - (1#64))) (all_cons (at_tmp 7 _) all_nil) rfl) (sS (sA (sT1 rfl) sT0) sB0 sF0) ?_
                    refine AL_cons (LR_assign (at_tmp 8 _) rfl) (sS (sT1 rfl) sB0 sF0) ?_
                    refine AL_nil ?_
                    refine blN ?_
                    exact thenN (cutLeaf (v := some ((BitVec.ofNat 64 (a0.getD 0)) - (1#64)).toNat) hr (weak0 ((sT rfl sT0)) sub_nil))
  · rintro x1 hr
    show AW Hfaa.prog _ _ _ ⟨[(4, .inl (fl .f64 x1))], []⟩
    have hr : some r = F432_1 N x1 := hr
    refine AW_ret ?_
    obtain rfl := Option.some.inj hr
    exact res1 rfl (rvT rfl)
/-- native.nextAfter64 -/
def F418 (N : Nat) (a0 : Option Nat) (a1 : Option Nat) : Option (Option Nat) := (F432 N a0 a1).bind fun y2 => some y2
theorem C418 (N : Nat) (a0 : Option Nat) (a1 : Option Nat) (r : Option Nat) (hr : some r = F418 N a0 a1) : Aw.Fn Hfaa.prog 418 [fl .f64 a0, fl .f64 a1] (fl .f64 r) := by
  refine fn_intro Hfaa.func418 rfl rfl rfl ?_
  intro bn0 w0 H0
  refine AW_seq1 ?_
  refine AW_region ?_
  refine AL_cons (LR_assign (at_f rfl) rfl) (sS sT0 sB0 sF0) ?_
  refine AL_nil ?_
  refine thenN ?_
  refine AW_seq1 ?_
  refine AW_region ?_
  refine AL_cons (LR_move (at_tmp 0 _) rfl) (sS (sT1 rfl) sB0 sF0) ?_
  refine AL_cons (LR_move (at_tmp 1 _) rfl) (sS (sT1 rfl) sB0 sF0) ?_
  obtain ⟨y2, hy2, hr⟩ := bind_some hr
  refine AL_cons (LR_call Hfaa.func432 rfl rfl (C432 N a0 a1 y2 hy2) (all_cons (at_tmp 5 _) (all_cons (at_tmp 6 _) all_nil)) rfl) (sS (sA (sT1 rfl) (sA (sT1 rfl) sT0)) sB0 sF0) ?_
  refine AL_cons (LR_assign (at_tmp 7 _) rfl) (sS (sT1 rfl) sB0 sF0) ?_
  refine AL_nil ?_
  refine thenN ?_
  refine AW_ret ?_
  obtain rfl := Option.some.inj hr
  exact res1 rfl (rvT rfl)
/-- native.NextTo64 -/
def F400 (N : Nat) (a0 : BitVec 64) (a1 : BitVec 64) : Option (BitVec 64) := lt (F384 a0) fun y5 => lt (F384 a1) fun y6 => (F418 N y5 y6).bind fun y7 => (F385 N y7).bind fun y8 => some y8
theorem C400 (N : Nat) (a0 : BitVec 64) (a1 : BitVec 64) (r : BitVec 64) (hr : some r = F400 N a0 a1) : Aw.Fn Hfaa.prog 400 [is (U64 a0), is (U64 a1)] (is (U64 r)) := by
  refine fn_intro Hfaa.func400 rfl rfl rfl ?_
  intro bn0 w0 H0
  refine AW_seq1 ?_
  refine AW_region ?_
  refine AL_cons (LR_assign (at_c (v' := U64 (0#64)) rfl) rfl) (sS sT0 sB0 sF0) ?_
  refine AL_nil ?_
  refine thenN ?_
  refine AW_seq1 ?_
  refine AW_region ?_
  refine AL_cons (LR_move (at_tmp 0 _) rfl) (sS (sT1 rfl) sB0 sF0) ?_
  obtain ⟨y5, hy5, hr⟩ := lt_some hr
  refine AL_cons (LR_call Hfaa.func384 rfl rfl (C384 a0 y5 hy5) (all_cons (at_tmp 5 _) all_nil) rfl) (sS (sA (sT1 rfl) sT0) sB0 sF0) ?_
  refine AL_cons (LR_move (at_tmp 1 _) rfl) (sS (sT1 rfl) sB0 sF0) ?_
  obtain ⟨y6, hy6, hr⟩ := lt_some hr
  refine AL_cons (LR_call Hfaa.func384 rfl rfl (C384 a1 y6 hy6) (all_cons (at_tmp 7 _) all_nil) rfl) (sS (sA (sT1 rfl) sT0) sB0 sF0) ?_
  obtain ⟨y7, hy7, hr⟩ := bind_some hr
  refine AL_cons (LR_call Hfaa.func418 rfl rfl (C418 N y5 y6 y7 hy7) (all_cons (at_tmp 6 _) (all_cons (at_tmp 8 _) all_nil)) rfl) (sS (sA (sT1 rfl) (sA (sT1 rfl) sT0)) sB0 sF0) ?_
  obtain ⟨y8, hy8, hr⟩ := bind_some hr
  refine AL_cons (LR_call Hfaa.func385 rfl rfl (C385 N y7 y8 hy8) (all_cons (at_tmp 9 _) all_nil) rfl) (sS (sA (sT1 rfl) sT0) sB0 sF0) ?_
  refine AL_cons (LR_assign (at_tmp 10 _) rfl) (sS (sT1 rfl) sB0 sF0) ?_
  refine AL_nil ?_
  refine thenN ?_
  refine AW_ret ?_
  obtain rfl := Option.some.inj hr
  exact res1 rfl (rvT rfl)
/-- math.Nextafter32 -/
def F433_1 (N : Nat) (x1 : Option Nat) : Option (Option Nat) := some x1
def F433_5 (N : Nat) (a0 : Option Nat) (x5 : Bool) : Option (Option Nat) := bif x5 then bif a0.isSome then F433_1 N (some ((BitVec.ofNat 32 (a0.getD 0)) + (1#32)).toNat) else none else bif a0.isSome then F433_1 N (some ((BitVec.ofNat 32 (a0.getD 0)) - (1#32)).toNat) else none
def F433_4 (N : Nat) (a0 : Option Nat) (a1 : Option Nat) (x4 : Bool) : Option (Option Nat) := bif x4 then bif fcOk .f32 .f64 (some (1#32).toNat) then bif fcOk .f32 .f64 a1 then (F447 N (fcVal .f32 .f64 (some (1#32).toNat)) (fcVal .f32 .f64 a1)).bind fun y10 => bif fcOk .f64 .f32 y10 then F433_1 N (fcVal .f64 .f32 y10) else none else none else none else F433_5 N a0 ((fcmp .gtr .f32 a1 a0) == (fcmp .gtr .f32 a0 (some 0)))
def F433_3 (N : Nat) (a0 : Option Nat) (a1 : Option Nat) (x3 : Bool) : Option (Option Nat) := bif x3 then F433_1 N a0 else F433_4 N a0 a1 (fcmp .eql .f32 a0 (some 0))
def F433_2 (N : Nat) (a0 : Option Nat) (a1 : Option Nat) (x2 : Bool) : Option (Option Nat) := bif x2 then lt (F446) fun y9 => bif fcOk .f64 .f32 y9 then F433_1 N (fcVal .f64 .f32 y9) else none else F433_3 N a0 a1 (fcmp .eql .f32 a0 a1)
def F433 (N : Nat) (a0 : Option Nat) (a1 : Option Nat) : Option (Option Nat) := bif fcOk .f32 .f64 a0 then lt (F429 (fcVal .f32 .f64 a0)) fun y11 => bif y11 then F433_2 N a0 a1 true else bif fcOk .f32 .f64 a1 then lt (F429 (fcVal .f32 .f64 a1)) fun y12 => F433_2 N a0 a1 y12 else none else none
theorem C433 (N : Nat) (a0 : Option Nat) (a1 : Option Nat) (r : Option Nat) (hr : some r = F433 N a0 a1) : Aw.Fn Hfaa.prog 433 [fl .f32 a0, fl .f32 a1] (fl .f32 r) := by
  refine fn_intro Hfaa.func433 rfl rfl rfl ?_
  intro bn0 w0 H0
  refine AW_seq1 ?_
  refine AW_region ?_
  refine AL_cons (LR_assign (at_f rfl) rfl) (sS sT0 sB0 sF0) ?_
  refine AL_nil ?_
  refine thenN ?_
  refine AW_cut (σ := Option Nat) (fun v => ⟨[(4, .inl (fl .f32 v))], []⟩) (fun v => some r = F433_1 N v) ?_ ?_
  · skip
    refine AW_block ?_
    refine AW_cut (σ := Bool) (fun v => ⟨[(0, .inl (fl .f32 a0)), (1, .inl (fl .f32 a1)), (9, .inl (is (Bl v)))], []⟩) (fun v => some r = F433_2 N a0 a1 v) ?_ ?_
    · skip
      refine AW_region ?_
      refine AL_cons (LR_move (at_tmp 0 _) rfl) (sS (sT1 rfl) sB0 sF0) ?_
      obtain ⟨hg22, hr⟩ := guard_some hr
      refine AL_cons (LR_convFF Hfaa.underlying191 Hfaa.underlying188 (at_tmp 10 _) hg22 rfl) (sS (sT1 rfl) sB0 sF0) ?_
      obtain ⟨y11, hy11, hr⟩ := lt_some hr
      refine AL_cons (LR_call Hfaa.func429 rfl rfl (C429 (fcVal .f32 .f64 a0) y11 hy11) (all_cons (at_tmp 11 _) all_nil) rfl) (sS (sA (sT1 rfl) sT0) sB0 sF0) ?_
      refine AL_cons (LR_move (at_tmp 12 _) rfl) (sS (sT1 rfl) sB0 sF0) ?_
      cases hb : y11
      · have hr := hr.trans (cond_f hb)
        refine AL_cons (LR_on rfl rfl rfl (LR_move (at_tmp 1 _) rfl)) (sS (sT rfl (sT1 rfl)) sB0 sF0) ?_
        obtain ⟨hg24, hr⟩ := guard_some hr
        refine AL_cons (LR_on rfl rfl rfl (LR_convFF Hfaa.underlying191 Hfaa.underlying188 (at_tmp 14 _) hg24 rfl)) (sS (sT rfl (sT1 rfl)) sB0 sF0) ?_
        obtain ⟨y12, hy12, hr⟩ := lt_some hr
        refine AL_cons (LR_on rfl rfl rfl (LR_call Hfaa.func429 rfl rfl (C429 (fcVal .f32 .f64 a1) y12 hy12) (all_cons (at_tmp 15 _) all_nil) rfl)) (sS (sT rfl (sA (sT1 rfl) sT0)) sB0 sF0) ?_
        refine AL_cons (LR_pick (b := false) (at_tmp 13 _) (at_c (v' := Bl true) rfl) (at_tmp 16 _) rfl) (sS (sA (sT1 rfl) (sA sT0 (sT1 rfl))) sB0 sF0) ?_
        refine AL_cons (LR_assign (at_tmp 17 _) rfl) (sS (sT1 rfl) sB0 sF0) ?_
        refine AL_nil ?_
        exact thenN (cutLeaf (v := y12) hr (weak0 ((sT rfl (sT rfl (sT rfl sT0)))) sub_nil))
      · have hr := hr.trans (cond_t hb)
        refine AL_cons (LR_off (b := true) rfl rfl rfl rfl) (sS (sT1 rfl) sB0 sF0) ?_
        refine AL_cons (LR_off (b := true) rfl rfl rfl rfl) (sS (sT1 rfl) sB0 sF0) ?_
        refine AL_cons (LR_off (b := true) rfl rfl rfl rfl) (sS (sT1 rfl) sB0 sF0) ?_
        refine AL_cons (LR_pick (b := true) (at_tmp 13 _) (at_c (v' := Bl true) rfl) (at_tmp 16 _) rfl) (sS (sA (sT1 rfl) (sA sT0 (sT1 rfl))) sB0 sF0) ?_
        refine AL_cons (LR_assign (at_tmp 17 _) rfl) (sS (sT1 rfl) sB0 sF0) ?_
        refine AL_nil ?_
        exact thenN (cutLeaf (v := true) hr (weak0 ((sT rfl (sT rfl (sT rfl sT0)))) sub_nil))
    · rintro x2 hr
      show AW Hfaa.prog _ _ _ ⟨[(0, .inl (fl .f32 a0)), (1, .inl (fl .f32 a1)), (9, .inl (is (Bl x2)))], []⟩
      have hr : some r = F433_2 N a0 a1 x2 := hr
      refine AW_condT (b := x2) rfl (fun h => ?_) (fun h => ?_)
      · have hr := hr.trans (cond_t h)
        clear h
        refine AW_region ?_
        obtain ⟨y9, hy9, hr⟩ := lt_some hr
        refine AL_cons (LR_call Hfaa.func446 rfl rfl (C446 y9 hy9) all_nil rfl) (sS sT0 sB0 sF0) ?_
        obtain ⟨hg16, hr⟩ := guard_some hr
        refine AL_cons (LR_convFF Hfaa.underlying188 Hfaa.underlying191 (at_tmp 18 _) hg16 rfl) (sS (sT1 rfl) sB0 sF0) ?_
        refine AL_cons (LR_assign (at_tmp 19 _) rfl) (sS (sT1 rfl) sB0 sF0) ?_
        refine AL_nil ?_
        refine blN ?_
        exact thenN (cutLeaf (v := fcVal .f64 .f32 y9) hr (weak0 ((sT rfl sT0)) sub_nil))
      · have hr := hr.trans (cond_f h)
        clear h
        refine AW_cut (σ := Bool) (fun v => ⟨[(0, .inl (fl .f32 a0)), (1, .inl (fl .f32 a1)), (20, .inl (is (Bl v)))], []⟩) (fun v => some r = F433_3 N a0 a1 v) ?_ ?_
        · skip
          refine AW_region ?_
          refine AL_cons (LR_move (at_tmp 0 _) rfl) (sS (sT1 rfl) sB0 sF0) ?_
          refine AL_cons (LR_move (at_tmp 1 _) rfl) (sS (sT1 rfl) sB0 sF0) ?_
          refine AL_cons (LR_fcmp rfl (at_tmp 21 _) (at_tmp 22 _) rfl) (sS (sA (sT1 rfl) (sT1 rfl)) sB0 sF0) ?_
          refine AL_cons (LR_assign (at_tmp 23 _) rfl) (sS (sT1 rfl) sB0 sF0) ?_
          refine AL_nil ?_
          exact thenN (cutLeaf (v := fcmp .eql .f32 a0 a1) hr (weak0 ((sT rfl (sT rfl (sT rfl sT0)))) sub_nil))
        · rintro x3 hr
          show AW Hfaa.prog _ _ _ ⟨[(0, .inl (fl .f32 a0)), (1, .inl (fl .f32 a1)), (20, .inl (is (Bl x3)))], []⟩
          have hr : some r = F433_3 N a0 a1 x3 := hr
          refine AW_condT (b := x3) rfl (fun h => ?_) (fun h => ?_)
          · have hr := hr.trans (cond_t h)
            clear h
            refine AW_region ?_
            refine AL_cons (LR_move (at_tmp 0 _) rfl) (sS (sT1 rfl) sB0 sF0) ?_
            refine AL_cons (LR_assign (at_tmp 24 _) rfl) (sS (sT1 rfl) sB0 sF0) ?_
            refine AL_nil ?_
            refine blN ?_
            exact thenN (cutLeaf (v := a0) hr (weak0 ((sT rfl sT0)) sub_nil))
          · have hr := hr.trans (cond_f h)
            clear h
            refine AW_cut (σ := Bool) (fun v => ⟨[(0, .inl (fl .f32 a0)), (1, .inl (fl .f32 a1)), (25, .inl (is (Bl v)))], []⟩) (fun v => some r = F433_4 N a0 a1 v) ?_ ?_
            · skip
              refine AW_region ?_
              refine AL_cons (LR_move (at_tmp 0 _) rfl) (sS (sT1 rfl) sB0 sF0) ?_
              refine AL_cons (LR_fcmp rfl (at_tmp 26 _) (at_f rfl) rfl) (sS (sA (sT1 rfl) sT0) sB0 sF0) ?_
              refine AL_cons (LR_assign (at_tmp 27 _) rfl) (sS (sT1 rfl) sB0 sF0) ?_
              refine AL_nil ?_
              exact thenN (cutLeaf (v := fcmp .eql .f32 a0 (some 0)) hr (weak0 ((sT rfl (sT rfl (sT rfl sT0)))) sub_nil))
            · rintro x4 hr
              show AW Hfaa.prog _ _ _ ⟨[(0, .inl (fl .f32 a0)), (1, .inl (fl .f32 a1)), (25, .inl (is (Bl x4)))], []⟩
              have hr : some r = F433_4 N a0 a1 x4 := hr
              refine AW_condT (b := x4) rfl (fun h => ?_) (fun h => ?_)
              · have hr := hr.trans (cond_t h)
                clear h
                refine AW_region ?_
                refine AL_cons (LR_ext (ex406 (1#32)) (all_cons (at_c (v' := U32 (1#32)) rfl) all_nil) rfl) (sS (sA sT0 sT0) sB0 sF0) ?_
                obtain ⟨hg17, hr⟩ := guard_some hr
                refine AL_cons (LR_convFF Hfaa.underlying191 Hfaa.underlying188 (at_tmp 28 _) hg17 rfl) (sS (sT1 rfl) sB0 sF0) ?_
                refine AL_cons (LR_move (at_tmp 1 _) rfl) (sS (sT1 rfl) sB0 sF0) ?_
                obtain ⟨hg18, hr⟩ := guard_some hr
                refine AL_cons (LR_convFF Hfaa.underlying191 Hfaa.underlying188 (at_tmp 30 _) hg18 rfl) (sS (sT1 rfl) sB0 sF0) ?_
                obtain ⟨y10, hy10, hr⟩ := bind_some hr
                refine AL_cons (LR_call Hfaa.func447 rfl rfl (C447 N (fcVal .f32 .f64 (some (1#32).toNat)) (fcVal .f32 .f64 a1) y10 hy10) (all_cons (at_tmp 29 _) (all_cons (at_tmp 31 _) all_nil)) rfl) (sS (sA (sT1 rfl) (sA (sT1 rfl) sT0)) sB0 sF0) ?_
                obtain ⟨hg19, hr⟩ := guard_some hr
                refine AL_cons (LR_convFF Hfaa.underlying188 Hfaa.underlying191 (at_tmp 32 _) hg19 rfl) (sS (sT1 rfl) sB0 sF0) ?_
                refine AL_cons (LR_assign (at_tmp 33 _) rfl) (sS (sT1 rfl) sB0 sF0) ?_
                refine AL_nil ?_
                refine blN ?_
                exact thenN (cutLeaf (v := fcVal .f64 .f32 y10) hr (weak0 ((sT rfl sT0)) sub_nil))
              · have hr := hr.trans (cond_f h)
                clear h
                refine AW_cut (σ := Bool) (fun v => ⟨[(0, .inl (fl .f32 a0)), (34, .inl (is (Bl v)))], []⟩) (fun v => some r = F433_5 N a0 v) ?_ ?_
                · skip
                  refine AW_region ?_
                  refine AL_cons (LR_move (at_tmp 1 _) rfl) (sS (sT1 rfl) sB0 sF0) ?_
                  refine AL_cons (LR_move (at_tmp 0 _) rfl) (sS (sT1 rfl) sB0 sF0) ?_
                  refine AL_cons (LR_fcmp rfl (at_tmp 35 _) (at_tmp 36 _) rfl) (sS (sA (sT1 rfl) (sT1 rfl)) sB0 sF0) ?_
                  refine AL_cons (LR_move (at_tmp 0 _) rfl) (sS (sT1 rfl) sB0 sF0) ?_
                  refine AL_cons (LR_fcmp rfl (at_tmp 38 _) (at_f rfl) rfl) (sS (sA (sT1 rfl) sT0) sB0 sF0) ?_
                  refine AL_cons (LR_bin (at_tmp 37 _) (at_tmp 39 _) (eql_Bl Hfaa.underlying4 (fcmp .gtr .f32 a1 a0) (fcmp .gtr .f32 a0 (some 0))) rfl) (sS (sA (sT1 rfl) (sT1 rfl)) sB0 sF0) ?_
                  refine AL_cons (LR_assign (at_tmp 40 _) rfl) (sS (sT1 rfl) sB0 sF0) ?_
                  refine AL_nil ?_
                  exact thenN (cutLeaf (v := (fcmp .gtr .f32 a1 a0) == (fcmp .gtr .f32 a0 (some 0))) hr (weak0 ((sT rfl (sT rfl sT0))) sub_nil))
                · rintro x5 hr
                  show AW Hfaa.prog _ _ _ ⟨[(0, .inl (fl .f32 a0)), (34, .inl (is (Bl x5)))], []⟩
                  have hr : some r = F433_5 N a0 x5 := hr
                  refine AW_condT (b := x5) rfl (fun h => ?_) (fun h => ?_)
                  · have hr := hr.trans (cond_t h)
                    clear h
                    refine AW_region ?_
                    refine AL_cons (LR_move (at_tmp 0 _) rfl) (sS (sT1 rfl) sB0 sF0) ?_
                    obtain ⟨hg20, hr⟩ := guard_some hr
                    refine AL_cons (LR_ext (ex263 a0 hg20) (all_cons (at_tmp 41 _) all_nil) rfl) (sS (sA (sT1 rfl) sT0) sB0 sF0) ?_
                    refine AL_cons (LR_bin (at_tmp 42 _) (at_c (v' := U32 (1#32)) rfl) (add_U32 (BitVec.ofNat 32 (a0.getD 0)) (1#32)) rfl) (sS (sA (sT1 rfl) sT0) sB0 sF0) ?_
                    refine AL_cons (LR_ext (ex406 ((BitVec.ofNat 32 (a0.getD 0)) + (1#32))) (all_cons (at_tmp 43 _) all_nil) rfl) (sS (sA (sT1 rfl) sT0) sB0 sF0) ?_
                    refine AL_cons (LR_assign (at_tmp 44 _) rfl) (sS (sT1 rfl) sB0 sF0) ?_
                    refine AL_nil ?_
                    refine blN ?_
                    exact thenN (cutLeaf (v := some ((BitVec.ofNat 32 (a0.getD 0)) + (1#32)).toNat) hr (weak0 ((sT rfl sT0)) sub_nil))
                  · have hr := hr.trans (cond_f h)
                    clear h
                    refine AW_region ?_
                    refine AL_cons (LR_move (at_tmp 0 _) rfl) (sS (sT1 rfl) sB0 sF0) ?_
                    obtain ⟨hg21, hr⟩ := guard_some hr
                    refine AL_cons (LR_ext (ex263 a0 hg21) (all_cons (at_tmp 5 _) all_nil) rfl) (sS (sA (sT1 rfl) sT0) sB0 sF0) ?_
                    refine AL_cons (LR_bin (at_tmp 6 _) (at_c (v' := U32 (1#32)) rfl) (sub_U32 (BitVec.ofNat 32 (a0.getD 0)) (1#32)) rfl) (sS (sA (sT1 rfl) sT0) sB0 sF0) ?_
                    refine AL_cons (LR_ext (ex406 ((BitVec.ofNat 32 (a0.getD 0)) - (1#32))) (all_cons (at_tmp 7 _) all_nil) rfl) (sS (sA (sT1 rfl) sT0) sB0 sF0) ?_
                    refine AL_cons (LR_assign (at_tmp 8 _) rfl) (sS (sT1 rfl) sB0 sF0) ?_
                    refine AL_nil ?_
                    refine blN ?_
                    exact thenN (cutLeaf (v := some ((BitVec.ofNat 32 (a0.getD 0)) - (1#32)).toNat) hr (weak0 ((sT rfl sT0)) sub_nil))
  · rintro x1 hr
    show AW Hfaa.prog _ _ _ ⟨[(4, .inl (fl .f32 x1))], []⟩
    have hr : some r = F433_1 N x1 := hr
    refine AW_ret ?_
    obtain rfl := Option.some.inj hr
    exact res1 rfl (rvT rfl)
end Go.Proofs.YfwaawGreat
