import Derived.Test.YfwaawGreatG58
import Derived.Test.YfwaawGreatG60
import Derived.Test.YfwaawGreatG61
import Derived.Test.YfwaawGreatG62
namespace Go.Proofs.YfwaawGreat
open Go.Aw
set_option linter.unusedVariables false
set_option maxRecDepth 100000
set_option maxHeartbeats 1000000
/-- math.Remainder -/
def F422 (N : Nat) (a0 : Option Nat) (a1 : Option Nat) : Option (Option Nat) := (F435 N a0 a1).bind fun y2 => some y2
theorem C422 (N : Nat) (a0 : Option Nat) (a1 : Option Nat) (r : Option Nat) (hr : some r = F422 N a0 a1) : Aw.Fn Hfaa.prog 422 [fl .f64 a0, fl .f64 a1] (fl .f64 r) := by
  refine fn_intro Hfaa.func422 rfl rfl rfl ?_
  intro bn0 w0 H0
  refine AW_seq1 ?_
  refine AW_region ?_
  refine AL_cons (LR_assign (at_f rfl) rfl) (sS sT0 sB0 sF0) ?_
  refine AL_nil ?_
  refine thenN ?_
  refine AW_seq1 ?_
  refine AW_condC (fun h => by cases h) (fun _ => ?_)
  refine AW_skip ?_
  refine thenN ?_
  refine AW_seq1 ?_
  refine AW_region ?_
  refine AL_cons (LR_move (at_tmp 0 _) rfl) (sS (sT1 rfl) sB0 sF0) ?_
  refine AL_cons (LR_move (at_tmp 1 _) rfl) (sS (sT1 rfl) sB0 sF0) ?_
  obtain ⟨y2, hy2, hr⟩ := bind_some hr
  refine AL_cons (LR_call Hfaa.func435 rfl rfl (C435 N a0 a1 y2 hy2) (all_cons (at_tmp 8 _) (all_cons (at_tmp 9 _) all_nil)) rfl) (sS (sA (sT1 rfl) (sA (sT1 rfl) sT0)) sB0 sF0) ?_
  refine AL_cons (LR_assign (at_tmp 10 _) rfl) (sS (sT1 rfl) sB0 sF0) ?_
  refine AL_nil ?_
  refine thenN ?_
  refine AW_ret ?_
  obtain rfl := Option.some.inj hr
  exact res1 rfl (rvT rfl)
/-- native.remainder -/
def F410 (N : Nat) (a0 : Option Nat) (a1 : Option Nat) : Option (Option Nat) := (F422 N a0 a1).bind fun y2 => some y2
theorem C410 (N : Nat) (a0 : Option Nat) (a1 : Option Nat) (r : Option Nat) (hr : some r = F410 N a0 a1) : Aw.Fn Hfaa.prog 410 [fl .f64 a0, fl .f64 a1] (fl .f64 r) := by
  refine fn_intro Hfaa.func410 rfl rfl rfl ?_
  intro bn0 w0 H0
  refine AW_seq1 ?_
  refine AW_region ?_
  refine AL_cons (LR_assign (at_f rfl) rfl) (sS sT0 sB0 sF0) ?_
  refine AL_nil ?_
  refine thenN ?_
  refine AW_seq1 ?_
  refine AW_region ?_
  refine AL_cons (LR_move (at_tmp 0 _) rfl) (sS (sT1 rfl) sB0 sF0) ?_
  refine AL_cons (LR_move (at_tmp 1 _) rfl) (sS (sT1 rfl) sB0 sF0) ?_
  obtain ⟨y2, hy2, hr⟩ := bind_some hr
  refine AL_cons (LR_call Hfaa.func422 rfl rfl (C422 N a0 a1 y2 hy2) (all_cons (at_tmp 5 _) (all_cons (at_tmp 6 _) all_nil)) rfl) (sS (sA (sT1 rfl) (sA (sT1 rfl) sT0)) sB0 sF0) ?_
  refine AL_cons (LR_assign (at_tmp 7 _) rfl) (sS (sT1 rfl) sB0 sF0) ?_
  refine AL_nil ?_
  refine thenN ?_
  refine AW_ret ?_
  obtain rfl := Option.some.inj hr
  exact res1 rfl (rvT rfl)
/-- native.Rem64 -/
def F392 (N : Nat) (a0 : BitVec 64) (a1 : BitVec 64) : Option (BitVec 64) := lt (F384 a0) fun y5 => lt (F384 a1) fun y6 => (F410 N y5 y6).bind fun y7 => (F385 N y7).bind fun y8 => some y8
theorem C392 (N : Nat) (a0 : BitVec 64) (a1 : BitVec 64) (r : BitVec 64) (hr : some r = F392 N a0 a1) : Aw.Fn Hfaa.prog 392 [is (U64 a0), is (U64 a1)] (is (U64 r)) := by
  refine fn_intro Hfaa.func392 rfl rfl rfl ?_
  intro bn0 w0 H0
  refine AW_seq1 ?_
  refine AW_region ?_
  refine AL_cons (LR_assign (at_c (v' := U64 (0#64)) rfl) rfl) (sS sT0 sB0 sF0) ?_
  refine AL_nil ?_
  refine thenN ?_
  refine AW_seq1 ?_
  refine AW_region ?_
  refine AL_cons (LR_move (at_tmp 0 _) rfl) (sS (sT1 rfl) sB0 sF0) ?_
  obtain ⟨y5, hy5, hr⟩ := lt_some hr
  refine AL_cons (LR_call Hfaa.func384 rfl rfl (C384 a0 y5 hy5) (all_cons (at_tmp 5 _) all_nil) rfl) (sS (sA (sT1 rfl) sT0) sB0 sF0) ?_
  refine AL_cons (LR_move (at_tmp 1 _) rfl) (sS (sT1 rfl) sB0 sF0) ?_
  obtain ⟨y6, hy6, hr⟩ := lt_some hr
  refine AL_cons (LR_call Hfaa.func384 rfl rfl (C384 a1 y6 hy6) (all_cons (at_tmp 7 _) all_nil) rfl) (sS (sA (sT1 rfl) sT0) sB0 sF0) ?_
  obtain ⟨y7, hy7, hr⟩ := bind_some hr
  refine AL_cons (LR_call Hfaa.func410 rfl rfl (C410 N y5 y6 y7 hy7) (all_cons (at_tmp 6 _) (all_cons (at_tmp 8 _) all_nil)) rfl) (sS (sA (sT1 rfl) (sA (sT1 rfl) sT0)) sB0 sF0) ?_
  obtain ⟨y8, hy8, hr⟩ := bind_some hr
  refine AL_cons (LR_call Hfaa.func385 rfl rfl (C385 N y7 y8 hy8) (all_cons (at_tmp 9 _) all_nil) rfl) (sS (sA (sT1 rfl) sT0) sB0 sF0) ?_
  refine AL_cons (LR_assign (at_tmp 10 _) rfl) (sS (sT1 rfl) sB0 sF0) ?_
  refine AL_nil ?_
  refine thenN ?_
  refine AW_ret ?_
  obtain rfl := Option.some.inj hr
  exact res1 rfl (rvT rfl)
/-- math.Round -/
def F423_3 (N : Nat) (x3 : BitVec 64) : Option (Option Nat) := some (some x3.toNat)
def F423_6 (N : Nat) (x5 : BitVec 64) (x6 : Bool) : Option (Option Nat) := bif x6 then F423_3 N (x5 ||| (4607182418800017408#64)) else F423_3 N x5
def F423_5 (N : Nat) (x2 : BitVec 64) (x5 : BitVec 64) : Option (Option Nat) := F423_6 N x5 (x2 == (1022#64))
def F423_9 (N : Nat) (x8 : BitVec 64) (x9 : BitVec 64) : Option (Option Nat) := F423_3 N (x9 &&& ~~~((4503599627370495#64) >>> x8.toNat))
def F423_8 (N : Nat) (x1 : BitVec 64) (x8 : BitVec 64) : Option (Option Nat) := F423_9 N x8 (x1 + ((2251799813685248#64) >>> x8.toNat))
def F423_7 (N : Nat) (x1 : BitVec 64) (x2 : BitVec 64) (x7 : Bool) : Option (Option Nat) := bif x7 then F423_8 N x1 (x2 - (1023#64)) else F423_3 N x1
def F423_4 (N : Nat) (x1 : BitVec 64) (x2 : BitVec 64) (x4 : Bool) : Option (Option Nat) := bif x4 then F423_5 N x2 (x1 &&& (9223372036854775808#64)) else F423_7 N x1 x2 (decide (x2.toNat < (1075#64).toNat))
def F423_2 (N : Nat) (x1 : BitVec 64) (x2 : BitVec 64) : Option (Option Nat) := F423_4 N x1 x2 (decide (x2.toNat < (1023#64).toNat))
def F423_1 (N : Nat) (x1 : BitVec 64) : Option (Option Nat) := F423_2 N x1 ((x1 >>> 52) &&& (2047#64))
def F423 (N : Nat) (a0 : Option Nat) : Option (Option Nat) := bif a0.isSome then F423_1 N (BitVec.ofNat 64 (a0.getD 0)) else none
theorem C423 (N : Nat) (a0 : Option Nat) (r : Option Nat) (hr : some r = F423 N a0) : Aw.Fn Hfaa.prog 423 [fl .f64 a0] (fl .f64 r) := by
  refine fn_intro Hfaa.func423 rfl rfl rfl ?_
  intro bn0 w0 H0
  refine AW_seq1 ?_
  refine AW_region ?_
  refine AL_cons (LR_assign (at_f rfl) rfl) (sS sT0 sB0 sF0) ?_
  refine AL_nil ?_
  refine thenN ?_
  refine AW_cut (σ := BitVec 64) (fun v => ⟨[(3, .inl (is (U64 v)))], []⟩) (fun v => some r = F423_1 N v) ?_ ?_
  · skip
    refine AW_region ?_
    refine AL_cons (LR_move (at_tmp 0 _) rfl) (sS (sT1 rfl) sB0 sF0) ?_
    obtain ⟨hg2, hr⟩ := guard_some hr
    refine AL_cons (LR_ext (ex262 a0 hg2) (all_cons (at_tmp 5 _) all_nil) rfl) (sS (sA (sT1 rfl) sT0) sB0 sF0) ?_
    refine AL_cons (LR_assign (at_tmp 6 _) rfl) (sS (sT1 rfl) sB0 sF0) ?_
    refine AL_nil ?_
    exact thenN (cutLeaf (v := BitVec.ofNat 64 (a0.getD 0)) hr (weak0 ((sT rfl sT0)) sub_nil))
  · rintro x1 hr
    show AW Hfaa.prog _ _ _ ⟨[(3, .inl (is (U64 x1)))], []⟩
    have hr : some r = F423_1 N x1 := hr
    refine AW_cut (σ := BitVec 64) (fun v => ⟨[(3, .inl (is (U64 x1))), (4, .inl (is (U64 v)))], []⟩) (fun v => some r = F423_2 N x1 v) ?_ ?_
    · skip
      refine AW_region ?_
      refine AL_cons (LR_move (at_tmp 3 _) rfl) (sS (sT1 rfl) sB0 sF0) ?_
      refine AL_cons (LR_bin (at_tmp 7 _) (at_c (v' := U64 (52#64)) rfl) (shr_U64 x1 ((52#64).toNat : Int) (Int.natCast_nonneg _)) rfl) (sS (sA (sT1 rfl) sT0) sB0 sF0) ?_
      refine AL_cons (LR_bin (at_tmp 8 _) (at_c (v' := U64 (2047#64)) rfl) (and_U64 (x1 >>> 52) (2047#64)) rfl) (sS (sA (sT1 rfl) sT0) sB0 sF0) ?_
      refine AL_cons (LR_assign (at_tmp 9 _) rfl) (sS (sT1 rfl) sB0 sF0) ?_
      refine AL_nil ?_
      exact thenN (cutLeaf (v := (x1 >>> 52) &&& (2047#64)) hr (weak0 ((sT rfl (sT rfl sT0))) sub_nil))
    · rintro x2 hr
      show AW Hfaa.prog _ _ _ ⟨[(3, .inl (is (U64 x1))), (4, .inl (is (U64 x2)))], []⟩
      have hr : some r = F423_2 N x1 x2 := hr
      refine AW_cut (σ := BitVec 64) (fun v => ⟨[(3, .inl (is (U64 v)))], []⟩) (fun v => some r = F423_3 N v) ?_ ?_
      · skip
        refine AW_cut (σ := Bool) (fun v => ⟨[(3, .inl (is (U64 x1))), (4, .inl (is (U64 x2))), (11, .inl (is (Bl v)))], []⟩) (fun v => some r = F423_4 N x1 x2 v) ?_ ?_
        · skip
          refine AW_region ?_
          refine AL_cons (LR_move (at_tmp 4 _) rfl) (sS (sT1 rfl) sB0 sF0) ?_
          refine AL_cons (LR_bin (at_tmp 10 _) (at_c (v' := U64 (1023#64)) rfl) (lss_U64 x2 (1023#64)) rfl) (sS (sA (sT1 rfl) sT0) sB0 sF0) ?_
          refine AL_nil ?_
          exact thenN (cutLeaf (v := decide (x2.toNat < (1023#64).toNat)) hr (weak0 ((sT rfl (sT rfl (sT rfl sT0)))) sub_nil))
        · rintro x4 hr
          show AW Hfaa.prog _ _ _ ⟨[(3, .inl (is (U64 x1))), (4, .inl (is (U64 x2))), (11, .inl (is (Bl x4)))], []⟩
          have hr : some r = F423_4 N x1 x2 x4 := hr
          refine AW_condT (b := x4) rfl (fun h => ?_) (fun h => ?_)
          · have hr := hr.trans (cond_t h)
            clear h
            refine AW_cut (σ := BitVec 64) (fun v => ⟨[(3, .inl (is (U64 v))), (4, .inl (is (U64 x2)))], []⟩) (fun v => some r = F423_5 N x2 v) ?_ ?_
            · skip
              refine AW_region ?_
              refine AL_cons (LR_move (at_tmp 3 _) rfl) (sS (sT1 rfl) sB0 sF0) ?_
              refine AL_cons (LR_bin (at_tmp 12 _) (at_c (v' := U64 (9223372036854775808#64)) rfl) (and_U64 x1 (9223372036854775808#64)) rfl) (sS (sA (sT1 rfl) sT0) sB0 sF0) ?_
              refine AL_cons (LR_assign (at_tmp 13 _) rfl) (sS (sT1 rfl) sB0 sF0) ?_
              refine AL_nil ?_
              exact thenN (cutLeaf (v := x1 &&& (9223372036854775808#64)) hr (weak0 ((sT rfl (sT rfl sT0))) sub_nil))
            · rintro x5 hr
              show AW Hfaa.prog _ _ _ ⟨[(3, .inl (is (U64 x5))), (4, .inl (is (U64 x2)))], []⟩
              have hr : some r = F423_5 N x2 x5 := hr
              refine AW_cut (σ := Bool) (fun v => ⟨[(3, .inl (is (U64 x5))), (15, .inl (is (Bl v)))], []⟩) (fun v => some r = F423_6 N x5 v) ?_ ?_
              · skip
                refine AW_region ?_
                refine AL_cons (LR_move (at_tmp 4 _) rfl) (sS (sT1 rfl) sB0 sF0) ?_
                refine AL_cons (LR_bin (at_tmp 14 _) (at_c (v' := U64 (1022#64)) rfl) (eql_U64 x2 (1022#64)) rfl) (sS (sA (sT1 rfl) sT0) sB0 sF0) ?_
                refine AL_nil ?_
                exact thenN (cutLeaf (v := x2 == (1022#64)) hr (weak0 ((sT rfl (sT rfl sT0))) sub_nil))
              · rintro x6 hr
                show AW Hfaa.prog _ _ _ ⟨[(3, .inl (is (U64 x5))), (15, .inl (is (Bl x6)))], []⟩
                have hr : some r = F423_6 N x5 x6 := hr
                refine AW_condT (b := x6) rfl (fun h => ?_) (fun h => ?_)
                · have hr := hr.trans (cond_t h)
                  clear h
                  refine AW_region ?_
                  refine AL_cons (LR_move (at_tmp 3 _) rfl) (sS (sT1 rfl) sB0 sF0) ?_
                  refine AL_cons (LR_bin (at_tmp 16 _) (at_c (v' := U64 (4607182418800017408#64)) rfl) (or_U64 x5 (4607182418800017408#64)) rfl) (sS (sA (sT1 rfl) sT0) sB0 sF0) ?_
                  refine AL_cons (LR_assign (at_tmp 17 _) rfl) (sS (sT1 rfl) sB0 sF0) ?_
                  refine AL_nil ?_
                  exact thenN (cutLeaf (v := x5 ||| (4607182418800017408#64)) hr (weak0 ((sT rfl sT0)) sub_nil))
                · have hr := hr.trans (cond_f h)
                  clear h
                  refine AW_skip ?_
                  exact thenN (cutLeaf (v := x5) hr (weak0 ((sT rfl sT0)) sub_nil))
          · have hr := hr.trans (cond_f h)
            clear h
            refine AW_cut (σ := Bool) (fun v => ⟨[(3, .inl (is (U64 x1))), (4, .inl (is (U64 x2))), (19, .inl (is (Bl v)))], []⟩) (fun v => some r = F423_7 N x1 x2 v) ?_ ?_
            · skip
              refine AW_region ?_
              refine AL_cons (LR_move (at_tmp 4 _) rfl) (sS (sT1 rfl) sB0 sF0) ?_
              refine AL_cons (LR_bin (at_tmp 18 _) (at_c (v' := U64 (1075#64)) rfl) (lss_U64 x2 (1075#64)) rfl) (sS (sA (sT1 rfl) sT0) sB0 sF0) ?_
              refine AL_nil ?_
              exact thenN (cutLeaf (v := decide (x2.toNat < (1075#64).toNat)) hr (weak0 ((sT rfl (sT rfl (sT rfl sT0)))) sub_nil))
            · rintro x7 hr
              show AW Hfaa.prog _ _ _ ⟨[(3, .inl (is (U64 x1))), (4, .inl (is (U64 x2))), (19, .inl (is (Bl x7)))], []⟩
              have hr : some r = F423_7 N x1 x2 x7 := hr
              refine AW_condT (b := x7) rfl (fun h => ?_) (fun h => ?_)
              · have hr := hr.trans (cond_t h)
                clear h
                refine AW_cut (σ := BitVec 64) (fun v => ⟨[(3, .inl (is (U64 x1))), (4, .inl (is (U64 v)))], []⟩) (fun v => some r = F423_8 N x1 v) ?_ ?_
                · skip
                  refine AW_region ?_
                  refine AL_cons (LR_move (at_tmp 4 _) rfl) (sS (sT1 rfl) sB0 sF0) ?_
                  refine AL_cons (LR_bin (at_tmp 20 _) (at_c (v' := U64 (1023#64)) rfl) (sub_U64 x2 (1023#64)) rfl) (sS (sA (sT1 rfl) sT0) sB0 sF0) ?_
                  refine AL_cons (LR_assign (at_tmp 21 _) rfl) (sS (sT1 rfl) sB0 sF0) ?_
                  refine AL_nil ?_
                  exact thenN (cutLeaf (v := x2 - (1023#64)) hr (weak0 ((sT rfl (sT rfl sT0))) sub_nil))
                · rintro x8 hr
                  show AW Hfaa.prog _ _ _ ⟨[(3, .inl (is (U64 x1))), (4, .inl (is (U64 x8)))], []⟩
                  have hr : some r = F423_8 N x1 x8 := hr
                  refine AW_cut (σ := BitVec 64) (fun v => ⟨[(3, .inl (is (U64 v))), (4, .inl (is (U64 x8)))], []⟩) (fun v => some r = F423_9 N x8 v) ?_ ?_
                  · skip
                    refine AW_region ?_
                    refine AL_cons (LR_move (at_tmp 3 _) rfl) (sS (sT1 rfl) sB0 sF0) ?_
                    refine AL_cons (LR_move (at_tmp 4 _) rfl) (sS (sT1 rfl) sB0 sF0) ?_
                    refine AL_cons (LR_bin (at_c (v' := U64 (2251799813685248#64)) rfl) (at_tmp 23 _) (shr_U64 (2251799813685248#64) (x8.toNat : Int) (Int.natCast_nonneg _)) rfl) (sS (sA sT0 (sT1 rfl)) sB0 sF0) ?_
                    refine AL_cons (LR_bin (at_tmp 22 _) (at_tmp 24 _) (add_U64 x1 ((2251799813685248#64) >>> x8.toNat)) rfl) (sS (sA (sT1 rfl) (sT1 rfl)) sB0 sF0) ?_
                    refine AL_cons (LR_assign (at_tmp 25 _) rfl) (sS (sT1 rfl) sB0 sF0) ?_
                    refine AL_nil ?_
                    exact thenN (cutLeaf (v := x1 + ((2251799813685248#64) >>> x8.toNat)) hr (weak0 ((sT rfl (sT rfl sT0))) sub_nil))
                  · rintro x9 hr
                    show AW Hfaa.prog _ _ _ ⟨[(3, .inl (is (U64 x9))), (4, .inl (is (U64 x8)))], []⟩
                    have hr : some r = F423_9 N x8 x9 := hr
                    refine AW_region ?_
                    refine AL_cons (LR_move (at_tmp 3 _) rfl) (sS (sT1 rfl) sB0 sF0) ?_
                    refine AL_cons (LR_move (at_tmp 4 _) rfl) (sS (sT1 rfl) sB0 sF0) ?_
                    refine AL_cons (LR_bin (at_c (v' := U64 (4503599627370495#64)) rfl) (at_tmp 27 _) (shr_U64 (4503599627370495#64) (x8.toNat : Int) (Int.natCast_nonneg _)) rfl) (sS (sA sT0 (sT1 rfl)) sB0 sF0) ?_
                    refine AL_cons (LR_bin (at_tmp 26 _) (at_tmp 28 _) (andNot_U64 x9 ((4503599627370495#64) >>> x8.toNat)) rfl) (sS (sA (sT1 rfl) (sT1 rfl)) sB0 sF0) ?_
                    refine AL_cons (LR_assign (at_tmp 29 _) rfl) (sS (sT1 rfl) sB0 sF0) ?_
                    refine AL_nil ?_
                    exact thenN (cutLeaf (v := x9 &&& ~~~((4503599627370495#64) >>> x8.toNat)) hr (weak0 ((sT rfl sT0)) sub_nil))
              · have hr := hr.trans (cond_f h)
                clear h
                refine AW_skip ?_
                exact thenN (cutLeaf (v := x1) hr (weak0 ((sT rfl sT0)) sub_nil))
      · rintro x3 hr
        show AW Hfaa.prog _ _ _ ⟨[(3, .inl (is (U64 x3)))], []⟩
        have hr : some r = F423_3 N x3 := hr
        refine AW_seq1 ?_
        refine AW_region ?_
        refine AL_cons (LR_move (at_tmp 3 _) rfl) (sS (sT1 rfl) sB0 sF0) ?_
        refine AL_cons (LR_ext (ex404 x3) (all_cons (at_tmp 30 _) all_nil) rfl) (sS (sA (sT1 rfl) sT0) sB0 sF0) ?_
        refine AL_cons (LR_assign (at_tmp 31 _) rfl) (sS (sT1 rfl) sB0 sF0) ?_
        refine AL_nil ?_
        refine thenN ?_
        refine AW_ret ?_
        obtain rfl := Option.some.inj hr
        exact res1 rfl (rvT rfl)
/-- native.roundAway -/
def F411 (N : Nat) (a0 : Option Nat) : Option (Option Nat) := (F423 N a0).bind fun y2 => some y2
theorem C411 (N : Nat) (a0 : Option Nat) (r : Option Nat) (hr : some r = F411 N a0) : Aw.Fn Hfaa.prog 411 [fl .f64 a0] (fl .f64 r) := by
  refine fn_intro Hfaa.func411 rfl rfl rfl ?_
  intro bn0 w0 H0
  refine AW_seq1 ?_
  refine AW_region ?_
  refine AL_cons (LR_assign (at_f rfl) rfl) (sS sT0 sB0 sF0) ?_
  refine AL_nil ?_
  refine thenN ?_
  refine AW_seq1 ?_
  refine AW_region ?_
  refine AL_cons (LR_move (at_tmp 0 _) rfl) (sS (sT1 rfl) sB0 sF0) ?_
  obtain ⟨y2, hy2, hr⟩ := bind_some hr
  refine AL_cons (LR_call Hfaa.func423 rfl rfl (C423 N a0 y2 hy2) (all_cons (at_tmp 3 _) all_nil) rfl) (sS (sA (sT1 rfl) sT0) sB0 sF0) ?_
  refine AL_cons (LR_assign (at_tmp 4 _) rfl) (sS (sT1 rfl) sB0 sF0) ?_
  refine AL_nil ?_
  refine thenN ?_
  refine AW_ret ?_
  obtain rfl := Option.some.inj hr
  exact res1 rfl (rvT rfl)
/-- math.trunc -/
def F437_4 (N : Nat) (x4 : BitVec 64) : Option (Option Nat) := some (some x4.toNat)
def F437_5 (N : Nat) (x2 : BitVec 64) (x3 : BitVec 64) (x5 : Bool) : Option (Option Nat) := bif x5 then F437_4 N (x2 &&& ~~~(((1#64) <<< ((52#64) - x3).toNat) - (1#64))) else F437_4 N x2
def F437_3 (N : Nat) (x2 : BitVec 64) (x3 : BitVec 64) : Option (Option Nat) := F437_5 N x2 x3 (decide (x3.toNat < (52#64).toNat))
def F437_2 (N : Nat) (x2 : BitVec 64) : Option (Option Nat) := F437_3 N x2 (((x2 >>> 52) &&& (2047#64)) - (1023#64))
def F437_1 (N : Nat) (a0 : Option Nat) (x1 : Bool) : Option (Option Nat) := bif x1 then (F447 N (some 0) a0).bind fun y7 => some y7 else bif a0.isSome then F437_2 N (BitVec.ofNat 64 (a0.getD 0)) else none
def F437 (N : Nat) (a0 : Option Nat) : Option (Option Nat) := (F444 N a0).bind fun y8 => F437_1 N a0 (fcmp .lss .f64 y8 (some 4607182418800017408))
theorem C437 (N : Nat) (a0 : Option Nat) (r : Option Nat) (hr : some r = F437 N a0) : Aw.Fn Hfaa.prog 437 [fl .f64 a0] (fl .f64 r) := by
  refine fn_intro Hfaa.func437 rfl rfl rfl ?_
  intro bn0 w0 H0
  refine AW_seq1 ?_
  refine AW_region ?_
  refine AL_cons (LR_assign (at_f rfl) rfl) (sS sT0 sB0 sF0) ?_
  refine AL_nil ?_
  refine thenN ?_
  refine AW_seq1 ?_
  refine AW_cut (σ := Bool) (fun v => ⟨[(0, .inl (fl .f64 a0)), (7, .inl (is (Bl v)))], []⟩) (fun v => some r = F437_1 N a0 v) ?_ ?_
  · skip
    refine AW_region ?_
    refine AL_cons (LR_move (at_tmp 0 _) rfl) (sS (sT1 rfl) sB0 sF0) ?_
    obtain ⟨y8, hy8, hr⟩ := bind_some hr
    refine AL_cons (LR_call Hfaa.func444 rfl rfl (C444 N a0 y8 hy8) (all_cons (at_tmp 5 _) all_nil) rfl) (sS (sA (sT1 rfl) sT0) sB0 sF0) ?_
    refine AL_cons (LR_fcmp rfl (at_tmp 6 _) (at_f rfl) rfl) (sS (sA (sT1 rfl) sT0) sB0 sF0) ?_
    refine AL_nil ?_
    exact thenN (cutLeaf (v := fcmp .lss .f64 y8 (some 4607182418800017408)) hr (weak0 ((sT rfl (sT rfl sT0))) sub_nil))
  · rintro x1 hr
    show AW Hfaa.prog _ _ _ ⟨[(0, .inl (fl .f64 a0)), (7, .inl (is (Bl x1)))], []⟩
    have hr : some r = F437_1 N a0 x1 := hr
    refine AW_condT (b := x1) rfl (fun h => ?_) (fun h => ?_)
    · have hr := hr.trans (cond_t h)
      clear h
      refine AW_seq1 ?_
      refine AW_region ?_
      refine AL_cons (LR_move (at_tmp 0 _) rfl) (sS (sT1 rfl) sB0 sF0) ?_
      obtain ⟨y7, hy7, hr⟩ := bind_some hr
      refine AL_cons (LR_call Hfaa.func447 rfl rfl (C447 N (some 0) a0 y7 hy7) (all_cons (at_f rfl) (all_cons (at_tmp 8 _) all_nil)) rfl) (sS (sA sT0 (sA (sT1 rfl) sT0)) sB0 sF0) ?_
      refine AL_cons (LR_assign (at_tmp 9 _) rfl) (sS (sT1 rfl) sB0 sF0) ?_
      refine AL_nil ?_
      refine thenN ?_
      refine AW_ret ?_
      refine thenR ?_
      obtain rfl := Option.some.inj hr
      exact res1 rfl (rvT rfl)
    · have hr := hr.trans (cond_f h)
      clear h
      refine AW_skip ?_
      refine thenN ?_
      refine AW_cut (σ := BitVec 64) (fun v => ⟨[(3, .inl (is (U64 v)))], []⟩) (fun v => some r = F437_2 N v) ?_ ?_
      · skip
        refine AW_region ?_
        refine AL_cons (LR_move (at_tmp 0 _) rfl) (sS (sT1 rfl) sB0 sF0) ?_
        obtain ⟨hg2, hr⟩ := guard_some hr
        refine AL_cons (LR_ext (ex262 a0 hg2) (all_cons (at_tmp 10 _) all_nil) rfl) (sS (sA (sT1 rfl) sT0) sB0 sF0) ?_
        refine AL_cons (LR_assign (at_tmp 11 _) rfl) (sS (sT1 rfl) sB0 sF0) ?_
        refine AL_nil ?_
        exact thenN (cutLeaf (v := BitVec.ofNat 64 (a0.getD 0)) hr (weak0 ((sT rfl sT0)) sub_nil))
      · rintro x2 hr
        show AW Hfaa.prog _ _ _ ⟨[(3, .inl (is (U64 x2)))], []⟩
        have hr : some r = F437_2 N x2 := hr
        refine AW_cut (σ := BitVec 64) (fun v => ⟨[(3, .inl (is (U64 x2))), (4, .inl (is (U64 v)))], []⟩) (fun v => some r = F437_3 N x2 v) ?_ ?_
        · skip
          refine AW_region ?_
          refine AL_cons (LR_move (at_tmp 3 _) rfl) (sS (sT1 rfl) sB0 sF0) ?_
          refine AL_cons (LR_bin (at_tmp 12 _) (at_c (v' := U64 (52#64)) rfl) (shr_U64 x2 ((52#64).toNat : Int) (Int.natCast_nonneg _)) rfl) (sS (sA (sT1 rfl) sT0) sB0 sF0) ?_
          refine AL_cons (LR_bin (at_tmp 13 _) (at_c (v' := U64 (2047#64)) rfl) (and_U64 (x2 >>> 52) (2047#64)) rfl) (sS (sA (sT1 rfl) sT0) sB0 sF0) ?_
          refine AL_cons (LR_bin (at_tmp 14 _) (at_c (v' := U64 (1023#64)) rfl) (sub_U64 ((x2 >>> 52) &&& (2047#64)) (1023#64)) rfl) (sS (sA (sT1 rfl) sT0) sB0 sF0) ?_
          refine AL_cons (LR_assign (at_tmp 15 _) rfl) (sS (sT1 rfl) sB0 sF0) ?_
          refine AL_nil ?_
          exact thenN (cutLeaf (v := ((x2 >>> 52) &&& (2047#64)) - (1023#64)) hr (weak0 ((sT rfl (sT rfl sT0))) sub_nil))
        · rintro x3 hr
          show AW Hfaa.prog _ _ _ ⟨[(3, .inl (is (U64 x2))), (4, .inl (is (U64 x3)))], []⟩
          have hr : some r = F437_3 N x2 x3 := hr
          refine AW_cut (σ := BitVec 64) (fun v => ⟨[(3, .inl (is (U64 v)))], []⟩) (fun v => some r = F437_4 N v) ?_ ?_
          · skip
            refine AW_cut (σ := Bool) (fun v => ⟨[(3, .inl (is (U64 x2))), (4, .inl (is (U64 x3))), (17, .inl (is (Bl v)))], []⟩) (fun v => some r = F437_5 N x2 x3 v) ?_ ?_
            · skip
              refine AW_region ?_
              refine AL_cons (LR_move (at_tmp 4 _) rfl) (sS (sT1 rfl) sB0 sF0) ?_
              refine AL_cons (LR_bin (at_tmp 16 _) (at_c (v' := U64 (52#64)) rfl) (lss_U64 x3 (52#64)) rfl) (sS (sA (sT1 rfl) sT0) sB0 sF0) ?_
              refine AL_nil ?_
              exact thenN (cutLeaf (v := decide (x3.toNat < (52#64).toNat)) hr (weak0 ((sT rfl (sT rfl (sT rfl sT0)))) sub_nil))
            · rintro x5 hr
              show AW Hfaa.prog _ _ _ ⟨[(3, .inl (is (U64 x2))), (4, .inl (is (U64 x3))), (17, .inl (is (Bl x5)))], []⟩
              have hr : some r = F437_5 N x2 x3 x5 := hr
              refine AW_condT (b := x5) rfl (fun h => ?_) (fun h => ?_)
              · have hr := hr.trans (cond_t h)
                clear h
                refine AW_region ?_
                refine AL_cons (LR_move (at_tmp 3 _) rfl) (sS (sT1 rfl) sB0 sF0) ?_
                refine AL_cons (LR_move (at_tmp 4 _) rfl) (sS (sT1 rfl) sB0 sF0) ?_
                refine AL_cons (LR_bin (at_c (v' := U64 (52#64)) rfl) (at_tmp 19 _) (sub_U64 (52#64) x3) rfl) (sS (sA sT0 (sT1 rfl)) sB0 sF0) ?_
                refine AL_cons (LR_bin (at_c (v' := U64 (1#64)) rfl) (at_tmp 20 _) (shl_U64 (1#64) (((52#64) - x3).toNat : Int) (Int.natCast_nonneg _)) rfl) (sS (sA sT0 (sT1 rfl)) sB0 sF0) ?_
                refine AL_cons (LR_bin (at_tmp 21 _) (at_c (v' := U64 (1#64)) rfl) (sub_U64 ((1#64) <<< ((52#64) - x3).toNat) (1#64)) rfl) (sS (sA (sT1 rfl) sT0) sB0 sF0) ?_
                refine AL_cons (LR_bin (at_tmp 18 _) (at_tmp 22 _) (andNot_U64 x2 (((1#64) <<< ((52#64) - x3).toNat) - (1#64))) rfl) (sS (sA (sT1 rfl) (sT1 rfl)) sB0 sF0) ?_
                refine AL_cons (LR_assign (at_tmp 23 _) rfl) (sS (sT1 rfl) sB0 sF0) ?_
                refine AL_nil ?_
                exact thenN (cutLeaf (v := x2 &&& ~~~(((1#64) <<< ((52#64) - x3).toNat) - (1#64))) hr (weak0 ((sT rfl sT0)) sub_nil))
              · have hr := hr.trans (cond_f h)
                clear h
                refine AW_skip ?_
                exact thenN (cutLeaf (v := x2) hr (weak0 ((sT rfl sT0)) sub_nil))
          · rintro x4 hr
            show AW Hfaa.prog _ _ _ ⟨[(3, .inl (is (U64 x4)))], []⟩
            have hr : some r = F437_4 N x4 := hr
            refine AW_seq1 ?_
            refine AW_region ?_
            refine AL_cons (LR_move (at_tmp 3 _) rfl) (sS (sT1 rfl) sB0 sF0) ?_
            refine AL_cons (LR_ext (ex404 x4) (all_cons (at_tmp 24 _) all_nil) rfl) (sS (sA (sT1 rfl) sT0) sB0 sF0) ?_
            refine AL_cons (LR_assign (at_tmp 25 _) rfl) (sS (sT1 rfl) sB0 sF0) ?_
            refine AL_nil ?_
            refine thenN ?_
            refine AW_ret ?_
            obtain rfl := Option.some.inj hr
            exact res1 rfl (rvT rfl)
/-- math.Trunc -/
def F424 (a0 : Option Nat) : Option Nat := fint .zero a0
theorem C424 (a0 : Option Nat) (r : Option Nat) (hr : r = F424 a0) : Aw.Fn Hfaa.prog 424 [fl .f64 a0] (fl .f64 r) := by
  refine fn_intro Hfaa.func424 rfl rfl rfl ?_
  intro bn0 w0 H0
  refine AW_seq1 ?_
  refine AW_region ?_
  refine AL_cons (LR_assign (at_f rfl) rfl) (sS sT0 sB0 sF0) ?_
  refine AL_nil ?_
  refine thenN ?_
  refine AW_seq1 ?_
  refine AW_condC (fun _ => ?_) (fun h => by cases h)
  refine AW_seq1 ?_
  refine AW_region ?_
  refine AL_cons (LR_move (at_tmp 0 _) rfl) (sS (sT1 rfl) sB0 sF0) ?_
  refine AL_cons (LR_ext (ex436 a0) (all_cons (at_tmp 3 _) all_nil) rfl) (sS (sA (sT1 rfl) sT0) sB0 sF0) ?_
  refine AL_cons (LR_assign (at_tmp 4 _) rfl) (sS (sT1 rfl) sB0 sF0) ?_
  refine AL_nil ?_
  refine thenN ?_
  refine AW_ret ?_
  refine thenR ?_
  subst hr
  exact res1 rfl (rvT rfl)
/-- native.trunc -/
def F412 (a0 : Option Nat) : Option Nat := lt (F424 a0) fun y2 => y2
theorem C412 (a0 : Option Nat) (r : Option Nat) (hr : r = F412 a0) : Aw.Fn Hfaa.prog 412 [fl .f64 a0] (fl .f64 r) := by
  refine fn_intro Hfaa.func412 rfl rfl rfl ?_
  intro bn0 w0 H0
  refine AW_seq1 ?_
  refine AW_region ?_
  refine AL_cons (LR_assign (at_f rfl) rfl) (sS sT0 sB0 sF0) ?_
  refine AL_nil ?_
  refine thenN ?_
  refine AW_seq1 ?_
  refine AW_region ?_
  refine AL_cons (LR_move (at_tmp 0 _) rfl) (sS (sT1 rfl) sB0 sF0) ?_
  obtain ⟨y2, hy2, hr⟩ := lt_some hr
  refine AL_cons (LR_call Hfaa.func424 rfl rfl (C424 a0 y2 hy2) (all_cons (at_tmp 3 _) all_nil) rfl) (sS (sA (sT1 rfl) sT0) sB0 sF0) ?_
  refine AL_cons (LR_assign (at_tmp 4 _) rfl) (sS (sT1 rfl) sB0 sF0) ?_
  refine AL_nil ?_
  refine thenN ?_
  refine AW_ret ?_
  subst hr
  exact res1 rfl (rvT rfl)
/-- math.Modf -/
def F449_1 (N : Nat) (a0 : Option Nat) (x1 : Option Nat) : Option (Option Nat × Option Nat) := (F447 N (fbits .sub .f64 a0 x1) a0).bind fun y3 => some (x1, y3)
def F449 (N : Nat) (a0 : Option Nat) : Option (Option Nat × Option Nat) := lt (F424 a0) fun y4 => F449_1 N a0 y4
theorem C449 (N : Nat) (a0 : Option Nat) (r : Option Nat × Option Nat) (hr : some r = F449 N a0) : Aw.Fn Hfaa.prog 449 [fl .f64 a0] (tup [fl .f64 r.1, fl .f64 r.2]) := by
  refine fn_intro Hfaa.func449 rfl rfl rfl ?_
  intro bn0 w0 H0
  refine AW_seq1 ?_
  refine AW_region ?_
  refine AL_cons (LR_assign (at_f rfl) rfl) (sS sT0 sB0 sF0) ?_
  refine AL_cons (LR_assign (at_f rfl) rfl) (sS sT0 sB0 sF0) ?_
  refine AL_nil ?_
  refine thenN ?_
  refine AW_cut (σ := Option Nat) (fun v => ⟨[(0, .inl (fl .f64 a0)), (2, .inl (fl .f64 v))], []⟩) (fun v => some r = F449_1 N a0 v) ?_ ?_
  · skip
    refine AW_region ?_
    refine AL_cons (LR_move (at_tmp 0 _) rfl) (sS (sT1 rfl) sB0 sF0) ?_
    obtain ⟨y4, hy4, hr⟩ := lt_some hr
    refine AL_cons (LR_call Hfaa.func424 rfl rfl (C424 a0 y4 hy4) (all_cons (at_tmp 4 _) all_nil) rfl) (sS (sA (sT1 rfl) sT0) sB0 sF0) ?_
    refine AL_cons (LR_assign (at_tmp 5 _) rfl) (sS (sT1 rfl) sB0 sF0) ?_
    refine AL_nil ?_
    exact thenN (cutLeaf (v := y4) hr (weak0 ((sT rfl (sT rfl sT0))) sub_nil))
  · rintro x1 hr
    show AW Hfaa.prog _ _ _ ⟨[(0, .inl (fl .f64 a0)), (2, .inl (fl .f64 x1))], []⟩
    have hr : some r = F449_1 N a0 x1 := hr
    refine AW_seq1 ?_
    refine AW_region ?_
    refine AL_cons (LR_move (at_tmp 0 _) rfl) (sS (sT1 rfl) sB0 sF0) ?_
    refine AL_cons (LR_move (at_tmp 2 _) rfl) (sS (sT1 rfl) sB0 sF0) ?_
    refine AL_cons (LR_fbin rfl (at_tmp 6 _) (at_tmp 7 _) rfl) (sS (sA (sT1 rfl) (sT1 rfl)) sB0 sF0) ?_
    refine AL_cons (LR_move (at_tmp 0 _) rfl) (sS (sT1 rfl) sB0 sF0) ?_
    obtain ⟨y3, hy3, hr⟩ := bind_some hr
    refine AL_cons (LR_call Hfaa.func447 rfl rfl (C447 N (fbits .sub .f64 a0 x1) a0 y3 hy3) (all_cons (at_tmp 8 _) (all_cons (at_tmp 9 _) all_nil)) rfl) (sS (sA (sT1 rfl) (sA (sT1 rfl) sT0)) sB0 sF0) ?_
    refine AL_cons (LR_assign (at_tmp 10 _) rfl) (sS (sT1 rfl) sB0 sF0) ?_
    refine AL_nil ?_
    refine thenN ?_
    refine AW_ret ?_
    obtain rfl := Option.some.inj hr
    exact res2 rfl (rvT rfl) (rvT rfl)
/-- math.floor -/
def F441_4 (N : Nat) (x5 : Option Nat) : Option (Option Nat) := some (fneg .f64 x5)
def F441_5 (N : Nat) (x3 : Option Nat) (x6 : Bool) : Option (Option Nat) := bif x6 then F441_4 N (fbits .add .f64 x3 (some 4607182418800017408)) else F441_4 N x3
def F441_3 (N : Nat) (x3 : Option Nat) (x4 : Option Nat) : Option (Option Nat) := F441_5 N x3 (fcmp .neq .f64 x4 (some 0))
def F441_6 (N : Nat) (x7 : Option Nat) : Option (Option Nat) := some x7
def F441_2 (N : Nat) (a0 : Option Nat) (x2 : Bool) : Option (Option Nat) := bif x2 then (F449 N (fneg .f64 a0)).bind fun y10 => F441_3 N y10.1 y10.2 else (F449 N a0).bind fun y12 => F441_6 N y12.1
def F441_1 (N : Nat) (a0 : Option Nat) (x1 : Bool) : Option (Option Nat) := bif x1 then some a0 else F441_2 N a0 (fcmp .lss .f64 a0 (some 0))
def F441 (N : Nat) (a0 : Option Nat) : Option (Option Nat) := bif (fcmp .eql .f64 a0 (some 0)) || (F429 a0) then F441_1 N a0 true else (F430 N a0 0).bind fun y14 => F441_1 N a0 y14
theorem C441 (N : Nat) (a0 : Option Nat) (r : Option Nat) (hr : some r = F441 N a0) : Aw.Fn Hfaa.prog 441 [fl .f64 a0] (fl .f64 r) := by
  refine fn_intro Hfaa.func441 rfl rfl rfl ?_
  intro bn0 w0 H0
  refine AW_seq1 ?_
  refine AW_region ?_
  refine AL_cons (LR_assign (at_f rfl) rfl) (sS sT0 sB0 sF0) ?_
  refine AL_nil ?_
  refine thenN ?_
  refine AW_seq1 ?_
  refine AW_cut (σ := Bool) (fun v => ⟨[(0, .inl (fl .f64 a0)), (16, .inl (is (Bl v)))], []⟩) (fun v => some r = F441_1 N a0 v) ?_ ?_
  · skip
    refine AW_region ?_
    refine AL_cons (LR_move (at_tmp 0 _) rfl) (sS (sT1 rfl) sB0 sF0) ?_
    refine AL_cons (LR_fcmp rfl (at_tmp 7 _) (at_f rfl) rfl) (sS (sA (sT1 rfl) sT0) sB0 sF0) ?_
    refine AL_cons (LR_move (at_tmp 8 _) rfl) (sS (sT1 rfl) sB0 sF0) ?_
    refine AL_cutAt 3 ⟨[(0, .inl (fl .f64 a0)), (2, .inl (fl .f64 (some 0))), (7, .inl (fl .f64 a0)), (8, .inl (is (Bl (fcmp .eql .f64 a0 (some 0))))), (9, .inl (is (Bl (fcmp .eql .f64 a0 (some 0))))), (12, .inl (is (Bl ((fcmp .eql .f64 a0 (some 0)) || (F429 a0)))))], []⟩ ?_ ?_
    · cases hb : fcmp .eql .f64 a0 (some 0)
      · skip
        refine AL_cons (LR_on rfl rfl rfl (LR_move (at_tmp 0 _) rfl)) (sS (sT rfl (sT1 rfl)) sB0 sF0) ?_
        refine AL_cons (LR_on rfl rfl rfl (LR_call Hfaa.func429 rfl rfl (C429 a0 _ rfl) (all_cons (at_tmp 10 _) all_nil) rfl)) (sS (sT rfl (sA (sT1 rfl) sT0)) sB0 sF0) ?_
        refine AL_cons (LR_pick (b := false) (at_tmp 9 _) (at_c (v' := Bl true) rfl) (at_tmp 11 _) rfl) (sS (sA (sT1 rfl) (sA sT0 (sT1 rfl))) sB0 sF0) ?_
        exact AL_nil ⟨rfl, weak0 ((sT rfl (sT rfl (sT rfl (sT rfl (sT rfl (sT rfl sT0))))))) sub_nil⟩
      · skip
        refine AL_cons (LR_off (b := true) rfl rfl rfl rfl) (sS (sT1 rfl) sB0 sF0) ?_
        refine AL_cons (LR_off (b := true) rfl rfl rfl rfl) (sS (sT1 rfl) sB0 sF0) ?_
        refine AL_cons (LR_pick (b := true) (at_tmp 9 _) (at_c (v' := Bl true) rfl) (at_tmp 11 _) rfl) (sS (sA (sT1 rfl) (sA sT0 (sT1 rfl))) sB0 sF0) ?_
        exact AL_nil ⟨rfl, weak0 ((sT rfl (sT rfl (sT rfl (sT rfl (sT rfl (sT rfl sT0))))))) sub_nil⟩
    refine AL_cons (LR_move (at_tmp 12 _) rfl) (sS (sT1 rfl) sB0 sF0) ?_
    cases hb : (fcmp .eql .f64 a0 (some 0)) || (F429 a0)
    · have hr := hr.trans (cond_f hb)
      refine AL_cons (LR_on rfl rfl rfl (LR_move (at_tmp 0 _) rfl)) (sS (sT rfl (sT1 rfl)) sB0 sF0) ?_
      obtain ⟨y14, hy14, hr⟩ := bind_some hr
      refine AL_cons (LR_on rfl rfl rfl (LR_call Hfaa.func430 rfl rfl (C430 N a0 0 y14 hy14) (all_cons (at_tmp 14 _) (all_cons (at_c (v' := I64 0) rfl) all_nil)) rfl)) (sS (sT rfl (sA (sT1 rfl) (sA sT0 sT0))) sB0 sF0) ?_
      refine AL_cons (LR_pick (b := false) (at_tmp 13 _) (at_c (v' := Bl true) rfl) (at_tmp 15 _) rfl) (sS (sA (sT1 rfl) (sA sT0 (sT1 rfl))) sB0 sF0) ?_
      refine AL_nil ?_
      exact thenN (cutLeaf (v := y14) hr (weak0 ((sT rfl (sT rfl sT0))) sub_nil))
    · have hr := hr.trans (cond_t hb)
      refine AL_cons (LR_off (b := true) rfl rfl rfl rfl) (sS (sT1 rfl) sB0 sF0) ?_
      refine AL_cons (LR_off (b := true) rfl rfl rfl rfl) (sS (sT1 rfl) sB0 sF0) ?_
      refine AL_cons (LR_pick (b := true) (at_tmp 13 _) (at_c (v' := Bl true) rfl) (at_tmp 15 _) rfl) (sS (sA (sT1 rfl) (sA sT0 (sT1 rfl))) sB0 sF0) ?_
      refine AL_nil ?_
      exact thenN (cutLeaf (v := true) hr (weak0 ((sT rfl (sT rfl sT0))) sub_nil))
  · rintro x1 hr
    show AW Hfaa.prog _ _ _ ⟨[(0, .inl (fl .f64 a0)), (16, .inl (is (Bl x1)))], []⟩
    have hr : some r = F441_1 N a0 x1 := hr
    refine AW_condT (b := x1) rfl (fun h => ?_) (fun h => ?_)
    · have hr := hr.trans (cond_t h)
      clear h
      refine AW_seq1 ?_
      refine AW_region ?_
      refine AL_cons (LR_move (at_tmp 0 _) rfl) (sS (sT1 rfl) sB0 sF0) ?_
      refine AL_cons (LR_assign (at_tmp 17 _) rfl) (sS (sT1 rfl) sB0 sF0) ?_
      refine AL_nil ?_
      refine thenN ?_
      refine AW_ret ?_
      refine thenR ?_
      obtain rfl := Option.some.inj hr
      exact res1 rfl (rvT rfl)
    · have hr := hr.trans (cond_f h)
      clear h
      refine AW_skip ?_
      refine thenN ?_
      refine AW_seq1 ?_
      refine AW_cut (σ := Bool) (fun v => ⟨[(0, .inl (fl .f64 a0)), (19, .inl (is (Bl v)))], []⟩) (fun v => some r = F441_2 N a0 v) ?_ ?_
      · skip
        refine AW_region ?_
        refine AL_cons (LR_move (at_tmp 0 _) rfl) (sS (sT1 rfl) sB0 sF0) ?_
        refine AL_cons (LR_fcmp rfl (at_tmp 18 _) (at_f rfl) rfl) (sS (sA (sT1 rfl) sT0) sB0 sF0) ?_
        refine AL_nil ?_
        exact thenN (cutLeaf (v := fcmp .lss .f64 a0 (some 0)) hr (weak0 ((sT rfl (sT rfl sT0))) sub_nil))
      · rintro x2 hr
        show AW Hfaa.prog _ _ _ ⟨[(0, .inl (fl .f64 a0)), (19, .inl (is (Bl x2)))], []⟩
        have hr : some r = F441_2 N a0 x2 := hr
        refine AW_condT (b := x2) rfl (fun h => ?_) (fun h => ?_)
        · have hr := hr.trans (cond_t h)
          clear h
          refine AW_cut (σ := Option Nat × Option Nat) (fun v => ⟨[(3, .inl (fl .f64 v.1)), (4, .inl (fl .f64 v.2))], []⟩) (fun v => some r = F441_3 N v.1 v.2) ?_ ?_
          · skip
            refine AW_region ?_
            refine AL_cons (LR_move (at_tmp 0 _) rfl) (sS (sT1 rfl) sB0 sF0) ?_
            refine AL_cons (LR_fneg (at_tmp 21 _) rfl) (sS (sT1 rfl) sB0 sF0) ?_
            obtain ⟨y10, hy10, hr⟩ := bind_some hr
            refine AL_cons (LR_call Hfaa.func449 rfl rfl (C449 N (fneg .f64 a0) y10 hy10) (all_cons (at_tmp 22 _) all_nil) rfl) (sS (sA (sT1 rfl) sT0) sB0 sF0) ?_
            refine AL_cons (LR_move (at_tmp 23 _) rfl) (sS (sT1 rfl) sB0 sF0) ?_
            refine AL_cons (LR_extract (at_tmp 20 _) rfl rfl) (sS (sT1 rfl) sB0 sF0) ?_
            refine AL_cons (LR_extract (at_tmp 20 _) rfl rfl) (sS (sT1 rfl) sB0 sF0) ?_
            refine AL_cons (LR_assign (at_tmp 24 _) rfl) (sS (sT1 rfl) sB0 sF0) ?_
            refine AL_cons (LR_assign (at_tmp 25 _) rfl) (sS (sT1 rfl) sB0 sF0) ?_
            refine AL_nil ?_
            exact thenN (cutLeaf (v := (y10.1, y10.2)) hr (weak0 ((sT rfl (sT rfl sT0))) sub_nil))
          · rintro ⟨x3, x4⟩ hr
            show AW Hfaa.prog _ _ _ ⟨[(3, .inl (fl .f64 x3)), (4, .inl (fl .f64 x4))], []⟩
            have hr : some r = F441_3 N x3 x4 := hr
            refine AW_cut (σ := Option Nat) (fun v => ⟨[(3, .inl (fl .f64 v))], []⟩) (fun v => some r = F441_4 N v) ?_ ?_
            · skip
              refine AW_cut (σ := Bool) (fun v => ⟨[(3, .inl (fl .f64 x3)), (27, .inl (is (Bl v)))], []⟩) (fun v => some r = F441_5 N x3 v) ?_ ?_
              · skip
                refine AW_region ?_
                refine AL_cons (LR_move (at_tmp 4 _) rfl) (sS (sT1 rfl) sB0 sF0) ?_
                refine AL_cons (LR_fcmp rfl (at_tmp 26 _) (at_f rfl) rfl) (sS (sA (sT1 rfl) sT0) sB0 sF0) ?_
                refine AL_nil ?_
                exact thenN (cutLeaf (v := fcmp .neq .f64 x4 (some 0)) hr (weak0 ((sT rfl (sT rfl sT0))) sub_nil))
              · rintro x6 hr
                show AW Hfaa.prog _ _ _ ⟨[(3, .inl (fl .f64 x3)), (27, .inl (is (Bl x6)))], []⟩
                have hr : some r = F441_5 N x3 x6 := hr
                refine AW_condT (b := x6) rfl (fun h => ?_) (fun h => ?_)
                · have hr := hr.trans (cond_t h)
                  clear h
                  refine AW_region ?_
                  refine AL_cons (LR_move (at_tmp 3 _) rfl) (sS (sT1 rfl) sB0 sF0) ?_
                  refine AL_cons (LR_fbin rfl (at_tmp 28 _) (at_f rfl) rfl) (sS (sA (sT1 rfl) sT0) sB0 sF0) ?_
                  refine AL_cons (LR_assign (at_tmp 29 _) rfl) (sS (sT1 rfl) sB0 sF0) ?_
                  refine AL_nil ?_
                  exact thenN (cutLeaf (v := fbits .add .f64 x3 (some 4607182418800017408)) hr (weak0 ((sT rfl sT0)) sub_nil))
                · have hr := hr.trans (cond_f h)
                  clear h
                  refine AW_skip ?_
                  exact thenN (cutLeaf (v := x3) hr (weak0 ((sT rfl sT0)) sub_nil))
            · rintro x5 hr
              show AW Hfaa.prog _ _ _ ⟨[(3, .inl (fl .f64 x5))], []⟩
              have hr : some r = F441_4 N x5 := hr
              refine AW_seq1 ?_
              refine AW_region ?_
              refine AL_cons (LR_move (at_tmp 3 _) rfl) (sS (sT1 rfl) sB0 sF0) ?_
              refine AL_cons (LR_fneg (at_tmp 30 _) rfl) (sS (sT1 rfl) sB0 sF0) ?_
              refine AL_cons (LR_assign (at_tmp 31 _) rfl) (sS (sT1 rfl) sB0 sF0) ?_
              refine AL_nil ?_
              refine thenN ?_
              refine AW_ret ?_
              refine thenR ?_
              obtain rfl := Option.some.inj hr
              exact res1 rfl (rvT rfl)
        · have hr := hr.trans (cond_f h)
          clear h
          refine AW_skip ?_
          refine thenN ?_
          refine AW_cut (σ := Option Nat) (fun v => ⟨[(5, .inl (fl .f64 v))], []⟩) (fun v => some r = F441_6 N v) ?_ ?_
          · skip
            refine AW_region ?_
            refine AL_cons (LR_move (at_tmp 0 _) rfl) (sS (sT1 rfl) sB0 sF0) ?_
            obtain ⟨y12, hy12, hr⟩ := bind_some hr
            refine AL_cons (LR_call Hfaa.func449 rfl rfl (C449 N a0 y12 hy12) (all_cons (at_tmp 33 _) all_nil) rfl) (sS (sA (sT1 rfl) sT0) sB0 sF0) ?_
            refine AL_cons (LR_move (at_tmp 34 _) rfl) (sS (sT1 rfl) sB0 sF0) ?_
            refine AL_cons (LR_extract (at_tmp 32 _) rfl rfl) (sS (sT1 rfl) sB0 sF0) ?_
            refine AL_cons (LR_extract (at_tmp 32 _) rfl rfl) (sS (sT1 rfl) sB0 sF0) ?_
            refine AL_cons (LR_assign (at_tmp 35 _) rfl) (sS (sT1 rfl) sB0 sF0) ?_
            refine AL_cons (LR_assign (at_tmp 36 _) rfl) (sS (sT1 rfl) sB0 sF0) ?_
            refine AL_nil ?_
            exact thenN (cutLeaf (v := y12.1) hr (weak0 ((sT rfl sT0)) sub_nil))
          · rintro x7 hr
            show AW Hfaa.prog _ _ _ ⟨[(5, .inl (fl .f64 x7))], []⟩
            have hr : some r = F441_6 N x7 := hr
            refine AW_seq1 ?_
            refine AW_region ?_
            refine AL_cons (LR_move (at_tmp 5 _) rfl) (sS (sT1 rfl) sB0 sF0) ?_
            refine AL_cons (LR_assign (at_tmp 37 _) rfl) (sS (sT1 rfl) sB0 sF0) ?_
            refine AL_nil ?_
            refine thenN ?_
            refine AW_ret ?_
            obtain rfl := Option.some.inj hr
            exact res1 rfl (rvT rfl)
/-- math.Floor -/
def F426 (a0 : Option Nat) : Option Nat := fint .down a0
theorem C426 (a0 : Option Nat) (r : Option Nat) (hr : r = F426 a0) : Aw.Fn Hfaa.prog 426 [fl .f64 a0] (fl .f64 r) := by
  refine fn_intro Hfaa.func426 rfl rfl rfl ?_
  intro bn0 w0 H0
  refine AW_seq1 ?_
  refine AW_region ?_
  refine AL_cons (LR_assign (at_f rfl) rfl) (sS sT0 sB0 sF0) ?_
  refine AL_nil ?_
  refine thenN ?_
  refine AW_seq1 ?_
  refine AW_condC (fun _ => ?_) (fun h => by cases h)
  refine AW_seq1 ?_
  refine AW_region ?_
  refine AL_cons (LR_move (at_tmp 0 _) rfl) (sS (sT1 rfl) sB0 sF0) ?_
  refine AL_cons (LR_ext (ex440 a0) (all_cons (at_tmp 3 _) all_nil) rfl) (sS (sA (sT1 rfl) sT0) sB0 sF0) ?_
  refine AL_cons (LR_assign (at_tmp 4 _) rfl) (sS (sT1 rfl) sB0 sF0) ?_
  refine AL_nil ?_
  refine thenN ?_
  refine AW_ret ?_
  refine thenR ?_
  subst hr
  exact res1 rfl (rvT rfl)
/-- math.ceil -/
def F439 (a0 : Option Nat) : Option Nat := lt (F426 (fneg .f64 a0)) fun y2 => fneg .f64 y2
theorem C439 (a0 : Option Nat) (r : Option Nat) (hr : r = F439 a0) : Aw.Fn Hfaa.prog 439 [fl .f64 a0] (fl .f64 r) := by
  refine fn_intro Hfaa.func439 rfl rfl rfl ?_
  intro bn0 w0 H0
  refine AW_seq1 ?_
  refine AW_region ?_
  refine AL_cons (LR_assign (at_f rfl) rfl) (sS sT0 sB0 sF0) ?_
  refine AL_nil ?_
  refine thenN ?_
  refine AW_seq1 ?_
  refine AW_region ?_
  refine AL_cons (LR_move (at_tmp 0 _) rfl) (sS (sT1 rfl) sB0 sF0) ?_
  refine AL_cons (LR_fneg (at_tmp 3 _) rfl) (sS (sT1 rfl) sB0 sF0) ?_
  obtain ⟨y2, hy2, hr⟩ := lt_some hr
  refine AL_cons (LR_call Hfaa.func426 rfl rfl (C426 (fneg .f64 a0) y2 hy2) (all_cons (at_tmp 4 _) all_nil) rfl) (sS (sA (sT1 rfl) sT0) sB0 sF0) ?_
  refine AL_cons (LR_fneg (at_tmp 5 _) rfl) (sS (sT1 rfl) sB0 sF0) ?_
  refine AL_cons (LR_assign (at_tmp 6 _) rfl) (sS (sT1 rfl) sB0 sF0) ?_
  refine AL_nil ?_
  refine thenN ?_
  refine AW_ret ?_
  subst hr
  exact res1 rfl (rvT rfl)
/-- math.Ceil -/
def F425 (a0 : Option Nat) : Option Nat := fint .up a0
theorem C425 (a0 : Option Nat) (r : Option Nat) (hr : r = F425 a0) : Aw.Fn Hfaa.prog 425 [fl .f64 a0] (fl .f64 r) := by
  refine fn_intro Hfaa.func425 rfl rfl rfl ?_
  intro bn0 w0 H0
  refine AW_seq1 ?_
  refine AW_region ?_
  refine AL_cons (LR_assign (at_f rfl) rfl) (sS sT0 sB0 sF0) ?_
  refine AL_nil ?_
  refine thenN ?_
  refine AW_seq1 ?_
  refine AW_condC (fun _ => ?_) (fun h => by cases h)
  refine AW_seq1 ?_
  refine AW_region ?_
  refine AL_cons (LR_move (at_tmp 0 _) rfl) (sS (sT1 rfl) sB0 sF0) ?_
  refine AL_cons (LR_ext (ex438 a0) (all_cons (at_tmp 3 _) all_nil) rfl) (sS (sA (sT1 rfl) sT0) sB0 sF0) ?_
  refine AL_cons (LR_assign (at_tmp 4 _) rfl) (sS (sT1 rfl) sB0 sF0) ?_
  refine AL_nil ?_
  refine thenN ?_
  refine AW_ret ?_
  refine thenR ?_
  subst hr
  exact res1 rfl (rvT rfl)
/-- native.ceil -/
def F413 (a0 : Option Nat) : Option Nat := lt (F425 a0) fun y2 => y2
theorem C413 (a0 : Option Nat) (r : Option Nat) (hr : r = F413 a0) : Aw.Fn Hfaa.prog 413 [fl .f64 a0] (fl .f64 r) := by
  refine fn_intro Hfaa.func413 rfl rfl rfl ?_
  intro bn0 w0 H0
  refine AW_seq1 ?_
  refine AW_region ?_
  refine AL_cons (LR_assign (at_f rfl) rfl) (sS sT0 sB0 sF0) ?_
  refine AL_nil ?_
  refine thenN ?_
  refine AW_seq1 ?_
  refine AW_region ?_
  refine AL_cons (LR_move (at_tmp 0 _) rfl) (sS (sT1 rfl) sB0 sF0) ?_
  obtain ⟨y2, hy2, hr⟩ := lt_some hr
  refine AL_cons (LR_call Hfaa.func425 rfl rfl (C425 a0 y2 hy2) (all_cons (at_tmp 3 _) all_nil) rfl) (sS (sA (sT1 rfl) sT0) sB0 sF0) ?_
  refine AL_cons (LR_assign (at_tmp 4 _) rfl) (sS (sT1 rfl) sB0 sF0) ?_
  refine AL_nil ?_
  refine thenN ?_
  refine AW_ret ?_
  subst hr
  exact res1 rfl (rvT rfl)
/-- native.floor -/
def F414 (a0 : Option Nat) : Option Nat := lt (F426 a0) fun y2 => y2
theorem C414 (a0 : Option Nat) (r : Option Nat) (hr : r = F414 a0) : Aw.Fn Hfaa.prog 414 [fl .f64 a0] (fl .f64 r) := by
  refine fn_intro Hfaa.func414 rfl rfl rfl ?_
  intro bn0 w0 H0
  refine AW_seq1 ?_
  refine AW_region ?_
  refine AL_cons (LR_assign (at_f rfl) rfl) (sS sT0 sB0 sF0) ?_
  refine AL_nil ?_
  refine thenN ?_
  refine AW_seq1 ?_
  refine AW_region ?_
  refine AL_cons (LR_move (at_tmp 0 _) rfl) (sS (sT1 rfl) sB0 sF0) ?_
  obtain ⟨y2, hy2, hr⟩ := lt_some hr
  refine AL_cons (LR_call Hfaa.func426 rfl rfl (C426 a0 y2 hy2) (all_cons (at_tmp 3 _) all_nil) rfl) (sS (sA (sT1 rfl) sT0) sB0 sF0) ?_
  refine AL_cons (LR_assign (at_tmp 4 _) rfl) (sS (sT1 rfl) sB0 sF0) ?_
  refine AL_nil ?_
  refine thenN ?_
  refine AW_ret ?_
  subst hr
  exact res1 rfl (rvT rfl)
/-- native.roundEven -/
def F415 (a0 : Option Nat) : Option Nat := fint .even a0
theorem C415 (a0 : Option Nat) (r : Option Nat) (hr : r = F415 a0) : Aw.Fn Hfaa.prog 415 [fl .f64 a0] (fl .f64 r) := by
  refine fn_intro Hfaa.func415 rfl rfl rfl ?_
  intro bn0 w0 H0
  refine AW_seq1 ?_
  refine AW_region ?_
  refine AL_cons (LR_assign (at_f rfl) rfl) (sS sT0 sB0 sF0) ?_
  refine AL_nil ?_
  refine thenN ?_
  refine AW_seq1 ?_
  refine AW_region ?_
  refine AL_cons (LR_move (at_tmp 0 _) rfl) (sS (sT1 rfl) sB0 sF0) ?_
  refine AL_cons (LR_ext (ex427 a0) (all_cons (at_tmp 3 _) all_nil) rfl) (sS (sA (sT1 rfl) sT0) sB0 sF0) ?_
  refine AL_cons (LR_assign (at_tmp 4 _) rfl) (sS (sT1 rfl) sB0 sF0) ?_
  refine AL_nil ?_
  refine thenN ?_
  refine AW_ret ?_
  subst hr
  exact res1 rfl (rvT rfl)
/-- native.RoundInt64 -/
def F393_5 (N : Nat) (x1 : Option Nat) (x5 : Bool) : Option (BitVec 64) := bif x5 then lt (F414 x1) fun y32 => (F385 N y32).bind fun y33 => some y33 else lt (F415 x1) fun y36 => (F385 N y36).bind fun y37 => some y37
def F393_4 (N : Nat) (a0 : BitVec 8) (x1 : Option Nat) (x4 : Bool) : Option (BitVec 64) := bif x4 then lt (F413 x1) fun y28 => (F385 N y28).bind fun y29 => some y29 else F393_5 N x1 (a0 == (4#8))
def F393_3 (N : Nat) (a0 : BitVec 8) (x1 : Option Nat) (x3 : Bool) : Option (BitVec 64) := bif x3 then lt (F412 x1) fun y24 => (F385 N y24).bind fun y25 => some y25 else F393_4 N a0 x1 (a0 == (3#8))
def F393_2 (N : Nat) (a0 : BitVec 8) (x1 : Option Nat) (x2 : Bool) : Option (BitVec 64) := bif x2 then (F411 N x1).bind fun y20 => (F385 N y20).bind fun y21 => some y21 else F393_3 N a0 x1 (a0 == (2#8))
def F393_1 (N : Nat) (a0 : BitVec 8) (x1 : Option Nat) : Option (BitVec 64) := F393_2 N a0 x1 (a0 == (1#8))
def F393 (N : Nat) (a0 : BitVec 8) (a1 : BitVec 64) : Option (BitVec 64) := lt (F384 a1) fun y38 => F393_1 N a0 y38
theorem C393 (N : Nat) (a0 : BitVec 8) (a1 : BitVec 64) (r : BitVec 64) (hr : some r = F393 N a0 a1) : Aw.Fn Hfaa.prog 393 [is (U8 a0), is (U64 a1)] (is (U64 r)) := by
  refine fn_intro Hfaa.func393 rfl rfl rfl ?_
  intro bn0 w0 H0
  refine AW_seq1 ?_
  refine AW_region ?_
  refine AL_cons (LR_assign (at_c (v' := U64 (0#64)) rfl) rfl) (sS sT0 sB0 sF0) ?_
  refine AL_nil ?_
  refine thenN ?_
  refine AW_cut (σ := Option Nat) (fun v => ⟨[(0, .inl (is (U8 a0))), (5, .inl (fl .f64 v))], []⟩) (fun v => some r = F393_1 N a0 v) ?_ ?_
  · skip
    refine AW_region ?_
    refine AL_cons (LR_move (at_tmp 1 _) rfl) (sS (sT1 rfl) sB0 sF0) ?_
    obtain ⟨y38, hy38, hr⟩ := lt_some hr
    refine AL_cons (LR_call Hfaa.func384 rfl rfl (C384 a1 y38 hy38) (all_cons (at_tmp 6 _) all_nil) rfl) (sS (sA (sT1 rfl) sT0) sB0 sF0) ?_
    refine AL_cons (LR_assign (at_tmp 7 _) rfl) (sS (sT1 rfl) sB0 sF0) ?_
    refine AL_nil ?_
    exact thenN (cutLeaf (v := y38) hr (weak0 ((sT rfl (sT rfl sT0))) sub_nil))
  · rintro x1 hr
    show AW Hfaa.prog _ _ _ ⟨[(0, .inl (is (U8 a0))), (5, .inl (fl .f64 x1))], []⟩
    have hr : some r = F393_1 N a0 x1 := hr
    refine AW_seq1 ?_
    refine AW_seq1 ?_
    refine AW_region ?_
    refine AL_cons (LR_move (at_tmp 0 _) rfl) (sS (sT1 rfl) sB0 sF0) ?_
    refine AL_nil ?_
    refine thenN ?_
    refine AW_block ?_
    refine AW_cut (σ := Bool) (fun v => ⟨[(5, .inl (fl .f64 x1)), (8, .inl (is (U8 a0))), (9, .inl (is (Bl v)))], []⟩) (fun v => some r = F393_2 N a0 x1 v) ?_ ?_
    · skip
      refine AW_region ?_
      refine AL_cons (LR_bin (at_tmp 8 _) (at_c (v' := U8 (1#8)) rfl) (eql_U8 a0 (1#8)) rfl) (sS (sA (sT1 rfl) sT0) sB0 sF0) ?_
      refine AL_cons (LR_assign (at_tmp 10 _) rfl) (sS (sT1 rfl) sB0 sF0) ?_
      refine AL_nil ?_
      exact thenN (cutLeaf (v := a0 == (1#8)) hr (weak0 ((sT rfl (sT rfl (sT rfl sT0)))) sub_nil))
    · rintro x2 hr
      show AW Hfaa.prog _ _ _ ⟨[(5, .inl (fl .f64 x1)), (8, .inl (is (U8 a0))), (9, .inl (is (Bl x2)))], []⟩
      have hr : some r = F393_2 N a0 x1 x2 := hr
      refine AW_condT (b := x2) rfl (fun h => ?_) (fun h => ?_)
      · have hr := hr.trans (cond_t h)
        clear h
        refine AW_seq1 ?_
        refine AW_region ?_
        refine AL_cons (LR_move (at_tmp 5 _) rfl) (sS (sT1 rfl) sB0 sF0) ?_
        obtain ⟨y20, hy20, hr⟩ := bind_some hr
        refine AL_cons (LR_call Hfaa.func411 rfl rfl (C411 N x1 y20 hy20) (all_cons (at_tmp 11 _) all_nil) rfl) (sS (sA (sT1 rfl) sT0) sB0 sF0) ?_
        obtain ⟨y21, hy21, hr⟩ := bind_some hr
        refine AL_cons (LR_call Hfaa.func385 rfl rfl (C385 N y20 y21 hy21) (all_cons (at_tmp 12 _) all_nil) rfl) (sS (sA (sT1 rfl) sT0) sB0 sF0) ?_
        refine AL_cons (LR_assign (at_tmp 13 _) rfl) (sS (sT1 rfl) sB0 sF0) ?_
        refine AL_nil ?_
        refine thenN ?_
        refine AW_ret ?_
        refine blR ?_
        refine thenR ?_
        obtain rfl := Option.some.inj hr
        exact res1 rfl (rvT rfl)
      · have hr := hr.trans (cond_f h)
        clear h
        refine AW_cut (σ := Bool) (fun v => ⟨[(5, .inl (fl .f64 x1)), (8, .inl (is (U8 a0))), (14, .inl (is (Bl v)))], []⟩) (fun v => some r = F393_3 N a0 x1 v) ?_ ?_
        · skip
          refine AW_region ?_
          refine AL_cons (LR_bin (at_tmp 8 _) (at_c (v' := U8 (2#8)) rfl) (eql_U8 a0 (2#8)) rfl) (sS (sA (sT1 rfl) sT0) sB0 sF0) ?_
          refine AL_cons (LR_assign (at_tmp 15 _) rfl) (sS (sT1 rfl) sB0 sF0) ?_
          refine AL_nil ?_
          exact thenN (cutLeaf (v := a0 == (2#8)) hr (weak0 ((sT rfl (sT rfl (sT rfl sT0)))) sub_nil))
        · rintro x3 hr
          show AW Hfaa.prog _ _ _ ⟨[(5, .inl (fl .f64 x1)), (8, .inl (is (U8 a0))), (14, .inl (is (Bl x3)))], []⟩
          have hr : some r = F393_3 N a0 x1 x3 := hr
          refine AW_condT (b := x3) rfl (fun h => ?_) (fun h => ?_)
          · have hr := hr.trans (cond_t h)
            clear h
            refine AW_seq1 ?_
            refine AW_region ?_
            refine AL_cons (LR_move (at_tmp 5 _) rfl) (sS (sT1 rfl) sB0 sF0) ?_
            obtain ⟨y24, hy24, hr⟩ := lt_some hr
            refine AL_cons (LR_call Hfaa.func412 rfl rfl (C412 x1 y24 hy24) (all_cons (at_tmp 16 _) all_nil) rfl) (sS (sA (sT1 rfl) sT0) sB0 sF0) ?_
            obtain ⟨y25, hy25, hr⟩ := bind_some hr
            refine AL_cons (LR_call Hfaa.func385 rfl rfl (C385 N y24 y25 hy25) (all_cons (at_tmp 17 _) all_nil) rfl) (sS (sA (sT1 rfl) sT0) sB0 sF0) ?_
            refine AL_cons (LR_assign (at_tmp 18 _) rfl) (sS (sT1 rfl) sB0 sF0) ?_
            refine AL_nil ?_
            refine thenN ?_
            refine AW_ret ?_
            refine blR ?_
            refine thenR ?_
            obtain rfl := Option.some.inj hr
            exact res1 rfl (rvT rfl)
          · have hr := hr.trans (cond_f h)
            clear h
            refine AW_cut (σ := Bool) (fun v => ⟨[(5, .inl (fl .f64 x1)), (8, .inl (is (U8 a0))), (19, .inl (is (Bl v)))], []⟩) (fun v => some r = F393_4 N a0 x1 v) ?_ ?_
            · skip
              refine AW_region ?_
              refine AL_cons (LR_bin (at_tmp 8 _) (at_c (v' := U8 (3#8)) rfl) (eql_U8 a0 (3#8)) rfl) (sS (sA (sT1 rfl) sT0) sB0 sF0) ?_
              refine AL_cons (LR_assign (at_tmp 20 _) rfl) (sS (sT1 rfl) sB0 sF0) ?_
              refine AL_nil ?_
              exact thenN (cutLeaf (v := a0 == (3#8)) hr (weak0 ((sT rfl (sT rfl (sT rfl sT0)))) sub_nil))
            · rintro x4 hr
              show AW Hfaa.prog _ _ _ ⟨[(5, .inl (fl .f64 x1)), (8, .inl (is (U8 a0))), (19, .inl (is (Bl x4)))], []⟩
              have hr : some r = F393_4 N a0 x1 x4 := hr
              refine AW_condT (b := x4) rfl (fun h => ?_) (fun h => ?_)
              · have hr := hr.trans (cond_t h)
                clear h
                refine AW_seq1 ?_
                refine AW_region ?_
                refine AL_cons (LR_move (at_tmp 5 _) rfl) (sS (sT1 rfl) sB0 sF0) ?_
                obtain ⟨y28, hy28, hr⟩ := lt_some hr
                refine AL_cons (LR_call Hfaa.func413 rfl rfl (C413 x1 y28 hy28) (all_cons (at_tmp 21 _) all_nil) rfl) (sS (sA (sT1 rfl) sT0) sB0 sF0) ?_
                obtain ⟨y29, hy29, hr⟩ := bind_some hr
                refine AL_cons (LR_call Hfaa.func385 rfl rfl (C385 N y28 y29 hy29) (all_cons (at_tmp 22 _) all_nil) rfl) (sS (sA (sT1 rfl) sT0) sB0 sF0) ?_
                refine AL_cons (LR_assign (at_tmp 23 _) rfl) (sS (sT1 rfl) sB0 sF0) ?_
                refine AL_nil ?_
                refine thenN ?_
                refine AW_ret ?_
                refine blR ?_
                refine thenR ?_
                obtain rfl := Option.some.inj hr
                exact res1 rfl (rvT rfl)
              · have hr := hr.trans (cond_f h)
                clear h
                refine AW_cut (σ := Bool) (fun v => ⟨[(5, .inl (fl .f64 x1)), (24, .inl (is (Bl v)))], []⟩) (fun v => some r = F393_5 N x1 v) ?_ ?_
                · skip
                  refine AW_region ?_
                  refine AL_cons (LR_bin (at_tmp 8 _) (at_c (v' := U8 (4#8)) rfl) (eql_U8 a0 (4#8)) rfl) (sS (sA (sT1 rfl) sT0) sB0 sF0) ?_
                  refine AL_cons (LR_assign (at_tmp 25 _) rfl) (sS (sT1 rfl) sB0 sF0) ?_
                  refine AL_nil ?_
                  exact thenN (cutLeaf (v := a0 == (4#8)) hr (weak0 ((sT rfl (sT rfl sT0))) sub_nil))
                · rintro x5 hr
                  show AW Hfaa.prog _ _ _ ⟨[(5, .inl (fl .f64 x1)), (24, .inl (is (Bl x5)))], []⟩
                  have hr : some r = F393_5 N x1 x5 := hr
                  refine AW_condT (b := x5) rfl (fun h => ?_) (fun h => ?_)
                  · have hr := hr.trans (cond_t h)
                    clear h
                    refine AW_seq1 ?_
                    refine AW_region ?_
                    refine AL_cons (LR_move (at_tmp 5 _) rfl) (sS (sT1 rfl) sB0 sF0) ?_
                    obtain ⟨y32, hy32, hr⟩ := lt_some hr
                    refine AL_cons (LR_call Hfaa.func414 rfl rfl (C414 x1 y32 hy32) (all_cons (at_tmp 26 _) all_nil) rfl) (sS (sA (sT1 rfl) sT0) sB0 sF0) ?_
                    obtain ⟨y33, hy33, hr⟩ := bind_some hr
                    refine AL_cons (LR_call Hfaa.func385 rfl rfl (C385 N y32 y33 hy33) (all_cons (at_tmp 27 _) all_nil) rfl) (sS (sA (sT1 rfl) sT0) sB0 sF0) ?_
                    refine AL_cons (LR_assign (at_tmp 28 _) rfl) (sS (sT1 rfl) sB0 sF0) ?_
                    refine AL_nil ?_
                    refine thenN ?_
                    refine AW_ret ?_
                    refine blR ?_
                    refine thenR ?_
                    obtain rfl := Option.some.inj hr
                    exact res1 rfl (rvT rfl)
                  · have hr := hr.trans (cond_f h)
                    clear h
                    refine AW_skip ?_
                    refine blN ?_
                    refine thenN ?_
                    refine AW_seq1 ?_
                    refine AW_region ?_
                    refine AL_cons (LR_move (at_tmp 5 _) rfl) (sS (sT1 rfl) sB0 sF0) ?_
                    obtain ⟨y36, hy36, hr⟩ := lt_some hr
                    refine AL_cons (LR_call Hfaa.func415 rfl rfl (C415 x1 y36 hy36) (all_cons (at_tmp 29 _) all_nil) rfl) (sS (sA (sT1 rfl) sT0) sB0 sF0) ?_
                    obtain ⟨y37, hy37, hr⟩ := bind_some hr
                    refine AL_cons (LR_call Hfaa.func385 rfl rfl (C385 N y36 y37 hy37) (all_cons (at_tmp 30 _) all_nil) rfl) (sS (sA (sT1 rfl) sT0) sB0 sF0) ?_
                    refine AL_cons (LR_assign (at_tmp 31 _) rfl) (sS (sT1 rfl) sB0 sF0) ?_
                    refine AL_nil ?_
                    refine thenN ?_
                    refine AW_ret ?_
                    obtain rfl := Option.some.inj hr
                    exact res1 rfl (rvT rfl)
/-- calc/na.byWide -/
def F351_4 (N : Nat) (x5 : BitVec 64) : Option (BitVec 64) := some x5
def F351_5 (N : Nat) (x4 : BitVec 64) (x6 : Bool) : Option (BitVec 64) := bif x6 then (F347 N x4).bind fun y6 => F351_4 N (BitVec.ofInt 64 (y6.toNat : Int)) else F351_4 N x4
def F351_3 (N : Nat) (a0 : Bool) (x4 : BitVec 64) : Option (BitVec 64) := F351_5 N x4 (!a0)
def F351_6 (N : Nat) (a0 : Bool) (a1_0 : BitVec 8) (a1_1 : BitVec 8) (a1_2 : BitVec 8) (a1_3 : BitVec 8) (a1_4 : BitVec 64) (a1_5 : List UInt8) (x1 : BitVec 64) (x3 : BitVec 64) (x7 : Bool) : Option (BitVec 64) := bif x7 then (F393 N (BitVec.ofInt 8 (a1_4.toNat : Int)) x1).bind fun y7 => F351_3 N a0 y7 else F351_3 N a0 x3
def F351_2 (N : Nat) (a0 : Bool) (a1_0 : BitVec 8) (a1_1 : BitVec 8) (a1_2 : BitVec 8) (a1_3 : BitVec 8) (a1_4 : BitVec 64) (a1_5 : List UInt8) (x1 : BitVec 64) (x3 : BitVec 64) : Option (BitVec 64) := F351_6 N a0 a1_0 a1_1 a1_2 a1_3 a1_4 a1_5 x1 x3 (a1_0 == (17#8))
def F351_1 (N : Nat) (a0 : Bool) (a1_0 : BitVec 8) (a1_1 : BitVec 8) (a1_2 : BitVec 8) (a1_3 : BitVec 8) (a1_4 : BitVec 64) (a1_5 : List UInt8) (x1 : BitVec 64) (x2 : BitVec 64) : Option (BitVec 64) := (F392 N x1 x2).bind fun y8 => F351_2 N a0 a1_0 a1_1 a1_2 a1_3 a1_4 a1_5 x1 y8
def F351_7 (N : Nat) (a0 : Bool) (a1_0 : BitVec 8) (a1_1 : BitVec 8) (a1_2 : BitVec 8) (a1_3 : BitVec 8) (a1_4 : BitVec 64) (a1_5 : List UInt8) (a2 : BitVec 64) (a3 : BitVec 64) (x8 : Bool) : Option (BitVec 64) := bif x8 then (F346 N (BitVec.ofInt 32 (a2.toNat : Int))).bind fun y9 => (F346 N (BitVec.ofInt 32 (a3.toNat : Int))).bind fun y10 => F351_1 N a0 a1_0 a1_1 a1_2 a1_3 a1_4 a1_5 y9 y10 else F351_1 N a0 a1_0 a1_1 a1_2 a1_3 a1_4 a1_5 a2 a3
def F351 (N : Nat) (a0 : Bool) (a1_0 : BitVec 8) (a1_1 : BitVec 8) (a1_2 : BitVec 8) (a1_3 : BitVec 8) (a1_4 : BitVec 64) (a1_5 : List UInt8) (a2 : BitVec 64) (a3 : BitVec 64) : Option (BitVec 64) := F351_7 N a0 a1_0 a1_1 a1_2 a1_3 a1_4 a1_5 a2 a3 (!a0)
theorem C351 (N : Nat) (a0 : Bool) (a1_0 : BitVec 8) (a1_1 : BitVec 8) (a1_2 : BitVec 8) (a1_3 : BitVec 8) (a1_4 : BitVec 64) (a1_5 : List UInt8) (a2 : BitVec 64) (a3 : BitVec 64) (r : BitVec 64) (hr : some r = F351 N a0 a1_0 a1_1 a1_2 a1_3 a1_4 a1_5 a2 a3) : Aw.Fn Hfaa.prog 351 [is (Bl a0), agg [is (U8 a1_0), is (U8 a1_1), is (U8 a1_2), is (U8 a1_3), is (U64 a1_4), is (Sv a1_5)], is (U64 a2), is (U64 a3)] (is (U64 r)) := by
  refine fn_intro Hfaa.func351 rfl rfl rfl ?_
  intro bn0 w0 H0
  refine AW_seq1 ?_
  refine AW_region ?_
  refine AL_cons (LR_box (at_tmp 1 _) (cells_agg _) rfl) (sS (sT1 rfl) sB0 (sF1 rfl)) ?_
  refine AL_cons (LR_assign (at_c (v' := U64 (0#64)) rfl) rfl) (sS sT0 sB0 sF0) ?_
  refine AL_nil ?_
  refine thenN ?_
  refine AW_cut (σ := BitVec 64 × BitVec 64) (fun v => ⟨[(0, .inl (is (Bl a0))), (2, .inl (is (U64 v.1))), (3, .inl (is (U64 v.2))), (5, .inr (.inl (5, 0)))], [(5, pb 96 [is (U8 a1_0), is (U8 a1_1), is (U8 a1_2), is (U8 a1_3), is (U64 a1_4), is (Sv a1_5)])]⟩) (fun v => some r = F351_1 N a0 a1_0 a1_1 a1_2 a1_3 a1_4 a1_5 v.1 v.2) ?_ ?_
  · skip
    refine AW_cut (σ := Bool) (fun v => ⟨[(0, .inl (is (Bl a0))), (2, .inl (is (U64 a2))), (3, .inl (is (U64 a3))), (5, .inr (.inl (5, 0))), (11, .inl (is (Bl v)))], [(5, pb 96 [is (U8 a1_0), is (U8 a1_1), is (U8 a1_2), is (U8 a1_3), is (U64 a1_4), is (Sv a1_5)])]⟩) (fun v => some r = F351_7 N a0 a1_0 a1_1 a1_2 a1_3 a1_4 a1_5 a2 a3 v) ?_ ?_
    · skip
      refine AW_region ?_
      refine AL_cons (LR_move (at_tmp 0 _) rfl) (sS (sT1 rfl) sB0 sF0) ?_
      refine AL_cons (LR_un (at_tmp 10 _) (not_Bl a0) rfl) (sS (sT1 rfl) sB0 sF0) ?_
      refine AL_nil ?_
      exact thenN (cutLeaf (v := !a0) hr (weak0 ((sT rfl (sT rfl (sT rfl (sT rfl (sT rfl sT0)))))) (sub_keep sub_nil)))
    · rintro x8 hr
      show AW Hfaa.prog _ _ _ ⟨[(0, .inl (is (Bl a0))), (2, .inl (is (U64 a2))), (3, .inl (is (U64 a3))), (5, .inr (.inl (5, 0))), (11, .inl (is (Bl x8)))], [(5, pb 96 [is (U8 a1_0), is (U8 a1_1), is (U8 a1_2), is (U8 a1_3), is (U64 a1_4), is (Sv a1_5)])]⟩
      have hr : some r = F351_7 N a0 a1_0 a1_1 a1_2 a1_3 a1_4 a1_5 a2 a3 x8 := hr
      refine AW_condT (b := x8) rfl (fun h => ?_) (fun h => ?_)
      · have hr := hr.trans (cond_t h)
        clear h
        refine AW_region ?_
        refine AL_cons (LR_move (at_tmp 2 _) rfl) (sS (sT1 rfl) sB0 sF0) ?_
        refine AL_cons (LR_conv (vx := U64 a2) (at_tmp 12 _) (conv_U32 Hfaa.underlying30 Hfaa.underlying65 (a2.toNat : Int)) rfl) (sS (sT1 rfl) sB0 sF0) ?_
        obtain ⟨y9, hy9, hr⟩ := bind_some hr
        refine AL_cons (LR_call Hfaa.func346 rfl rfl (C346 N (BitVec.ofInt 32 (a2.toNat : Int)) y9 hy9) (all_cons (at_tmp 13 _) all_nil) rfl) (sS (sA (sT1 rfl) sT0) sB0 sF0) ?_
        refine AL_cons (LR_move (at_tmp 3 _) rfl) (sS (sT1 rfl) sB0 sF0) ?_
        refine AL_cons (LR_conv (vx := U64 a3) (at_tmp 15 _) (conv_U32 Hfaa.underlying30 Hfaa.underlying65 (a3.toNat : Int)) rfl) (sS (sT1 rfl) sB0 sF0) ?_
        obtain ⟨y10, hy10, hr⟩ := bind_some hr
        refine AL_cons (LR_call Hfaa.func346 rfl rfl (C346 N (BitVec.ofInt 32 (a3.toNat : Int)) y10 hy10) (all_cons (at_tmp 16 _) all_nil) rfl) (sS (sA (sT1 rfl) sT0) sB0 sF0) ?_
        refine AL_cons (LR_assign (at_tmp 14 _) rfl) (sS (sT1 rfl) sB0 sF0) ?_
        refine AL_cons (LR_assign (at_tmp 17 _) rfl) (sS (sT1 rfl) sB0 sF0) ?_
        refine AL_nil ?_
        exact thenN (cutLeaf (v := (y9, y10)) hr (weak0 ((sT rfl (sT rfl (sT rfl (sT rfl sT0))))) (sub_keep sub_nil)))
      · have hr := hr.trans (cond_f h)
        clear h
        refine AW_skip ?_
        exact thenN (cutLeaf (v := (a2, a3)) hr (weak0 ((sT rfl (sT rfl (sT rfl (sT rfl sT0))))) (sub_keep sub_nil)))
  · rintro ⟨x1, x2⟩ hr
    show AW Hfaa.prog _ _ _ ⟨[(0, .inl (is (Bl a0))), (2, .inl (is (U64 x1))), (3, .inl (is (U64 x2))), (5, .inr (.inl (5, 0)))], [(5, pb 96 [is (U8 a1_0), is (U8 a1_1), is (U8 a1_2), is (U8 a1_3), is (U64 a1_4), is (Sv a1_5)])]⟩
    have hr : some r = F351_1 N a0 a1_0 a1_1 a1_2 a1_3 a1_4 a1_5 x1 x2 := hr
    refine AW_cut (σ := BitVec 64) (fun v => ⟨[(0, .inl (is (Bl a0))), (2, .inl (is (U64 x1))), (5, .inr (.inl (5, 0))), (9, .inl (is (U64 v)))], [(5, pb 96 [is (U8 a1_0), is (U8 a1_1), is (U8 a1_2), is (U8 a1_3), is (U64 a1_4), is (Sv a1_5)])]⟩) (fun v => some r = F351_2 N a0 a1_0 a1_1 a1_2 a1_3 a1_4 a1_5 x1 v) ?_ ?_
    · skip
      refine AW_region ?_
      refine AL_cons (LR_move (at_tmp 2 _) rfl) (sS (sT1 rfl) sB0 sF0) ?_
      refine AL_cons (LR_move (at_tmp 3 _) rfl) (sS (sT1 rfl) sB0 sF0) ?_
      obtain ⟨y8, hy8, hr⟩ := bind_some hr
      refine AL_cons (LR_call Hfaa.func392 rfl rfl (C392 N x1 x2 y8 hy8) (all_cons (at_tmp 18 _) (all_cons (at_tmp 19 _) all_nil)) rfl) (sS (sA (sT1 rfl) (sA (sT1 rfl) sT0)) sB0 sF0) ?_
      refine AL_cons (LR_assign (at_tmp 20 _) rfl) (sS (sT1 rfl) sB0 sF0) ?_
      refine AL_nil ?_
      exact thenN (cutLeaf (v := y8) hr (weak0 ((sT rfl (sT rfl (sT rfl (sT rfl sT0))))) (sub_keep sub_nil)))
    · rintro x3 hr
      show AW Hfaa.prog _ _ _ ⟨[(0, .inl (is (Bl a0))), (2, .inl (is (U64 x1))), (5, .inr (.inl (5, 0))), (9, .inl (is (U64 x3)))], [(5, pb 96 [is (U8 a1_0), is (U8 a1_1), is (U8 a1_2), is (U8 a1_3), is (U64 a1_4), is (Sv a1_5)])]⟩
      have hr : some r = F351_2 N a0 a1_0 a1_1 a1_2 a1_3 a1_4 a1_5 x1 x3 := hr
      refine AW_cut (σ := BitVec 64) (fun v => ⟨[(0, .inl (is (Bl a0))), (9, .inl (is (U64 v)))], []⟩) (fun v => some r = F351_3 N a0 v) ?_ ?_
      · skip
        refine AW_cut (σ := Bool) (fun v => ⟨[(0, .inl (is (Bl a0))), (2, .inl (is (U64 x1))), (5, .inr (.inl (5, 0))), (9, .inl (is (U64 x3))), (23, .inl (is (Bl v)))], [(5, pb 96 [is (U8 a1_0), is (U8 a1_1), is (U8 a1_2), is (U8 a1_3), is (U64 a1_4), is (Sv a1_5)])]⟩) (fun v => some r = F351_6 N a0 a1_0 a1_1 a1_2 a1_3 a1_4 a1_5 x1 x3 v) ?_ ?_
        · skip
          refine AW_region ?_
          refine AL_cons (LR_fieldAddr (off := 0) (o := 0) (at_tmp 5 _) (fun b w => fa96_0 b 0 w) rfl) (sS (sT1 rfl) sB0 sF0) ?_
          refine AL_cons (LR_load (at_tmp 21 _) na5 rfl rfl) (sS (sT1 rfl) (sB1 rfl) sF0) ?_
          refine AL_cons (LR_bin (at_tmp 22 _) (at_c (v' := U8 (17#8)) rfl) (eql_U8 a1_0 (17#8)) rfl) (sS (sA (sT1 rfl) sT0) sB0 sF0) ?_
          refine AL_nil ?_
          exact thenN (cutLeaf (v := a1_0 == (17#8)) hr (weak0 ((sT rfl (sT rfl (sT rfl (sT rfl (sT rfl sT0)))))) (sub_keep sub_nil)))
        · rintro x7 hr
          show AW Hfaa.prog _ _ _ ⟨[(0, .inl (is (Bl a0))), (2, .inl (is (U64 x1))), (5, .inr (.inl (5, 0))), (9, .inl (is (U64 x3))), (23, .inl (is (Bl x7)))], [(5, pb 96 [is (U8 a1_0), is (U8 a1_1), is (U8 a1_2), is (U8 a1_3), is (U64 a1_4), is (Sv a1_5)])]⟩
          have hr : some r = F351_6 N a0 a1_0 a1_1 a1_2 a1_3 a1_4 a1_5 x1 x3 x7 := hr
          refine AW_condT (b := x7) rfl (fun h => ?_) (fun h => ?_)
          · have hr := hr.trans (cond_t h)
            clear h
            refine AW_region ?_
            refine AL_cons (LR_fieldAddr (off := 0) (o := 4) (at_tmp 5 _) (fun b w => fa96_4 b 0 w) rfl) (sS (sT1 rfl) sB0 sF0) ?_
            refine AL_cons (LR_load (at_tmp 24 _) na30 rfl rfl) (sS (sT1 rfl) (sB1 rfl) sF0) ?_
            refine AL_cons (LR_conv (vx := U64 a1_4) (at_tmp 25 _) (conv_U8 Hfaa.underlying30 Hfaa.underlying5 (a1_4.toNat : Int)) rfl) (sS (sT1 rfl) sB0 sF0) ?_
            refine AL_cons (LR_move (at_tmp 2 _) rfl) (sS (sT1 rfl) sB0 sF0) ?_
            obtain ⟨y7, hy7, hr⟩ := bind_some hr
            refine AL_cons (LR_call Hfaa.func393 rfl rfl (C393 N (BitVec.ofInt 8 (a1_4.toNat : Int)) x1 y7 hy7) (all_cons (at_tmp 26 _) (all_cons (at_tmp 27 _) all_nil)) rfl) (sS (sA (sT1 rfl) (sA (sT1 rfl) sT0)) sB0 sF0) ?_
            refine AL_cons (LR_assign (at_tmp 28 _) rfl) (sS (sT1 rfl) sB0 sF0) ?_
            refine AL_nil ?_
            exact thenN (cutLeaf (v := y7) hr (weak0 ((sT rfl (sT rfl sT0))) (sub_drop sub_nil)))
          · have hr := hr.trans (cond_f h)
            clear h
            refine AW_skip ?_
            exact thenN (cutLeaf (v := x3) hr (weak0 ((sT rfl (sT rfl sT0))) (sub_drop sub_nil)))
      · rintro x4 hr
        show AW Hfaa.prog _ _ _ ⟨[(0, .inl (is (Bl a0))), (9, .inl (is (U64 x4)))], []⟩
        have hr : some r = F351_3 N a0 x4 := hr
        refine AW_cut (σ := BitVec 64) (fun v => ⟨[(9, .inl (is (U64 v)))], []⟩) (fun v => some r = F351_4 N v) ?_ ?_
        · skip
          refine AW_cut (σ := Bool) (fun v => ⟨[(9, .inl (is (U64 x4))), (30, .inl (is (Bl v)))], []⟩) (fun v => some r = F351_5 N x4 v) ?_ ?_
          · skip
            refine AW_region ?_
            refine AL_cons (LR_move (at_tmp 0 _) rfl) (sS (sT1 rfl) sB0 sF0) ?_
            refine AL_cons (LR_un (at_tmp 29 _) (not_Bl a0) rfl) (sS (sT1 rfl) sB0 sF0) ?_
            refine AL_nil ?_
            exact thenN (cutLeaf (v := !a0) hr (weak0 ((sT rfl (sT rfl sT0))) sub_nil))
          · rintro x6 hr
            show AW Hfaa.prog _ _ _ ⟨[(9, .inl (is (U64 x4))), (30, .inl (is (Bl x6)))], []⟩
            have hr : some r = F351_5 N x4 x6 := hr
            refine AW_condT (b := x6) rfl (fun h => ?_) (fun h => ?_)
            · have hr := hr.trans (cond_t h)
              clear h
              refine AW_region ?_
              refine AL_cons (LR_move (at_tmp 9 _) rfl) (sS (sT1 rfl) sB0 sF0) ?_
              obtain ⟨y6, hy6, hr⟩ := bind_some hr
              refine AL_cons (LR_call Hfaa.func347 rfl rfl (C347 N x4 y6 hy6) (all_cons (at_tmp 31 _) all_nil) rfl) (sS (sA (sT1 rfl) sT0) sB0 sF0) ?_
              refine AL_cons (LR_conv (vx := U32 y6) (at_tmp 32 _) (conv_U64 Hfaa.underlying65 Hfaa.underlying30 (y6.toNat : Int)) rfl) (sS (sT1 rfl) sB0 sF0) ?_
              refine AL_cons (LR_assign (at_tmp 33 _) rfl) (sS (sT1 rfl) sB0 sF0) ?_
              refine AL_nil ?_
              exact thenN (cutLeaf (v := BitVec.ofInt 64 (y6.toNat : Int)) hr (weak0 ((sT rfl sT0)) sub_nil))
            · have hr := hr.trans (cond_f h)
              clear h
              refine AW_skip ?_
              exact thenN (cutLeaf (v := x4) hr (weak0 ((sT rfl sT0)) sub_nil))
        · rintro x5 hr
          show AW Hfaa.prog _ _ _ ⟨[(9, .inl (is (U64 x5)))], []⟩
          have hr : some r = F351_4 N x5 := hr
          refine AW_seq1 ?_
          refine AW_region ?_
          refine AL_cons (LR_move (at_tmp 9 _) rfl) (sS (sT1 rfl) sB0 sF0) ?_
          refine AL_cons (LR_assign (at_tmp 34 _) rfl) (sS (sT1 rfl) sB0 sF0) ?_
          refine AL_nil ?_
          refine thenN ?_
          refine AW_ret ?_
          obtain rfl := Option.some.inj hr
          exact res1 rfl (rvT rfl)
end Go.Proofs.YfwaawGreat
