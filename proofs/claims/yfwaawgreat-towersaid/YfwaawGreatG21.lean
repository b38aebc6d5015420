import Derived.Test.YfwaawGreatG19
import Derived.Test.YfwaawGreatG20
namespace Go.Proofs.YfwaawGreat
open Go.Aw
set_option linter.unusedVariables false
set_option maxRecDepth 100000
set_option maxHeartbeats 1000000
/-- hexa/hmodel.Scan -/
def F304_22 (N : Nat) (x27 : Bool) (x28 : List UInt8) (x29 : Int) (x30 : Bool) : Option (BitVec 8 × Bool × List UInt8 × Int × Int × Int) := bif x30 then some ((4#8, false, ([] : List UInt8), 0, 0, 0)) else some (0#8, x27, x28, x29, 0, 0)
def F304_21 (N : Nat) (x26 : Bool) (x27 : Bool) (x28 : List UInt8) (x29 : Int) : Option (BitVec 8 × Bool × List UInt8 × Int × Int × Int) := F304_22 N x27 x28 x29 (!x26)
def F304_20 (N : Nat) (x3 : Bool) (x10 : List UInt8) (x11 : List UInt8) (x25 : Int) : Option (BitVec 8 × Bool × List UInt8 × Int × Int × Int) := bif decide (x10.length + x11.length ≤ 9223372036854775807) then (F284 N x3 (x10 ++ x11) (w64 (x25 - (w64 (4 * (x11.length : Int)))))).bind fun y37 => F304_21 N y37.2.2.2 y37.1 y37.2.1 y37.2.2.1 else none
def F304_19 (N : Nat) (x3 : Bool) (x10 : List UInt8) (x11 : List UInt8) (x21 : Bool) (x24 : Int) : Option (BitVec 8 × Bool × List UInt8 × Int × Int × Int) := bif x21 then F304_20 N x3 x10 x11 (w64 (0 - x24)) else F304_20 N x3 x10 x11 x24
def F304_25 (N : Nat) (x3 : Bool) (x10 : List UInt8) (x11 : List UInt8) (x20 : List UInt8) (x21 : Bool) (x32 : Int) (x34 : Int) : Option ((Int × Int) ⊕ (BitVec 8 × Bool × List UInt8 × Int × Int × Int)) := some (.inl ((x34, w64 (x32 + 1))))
def F304_24 (N : Nat) (x3 : Bool) (x10 : List UInt8) (x11 : List UInt8) (x20 : List UInt8) (x21 : Bool) (x31 : Int) (x32 : Int) (x33 : Bool) : Option ((Int × Int) ⊕ (BitVec 8 × Bool × List UInt8 × Int × Int × Int)) := bif x33 then bif (decide (0 ≤ (x32 : Int)) && decide ((x32 : Int) < (x20.length : Int))) then F304_25 N x3 x10 x11 x20 x21 x32 (min (w64 ((w64 (10 * x31)) + (w64 ((((x20.getD ((x32 : Int)).toNat 0).toBitVec) - (48#8)).toNat : Int)))) 1000000) else none else (F304_19 N x3 x10 x11 x21 x31).map Sum.inr
def F304_L23b (N : Nat) (x3 : Bool) (x10 : List UInt8) (x11 : List UInt8) (x20 : List UInt8) (x21 : Bool) (x31 : Int) (x32 : Int) : Option ((Int × Int) ⊕ (BitVec 8 × Bool × List UInt8 × Int × Int × Int)) := F304_24 N x3 x10 x11 x20 x21 x31 x32 (decide (x32 < (x20.length : Int)))
def F304_L23 (N : Nat) (x3 : Bool) (x10 : List UInt8) (x11 : List UInt8) (x20 : List UInt8) (x21 : Bool) : (Int × Int) → Option ((Int × Int) ⊕ (BitVec 8 × Bool × List UInt8 × Int × Int × Int)) := fun v => F304_L23b N x3 x10 x11 x20 x21 v.1 v.2
def F304_18 (N : Nat) (a0 : List UInt8) (x3 : Bool) (x10 : List UInt8) (x11 : List UInt8) (x19 : Int) (x20 : List UInt8) (x21 : Bool) (x22 : Int) (x23 : Bool) : Option (BitVec 8 × Bool × List UInt8 × Int × Int × Int) := bif x23 then (F380 N a0 (w64 (x19 + x22))).bind fun y35 => some (y35.1, y35.2.1, y35.2.2.1, y35.2.2.2.1, y35.2.2.2.2.1, y35.2.2.2.2.2) else iterL (F304_L23 N x3 x10 x11 x20 x21) N (0, 0)
def F304_17 (N : Nat) (a0 : List UInt8) (x3 : Bool) (x10 : List UInt8) (x11 : List UInt8) (x19 : Int) (x20 : List UInt8) (x21 : Bool) (x22 : Int) : Option (BitVec 8 × Bool × List UInt8 × Int × Int × Int) := F304_18 N a0 x3 x10 x11 x19 x20 x21 x22 ((decide (x22 < (x20.length : Int))) || (x22 == 0))
def F304_16 (N : Nat) (a0 : List UInt8) (x3 : Bool) (x10 : List UInt8) (x11 : List UInt8) (x19 : Int) (x20 : List UInt8) (x21 : Bool) : Option (BitVec 8 × Bool × List UInt8 × Int × Int × Int) := (F382 N x20 false).bind fun y38 => F304_17 N a0 x3 x10 x11 x19 x20 x21 y38
def F304_27 (N : Nat) (a0 : List UInt8) (x3 : Bool) (x10 : List UInt8) (x11 : List UInt8) (x17 : Int) (x35 : Bool) (x37 : List UInt8) : Option (BitVec 8 × Bool × List UInt8 × Int × Int × Int) := F304_16 N a0 x3 x10 x11 (w64 (x17 + 1)) x37 x35
def F304_26 (N : Nat) (a0 : List UInt8) (x3 : Bool) (x8 : List UInt8) (x10 : List UInt8) (x11 : List UInt8) (x17 : Int) (x35 : Bool) (x36 : Bool) : Option (BitVec 8 × Bool × List UInt8 × Int × Int × Int) := bif x36 then bif (decide (0 ≤ (1 : Int)) && (decide ((1 : Int) ≤ (x8.length : Int)) && decide ((x8.length : Int) ≤ (x8.length : Int)))) then F304_27 N a0 x3 x10 x11 x17 x35 ((x8.drop ((1 : Int)).toNat).take (((x8.length : Int)).toNat - ((1 : Int)).toNat)) else none else F304_16 N a0 x3 x10 x11 x17 x8 x35
def F304_15 (N : Nat) (a0 : List UInt8) (x3 : Bool) (x8 : List UInt8) (x10 : List UInt8) (x11 : List UInt8) (x17 : Int) (x18 : Bool) : Option (BitVec 8 × Bool × List UInt8 × Int × Int × Int) := bif x18 then F304_26 N a0 x3 x8 x10 x11 x17 true true else bif x8 != ([] : List UInt8) then bif (decide (0 ≤ (0 : Int)) && decide ((0 : Int) < (x8.length : Int))) then F304_26 N a0 x3 x8 x10 x11 x17 false (((x8.getD ((0 : Int)).toNat 0).toBitVec) == (43#8)) else none else F304_26 N a0 x3 x8 x10 x11 x17 false false
def F304_14 (N : Nat) (a0 : List UInt8) (x3 : Bool) (x8 : List UInt8) (x10 : List UInt8) (x11 : List UInt8) (x17 : Int) : Option (BitVec 8 × Bool × List UInt8 × Int × Int × Int) := bif x8 != ([] : List UInt8) then bif (decide (0 ≤ (0 : Int)) && decide ((0 : Int) < (x8.length : Int))) then F304_15 N a0 x3 x8 x10 x11 x17 (((x8.getD ((0 : Int)).toNat 0).toBitVec) == (45#8)) else none else F304_15 N a0 x3 x8 x10 x11 x17 false
def F304_13 (N : Nat) (a0 : List UInt8) (x3 : Bool) (x6 : Int) (x7 : List UInt8) (x8 : List UInt8) (x10 : List UInt8) (x11 : List UInt8) (x16 : Bool) : Option (BitVec 8 × Bool × List UInt8 × Int × Int × Int) := bif x16 then (F380 N a0 (w64 (x6 + (x7.length : Int)))).bind fun y28 => some (y28.1, y28.2.1, y28.2.2.1, y28.2.2.2.1, y28.2.2.2.2.1, y28.2.2.2.2.2) else F304_14 N a0 x3 x8 x10 x11 (w64 (x6 + (w64 ((x7.length : Int) + 1))))
def F304_12 (N : Nat) (a0 : List UInt8) (x3 : Bool) (x6 : Int) (x7 : List UInt8) (x8 : List UInt8) (x9 : Bool) (x10 : List UInt8) (x11 : List UInt8) (x14 : Int) (x15 : Bool) : Option (BitVec 8 × Bool × List UInt8 × Int × Int × Int) := bif x15 then (F380 N a0 (w64 ((w64 ((w64 (x6 + (x10.length : Int))) + 1)) + x14))).bind fun y24 => some (y24.1, y24.2.1, y24.2.2.1, y24.2.2.2.1, y24.2.2.2.2.1, y24.2.2.2.2.2) else bif decide (x10.length + x11.length ≤ 9223372036854775807) then F304_13 N a0 x3 x6 x7 x8 x10 x11 (((x10 ++ x11) == ([] : List UInt8)) || (!x9)) else none
def F304_11 (N : Nat) (a0 : List UInt8) (x3 : Bool) (x6 : Int) (x7 : List UInt8) (x8 : List UInt8) (x9 : Bool) (x10 : List UInt8) (x11 : List UInt8) (x14 : Int) : Option (BitVec 8 × Bool × List UInt8 × Int × Int × Int) := F304_12 N a0 x3 x6 x7 x8 x9 x10 x11 x14 (decide (x14 < (x11.length : Int)))
def F304_10 (N : Nat) (a0 : List UInt8) (x3 : Bool) (x6 : Int) (x7 : List UInt8) (x8 : List UInt8) (x9 : Bool) (x10 : List UInt8) (x11 : List UInt8) (x12 : Int) (x13 : Bool) : Option (BitVec 8 × Bool × List UInt8 × Int × Int × Int) := bif x13 then (F380 N a0 (w64 (x6 + x12))).bind fun y17 => some (y17.1, y17.2.1, y17.2.2.1, y17.2.2.2.1, y17.2.2.2.2.1, y17.2.2.2.2.2) else (F382 N x11 true).bind fun y39 => F304_11 N a0 x3 x6 x7 x8 x9 x10 x11 y39
def F304_9 (N : Nat) (a0 : List UInt8) (x3 : Bool) (x6 : Int) (x7 : List UInt8) (x8 : List UInt8) (x9 : Bool) (x10 : List UInt8) (x11 : List UInt8) (x12 : Int) : Option (BitVec 8 × Bool × List UInt8 × Int × Int × Int) := F304_10 N a0 x3 x6 x7 x8 x9 x10 x11 x12 (decide (x12 < (x10.length : Int)))
def F304_8 (N : Nat) (a0 : List UInt8) (x3 : Bool) (x6 : Int) (x7 : List UInt8) (x8 : List UInt8) (x9 : Bool) (x10 : List UInt8) (x11 : List UInt8) : Option (BitVec 8 × Bool × List UInt8 × Int × Int × Int) := (F382 N x10 true).bind fun y40 => F304_9 N a0 x3 x6 x7 x8 x9 x10 x11 y40
def F304_7 (N : Nat) (a0 : List UInt8) (x3 : Bool) (x6 : Int) (x7 : List UInt8) (x8 : List UInt8) (x9 : Bool) : Option (BitVec 8 × Bool × List UInt8 × Int × Int × Int) := (F381 N x7 (46#8) (46#8)).bind fun y41 => F304_8 N a0 x3 x6 x7 x8 x9 y41.1 y41.2.1
def F304_6 (N : Nat) (a0 : List UInt8) (x3 : Bool) (x6 : Int) : Option (BitVec 8 × Bool × List UInt8 × Int × Int × Int) := bif (decide (0 ≤ (x6 : Int)) && (decide ((x6 : Int) ≤ (a0.length : Int)) && decide ((a0.length : Int) ≤ (a0.length : Int)))) then (F381 N ((a0.drop ((x6 : Int)).toNat).take (((a0.length : Int)).toNat - ((x6 : Int)).toNat)) (112#8) (80#8)).bind fun y42 => F304_7 N a0 x3 x6 y42.1 y42.2.1 y42.2.2 else none
def F304_5 (N : Nat) (a0 : List UInt8) (x2 : Int) (x3 : Bool) (x5 : Bool) : Option (BitVec 8 × Bool × List UInt8 × Int × Int × Int) := bif x5 then (F380 N a0 (w64 (x2 + 1))).bind fun y8 => some (y8.1, y8.2.1, y8.2.2.1, y8.2.2.2.1, y8.2.2.2.2.1, y8.2.2.2.2.2) else F304_6 N a0 x3 (w64 (x2 + 2))
def F304_4 (N : Nat) (a0 : List UInt8) (x2 : Int) (x3 : Bool) (x4 : Bool) : Option (BitVec 8 × Bool × List UInt8 × Int × Int × Int) := bif x4 then (F380 N a0 x2).bind fun y4 => some (y4.1, y4.2.1, y4.2.2.1, y4.2.2.2.1, y4.2.2.2.2.1, y4.2.2.2.2.2) else bif (a0.length : Int) == (w64 (x2 + 1)) then F304_5 N a0 x2 x3 true else bif (decide (0 ≤ (w64 (x2 + 1) : Int)) && decide ((w64 (x2 + 1) : Int) < (a0.length : Int))) then F304_5 N a0 x2 x3 ((((a0.getD ((w64 (x2 + 1) : Int)).toNat 0).toBitVec) ||| (32#8)) != (120#8)) else none
def F304_3 (N : Nat) (a0 : List UInt8) (x2 : Int) (x3 : Bool) : Option (BitVec 8 × Bool × List UInt8 × Int × Int × Int) := bif (a0.length : Int) == x2 then F304_4 N a0 x2 x3 true else bif (decide (0 ≤ (x2 : Int)) && decide ((x2 : Int) < (a0.length : Int))) then F304_4 N a0 x2 x3 (((a0.getD ((x2 : Int)).toNat 0).toBitVec) != (48#8)) else none
def F304_2 (N : Nat) (a0 : List UInt8) (x2 : Int) : Option (BitVec 8 × Bool × List UInt8 × Int × Int × Int) := bif x2 == 1 then bif (decide (0 ≤ (0 : Int)) && decide ((0 : Int) < (a0.length : Int))) then F304_3 N a0 x2 (((a0.getD ((0 : Int)).toNat 0).toBitVec) == (45#8)) else none else F304_3 N a0 x2 false
def F304_28 (N : Nat) (a0 : List UInt8) (x38 : Bool) : Option (BitVec 8 × Bool × List UInt8 × Int × Int × Int) := bif x38 then F304_2 N a0 1 else F304_2 N a0 0
def F304_1 (N : Nat) (a0 : List UInt8) (x1 : Bool) : Option (BitVec 8 × Bool × List UInt8 × Int × Int × Int) := bif x1 then some ((4#8, false, ([] : List UInt8), 0, 0, 0)) else bif a0 != ([] : List UInt8) then bif (decide (0 ≤ (0 : Int)) && decide ((0 : Int) < (a0.length : Int))) then bif ((a0.getD ((0 : Int)).toNat 0).toBitVec) == (43#8) then F304_28 N a0 true else bif (decide (0 ≤ (0 : Int)) && decide ((0 : Int) < (a0.length : Int))) then F304_28 N a0 (((a0.getD ((0 : Int)).toNat 0).toBitVec) == (45#8)) else none else none else F304_28 N a0 false
def F304 (N : Nat) (a0 : List UInt8) : Option (BitVec 8 × Bool × List UInt8 × Int × Int × Int) := F304_1 N a0 (decide ((a0.length : Int) > 1024))
theorem C304 (N : Nat) (a0 : List UInt8) (r : BitVec 8 × Bool × List UInt8 × Int × Int × Int) (hr : some r = F304 N a0) : Aw.Fn Hfaa.prog 304 [is (Sv a0)] (agg [is (U8 r.1), is (Bl r.2.1), is (Sv r.2.2.1), is (I16 r.2.2.2.1), is (I64 r.2.2.2.2.1), is (I32 r.2.2.2.2.2)]) := by
  refine fn_intro Hfaa.func304 rfl rfl rfl ?_
  intro bn0 w0 H0
  refine AW_seq1 ?_
  refine AW_region ?_
  refine AL_cons (zl307 rfl) (sS sT0 sB0 (sF1 rfl)) ?_
  refine AL_nil ?_
  refine thenN ?_
  refine AW_seq1 ?_
  refine AW_cut (σ := Bool) (fun v => ⟨[(0, .inl (is (Sv a0))), (2, .inr (.inl (2, 0))), (21, .inl (is (Bl v)))], [(2, pb 307 [is (U8 (0#8)), is (Bl false), is (Sv ([] : List UInt8)), is (I16 0), is (I64 0), is (I32 0)])]⟩) (fun v => some r = F304_1 N a0 v) ?_ ?_
  · skip
    refine AW_region ?_
    refine AL_cons (LR_move (at_tmp 0 _) rfl) (sS (sT1 rfl) sB0 sF0) ?_
    refine AL_cons (LR_bi1 (at_tmp 19 _) (len_S Hfaa.underlying9 a0) rfl) (sS (sT1 rfl) sB0 sF0) ?_
    refine AL_cons (LR_bin (at_tmp 20 _) (at_c (v' := I64 1024) rfl) (gtr_I64 (a0.length : Int) 1024) rfl) (sS (sA (sT1 rfl) sT0) sB0 sF0) ?_
    refine AL_nil ?_
    exact thenN (cutLeaf (v := decide ((a0.length : Int) > 1024)) hr (weak0 ((sT rfl (sT rfl (sT rfl sT0)))) (sub_keep sub_nil)))
  · rintro x1 hr
    show AW Hfaa.prog _ _ _ ⟨[(0, .inl (is (Sv a0))), (2, .inr (.inl (2, 0))), (21, .inl (is (Bl x1)))], [(2, pb 307 [is (U8 (0#8)), is (Bl false), is (Sv ([] : List UInt8)), is (I16 0), is (I64 0), is (I32 0)])]⟩
    have hr : some r = F304_1 N a0 x1 := hr
    refine AW_condT (b := x1) rfl (fun h => ?_) (fun h => ?_)
    · have hr := hr.trans (cond_t h)
      clear h
      refine AW_seq1 ?_
      refine AW_region ?_
      refine AL_cons (bl307 (parts_cons (i := 0) (off := 0) (at_c (v' := U8 (4#8)) rfl) (cells_one (one_is rfl)) rfl rfl parts_nil) rfl rfl) (sS (sA sT0 sT0) sB0 sF0) ?_
      refine AL_cons (LR_store (at_tmp 2 _) (at_tmp 22 _) (cells_agg _) (onC (one_is rfl) (onC (one_is rfl) (onC (one_is rfl) (onC (one_is rfl) (onC (one_is rfl) (onC (one_is rfl) onN)))))) sz307 rfl rfl) (sS (sA (sT1 rfl) (sT1 rfl)) (sB1 rfl) sF0) ?_
      refine AL_nil ?_
      refine thenN ?_
      refine AW_ret ?_
      refine thenR ?_
      obtain rfl := Option.some.inj hr
      exact res1 rfl (rvC rfl rfl ag307 sz307 rfl)
    · have hr := hr.trans (cond_f h)
      clear h
      refine AW_skip ?_
      refine thenN ?_
      refine AW_seq1 ?_
      refine AW_region ?_
      refine AL_cons (LR_assign (at_c (v' := I64 0) rfl) rfl) (sS sT0 sB0 sF0) ?_
      refine AL_nil ?_
      refine thenN ?_
      refine AW_cut (σ := Int) (fun v => ⟨[(0, .inl (is (Sv a0))), (2, .inr (.inl (2, 0))), (3, .inl (is (I64 v)))], [(2, pb 307 [is (U8 (0#8)), is (Bl false), is (Sv ([] : List UInt8)), is (I16 0), is (I64 0), is (I32 0)])]⟩) (fun v => some r = F304_2 N a0 v) ?_ ?_
      · skip
        refine AW_cut (σ := Bool) (fun v => ⟨[(0, .inl (is (Sv a0))), (2, .inr (.inl (2, 0))), (3, .inl (is (I64 0))), (34, .inl (is (Bl v)))], [(2, pb 307 [is (U8 (0#8)), is (Bl false), is (Sv ([] : List UInt8)), is (I16 0), is (I64 0), is (I32 0)])]⟩) (fun v => some r = F304_28 N a0 v) ?_ ?_
        · skip
          refine AW_region ?_
          refine AL_cons (LR_move (at_tmp 0 _) rfl) (sS (sT1 rfl) sB0 sF0) ?_
          refine AL_cons (LR_bin (at_tmp 23 _) (at_c (v' := Sv ([] : List UInt8)) rfl) (neq_S a0 ([] : List UInt8)) rfl) (sS (sA (sT1 rfl) sT0) sB0 sF0) ?_
          refine AL_cons (LR_move (at_tmp 24 _) rfl) (sS (sT1 rfl) sB0 sF0) ?_
          cases hb : a0 != ([] : List UInt8)
          · have hr := hr.trans (cond_f hb)
            refine AL_cons (LR_off (b := false) rfl rfl rfl rfl) (sS (sT1 rfl) sB0 sF0) ?_
            refine AL_cons (LR_off (b := false) rfl rfl rfl rfl) (sS (sT1 rfl) sB0 sF0) ?_
            refine AL_cons (LR_off (b := false) rfl rfl rfl rfl) (sS (sT1 rfl) sB0 sF0) ?_
            refine AL_cons (LR_off (b := false) rfl rfl rfl rfl) (sS (sT1 rfl) sB0 sF0) ?_
            refine AL_cons (LR_offU rfl rfl rfl rfl) (sS (sT1 rfl) sB0 sF0) ?_
            refine AL_cons (LR_offU rfl rfl rfl rfl) (sS (sT1 rfl) sB0 sF0) ?_
            refine AL_cons (LR_offU rfl rfl rfl rfl) (sS (sT1 rfl) sB0 sF0) ?_
            refine AL_cons (LR_off (b := false) rfl rfl rfl rfl) (sS (sT1 rfl) sB0 sF0) ?_
            refine AL_cons (LR_pick (b := false) (at_tmp 25 _) (at_tmp 33 _) (at_c (v' := Bl false) rfl) rfl) (sS (sA (sT1 rfl) (sA (sT1 rfl) sT0)) sB0 sF0) ?_
            refine AL_nil ?_
            exact thenN (cutLeaf (v := false) hr (weak0 ((sT rfl (sT rfl (sT rfl (sT rfl sT0))))) (sub_keep sub_nil)))
          · have hr := hr.trans (cond_t hb)
            refine AL_cons (LR_on rfl rfl rfl (LR_move (at_tmp 0 _) rfl)) (sS (sT rfl (sT1 rfl)) sB0 sF0) ?_
            obtain ⟨hg70, hr⟩ := guard_some hr
            refine AL_cons (LR_on rfl rfl rfl (LR_indexS (i := (0 : Int)) Hfaa.underlying9 (at_tmp 26 _) (at_c (v' := I64 0) rfl) (dand hg70) rfl)) (sS (sT rfl (sA (sT1 rfl) sT0)) sB0 sF0) ?_
            refine AL_cons (LR_on rfl rfl rfl (LR_bin (at_tmp 27 _) (at_c (v' := U8 (43#8)) rfl) (eql_U8 ((a0.getD ((0 : Int)).toNat 0).toBitVec) (43#8)) rfl)) (sS (sT rfl (sA (sT1 rfl) sT0)) sB0 sF0) ?_
            refine AL_cons (LR_on rfl rfl rfl (LR_move (at_tmp 28 _) rfl)) (sS (sT rfl (sT1 rfl)) sB0 sF0) ?_
            cases hb : ((a0.getD ((0 : Int)).toNat 0).toBitVec) == (43#8)
            · have hr := hr.trans (cond_f hb)
              refine AL_cons (LR_on rfl rfl rfl (LR_move (at_tmp 0 _) rfl)) (sS (sT rfl (sT1 rfl)) sB0 sF0) ?_
              obtain ⟨hg72, hr⟩ := guard_some hr
              refine AL_cons (LR_on rfl rfl rfl (LR_indexS (i := (0 : Int)) Hfaa.underlying9 (at_tmp 30 _) (at_c (v' := I64 0) rfl) (dand hg72) rfl)) (sS (sT rfl (sA (sT1 rfl) sT0)) sB0 sF0) ?_
              refine AL_cons (LR_on rfl rfl rfl (LR_bin (at_tmp 31 _) (at_c (v' := U8 (45#8)) rfl) (eql_U8 ((a0.getD ((0 : Int)).toNat 0).toBitVec) (45#8)) rfl)) (sS (sT rfl (sA (sT1 rfl) sT0)) sB0 sF0) ?_
              refine AL_cons (LR_on rfl rfl rfl (LR_pick (b := false) (at_tmp 29 _) (at_c (v' := Bl true) rfl) (at_tmp 32 _) rfl)) (sS (sT rfl (sA (sT1 rfl) (sA sT0 (sT1 rfl)))) sB0 sF0) ?_
              refine AL_cons (LR_pick (b := true) (at_tmp 25 _) (at_tmp 33 _) (at_c (v' := Bl false) rfl) rfl) (sS (sA (sT1 rfl) (sA (sT1 rfl) sT0)) sB0 sF0) ?_
              refine AL_nil ?_
              exact thenN (cutLeaf (v := ((a0.getD ((0 : Int)).toNat 0).toBitVec) == (45#8)) hr (weak0 ((sT rfl (sT rfl (sT rfl (sT rfl sT0))))) (sub_keep sub_nil)))
            · have hr := hr.trans (cond_t hb)
              refine AL_cons (LR_off (b := true) rfl rfl rfl rfl) (sS (sT1 rfl) sB0 sF0) ?_
              refine AL_cons (LR_off (b := true) rfl rfl rfl rfl) (sS (sT1 rfl) sB0 sF0) ?_
              refine AL_cons (LR_off (b := true) rfl rfl rfl rfl) (sS (sT1 rfl) sB0 sF0) ?_
              refine AL_cons (LR_on rfl rfl rfl (LR_pick (b := true) (at_tmp 29 _) (at_c (v' := Bl true) rfl) (at_tmp 32 _) rfl)) (sS (sT rfl (sA (sT1 rfl) (sA sT0 (sT1 rfl)))) sB0 sF0) ?_
              refine AL_cons (LR_pick (b := true) (at_tmp 25 _) (at_tmp 33 _) (at_c (v' := Bl false) rfl) rfl) (sS (sA (sT1 rfl) (sA (sT1 rfl) sT0)) sB0 sF0) ?_
              refine AL_nil ?_
              exact thenN (cutLeaf (v := true) hr (weak0 ((sT rfl (sT rfl (sT rfl (sT rfl sT0))))) (sub_keep sub_nil)))
        · rintro x38 hr
          show AW Hfaa.prog _ _ _ ⟨[(0, .inl (is (Sv a0))), (2, .inr (.inl (2, 0))), (3, .inl (is (I64 0))), (34, .inl (is (Bl x38)))], [(2, pb 307 [is (U8 (0#8)), is (Bl false), is (Sv ([] : List UInt8)), is (I16 0), is (I64 0), is (I32 0)])]⟩
          have hr : some r = F304_28 N a0 x38 := hr
          refine AW_condT (b := x38) rfl (fun h => ?_) (fun h => ?_)
          · have hr := hr.trans (cond_t h)
            clear h
            refine AW_region ?_
            refine AL_cons (LR_assign (at_c (v' := I64 1) rfl) rfl) (sS sT0 sB0 sF0) ?_
            refine AL_nil ?_
            exact thenN (cutLeaf (v := 1) hr (weak0 ((sT rfl (sT rfl (sT rfl sT0)))) (sub_keep sub_nil)))
          · have hr := hr.trans (cond_f h)
            clear h
            refine AW_skip ?_
            exact thenN (cutLeaf (v := 0) hr (weak0 ((sT rfl (sT rfl (sT rfl sT0)))) (sub_keep sub_nil)))
      · rintro x2 hr
        show AW Hfaa.prog _ _ _ ⟨[(0, .inl (is (Sv a0))), (2, .inr (.inl (2, 0))), (3, .inl (is (I64 x2)))], [(2, pb 307 [is (U8 (0#8)), is (Bl false), is (Sv ([] : List UInt8)), is (I16 0), is (I64 0), is (I32 0)])]⟩
        have hr : some r = F304_2 N a0 x2 := hr
        refine AW_cut (σ := Bool) (fun v => ⟨[(0, .inl (is (Sv a0))), (2, .inr (.inl (2, 0))), (3, .inl (is (I64 x2))), (4, .inl (is (Bl v)))], [(2, pb 307 [is (U8 (0#8)), is (Bl false), is (Sv ([] : List UInt8)), is (I16 0), is (I64 0), is (I32 0)])]⟩) (fun v => some r = F304_3 N a0 x2 v) ?_ ?_
        · skip
          refine AW_region ?_
          refine AL_cons (LR_move (at_tmp 3 _) rfl) (sS (sT1 rfl) sB0 sF0) ?_
          refine AL_cons (LR_bin (at_tmp 35 _) (at_c (v' := I64 1) rfl) (eql_I64 x2 1) rfl) (sS (sA (sT1 rfl) sT0) sB0 sF0) ?_
          refine AL_cons (LR_move (at_tmp 36 _) rfl) (sS (sT1 rfl) sB0 sF0) ?_
          cases hb : x2 == 1
          · have hr := hr.trans (cond_f hb)
            refine AL_cons (LR_off (b := false) rfl rfl rfl rfl) (sS (sT1 rfl) sB0 sF0) ?_
            refine AL_cons (LR_off (b := false) rfl rfl rfl rfl) (sS (sT1 rfl) sB0 sF0) ?_
            refine AL_cons (LR_off (b := false) rfl rfl rfl rfl) (sS (sT1 rfl) sB0 sF0) ?_
            refine AL_cons (LR_pick (b := false) (at_tmp 37 _) (at_tmp 40 _) (at_c (v' := Bl false) rfl) rfl) (sS (sA (sT1 rfl) (sA (sT1 rfl) sT0)) sB0 sF0) ?_
            refine AL_cons (LR_assign (at_tmp 41 _) rfl) (sS (sT1 rfl) sB0 sF0) ?_
            refine AL_nil ?_
            exact thenN (cutLeaf (v := false) hr (weak0 ((sT rfl (sT rfl (sT rfl (sT rfl sT0))))) (sub_keep sub_nil)))
          · have hr := hr.trans (cond_t hb)
            refine AL_cons (LR_on rfl rfl rfl (LR_move (at_tmp 0 _) rfl)) (sS (sT rfl (sT1 rfl)) sB0 sF0) ?_
            obtain ⟨hg64, hr⟩ := guard_some hr
            refine AL_cons (LR_on rfl rfl rfl (LR_indexS (i := (0 : Int)) Hfaa.underlying9 (at_tmp 38 _) (at_c (v' := I64 0) rfl) (dand hg64) rfl)) (sS (sT rfl (sA (sT1 rfl) sT0)) sB0 sF0) ?_
            refine AL_cons (LR_on rfl rfl rfl (LR_bin (at_tmp 39 _) (at_c (v' := U8 (45#8)) rfl) (eql_U8 ((a0.getD ((0 : Int)).toNat 0).toBitVec) (45#8)) rfl)) (sS (sT rfl (sA (sT1 rfl) sT0)) sB0 sF0) ?_
            refine AL_cons (LR_pick (b := true) (at_tmp 37 _) (at_tmp 40 _) (at_c (v' := Bl false) rfl) rfl) (sS (sA (sT1 rfl) (sA (sT1 rfl) sT0)) sB0 sF0) ?_
            refine AL_cons (LR_assign (at_tmp 41 _) rfl) (sS (sT1 rfl) sB0 sF0) ?_
            refine AL_nil ?_
            exact thenN (cutLeaf (v := ((a0.getD ((0 : Int)).toNat 0).toBitVec) == (45#8)) hr (weak0 ((sT rfl (sT rfl (sT rfl (sT rfl sT0))))) (sub_keep sub_nil)))
        · rintro x3 hr
          show AW Hfaa.prog _ _ _ ⟨[(0, .inl (is (Sv a0))), (2, .inr (.inl (2, 0))), (3, .inl (is (I64 x2))), (4, .inl (is (Bl x3)))], [(2, pb 307 [is (U8 (0#8)), is (Bl false), is (Sv ([] : List UInt8)), is (I16 0), is (I64 0), is (I32 0)])]⟩
          have hr : some r = F304_3 N a0 x2 x3 := hr
          refine AW_seq1 ?_
          refine AW_cut (σ := Bool) (fun v => ⟨[(0, .inl (is (Sv a0))), (2, .inr (.inl (2, 0))), (3, .inl (is (I64 x2))), (4, .inl (is (Bl x3))), (51, .inl (is (Bl v)))], [(2, pb 307 [is (U8 (0#8)), is (Bl false), is (Sv ([] : List UInt8)), is (I16 0), is (I64 0), is (I32 0)])]⟩) (fun v => some r = F304_4 N a0 x2 x3 v) ?_ ?_
          · skip
            refine AW_region ?_
            refine AL_cons (LR_move (at_tmp 0 _) rfl) (sS (sT1 rfl) sB0 sF0) ?_
            refine AL_cons (LR_bi1 (at_tmp 42 _) (len_S Hfaa.underlying9 a0) rfl) (sS (sT1 rfl) sB0 sF0) ?_
            refine AL_cons (LR_move (at_tmp 3 _) rfl) (sS (sT1 rfl) sB0 sF0) ?_
            refine AL_cons (LR_bin (at_tmp 43 _) (at_tmp 44 _) (eql_I64 (a0.length : Int) x2) rfl) (sS (sA (sT1 rfl) (sT1 rfl)) sB0 sF0) ?_
            refine AL_cons (LR_move (at_tmp 45 _) rfl) (sS (sT1 rfl) sB0 sF0) ?_
            cases hb : (a0.length : Int) == x2
            · have hr := hr.trans (cond_f hb)
              refine AL_cons (LR_on rfl rfl rfl (LR_move (at_tmp 0 _) rfl)) (sS (sT rfl (sT1 rfl)) sB0 sF0) ?_
              refine AL_cons (LR_on rfl rfl rfl (LR_move (at_tmp 3 _) rfl)) (sS (sT rfl (sT1 rfl)) sB0 sF0) ?_
              obtain ⟨hg62, hr⟩ := guard_some hr
              refine AL_cons (LR_on rfl rfl rfl (LR_indexS (i := (x2 : Int)) Hfaa.underlying9 (at_tmp 47 _) (at_tmp 48 _) (dand hg62) rfl)) (sS (sT rfl (sA (sT1 rfl) (sT1 rfl))) sB0 sF0) ?_
              refine AL_cons (LR_on rfl rfl rfl (LR_bin (at_tmp 49 _) (at_c (v' := U8 (48#8)) rfl) (neq_U8 ((a0.getD ((x2 : Int)).toNat 0).toBitVec) (48#8)) rfl)) (sS (sT rfl (sA (sT1 rfl) sT0)) sB0 sF0) ?_
              refine AL_cons (LR_pick (b := false) (at_tmp 46 _) (at_c (v' := Bl true) rfl) (at_tmp 50 _) rfl) (sS (sA (sT1 rfl) (sA sT0 (sT1 rfl))) sB0 sF0) ?_
              refine AL_nil ?_
              exact thenN (cutLeaf (v := ((a0.getD ((x2 : Int)).toNat 0).toBitVec) != (48#8)) hr (weak0 ((sT rfl (sT rfl (sT rfl (sT rfl (sT rfl sT0)))))) (sub_keep sub_nil)))
            · have hr := hr.trans (cond_t hb)
              refine AL_cons (LR_off (b := true) rfl rfl rfl rfl) (sS (sT1 rfl) sB0 sF0) ?_
              refine AL_cons (LR_off (b := true) rfl rfl rfl rfl) (sS (sT1 rfl) sB0 sF0) ?_
              refine AL_cons (LR_off (b := true) rfl rfl rfl rfl) (sS (sT1 rfl) sB0 sF0) ?_
              refine AL_cons (LR_off (b := true) rfl rfl rfl rfl) (sS (sT1 rfl) sB0 sF0) ?_
              refine AL_cons (LR_pick (b := true) (at_tmp 46 _) (at_c (v' := Bl true) rfl) (at_tmp 50 _) rfl) (sS (sA (sT1 rfl) (sA sT0 (sT1 rfl))) sB0 sF0) ?_
              refine AL_nil ?_
              exact thenN (cutLeaf (v := true) hr (weak0 ((sT rfl (sT rfl (sT rfl (sT rfl (sT rfl sT0)))))) (sub_keep sub_nil)))
          · rintro x4 hr
            show AW Hfaa.prog _ _ _ ⟨[(0, .inl (is (Sv a0))), (2, .inr (.inl (2, 0))), (3, .inl (is (I64 x2))), (4, .inl (is (Bl x3))), (51, .inl (is (Bl x4)))], [(2, pb 307 [is (U8 (0#8)), is (Bl false), is (Sv ([] : List UInt8)), is (I16 0), is (I64 0), is (I32 0)])]⟩
            have hr : some r = F304_4 N a0 x2 x3 x4 := hr
            refine AW_condT (b := x4) rfl (fun h => ?_) (fun h => ?_)
            · have hr := hr.trans (cond_t h)
              clear h
              refine AW_seq1 ?_
              refine AW_region ?_
              refine AL_cons (LR_move (at_tmp 0 _) rfl) (sS (sT1 rfl) sB0 sF0) ?_
              refine AL_cons (LR_move (at_tmp 3 _) rfl) (sS (sT1 rfl) sB0 sF0) ?_
              obtain ⟨y4, hy4, hr⟩ := bind_some hr
              refine AL_cons (LR_call Hfaa.func380 rfl rfl (C380 N a0 x2 y4 hy4) (all_cons (at_tmp 52 _) (all_cons (at_tmp 53 _) all_nil)) rfl) (sS (sA (sT1 rfl) (sA (sT1 rfl) sT0)) sB0 sF0) ?_
              refine AL_cons (LR_store (at_tmp 2 _) (at_tmp 54 _) (cells_agg _) (onC (one_is rfl) (onC (one_is rfl) (onC (one_is rfl) (onC (one_is rfl) (onC (one_is rfl) (onC (one_is rfl) onN)))))) sz307 rfl rfl) (sS (sA (sT1 rfl) (sT1 rfl)) (sB1 rfl) sF0) ?_
              refine AL_nil ?_
              refine thenN ?_
              refine AW_ret ?_
              refine thenR ?_
              obtain rfl := Option.some.inj hr
              exact res1 rfl (rvC rfl rfl ag307 sz307 rfl)
            · have hr := hr.trans (cond_f h)
              clear h
              refine AW_skip ?_
              refine thenN ?_
              refine AW_seq1 ?_
              refine AW_cut (σ := Bool) (fun v => ⟨[(0, .inl (is (Sv a0))), (2, .inr (.inl (2, 0))), (3, .inl (is (I64 x2))), (4, .inl (is (Bl x3))), (67, .inl (is (Bl v)))], [(2, pb 307 [is (U8 (0#8)), is (Bl false), is (Sv ([] : List UInt8)), is (I16 0), is (I64 0), is (I32 0)])]⟩) (fun v => some r = F304_5 N a0 x2 x3 v) ?_ ?_
              · skip
                refine AW_region ?_
                refine AL_cons (LR_move (at_tmp 0 _) rfl) (sS (sT1 rfl) sB0 sF0) ?_
                refine AL_cons (LR_bi1 (at_tmp 55 _) (len_S Hfaa.underlying9 a0) rfl) (sS (sT1 rfl) sB0 sF0) ?_
                refine AL_cons (LR_move (at_tmp 3 _) rfl) (sS (sT1 rfl) sB0 sF0) ?_
                refine AL_cons (LR_bin (at_tmp 57 _) (at_c (v' := I64 1) rfl) (add_I64 x2 1) rfl) (sS (sA (sT1 rfl) sT0) sB0 sF0) ?_
                refine AL_cons (LR_bin (at_tmp 56 _) (at_tmp 58 _) (eql_I64 (a0.length : Int) (w64 (x2 + 1))) rfl) (sS (sA (sT1 rfl) (sT1 rfl)) sB0 sF0) ?_
                refine AL_cons (LR_move (at_tmp 59 _) rfl) (sS (sT1 rfl) sB0 sF0) ?_
                cases hb : (a0.length : Int) == (w64 (x2 + 1))
                · have hr := hr.trans (cond_f hb)
                  refine AL_cons (LR_on rfl rfl rfl (LR_move (at_tmp 0 _) rfl)) (sS (sT rfl (sT1 rfl)) sB0 sF0) ?_
                  refine AL_cons (LR_on rfl rfl rfl (LR_move (at_tmp 3 _) rfl)) (sS (sT rfl (sT1 rfl)) sB0 sF0) ?_
                  refine AL_cons (LR_on rfl rfl rfl (LR_bin (at_tmp 62 _) (at_c (v' := I64 1) rfl) (add_I64 x2 1) rfl)) (sS (sT rfl (sA (sT1 rfl) sT0)) sB0 sF0) ?_
                  obtain ⟨hg60, hr⟩ := guard_some hr
                  refine AL_cons (LR_on rfl rfl rfl (LR_indexS (i := (w64 (x2 + 1) : Int)) Hfaa.underlying9 (at_tmp 61 _) (at_tmp 63 _) (dand hg60) rfl)) (sS (sT rfl (sA (sT1 rfl) (sT1 rfl))) sB0 sF0) ?_
                  refine AL_cons (LR_on rfl rfl rfl (LR_bin (at_tmp 64 _) (at_c (v' := U8 (32#8)) rfl) (or_U8 ((a0.getD ((w64 (x2 + 1) : Int)).toNat 0).toBitVec) (32#8)) rfl)) (sS (sT rfl (sA (sT1 rfl) sT0)) sB0 sF0) ?_
                  refine AL_cons (LR_on rfl rfl rfl (LR_bin (at_tmp 65 _) (at_c (v' := U8 (120#8)) rfl) (neq_U8 (((a0.getD ((w64 (x2 + 1) : Int)).toNat 0).toBitVec) ||| (32#8)) (120#8)) rfl)) (sS (sT rfl (sA (sT1 rfl) sT0)) sB0 sF0) ?_
                  refine AL_cons (LR_pick (b := false) (at_tmp 60 _) (at_c (v' := Bl true) rfl) (at_tmp 66 _) rfl) (sS (sA (sT1 rfl) (sA sT0 (sT1 rfl))) sB0 sF0) ?_
                  refine AL_nil ?_
                  exact thenN (cutLeaf (v := (((a0.getD ((w64 (x2 + 1) : Int)).toNat 0).toBitVec) ||| (32#8)) != (120#8)) hr (weak0 ((sT rfl (sT rfl (sT rfl (sT rfl (sT rfl sT0)))))) (sub_keep sub_nil)))
                · have hr := hr.trans (cond_t hb)
                  refine AL_cons (LR_off (b := true) rfl rfl rfl rfl) (sS (sT1 rfl) sB0 sF0) ?_
                  refine AL_cons (LR_off (b := true) rfl rfl rfl rfl) (sS (sT1 rfl) sB0 sF0) ?_
                  refine AL_cons (LR_off (b := true) rfl rfl rfl rfl) (sS (sT1 rfl) sB0 sF0) ?_
                  refine AL_cons (LR_off (b := true) rfl rfl rfl rfl) (sS (sT1 rfl) sB0 sF0) ?_
                  refine AL_cons (LR_off (b := true) rfl rfl rfl rfl) (sS (sT1 rfl) sB0 sF0) ?_
                  refine AL_cons (LR_off (b := true) rfl rfl rfl rfl) (sS (sT1 rfl) sB0 sF0) ?_
                  refine AL_cons (LR_pick (b := true) (at_tmp 60 _) (at_c (v' := Bl true) rfl) (at_tmp 66 _) rfl) (sS (sA (sT1 rfl) (sA sT0 (sT1 rfl))) sB0 sF0) ?_
                  refine AL_nil ?_
                  exact thenN (cutLeaf (v := true) hr (weak0 ((sT rfl (sT rfl (sT rfl (sT rfl (sT rfl sT0)))))) (sub_keep sub_nil)))
              · rintro x5 hr
                show AW Hfaa.prog _ _ _ ⟨[(0, .inl (is (Sv a0))), (2, .inr (.inl (2, 0))), (3, .inl (is (I64 x2))), (4, .inl (is (Bl x3))), (67, .inl (is (Bl x5)))], [(2, pb 307 [is (U8 (0#8)), is (Bl false), is (Sv ([] : List UInt8)), is (I16 0), is (I64 0), is (I32 0)])]⟩
                have hr : some r = F304_5 N a0 x2 x3 x5 := hr
                refine AW_condT (b := x5) rfl (fun h => ?_) (fun h => ?_)
                · have hr := hr.trans (cond_t h)
                  clear h
                  refine AW_seq1 ?_
                  refine AW_region ?_
                  refine AL_cons (LR_move (at_tmp 0 _) rfl) (sS (sT1 rfl) sB0 sF0) ?_
                  refine AL_cons (LR_move (at_tmp 3 _) rfl) (sS (sT1 rfl) sB0 sF0) ?_
                  refine AL_cons (LR_bin (at_tmp 69 _) (at_c (v' := I64 1) rfl) (add_I64 x2 1) rfl) (sS (sA (sT1 rfl) sT0) sB0 sF0) ?_
                  obtain ⟨y8, hy8, hr⟩ := bind_some hr
                  refine AL_cons (LR_call Hfaa.func380 rfl rfl (C380 N a0 (w64 (x2 + 1)) y8 hy8) (all_cons (at_tmp 68 _) (all_cons (at_tmp 70 _) all_nil)) rfl) (sS (sA (sT1 rfl) (sA (sT1 rfl) sT0)) sB0 sF0) ?_
                  refine AL_cons (LR_store (at_tmp 2 _) (at_tmp 71 _) (cells_agg _) (onC (one_is rfl) (onC (one_is rfl) (onC (one_is rfl) (onC (one_is rfl) (onC (one_is rfl) (onC (one_is rfl) onN)))))) sz307 rfl rfl) (sS (sA (sT1 rfl) (sT1 rfl)) (sB1 rfl) sF0) ?_
                  refine AL_nil ?_
                  refine thenN ?_
                  refine AW_ret ?_
                  refine thenR ?_
                  obtain rfl := Option.some.inj hr
                  exact res1 rfl (rvC rfl rfl ag307 sz307 rfl)
                · have hr := hr.trans (cond_f h)
                  clear h
                  refine AW_skip ?_
                  refine thenN ?_
                  refine AW_cut (σ := Int) (fun v => ⟨[(0, .inl (is (Sv a0))), (2, .inr (.inl (2, 0))), (3, .inl (is (I64 v))), (4, .inl (is (Bl x3)))], [(2, pb 307 [is (U8 (0#8)), is (Bl false), is (Sv ([] : List UInt8)), is (I16 0), is (I64 0), is (I32 0)])]⟩) (fun v => some r = F304_6 N a0 x3 v) ?_ ?_
                  · skip
                    refine AW_region ?_
                    refine AL_cons (LR_move (at_tmp 3 _) rfl) (sS (sT1 rfl) sB0 sF0) ?_
                    refine AL_cons (LR_bin (at_tmp 72 _) (at_c (v' := I64 2) rfl) (add_I64 x2 2) rfl) (sS (sA (sT1 rfl) sT0) sB0 sF0) ?_
                    refine AL_cons (LR_assign (at_tmp 73 _) rfl) (sS (sT1 rfl) sB0 sF0) ?_
                    refine AL_nil ?_
                    exact thenN (cutLeaf (v := w64 (x2 + 2)) hr (weak0 ((sT rfl (sT rfl (sT rfl (sT rfl sT0))))) (sub_keep sub_nil)))
                  · rintro x6 hr
                    show AW Hfaa.prog _ _ _ ⟨[(0, .inl (is (Sv a0))), (2, .inr (.inl (2, 0))), (3, .inl (is (I64 x6))), (4, .inl (is (Bl x3)))], [(2, pb 307 [is (U8 (0#8)), is (Bl false), is (Sv ([] : List UInt8)), is (I16 0), is (I64 0), is (I32 0)])]⟩
                    have hr : some r = F304_6 N a0 x3 x6 := hr
                    refine AW_cut (σ := List UInt8 × List UInt8 × Bool) (fun v => ⟨[(0, .inl (is (Sv a0))), (2, .inr (.inl (2, 0))), (3, .inl (is (I64 x6))), (4, .inl (is (Bl x3))), (5, .inl (is (Sv v.1))), (6, .inl (is (Sv v.2.1))), (7, .inl (is (Bl v.2.2)))], [(2, pb 307 [is (U8 (0#8)), is (Bl false), is (Sv ([] : List UInt8)), is (I16 0), is (I64 0), is (I32 0)])]⟩) (fun v => some r = F304_7 N a0 x3 x6 v.1 v.2.1 v.2.2) ?_ ?_
                    · skip
                      refine AW_region ?_
                      refine AL_cons (LR_move (at_tmp 0 _) rfl) (sS (sT1 rfl) sB0 sF0) ?_
                      refine AL_cons (LR_move (at_tmp 3 _) rfl) (sS (sT1 rfl) sB0 sF0) ?_
                      obtain ⟨hg58, hr⟩ := guard_some hr
                      refine AL_cons (LR_sliceS (i := (x6 : Int)) (j := (a0.length : Int)) Hfaa.underlying9 (at_tmp 75 _) (fun B bn s a w hs hr => .inr ⟨_, congrArg some ((at_tmp 76 (.inl (is (I64 x6)))) B bn s a w hs hr)⟩) (fun _ _ _ _ _ _ _ => .inl ⟨rfl, rfl⟩) (dand3 hg58) rfl) (sS (sA (sT1 rfl) (sA (sT1 rfl) sT0)) sB0 sF0) ?_
                      obtain ⟨y42, hy42, hr⟩ := bind_some hr
                      refine AL_cons (LR_call Hfaa.func381 rfl rfl (C381 N ((a0.drop ((x6 : Int)).toNat).take (((a0.length : Int)).toNat - ((x6 : Int)).toNat)) (112#8) (80#8) y42 hy42) (all_cons (at_tmp 77 _) (all_cons (at_c (v' := U8 (112#8)) rfl) (all_cons (at_c (v' := U8 (80#8)) rfl) all_nil))) rfl) (sS (sA (sT1 rfl) (sA sT0 (sA sT0 sT0))) sB0 sF0) ?_
                      refine AL_cons (LR_move (at_tmp 78 _) rfl) (sS (sT1 rfl) sB0 sF0) ?_
                      refine AL_cons (LR_extract (at_tmp 74 _) rfl rfl) (sS (sT1 rfl) sB0 sF0) ?_
                      refine AL_cons (LR_extract (at_tmp 74 _) rfl rfl) (sS (sT1 rfl) sB0 sF0) ?_
                      refine AL_cons (LR_extract (at_tmp 74 _) rfl rfl) (sS (sT1 rfl) sB0 sF0) ?_
                      refine AL_cons (LR_assign (at_tmp 79 _) rfl) (sS (sT1 rfl) sB0 sF0) ?_
                      refine AL_cons (LR_assign (at_tmp 80 _) rfl) (sS (sT1 rfl) sB0 sF0) ?_
                      refine AL_cons (LR_assign (at_tmp 81 _) rfl) (sS (sT1 rfl) sB0 sF0) ?_
                      refine AL_nil ?_
                      exact thenN (cutLeaf (v := (y42.1, y42.2.1, y42.2.2)) hr (weak0 ((sT rfl (sT rfl (sT rfl (sT rfl (sT rfl (sT rfl (sT rfl sT0)))))))) (sub_keep sub_nil)))
                    · rintro ⟨x7, x8, x9⟩ hr
                      show AW Hfaa.prog _ _ _ ⟨[(0, .inl (is (Sv a0))), (2, .inr (.inl (2, 0))), (3, .inl (is (I64 x6))), (4, .inl (is (Bl x3))), (5, .inl (is (Sv x7))), (6, .inl (is (Sv x8))), (7, .inl (is (Bl x9)))], [(2, pb 307 [is (U8 (0#8)), is (Bl false), is (Sv ([] : List UInt8)), is (I16 0), is (I64 0), is (I32 0)])]⟩
                      have hr : some r = F304_7 N a0 x3 x6 x7 x8 x9 := hr
                      refine AW_cut (σ := List UInt8 × List UInt8) (fun v => ⟨[(0, .inl (is (Sv a0))), (2, .inr (.inl (2, 0))), (3, .inl (is (I64 x6))), (4, .inl (is (Bl x3))), (5, .inl (is (Sv x7))), (6, .inl (is (Sv x8))), (7, .inl (is (Bl x9))), (8, .inl (is (Sv v.1))), (9, .inl (is (Sv v.2)))], [(2, pb 307 [is (U8 (0#8)), is (Bl false), is (Sv ([] : List UInt8)), is (I16 0), is (I64 0), is (I32 0)])]⟩) (fun v => some r = F304_8 N a0 x3 x6 x7 x8 x9 v.1 v.2) ?_ ?_
                      · skip
                        refine AW_region ?_
                        refine AL_cons (LR_move (at_tmp 5 _) rfl) (sS (sT1 rfl) sB0 sF0) ?_
                        obtain ⟨y41, hy41, hr⟩ := bind_some hr
                        refine AL_cons (LR_call Hfaa.func381 rfl rfl (C381 N x7 (46#8) (46#8) y41 hy41) (all_cons (at_tmp 83 _) (all_cons (at_c (v' := U8 (46#8)) rfl) (all_cons (at_c (v' := U8 (46#8)) rfl) all_nil))) rfl) (sS (sA (sT1 rfl) (sA sT0 (sA sT0 sT0))) sB0 sF0) ?_
                        refine AL_cons (LR_move (at_tmp 84 _) rfl) (sS (sT1 rfl) sB0 sF0) ?_
                        refine AL_cons (LR_extract (at_tmp 82 _) rfl rfl) (sS (sT1 rfl) sB0 sF0) ?_
                        refine AL_cons (LR_extract (at_tmp 82 _) rfl rfl) (sS (sT1 rfl) sB0 sF0) ?_
                        refine AL_cons (LR_extract (at_tmp 82 _) rfl rfl) (sS (sT1 rfl) sB0 sF0) ?_
                        refine AL_cons (LR_assign (at_tmp 85 _) rfl) (sS (sT1 rfl) sB0 sF0) ?_
                        refine AL_cons (LR_assign (at_tmp 86 _) rfl) (sS (sT1 rfl) sB0 sF0) ?_
                        refine AL_cons (LR_assign (at_tmp 87 _) rfl) (sS (sT1 rfl) sB0 sF0) ?_
                        refine AL_nil ?_
                        exact thenN (cutLeaf (v := (y41.1, y41.2.1)) hr (weak0 ((sT rfl (sT rfl (sT rfl (sT rfl (sT rfl (sT rfl (sT rfl (sT rfl (sT rfl sT0)))))))))) (sub_keep sub_nil)))
                      · rintro ⟨x10, x11⟩ hr
                        show AW Hfaa.prog _ _ _ ⟨[(0, .inl (is (Sv a0))), (2, .inr (.inl (2, 0))), (3, .inl (is (I64 x6))), (4, .inl (is (Bl x3))), (5, .inl (is (Sv x7))), (6, .inl (is (Sv x8))), (7, .inl (is (Bl x9))), (8, .inl (is (Sv x10))), (9, .inl (is (Sv x11)))], [(2, pb 307 [is (U8 (0#8)), is (Bl false), is (Sv ([] : List UInt8)), is (I16 0), is (I64 0), is (I32 0)])]⟩
                        have hr : some r = F304_8 N a0 x3 x6 x7 x8 x9 x10 x11 := hr
                        refine AW_seq1 ?_
                        refine AW_cut (σ := Int) (fun v => ⟨[(0, .inl (is (Sv a0))), (2, .inr (.inl (2, 0))), (3, .inl (is (I64 x6))), (4, .inl (is (Bl x3))), (5, .inl (is (Sv x7))), (6, .inl (is (Sv x8))), (7, .inl (is (Bl x9))), (8, .inl (is (Sv x10))), (9, .inl (is (Sv x11))), (11, .inl (is (I64 v)))], [(2, pb 307 [is (U8 (0#8)), is (Bl false), is (Sv ([] : List UInt8)), is (I16 0), is (I64 0), is (I32 0)])]⟩) (fun v => some r = F304_9 N a0 x3 x6 x7 x8 x9 x10 x11 v) ?_ ?_
                        · skip
                          refine AW_region ?_
                          refine AL_cons (LR_move (at_tmp 8 _) rfl) (sS (sT1 rfl) sB0 sF0) ?_
                          obtain ⟨y40, hy40, hr⟩ := bind_some hr
                          refine AL_cons (LR_call Hfaa.func382 rfl rfl (C382 N x10 true y40 hy40) (all_cons (at_tmp 88 _) (all_cons (at_c (v' := Bl true) rfl) all_nil)) rfl) (sS (sA (sT1 rfl) (sA sT0 sT0)) sB0 sF0) ?_
                          refine AL_cons (LR_assign (at_tmp 89 _) rfl) (sS (sT1 rfl) sB0 sF0) ?_
                          refine AL_nil ?_
                          exact thenN (cutLeaf (v := y40) hr (weak0 ((sT rfl (sT rfl (sT rfl (sT rfl (sT rfl (sT rfl (sT rfl (sT rfl (sT rfl (sT rfl sT0))))))))))) (sub_keep sub_nil)))
                        · rintro x12 hr
                          show AW Hfaa.prog _ _ _ ⟨[(0, .inl (is (Sv a0))), (2, .inr (.inl (2, 0))), (3, .inl (is (I64 x6))), (4, .inl (is (Bl x3))), (5, .inl (is (Sv x7))), (6, .inl (is (Sv x8))), (7, .inl (is (Bl x9))), (8, .inl (is (Sv x10))), (9, .inl (is (Sv x11))), (11, .inl (is (I64 x12)))], [(2, pb 307 [is (U8 (0#8)), is (Bl false), is (Sv ([] : List UInt8)), is (I16 0), is (I64 0), is (I32 0)])]⟩
                          have hr : some r = F304_9 N a0 x3 x6 x7 x8 x9 x10 x11 x12 := hr
                          refine AW_cut (σ := Bool) (fun v => ⟨[(0, .inl (is (Sv a0))), (2, .inr (.inl (2, 0))), (3, .inl (is (I64 x6))), (4, .inl (is (Bl x3))), (5, .inl (is (Sv x7))), (6, .inl (is (Sv x8))), (7, .inl (is (Bl x9))), (8, .inl (is (Sv x10))), (9, .inl (is (Sv x11))), (11, .inl (is (I64 x12))), (93, .inl (is (Bl v)))], [(2, pb 307 [is (U8 (0#8)), is (Bl false), is (Sv ([] : List UInt8)), is (I16 0), is (I64 0), is (I32 0)])]⟩) (fun v => some r = F304_10 N a0 x3 x6 x7 x8 x9 x10 x11 x12 v) ?_ ?_
                          · skip
                            refine AW_region ?_
                            refine AL_cons (LR_move (at_tmp 11 _) rfl) (sS (sT1 rfl) sB0 sF0) ?_
                            refine AL_cons (LR_move (at_tmp 8 _) rfl) (sS (sT1 rfl) sB0 sF0) ?_
                            refine AL_cons (LR_bi1 (at_tmp 91 _) (len_S Hfaa.underlying9 x10) rfl) (sS (sT1 rfl) sB0 sF0) ?_
                            refine AL_cons (LR_bin (at_tmp 90 _) (at_tmp 92 _) (lss_I64 x12 (x10.length : Int)) rfl) (sS (sA (sT1 rfl) (sT1 rfl)) sB0 sF0) ?_
                            refine AL_nil ?_
                            exact thenN (cutLeaf (v := decide (x12 < (x10.length : Int))) hr (weak0 ((sT rfl (sT rfl (sT rfl (sT rfl (sT rfl (sT rfl (sT rfl (sT rfl (sT rfl (sT rfl (sT rfl sT0)))))))))))) (sub_keep sub_nil)))
                          · rintro x13 hr
                            show AW Hfaa.prog _ _ _ ⟨[(0, .inl (is (Sv a0))), (2, .inr (.inl (2, 0))), (3, .inl (is (I64 x6))), (4, .inl (is (Bl x3))), (5, .inl (is (Sv x7))), (6, .inl (is (Sv x8))), (7, .inl (is (Bl x9))), (8, .inl (is (Sv x10))), (9, .inl (is (Sv x11))), (11, .inl (is (I64 x12))), (93, .inl (is (Bl x13)))], [(2, pb 307 [is (U8 (0#8)), is (Bl false), is (Sv ([] : List UInt8)), is (I16 0), is (I64 0), is (I32 0)])]⟩
                            have hr : some r = F304_10 N a0 x3 x6 x7 x8 x9 x10 x11 x12 x13 := hr
                            refine AW_condT (b := x13) rfl (fun h => ?_) (fun h => ?_)
                            · have hr := hr.trans (cond_t h)
                              clear h
                              refine AW_seq1 ?_
                              refine AW_region ?_
                              refine AL_cons (LR_move (at_tmp 0 _) rfl) (sS (sT1 rfl) sB0 sF0) ?_
                              refine AL_cons (LR_move (at_tmp 3 _) rfl) (sS (sT1 rfl) sB0 sF0) ?_
                              refine AL_cons (LR_move (at_tmp 11 _) rfl) (sS (sT1 rfl) sB0 sF0) ?_
                              refine AL_cons (LR_bin (at_tmp 95 _) (at_tmp 96 _) (add_I64 x6 x12) rfl) (sS (sA (sT1 rfl) (sT1 rfl)) sB0 sF0) ?_
                              obtain ⟨y17, hy17, hr⟩ := bind_some hr
                              refine AL_cons (LR_call Hfaa.func380 rfl rfl (C380 N a0 (w64 (x6 + x12)) y17 hy17) (all_cons (at_tmp 94 _) (all_cons (at_tmp 97 _) all_nil)) rfl) (sS (sA (sT1 rfl) (sA (sT1 rfl) sT0)) sB0 sF0) ?_
                              refine AL_cons (LR_store (at_tmp 2 _) (at_tmp 98 _) (cells_agg _) (onC (one_is rfl) (onC (one_is rfl) (onC (one_is rfl) (onC (one_is rfl) (onC (one_is rfl) (onC (one_is rfl) onN)))))) sz307 rfl rfl) (sS (sA (sT1 rfl) (sT1 rfl)) (sB1 rfl) sF0) ?_
                              refine AL_nil ?_
                              refine thenN ?_
                              refine AW_ret ?_
                              refine thenR ?_
                              obtain rfl := Option.some.inj hr
                              exact res1 rfl (rvC rfl rfl ag307 sz307 rfl)
                            · have hr := hr.trans (cond_f h)
                              clear h
                              refine AW_skip ?_
                              refine thenN ?_
                              refine AW_seq1 ?_
                              refine AW_cut (σ := Int) (fun v => ⟨[(0, .inl (is (Sv a0))), (2, .inr (.inl (2, 0))), (3, .inl (is (I64 x6))), (4, .inl (is (Bl x3))), (5, .inl (is (Sv x7))), (6, .inl (is (Sv x8))), (7, .inl (is (Bl x9))), (8, .inl (is (Sv x10))), (9, .inl (is (Sv x11))), (12, .inl (is (I64 v)))], [(2, pb 307 [is (U8 (0#8)), is (Bl false), is (Sv ([] : List UInt8)), is (I16 0), is (I64 0), is (I32 0)])]⟩) (fun v => some r = F304_11 N a0 x3 x6 x7 x8 x9 x10 x11 v) ?_ ?_
                              · skip
                                refine AW_region ?_
                                refine AL_cons (LR_move (at_tmp 9 _) rfl) (sS (sT1 rfl) sB0 sF0) ?_
                                obtain ⟨y39, hy39, hr⟩ := bind_some hr
                                refine AL_cons (LR_call Hfaa.func382 rfl rfl (C382 N x11 true y39 hy39) (all_cons (at_tmp 99 _) (all_cons (at_c (v' := Bl true) rfl) all_nil)) rfl) (sS (sA (sT1 rfl) (sA sT0 sT0)) sB0 sF0) ?_
                                refine AL_cons (LR_assign (at_tmp 100 _) rfl) (sS (sT1 rfl) sB0 sF0) ?_
                                refine AL_nil ?_
                                exact thenN (cutLeaf (v := y39) hr (weak0 ((sT rfl (sT rfl (sT rfl (sT rfl (sT rfl (sT rfl (sT rfl (sT rfl (sT rfl (sT rfl sT0))))))))))) (sub_keep sub_nil)))
                              · rintro x14 hr
                                show AW Hfaa.prog _ _ _ ⟨[(0, .inl (is (Sv a0))), (2, .inr (.inl (2, 0))), (3, .inl (is (I64 x6))), (4, .inl (is (Bl x3))), (5, .inl (is (Sv x7))), (6, .inl (is (Sv x8))), (7, .inl (is (Bl x9))), (8, .inl (is (Sv x10))), (9, .inl (is (Sv x11))), (12, .inl (is (I64 x14)))], [(2, pb 307 [is (U8 (0#8)), is (Bl false), is (Sv ([] : List UInt8)), is (I16 0), is (I64 0), is (I32 0)])]⟩
                                have hr : some r = F304_11 N a0 x3 x6 x7 x8 x9 x10 x11 x14 := hr
                                refine AW_cut (σ := Bool) (fun v => ⟨[(0, .inl (is (Sv a0))), (2, .inr (.inl (2, 0))), (3, .inl (is (I64 x6))), (4, .inl (is (Bl x3))), (5, .inl (is (Sv x7))), (6, .inl (is (Sv x8))), (7, .inl (is (Bl x9))), (8, .inl (is (Sv x10))), (9, .inl (is (Sv x11))), (12, .inl (is (I64 x14))), (104, .inl (is (Bl v)))], [(2, pb 307 [is (U8 (0#8)), is (Bl false), is (Sv ([] : List UInt8)), is (I16 0), is (I64 0), is (I32 0)])]⟩) (fun v => some r = F304_12 N a0 x3 x6 x7 x8 x9 x10 x11 x14 v) ?_ ?_
                                · skip
                                  refine AW_region ?_
                                  refine AL_cons (LR_move (at_tmp 12 _) rfl) (sS (sT1 rfl) sB0 sF0) ?_
                                  refine AL_cons (LR_move (at_tmp 9 _) rfl) (sS (sT1 rfl) sB0 sF0) ?_
                                  refine AL_cons (LR_bi1 (at_tmp 102 _) (len_S Hfaa.underlying9 x11) rfl) (sS (sT1 rfl) sB0 sF0) ?_
                                  refine AL_cons (LR_bin (at_tmp 101 _) (at_tmp 103 _) (lss_I64 x14 (x11.length : Int)) rfl) (sS (sA (sT1 rfl) (sT1 rfl)) sB0 sF0) ?_
                                  refine AL_nil ?_
                                  exact thenN (cutLeaf (v := decide (x14 < (x11.length : Int))) hr (weak0 ((sT rfl (sT rfl (sT rfl (sT rfl (sT rfl (sT rfl (sT rfl (sT rfl (sT rfl (sT rfl (sT rfl sT0)))))))))))) (sub_keep sub_nil)))
                                · rintro x15 hr
                                  show AW Hfaa.prog _ _ _ ⟨[(0, .inl (is (Sv a0))), (2, .inr (.inl (2, 0))), (3, .inl (is (I64 x6))), (4, .inl (is (Bl x3))), (5, .inl (is (Sv x7))), (6, .inl (is (Sv x8))), (7, .inl (is (Bl x9))), (8, .inl (is (Sv x10))), (9, .inl (is (Sv x11))), (12, .inl (is (I64 x14))), (104, .inl (is (Bl x15)))], [(2, pb 307 [is (U8 (0#8)), is (Bl false), is (Sv ([] : List UInt8)), is (I16 0), is (I64 0), is (I32 0)])]⟩
                                  have hr : some r = F304_12 N a0 x3 x6 x7 x8 x9 x10 x11 x14 x15 := hr
                                  refine AW_condT (b := x15) rfl (fun h => ?_) (fun h => ?_)
                                  · have hr := hr.trans (cond_t h)
                                    clear h
                                    refine AW_seq1 ?_
                                    refine AW_region ?_
                                    refine AL_cons (LR_move (at_tmp 0 _) rfl) (sS (sT1 rfl) sB0 sF0) ?_
                                    refine AL_cons (LR_move (at_tmp 3 _) rfl) (sS (sT1 rfl) sB0 sF0) ?_
                                    refine AL_cons (LR_move (at_tmp 8 _) rfl) (sS (sT1 rfl) sB0 sF0) ?_
                                    refine AL_cons (LR_bi1 (at_tmp 107 _) (len_S Hfaa.underlying9 x10) rfl) (sS (sT1 rfl) sB0 sF0) ?_
                                    refine AL_cons (LR_bin (at_tmp 106 _) (at_tmp 108 _) (add_I64 x6 (x10.length : Int)) rfl) (sS (sA (sT1 rfl) (sT1 rfl)) sB0 sF0) ?_
                                    refine AL_cons (LR_bin (at_tmp 109 _) (at_c (v' := I64 1) rfl) (add_I64 (w64 (x6 + (x10.length : Int))) 1) rfl) (sS (sA (sT1 rfl) sT0) sB0 sF0) ?_
                                    refine AL_cons (LR_move (at_tmp 12 _) rfl) (sS (sT1 rfl) sB0 sF0) ?_
                                    refine AL_cons (LR_bin (at_tmp 110 _) (at_tmp 111 _) (add_I64 (w64 ((w64 (x6 + (x10.length : Int))) + 1)) x14) rfl) (sS (sA (sT1 rfl) (sT1 rfl)) sB0 sF0) ?_
                                    obtain ⟨y24, hy24, hr⟩ := bind_some hr
                                    refine AL_cons (LR_call Hfaa.func380 rfl rfl (C380 N a0 (w64 ((w64 ((w64 (x6 + (x10.length : Int))) + 1)) + x14)) y24 hy24) (all_cons (at_tmp 105 _) (all_cons (at_tmp 112 _) all_nil)) rfl) (sS (sA (sT1 rfl) (sA (sT1 rfl) sT0)) sB0 sF0) ?_
                                    refine AL_cons (LR_store (at_tmp 2 _) (at_tmp 113 _) (cells_agg _) (onC (one_is rfl) (onC (one_is rfl) (onC (one_is rfl) (onC (one_is rfl) (onC (one_is rfl) (onC (one_is rfl) onN)))))) sz307 rfl rfl) (sS (sA (sT1 rfl) (sT1 rfl)) (sB1 rfl) sF0) ?_
                                    refine AL_nil ?_
                                    refine thenN ?_
                                    refine AW_ret ?_
                                    refine thenR ?_
                                    obtain rfl := Option.some.inj hr
                                    exact res1 rfl (rvC rfl rfl ag307 sz307 rfl)
                                  · have hr := hr.trans (cond_f h)
                                    clear h
                                    refine AW_skip ?_
                                    refine thenN ?_
                                    refine AW_seq1 ?_
                                    refine AW_cut (σ := Bool) (fun v => ⟨[(0, .inl (is (Sv a0))), (2, .inr (.inl (2, 0))), (3, .inl (is (I64 x6))), (4, .inl (is (Bl x3))), (5, .inl (is (Sv x7))), (6, .inl (is (Sv x8))), (8, .inl (is (Sv x10))), (9, .inl (is (Sv x11))), (121, .inl (is (Bl v)))], [(2, pb 307 [is (U8 (0#8)), is (Bl false), is (Sv ([] : List UInt8)), is (I16 0), is (I64 0), is (I32 0)])]⟩) (fun v => some r = F304_13 N a0 x3 x6 x7 x8 x10 x11 v) ?_ ?_
                                    · skip
                                      refine AW_region ?_
                                      refine AL_cons (LR_move (at_tmp 8 _) rfl) (sS (sT1 rfl) sB0 sF0) ?_
                                      refine AL_cons (LR_move (at_tmp 9 _) rfl) (sS (sT1 rfl) sB0 sF0) ?_
                                      obtain ⟨hg57, hr⟩ := guard_some hr
                                      refine AL_cons (LR_bin (at_tmp 114 _) (at_tmp 115 _) (add_S x10 x11 (of_decide_eq_true hg57)) rfl) (sS (sA (sT1 rfl) (sT1 rfl)) sB0 sF0) ?_
                                      refine AL_cons (LR_bin (at_tmp 116 _) (at_c (v' := Sv ([] : List UInt8)) rfl) (eql_S (x10 ++ x11) ([] : List UInt8)) rfl) (sS (sA (sT1 rfl) sT0) sB0 sF0) ?_
                                      refine AL_cons (LR_move (at_tmp 117 _) rfl) (sS (sT1 rfl) sB0 sF0) ?_
                                      refine AL_cutAt 3 ⟨[(0, .inl (is (Sv a0))), (2, .inr (.inl (2, 0))), (3, .inl (is (I64 x6))), (4, .inl (is (Bl x3))), (5, .inl (is (Sv x7))), (6, .inl (is (Sv x8))), (7, .inl (is (Bl x9))), (8, .inl (is (Sv x10))), (9, .inl (is (Sv x11))), (12, .inl (is (I64 x14))), (104, .inl (is (Bl x15))), (114, .inl (is (Sv x10))), (115, .inl (is (Sv x11))), (116, .inl (is (Sv (x10 ++ x11)))), (117, .inl (is (Bl ((x10 ++ x11) == ([] : List UInt8))))), (118, .inl (is (Bl ((x10 ++ x11) == ([] : List UInt8))))), (121, .inl (is (Bl (((x10 ++ x11) == ([] : List UInt8)) || (!x9)))))], [(2, pb 307 [is (U8 (0#8)), is (Bl false), is (Sv ([] : List UInt8)), is (I16 0), is (I64 0), is (I32 0)])]⟩ ?_ ?_
                                      · cases hb : (x10 ++ x11) == ([] : List UInt8)
                                        · skip
                                          refine AL_cons (LR_on rfl rfl rfl (LR_move (at_tmp 7 _) rfl)) (sS (sT rfl (sT1 rfl)) sB0 sF0) ?_
                                          refine AL_cons (LR_on rfl rfl rfl (LR_un (at_tmp 119 _) (not_Bl x9) rfl)) (sS (sT rfl (sT1 rfl)) sB0 sF0) ?_
                                          refine AL_cons (LR_pick (b := false) (at_tmp 118 _) (at_c (v' := Bl true) rfl) (at_tmp 120 _) rfl) (sS (sA (sT1 rfl) (sA sT0 (sT1 rfl))) sB0 sF0) ?_
                                          exact AL_nil ⟨rfl, weak0 ((sT rfl (sT rfl (sT rfl (sT rfl (sT rfl (sT rfl (sT rfl (sT rfl (sT rfl (sT rfl (sT rfl (sT rfl (sT rfl (sT rfl (sT rfl (sT rfl (sT rfl sT0)))))))))))))))))) (sub_keep sub_nil)⟩
                                        · skip
                                          refine AL_cons (LR_off (b := true) rfl rfl rfl rfl) (sS (sT1 rfl) sB0 sF0) ?_
                                          refine AL_cons (LR_off (b := true) rfl rfl rfl rfl) (sS (sT1 rfl) sB0 sF0) ?_
                                          refine AL_cons (LR_pick (b := true) (at_tmp 118 _) (at_c (v' := Bl true) rfl) (at_tmp 120 _) rfl) (sS (sA (sT1 rfl) (sA sT0 (sT1 rfl))) sB0 sF0) ?_
                                          exact AL_nil ⟨rfl, weak0 ((sT rfl (sT rfl (sT rfl (sT rfl (sT rfl (sT rfl (sT rfl (sT rfl (sT rfl (sT rfl (sT rfl (sT rfl (sT rfl (sT rfl (sT rfl (sT rfl (sT rfl sT0)))))))))))))))))) (sub_keep sub_nil)⟩
                                      refine AL_nil ?_
                                      exact thenN (cutLeaf (v := ((x10 ++ x11) == ([] : List UInt8)) || (!x9)) hr (weak0 ((sT rfl (sT rfl (sT rfl (sT rfl (sT rfl (sT rfl (sT rfl (sT rfl (sT rfl sT0)))))))))) (sub_keep sub_nil)))
                                    · rintro x16 hr
                                      show AW Hfaa.prog _ _ _ ⟨[(0, .inl (is (Sv a0))), (2, .inr (.inl (2, 0))), (3, .inl (is (I64 x6))), (4, .inl (is (Bl x3))), (5, .inl (is (Sv x7))), (6, .inl (is (Sv x8))), (8, .inl (is (Sv x10))), (9, .inl (is (Sv x11))), (121, .inl (is (Bl x16)))], [(2, pb 307 [is (U8 (0#8)), is (Bl false), is (Sv ([] : List UInt8)), is (I16 0), is (I64 0), is (I32 0)])]⟩
                                      have hr : some r = F304_13 N a0 x3 x6 x7 x8 x10 x11 x16 := hr
                                      refine AW_condT (b := x16) rfl (fun h => ?_) (fun h => ?_)
                                      · have hr := hr.trans (cond_t h)
                                        clear h
                                        refine AW_seq1 ?_
                                        refine AW_region ?_
                                        refine AL_cons (LR_move (at_tmp 0 _) rfl) (sS (sT1 rfl) sB0 sF0) ?_
                                        refine AL_cons (LR_move (at_tmp 3 _) rfl) (sS (sT1 rfl) sB0 sF0) ?_
                                        refine AL_cons (LR_move (at_tmp 5 _) rfl) (sS (sT1 rfl) sB0 sF0) ?_
                                        refine AL_cons (LR_bi1 (at_tmp 124 _) (len_S Hfaa.underlying9 x7) rfl) (sS (sT1 rfl) sB0 sF0) ?_
                                        refine AL_cons (LR_bin (at_tmp 123 _) (at_tmp 125 _) (add_I64 x6 (x7.length : Int)) rfl) (sS (sA (sT1 rfl) (sT1 rfl)) sB0 sF0) ?_
                                        obtain ⟨y28, hy28, hr⟩ := bind_some hr
                                        refine AL_cons (LR_call Hfaa.func380 rfl rfl (C380 N a0 (w64 (x6 + (x7.length : Int))) y28 hy28) (all_cons (at_tmp 122 _) (all_cons (at_tmp 126 _) all_nil)) rfl) (sS (sA (sT1 rfl) (sA (sT1 rfl) sT0)) sB0 sF0) ?_
                                        refine AL_cons (LR_store (at_tmp 2 _) (at_tmp 127 _) (cells_agg _) (onC (one_is rfl) (onC (one_is rfl) (onC (one_is rfl) (onC (one_is rfl) (onC (one_is rfl) (onC (one_is rfl) onN)))))) sz307 rfl rfl) (sS (sA (sT1 rfl) (sT1 rfl)) (sB1 rfl) sF0) ?_
                                        refine AL_nil ?_
                                        refine thenN ?_
                                        refine AW_ret ?_
                                        refine thenR ?_
                                        obtain rfl := Option.some.inj hr
                                        exact res1 rfl (rvC rfl rfl ag307 sz307 rfl)
                                      · have hr := hr.trans (cond_f h)
                                        clear h
                                        refine AW_skip ?_
                                        refine thenN ?_
                                        refine AW_cut (σ := Int) (fun v => ⟨[(0, .inl (is (Sv a0))), (2, .inr (.inl (2, 0))), (3, .inl (is (I64 v))), (4, .inl (is (Bl x3))), (6, .inl (is (Sv x8))), (8, .inl (is (Sv x10))), (9, .inl (is (Sv x11)))], [(2, pb 307 [is (U8 (0#8)), is (Bl false), is (Sv ([] : List UInt8)), is (I16 0), is (I64 0), is (I32 0)])]⟩) (fun v => some r = F304_14 N a0 x3 x8 x10 x11 v) ?_ ?_
                                        · skip
                                          refine AW_region ?_
                                          refine AL_cons (LR_move (at_tmp 3 _) rfl) (sS (sT1 rfl) sB0 sF0) ?_
                                          refine AL_cons (LR_move (at_tmp 5 _) rfl) (sS (sT1 rfl) sB0 sF0) ?_
                                          refine AL_cons (LR_bi1 (at_tmp 129 _) (len_S Hfaa.underlying9 x7) rfl) (sS (sT1 rfl) sB0 sF0) ?_
                                          refine AL_cons (LR_bin (at_tmp 130 _) (at_c (v' := I64 1) rfl) (add_I64 (x7.length : Int) 1) rfl) (sS (sA (sT1 rfl) sT0) sB0 sF0) ?_
                                          refine AL_cons (LR_bin (at_tmp 128 _) (at_tmp 131 _) (add_I64 x6 (w64 ((x7.length : Int) + 1))) rfl) (sS (sA (sT1 rfl) (sT1 rfl)) sB0 sF0) ?_
                                          refine AL_cons (LR_assign (at_tmp 132 _) rfl) (sS (sT1 rfl) sB0 sF0) ?_
                                          refine AL_nil ?_
                                          exact thenN (cutLeaf (v := w64 (x6 + (w64 ((x7.length : Int) + 1)))) hr (weak0 ((sT rfl (sT rfl (sT rfl (sT rfl (sT rfl (sT rfl (sT rfl sT0)))))))) (sub_keep sub_nil)))
                                        · rintro x17 hr
                                          show AW Hfaa.prog _ _ _ ⟨[(0, .inl (is (Sv a0))), (2, .inr (.inl (2, 0))), (3, .inl (is (I64 x17))), (4, .inl (is (Bl x3))), (6, .inl (is (Sv x8))), (8, .inl (is (Sv x10))), (9, .inl (is (Sv x11)))], [(2, pb 307 [is (U8 (0#8)), is (Bl false), is (Sv ([] : List UInt8)), is (I16 0), is (I64 0), is (I32 0)])]⟩
                                          have hr : some r = F304_14 N a0 x3 x8 x10 x11 x17 := hr
                                          refine AW_cut (σ := Bool) (fun v => ⟨[(0, .inl (is (Sv a0))), (2, .inr (.inl (2, 0))), (3, .inl (is (I64 x17))), (4, .inl (is (Bl x3))), (6, .inl (is (Sv x8))), (8, .inl (is (Sv x10))), (9, .inl (is (Sv x11))), (13, .inl (is (Bl v)))], [(2, pb 307 [is (U8 (0#8)), is (Bl false), is (Sv ([] : List UInt8)), is (I16 0), is (I64 0), is (I32 0)])]⟩) (fun v => some r = F304_15 N a0 x3 x8 x10 x11 x17 v) ?_ ?_
                                          · skip
                                            refine AW_region ?_
                                            refine AL_cons (LR_move (at_tmp 6 _) rfl) (sS (sT1 rfl) sB0 sF0) ?_
                                            refine AL_cons (LR_bin (at_tmp 133 _) (at_c (v' := Sv ([] : List UInt8)) rfl) (neq_S x8 ([] : List UInt8)) rfl) (sS (sA (sT1 rfl) sT0) sB0 sF0) ?_
                                            refine AL_cons (LR_move (at_tmp 134 _) rfl) (sS (sT1 rfl) sB0 sF0) ?_
                                            cases hb : x8 != ([] : List UInt8)
                                            · have hr := hr.trans (cond_f hb)
                                              refine AL_cons (LR_off (b := false) rfl rfl rfl rfl) (sS (sT1 rfl) sB0 sF0) ?_
                                              refine AL_cons (LR_off (b := false) rfl rfl rfl rfl) (sS (sT1 rfl) sB0 sF0) ?_
                                              refine AL_cons (LR_off (b := false) rfl rfl rfl rfl) (sS (sT1 rfl) sB0 sF0) ?_
                                              refine AL_cons (LR_pick (b := false) (at_tmp 135 _) (at_tmp 138 _) (at_c (v' := Bl false) rfl) rfl) (sS (sA (sT1 rfl) (sA (sT1 rfl) sT0)) sB0 sF0) ?_
                                              refine AL_cons (LR_assign (at_tmp 139 _) rfl) (sS (sT1 rfl) sB0 sF0) ?_
                                              refine AL_nil ?_
                                              exact thenN (cutLeaf (v := false) hr (weak0 ((sT rfl (sT rfl (sT rfl (sT rfl (sT rfl (sT rfl (sT rfl (sT rfl sT0))))))))) (sub_keep sub_nil)))
                                            · have hr := hr.trans (cond_t hb)
                                              refine AL_cons (LR_on rfl rfl rfl (LR_move (at_tmp 6 _) rfl)) (sS (sT rfl (sT1 rfl)) sB0 sF0) ?_
                                              obtain ⟨hg56, hr⟩ := guard_some hr
                                              refine AL_cons (LR_on rfl rfl rfl (LR_indexS (i := (0 : Int)) Hfaa.underlying9 (at_tmp 136 _) (at_c (v' := I64 0) rfl) (dand hg56) rfl)) (sS (sT rfl (sA (sT1 rfl) sT0)) sB0 sF0) ?_
                                              refine AL_cons (LR_on rfl rfl rfl (LR_bin (at_tmp 137 _) (at_c (v' := U8 (45#8)) rfl) (eql_U8 ((x8.getD ((0 : Int)).toNat 0).toBitVec) (45#8)) rfl)) (sS (sT rfl (sA (sT1 rfl) sT0)) sB0 sF0) ?_
                                              refine AL_cons (LR_pick (b := true) (at_tmp 135 _) (at_tmp 138 _) (at_c (v' := Bl false) rfl) rfl) (sS (sA (sT1 rfl) (sA (sT1 rfl) sT0)) sB0 sF0) ?_
                                              refine AL_cons (LR_assign (at_tmp 139 _) rfl) (sS (sT1 rfl) sB0 sF0) ?_
                                              refine AL_nil ?_
                                              exact thenN (cutLeaf (v := ((x8.getD ((0 : Int)).toNat 0).toBitVec) == (45#8)) hr (weak0 ((sT rfl (sT rfl (sT rfl (sT rfl (sT rfl (sT rfl (sT rfl (sT rfl sT0))))))))) (sub_keep sub_nil)))
                                          · rintro x18 hr
                                            show AW Hfaa.prog _ _ _ ⟨[(0, .inl (is (Sv a0))), (2, .inr (.inl (2, 0))), (3, .inl (is (I64 x17))), (4, .inl (is (Bl x3))), (6, .inl (is (Sv x8))), (8, .inl (is (Sv x10))), (9, .inl (is (Sv x11))), (13, .inl (is (Bl x18)))], [(2, pb 307 [is (U8 (0#8)), is (Bl false), is (Sv ([] : List UInt8)), is (I16 0), is (I64 0), is (I32 0)])]⟩
                                            have hr : some r = F304_15 N a0 x3 x8 x10 x11 x17 x18 := hr
                                            refine AW_cut (σ := Int × List UInt8 × Bool) (fun v => ⟨[(0, .inl (is (Sv a0))), (2, .inr (.inl (2, 0))), (3, .inl (is (I64 v.1))), (4, .inl (is (Bl x3))), (6, .inl (is (Sv v.2.1))), (8, .inl (is (Sv x10))), (9, .inl (is (Sv x11))), (13, .inl (is (Bl v.2.2)))], [(2, pb 307 [is (U8 (0#8)), is (Bl false), is (Sv ([] : List UInt8)), is (I16 0), is (I64 0), is (I32 0)])]⟩) (fun v => some r = F304_16 N a0 x3 x10 x11 v.1 v.2.1 v.2.2) ?_ ?_
                                            · skip
                                              refine AW_cut (σ := Bool × Bool) (fun v => ⟨[(0, .inl (is (Sv a0))), (2, .inr (.inl (2, 0))), (3, .inl (is (I64 x17))), (4, .inl (is (Bl x3))), (6, .inl (is (Sv x8))), (8, .inl (is (Sv x10))), (9, .inl (is (Sv x11))), (13, .inl (is (Bl v.1))), (149, .inl (is (Bl v.2)))], [(2, pb 307 [is (U8 (0#8)), is (Bl false), is (Sv ([] : List UInt8)), is (I16 0), is (I64 0), is (I32 0)])]⟩) (fun v => some r = F304_26 N a0 x3 x8 x10 x11 x17 v.1 v.2) ?_ ?_
                                              · skip
                                                refine AW_region ?_
                                                refine AL_cons (LR_move (at_tmp 13 _) rfl) (sS (sT1 rfl) sB0 sF0) ?_
                                                refine AL_cons (LR_move (at_tmp 140 _) rfl) (sS (sT1 rfl) sB0 sF0) ?_
                                                cases hb : x18
                                                · have hr := hr.trans (cond_f hb)
                                                  refine AL_cons (LR_on rfl rfl rfl (LR_move (at_tmp 6 _) rfl)) (sS (sT rfl (sT1 rfl)) sB0 sF0) ?_
                                                  refine AL_cons (LR_on rfl rfl rfl (LR_bin (at_tmp 142 _) (at_c (v' := Sv ([] : List UInt8)) rfl) (neq_S x8 ([] : List UInt8)) rfl)) (sS (sT rfl (sA (sT1 rfl) sT0)) sB0 sF0) ?_
                                                  refine AL_cons (LR_on rfl rfl rfl (LR_move (at_tmp 143 _) rfl)) (sS (sT rfl (sT1 rfl)) sB0 sF0) ?_
                                                  cases hb : x8 != ([] : List UInt8)
                                                  · have hr := hr.trans (cond_f hb)
                                                    refine AL_cons (LR_off (b := false) rfl rfl rfl rfl) (sS (sT1 rfl) sB0 sF0) ?_
                                                    refine AL_cons (LR_off (b := false) rfl rfl rfl rfl) (sS (sT1 rfl) sB0 sF0) ?_
                                                    refine AL_cons (LR_off (b := false) rfl rfl rfl rfl) (sS (sT1 rfl) sB0 sF0) ?_
                                                    refine AL_cons (LR_on rfl rfl rfl (LR_pick (b := false) (at_tmp 144 _) (at_tmp 147 _) (at_c (v' := Bl false) rfl) rfl)) (sS (sT rfl (sA (sT1 rfl) (sA (sT1 rfl) sT0))) sB0 sF0) ?_
                                                    refine AL_cons (LR_pick (b := false) (at_tmp 141 _) (at_c (v' := Bl true) rfl) (at_tmp 148 _) rfl) (sS (sA (sT1 rfl) (sA sT0 (sT1 rfl))) sB0 sF0) ?_
                                                    refine AL_nil ?_
                                                    exact thenN (cutLeaf (v := (false, false)) hr (weak0 ((sT rfl (sT rfl (sT rfl (sT rfl (sT rfl (sT rfl (sT rfl (sT rfl (sT rfl sT0)))))))))) (sub_keep sub_nil)))
                                                  · have hr := hr.trans (cond_t hb)
                                                    refine AL_cons (LR_on rfl rfl rfl (LR_move (at_tmp 6 _) rfl)) (sS (sT rfl (sT1 rfl)) sB0 sF0) ?_
                                                    obtain ⟨hg54, hr⟩ := guard_some hr
                                                    refine AL_cons (LR_on rfl rfl rfl (LR_indexS (i := (0 : Int)) Hfaa.underlying9 (at_tmp 145 _) (at_c (v' := I64 0) rfl) (dand hg54) rfl)) (sS (sT rfl (sA (sT1 rfl) sT0)) sB0 sF0) ?_
                                                    refine AL_cons (LR_on rfl rfl rfl (LR_bin (at_tmp 146 _) (at_c (v' := U8 (43#8)) rfl) (eql_U8 ((x8.getD ((0 : Int)).toNat 0).toBitVec) (43#8)) rfl)) (sS (sT rfl (sA (sT1 rfl) sT0)) sB0 sF0) ?_
                                                    refine AL_cons (LR_on rfl rfl rfl (LR_pick (b := true) (at_tmp 144 _) (at_tmp 147 _) (at_c (v' := Bl false) rfl) rfl)) (sS (sT rfl (sA (sT1 rfl) (sA (sT1 rfl) sT0))) sB0 sF0) ?_
                                                    refine AL_cons (LR_pick (b := false) (at_tmp 141 _) (at_c (v' := Bl true) rfl) (at_tmp 148 _) rfl) (sS (sA (sT1 rfl) (sA sT0 (sT1 rfl))) sB0 sF0) ?_
                                                    refine AL_nil ?_
                                                    exact thenN (cutLeaf (v := (false, ((x8.getD ((0 : Int)).toNat 0).toBitVec) == (43#8))) hr (weak0 ((sT rfl (sT rfl (sT rfl (sT rfl (sT rfl (sT rfl (sT rfl (sT rfl (sT rfl sT0)))))))))) (sub_keep sub_nil)))
                                                · have hr := hr.trans (cond_t hb)
                                                  refine AL_cons (LR_off (b := true) rfl rfl rfl rfl) (sS (sT1 rfl) sB0 sF0) ?_
                                                  refine AL_cons (LR_off (b := true) rfl rfl rfl rfl) (sS (sT1 rfl) sB0 sF0) ?_
                                                  refine AL_cons (LR_off (b := true) rfl rfl rfl rfl) (sS (sT1 rfl) sB0 sF0) ?_
                                                  refine AL_cons (LR_offU rfl rfl rfl rfl) (sS (sT1 rfl) sB0 sF0) ?_
                                                  refine AL_cons (LR_offU rfl rfl rfl rfl) (sS (sT1 rfl) sB0 sF0) ?_
                                                  refine AL_cons (LR_offU rfl rfl rfl rfl) (sS (sT1 rfl) sB0 sF0) ?_
                                                  refine AL_cons (LR_off (b := true) rfl rfl rfl rfl) (sS (sT1 rfl) sB0 sF0) ?_
                                                  refine AL_cons (LR_pick (b := true) (at_tmp 141 _) (at_c (v' := Bl true) rfl) (at_tmp 148 _) rfl) (sS (sA (sT1 rfl) (sA sT0 (sT1 rfl))) sB0 sF0) ?_
                                                  refine AL_nil ?_
                                                  exact thenN (cutLeaf (v := (true, true)) hr (weak0 ((sT rfl (sT rfl (sT rfl (sT rfl (sT rfl (sT rfl (sT rfl (sT rfl (sT rfl sT0)))))))))) (sub_keep sub_nil)))
                                              · rintro ⟨x35, x36⟩ hr
                                                show AW Hfaa.prog _ _ _ ⟨[(0, .inl (is (Sv a0))), (2, .inr (.inl (2, 0))), (3, .inl (is (I64 x17))), (4, .inl (is (Bl x3))), (6, .inl (is (Sv x8))), (8, .inl (is (Sv x10))), (9, .inl (is (Sv x11))), (13, .inl (is (Bl x35))), (149, .inl (is (Bl x36)))], [(2, pb 307 [is (U8 (0#8)), is (Bl false), is (Sv ([] : List UInt8)), is (I16 0), is (I64 0), is (I32 0)])]⟩
                                                have hr : some r = F304_26 N a0 x3 x8 x10 x11 x17 x35 x36 := hr
                                                refine AW_condT (b := x36) rfl (fun h => ?_) (fun h => ?_)
                                                · have hr := hr.trans (cond_t h)
                                                  clear h
                                                  refine AW_cut (σ := List UInt8) (fun v => ⟨[(0, .inl (is (Sv a0))), (2, .inr (.inl (2, 0))), (3, .inl (is (I64 x17))), (4, .inl (is (Bl x3))), (6, .inl (is (Sv v))), (8, .inl (is (Sv x10))), (9, .inl (is (Sv x11))), (13, .inl (is (Bl x35)))], [(2, pb 307 [is (U8 (0#8)), is (Bl false), is (Sv ([] : List UInt8)), is (I16 0), is (I64 0), is (I32 0)])]⟩) (fun v => some r = F304_27 N a0 x3 x10 x11 x17 x35 v) ?_ ?_
                                                  · skip
                                                    refine AW_region ?_
                                                    refine AL_cons (LR_move (at_tmp 6 _) rfl) (sS (sT1 rfl) sB0 sF0) ?_
                                                    obtain ⟨hg51, hr⟩ := guard_some hr
                                                    refine AL_cons (LR_sliceS (i := (1 : Int)) (j := (x8.length : Int)) Hfaa.underlying9 (at_tmp 150 _) (fun B bn s a w hs hr => .inr ⟨_, congrArg some ((at_c (v' := I64 1) rfl) B bn s a w hs hr)⟩) (fun _ _ _ _ _ _ _ => .inl ⟨rfl, rfl⟩) (dand3 hg51) rfl) (sS (sA (sT1 rfl) (sA sT0 sT0)) sB0 sF0) ?_
                                                    refine AL_cons (LR_assign (at_tmp 151 _) rfl) (sS (sT1 rfl) sB0 sF0) ?_
                                                    refine AL_nil ?_
                                                    exact thenN (cutLeaf (v := (x8.drop ((1 : Int)).toNat).take (((x8.length : Int)).toNat - ((1 : Int)).toNat)) hr (weak0 ((sT rfl (sT rfl (sT rfl (sT rfl (sT rfl (sT rfl (sT rfl (sT rfl sT0))))))))) (sub_keep sub_nil)))
                                                  · rintro x37 hr
                                                    show AW Hfaa.prog _ _ _ ⟨[(0, .inl (is (Sv a0))), (2, .inr (.inl (2, 0))), (3, .inl (is (I64 x17))), (4, .inl (is (Bl x3))), (6, .inl (is (Sv x37))), (8, .inl (is (Sv x10))), (9, .inl (is (Sv x11))), (13, .inl (is (Bl x35)))], [(2, pb 307 [is (U8 (0#8)), is (Bl false), is (Sv ([] : List UInt8)), is (I16 0), is (I64 0), is (I32 0)])]⟩
                                                    have hr : some r = F304_27 N a0 x3 x10 x11 x17 x35 x37 := hr
                                                    refine AW_region ?_
                                                    refine AL_cons (LR_move (at_tmp 3 _) rfl) (sS (sT1 rfl) sB0 sF0) ?_
                                                    refine AL_cons (LR_bin (at_tmp 152 _) (at_c (v' := I64 1) rfl) (add_I64 x17 1) rfl) (sS (sA (sT1 rfl) sT0) sB0 sF0) ?_
                                                    refine AL_cons (LR_assign (at_tmp 153 _) rfl) (sS (sT1 rfl) sB0 sF0) ?_
                                                    refine AL_nil ?_
                                                    exact thenN (cutLeaf (v := (w64 (x17 + 1), x37, x35)) hr (weak0 ((sT rfl (sT rfl (sT rfl (sT rfl (sT rfl (sT rfl (sT rfl (sT rfl sT0))))))))) (sub_keep sub_nil)))
                                                · have hr := hr.trans (cond_f h)
                                                  clear h
                                                  refine AW_skip ?_
                                                  exact thenN (cutLeaf (v := (x17, x8, x35)) hr (weak0 ((sT rfl (sT rfl (sT rfl (sT rfl (sT rfl (sT rfl (sT rfl (sT rfl sT0))))))))) (sub_keep sub_nil)))
                                            · rintro ⟨x19, x20, x21⟩ hr
                                              show AW Hfaa.prog _ _ _ ⟨[(0, .inl (is (Sv a0))), (2, .inr (.inl (2, 0))), (3, .inl (is (I64 x19))), (4, .inl (is (Bl x3))), (6, .inl (is (Sv x20))), (8, .inl (is (Sv x10))), (9, .inl (is (Sv x11))), (13, .inl (is (Bl x21)))], [(2, pb 307 [is (U8 (0#8)), is (Bl false), is (Sv ([] : List UInt8)), is (I16 0), is (I64 0), is (I32 0)])]⟩
                                              have hr : some r = F304_16 N a0 x3 x10 x11 x19 x20 x21 := hr
                                              refine AW_seq1 ?_
                                              refine AW_cut (σ := Int) (fun v => ⟨[(0, .inl (is (Sv a0))), (2, .inr (.inl (2, 0))), (3, .inl (is (I64 x19))), (4, .inl (is (Bl x3))), (6, .inl (is (Sv x20))), (8, .inl (is (Sv x10))), (9, .inl (is (Sv x11))), (13, .inl (is (Bl x21))), (14, .inl (is (I64 v)))], [(2, pb 307 [is (U8 (0#8)), is (Bl false), is (Sv ([] : List UInt8)), is (I16 0), is (I64 0), is (I32 0)])]⟩) (fun v => some r = F304_17 N a0 x3 x10 x11 x19 x20 x21 v) ?_ ?_
                                              · skip
                                                refine AW_region ?_
                                                refine AL_cons (LR_move (at_tmp 6 _) rfl) (sS (sT1 rfl) sB0 sF0) ?_
                                                obtain ⟨y38, hy38, hr⟩ := bind_some hr
                                                refine AL_cons (LR_call Hfaa.func382 rfl rfl (C382 N x20 false y38 hy38) (all_cons (at_tmp 154 _) (all_cons (at_c (v' := Bl false) rfl) all_nil)) rfl) (sS (sA (sT1 rfl) (sA sT0 sT0)) sB0 sF0) ?_
                                                refine AL_cons (LR_assign (at_tmp 155 _) rfl) (sS (sT1 rfl) sB0 sF0) ?_
                                                refine AL_nil ?_
                                                exact thenN (cutLeaf (v := y38) hr (weak0 ((sT rfl (sT rfl (sT rfl (sT rfl (sT rfl (sT rfl (sT rfl (sT rfl (sT rfl sT0)))))))))) (sub_keep sub_nil)))
                                              · rintro x22 hr
                                                show AW Hfaa.prog _ _ _ ⟨[(0, .inl (is (Sv a0))), (2, .inr (.inl (2, 0))), (3, .inl (is (I64 x19))), (4, .inl (is (Bl x3))), (6, .inl (is (Sv x20))), (8, .inl (is (Sv x10))), (9, .inl (is (Sv x11))), (13, .inl (is (Bl x21))), (14, .inl (is (I64 x22)))], [(2, pb 307 [is (U8 (0#8)), is (Bl false), is (Sv ([] : List UInt8)), is (I16 0), is (I64 0), is (I32 0)])]⟩
                                                have hr : some r = F304_17 N a0 x3 x10 x11 x19 x20 x21 x22 := hr
                                                refine AW_cut (σ := Bool) (fun v => ⟨[(0, .inl (is (Sv a0))), (2, .inr (.inl (2, 0))), (3, .inl (is (I64 x19))), (4, .inl (is (Bl x3))), (6, .inl (is (Sv x20))), (8, .inl (is (Sv x10))), (9, .inl (is (Sv x11))), (13, .inl (is (Bl x21))), (14, .inl (is (I64 x22))), (163, .inl (is (Bl v)))], [(2, pb 307 [is (U8 (0#8)), is (Bl false), is (Sv ([] : List UInt8)), is (I16 0), is (I64 0), is (I32 0)])]⟩) (fun v => some r = F304_18 N a0 x3 x10 x11 x19 x20 x21 x22 v) ?_ ?_
                                                · skip
                                                  refine AW_region ?_
                                                  refine AL_cons (LR_move (at_tmp 14 _) rfl) (sS (sT1 rfl) sB0 sF0) ?_
                                                  refine AL_cons (LR_move (at_tmp 6 _) rfl) (sS (sT1 rfl) sB0 sF0) ?_
                                                  refine AL_cons (LR_bi1 (at_tmp 157 _) (len_S Hfaa.underlying9 x20) rfl) (sS (sT1 rfl) sB0 sF0) ?_
                                                  refine AL_cons (LR_bin (at_tmp 156 _) (at_tmp 158 _) (lss_I64 x22 (x20.length : Int)) rfl) (sS (sA (sT1 rfl) (sT1 rfl)) sB0 sF0) ?_
                                                  refine AL_cons (LR_move (at_tmp 159 _) rfl) (sS (sT1 rfl) sB0 sF0) ?_
                                                  refine AL_cutAt 3 ⟨[(0, .inl (is (Sv a0))), (2, .inr (.inl (2, 0))), (3, .inl (is (I64 x19))), (4, .inl (is (Bl x3))), (6, .inl (is (Sv x20))), (8, .inl (is (Sv x10))), (9, .inl (is (Sv x11))), (13, .inl (is (Bl x21))), (14, .inl (is (I64 x22))), (156, .inl (is (I64 x22))), (157, .inl (is (Sv x20))), (158, .inl (is (I64 (x20.length : Int)))), (159, .inl (is (Bl (decide (x22 < (x20.length : Int)))))), (160, .inl (is (Bl (decide (x22 < (x20.length : Int)))))), (163, .inl (is (Bl ((decide (x22 < (x20.length : Int))) || (x22 == 0)))))], [(2, pb 307 [is (U8 (0#8)), is (Bl false), is (Sv ([] : List UInt8)), is (I16 0), is (I64 0), is (I32 0)])]⟩ ?_ ?_
                                                  · cases hb : decide (x22 < (x20.length : Int))
                                                    · skip
                                                      refine AL_cons (LR_on rfl rfl rfl (LR_move (at_tmp 14 _) rfl)) (sS (sT rfl (sT1 rfl)) sB0 sF0) ?_
                                                      refine AL_cons (LR_on rfl rfl rfl (LR_bin (at_tmp 161 _) (at_c (v' := I64 0) rfl) (eql_I64 x22 0) rfl)) (sS (sT rfl (sA (sT1 rfl) sT0)) sB0 sF0) ?_
                                                      refine AL_cons (LR_pick (b := false) (at_tmp 160 _) (at_c (v' := Bl true) rfl) (at_tmp 162 _) rfl) (sS (sA (sT1 rfl) (sA sT0 (sT1 rfl))) sB0 sF0) ?_
                                                      exact AL_nil ⟨rfl, weak0 ((sT rfl (sT rfl (sT rfl (sT rfl (sT rfl (sT rfl (sT rfl (sT rfl (sT rfl (sT rfl (sT rfl (sT rfl (sT rfl (sT rfl (sT rfl sT0)))))))))))))))) (sub_keep sub_nil)⟩
                                                    · skip
                                                      refine AL_cons (LR_off (b := true) rfl rfl rfl rfl) (sS (sT1 rfl) sB0 sF0) ?_
                                                      refine AL_cons (LR_off (b := true) rfl rfl rfl rfl) (sS (sT1 rfl) sB0 sF0) ?_
                                                      refine AL_cons (LR_pick (b := true) (at_tmp 160 _) (at_c (v' := Bl true) rfl) (at_tmp 162 _) rfl) (sS (sA (sT1 rfl) (sA sT0 (sT1 rfl))) sB0 sF0) ?_
                                                      exact AL_nil ⟨rfl, weak0 ((sT rfl (sT rfl (sT rfl (sT rfl (sT rfl (sT rfl (sT rfl (sT rfl (sT rfl (sT rfl (sT rfl (sT rfl (sT rfl (sT rfl (sT rfl sT0)))))))))))))))) (sub_keep sub_nil)⟩
                                                  refine AL_nil ?_
                                                  exact thenN (cutLeaf (v := (decide (x22 < (x20.length : Int))) || (x22 == 0)) hr (weak0 ((sT rfl (sT rfl (sT rfl (sT rfl (sT rfl (sT rfl (sT rfl (sT rfl (sT rfl (sT rfl sT0))))))))))) (sub_keep sub_nil)))
                                                · rintro x23 hr
                                                  show AW Hfaa.prog _ _ _ ⟨[(0, .inl (is (Sv a0))), (2, .inr (.inl (2, 0))), (3, .inl (is (I64 x19))), (4, .inl (is (Bl x3))), (6, .inl (is (Sv x20))), (8, .inl (is (Sv x10))), (9, .inl (is (Sv x11))), (13, .inl (is (Bl x21))), (14, .inl (is (I64 x22))), (163, .inl (is (Bl x23)))], [(2, pb 307 [is (U8 (0#8)), is (Bl false), is (Sv ([] : List UInt8)), is (I16 0), is (I64 0), is (I32 0)])]⟩
                                                  have hr : some r = F304_18 N a0 x3 x10 x11 x19 x20 x21 x22 x23 := hr
                                                  refine AW_condT (b := x23) rfl (fun h => ?_) (fun h => ?_)
                                                  · have hr := hr.trans (cond_t h)
                                                    clear h
                                                    refine AW_seq1 ?_
                                                    refine AW_region ?_
                                                    refine AL_cons (LR_move (at_tmp 0 _) rfl) (sS (sT1 rfl) sB0 sF0) ?_
                                                    refine AL_cons (LR_move (at_tmp 3 _) rfl) (sS (sT1 rfl) sB0 sF0) ?_
                                                    refine AL_cons (LR_move (at_tmp 14 _) rfl) (sS (sT1 rfl) sB0 sF0) ?_
                                                    refine AL_cons (LR_bin (at_tmp 165 _) (at_tmp 166 _) (add_I64 x19 x22) rfl) (sS (sA (sT1 rfl) (sT1 rfl)) sB0 sF0) ?_
                                                    obtain ⟨y35, hy35, hr⟩ := bind_some hr
                                                    refine AL_cons (LR_call Hfaa.func380 rfl rfl (C380 N a0 (w64 (x19 + x22)) y35 hy35) (all_cons (at_tmp 164 _) (all_cons (at_tmp 167 _) all_nil)) rfl) (sS (sA (sT1 rfl) (sA (sT1 rfl) sT0)) sB0 sF0) ?_
                                                    refine AL_cons (LR_store (at_tmp 2 _) (at_tmp 168 _) (cells_agg _) (onC (one_is rfl) (onC (one_is rfl) (onC (one_is rfl) (onC (one_is rfl) (onC (one_is rfl) (onC (one_is rfl) onN)))))) sz307 rfl rfl) (sS (sA (sT1 rfl) (sT1 rfl)) (sB1 rfl) sF0) ?_
                                                    refine AL_nil ?_
                                                    refine thenN ?_
                                                    refine AW_ret ?_
                                                    refine thenR ?_
                                                    obtain rfl := Option.some.inj hr
                                                    exact res1 rfl (rvC rfl rfl ag307 sz307 rfl)
                                                  · have hr := hr.trans (cond_f h)
                                                    clear h
                                                    refine AW_skip ?_
                                                    refine thenN ?_
                                                    refine AW_seq1 ?_
                                                    refine AW_region ?_
                                                    refine AL_cons (LR_assign (at_c (v' := I64 0) rfl) rfl) (sS sT0 sB0 sF0) ?_
                                                    refine AL_nil ?_
                                                    refine thenN ?_
                                                    refine AW_cut (σ := Int) (fun v => ⟨[(2, .inr (.inl (2, 0))), (4, .inl (is (Bl x3))), (8, .inl (is (Sv x10))), (9, .inl (is (Sv x11))), (13, .inl (is (Bl x21))), (15, .inl (is (I64 v)))], [(2, pb 307 [is (U8 (0#8)), is (Bl false), is (Sv ([] : List UInt8)), is (I16 0), is (I64 0), is (I32 0)])]⟩) (fun v => some r = F304_19 N x3 x10 x11 x21 v) ?_ ?_
                                                    · skip
                                                      refine AW_seq1 ?_
                                                      refine AW_region ?_
                                                      refine AL_cons (LR_assign (at_c (v' := I64 0) rfl) rfl) (sS sT0 sB0 sF0) ?_
                                                      refine AL_nil ?_
                                                      refine thenN ?_
                                                      refine AW_block ?_
                                                      refine AW_iterR (σ := Int × Int) (r := r) (x0 := (0, 0)) (emb := fun v => ⟨[(2, .inr (.inl (2, 0))), (4, .inl (is (Bl x3))), (6, .inl (is (Sv x20))), (8, .inl (is (Sv x10))), (9, .inl (is (Sv x11))), (13, .inl (is (Bl x21))), (15, .inl (is (I64 v.1))), (16, .inl (is (I64 v.2)))], [(2, pb 307 [is (U8 (0#8)), is (Bl false), is (Sv ([] : List UInt8)), is (I16 0), is (I64 0), is (I32 0)])]⟩) ?_ hr ?_
                                                      · exact weak0 ((sT rfl (sT rfl (sT rfl (sT rfl (sT rfl (sT rfl (sT rfl (sT rfl sT0))))))))) (sub_keep sub_nil)
                                                      rintro ⟨x31, x32⟩ out2 hr
                                                      show AW Hfaa.prog _ _ _ ⟨[(2, .inr (.inl (2, 0))), (4, .inl (is (Bl x3))), (6, .inl (is (Sv x20))), (8, .inl (is (Sv x10))), (9, .inl (is (Sv x11))), (13, .inl (is (Bl x21))), (15, .inl (is (I64 x31))), (16, .inl (is (I64 x32)))], [(2, pb 307 [is (U8 (0#8)), is (Bl false), is (Sv ([] : List UInt8)), is (I16 0), is (I64 0), is (I32 0)])]⟩
                                                      have hr : some out2 = F304_L23b N x3 x10 x11 x20 x21 x31 x32 := hr
                                                      refine AW_seq1 ?_
                                                      refine AW_cut (σ := Bool) (fun v => ⟨[(2, .inr (.inl (2, 0))), (4, .inl (is (Bl x3))), (6, .inl (is (Sv x20))), (8, .inl (is (Sv x10))), (9, .inl (is (Sv x11))), (13, .inl (is (Bl x21))), (15, .inl (is (I64 x31))), (16, .inl (is (I64 x32))), (172, .inl (is (Bl v)))], [(2, pb 307 [is (U8 (0#8)), is (Bl false), is (Sv ([] : List UInt8)), is (I16 0), is (I64 0), is (I32 0)])]⟩) (fun v => some out2 = F304_24 N x3 x10 x11 x20 x21 x31 x32 v) ?_ ?_
                                                      · skip
                                                        refine AW_region ?_
                                                        refine AL_cons (LR_move (at_tmp 16 _) rfl) (sS (sT1 rfl) sB0 sF0) ?_
                                                        refine AL_cons (LR_move (at_tmp 6 _) rfl) (sS (sT1 rfl) sB0 sF0) ?_
                                                        refine AL_cons (LR_bi1 (at_tmp 170 _) (len_S Hfaa.underlying9 x20) rfl) (sS (sT1 rfl) sB0 sF0) ?_
                                                        refine AL_cons (LR_bin (at_tmp 169 _) (at_tmp 171 _) (lss_I64 x32 (x20.length : Int)) rfl) (sS (sA (sT1 rfl) (sT1 rfl)) sB0 sF0) ?_
                                                        refine AL_nil ?_
                                                        exact thenN (cutLeaf (v := decide (x32 < (x20.length : Int))) hr (weak0 ((sT rfl (sT rfl (sT rfl (sT rfl (sT rfl (sT rfl (sT rfl (sT rfl (sT rfl sT0)))))))))) (sub_keep sub_nil)))
                                                      · rintro x33 hr
                                                        show AW Hfaa.prog _ _ _ ⟨[(2, .inr (.inl (2, 0))), (4, .inl (is (Bl x3))), (6, .inl (is (Sv x20))), (8, .inl (is (Sv x10))), (9, .inl (is (Sv x11))), (13, .inl (is (Bl x21))), (15, .inl (is (I64 x31))), (16, .inl (is (I64 x32))), (172, .inl (is (Bl x33)))], [(2, pb 307 [is (U8 (0#8)), is (Bl false), is (Sv ([] : List UInt8)), is (I16 0), is (I64 0), is (I32 0)])]⟩
                                                        have hr : some out2 = F304_24 N x3 x10 x11 x20 x21 x31 x32 x33 := hr
                                                        refine AW_condT (b := x33) rfl (fun h => ?_) (fun h => ?_)
                                                        · have hr := hr.trans (cond_t h)
                                                          clear h
                                                          refine AW_skip ?_
                                                          refine thenN ?_
                                                          refine AW_cut (σ := Int) (fun v => ⟨[(2, .inr (.inl (2, 0))), (4, .inl (is (Bl x3))), (6, .inl (is (Sv x20))), (8, .inl (is (Sv x10))), (9, .inl (is (Sv x11))), (13, .inl (is (Bl x21))), (15, .inl (is (I64 v))), (16, .inl (is (I64 x32)))], [(2, pb 307 [is (U8 (0#8)), is (Bl false), is (Sv ([] : List UInt8)), is (I16 0), is (I64 0), is (I32 0)])]⟩) (fun v => some out2 = F304_25 N x3 x10 x11 x20 x21 x32 v) ?_ ?_
                                                          · skip
                                                            refine AW_block ?_
                                                            refine AW_region ?_
                                                            refine AL_cons (LR_move (at_tmp 15 _) rfl) (sS (sT1 rfl) sB0 sF0) ?_
                                                            refine AL_cons (LR_bin (at_c (v' := I64 10) rfl) (at_tmp 175 _) (mul_I64 10 x31) rfl) (sS (sA sT0 (sT1 rfl)) sB0 sF0) ?_
                                                            refine AL_cons (LR_move (at_tmp 6 _) rfl) (sS (sT1 rfl) sB0 sF0) ?_
                                                            refine AL_cons (LR_move (at_tmp 16 _) rfl) (sS (sT1 rfl) sB0 sF0) ?_
                                                            obtain ⟨hg46, hr⟩ := guard_some hr
                                                            refine AL_cons (LR_indexS (i := (x32 : Int)) Hfaa.underlying9 (at_tmp 177 _) (at_tmp 178 _) (dand hg46) rfl) (sS (sA (sT1 rfl) (sT1 rfl)) sB0 sF0) ?_
                                                            refine AL_cons (LR_bin (at_tmp 179 _) (at_c (v' := U8 (48#8)) rfl) (sub_U8 ((x20.getD ((x32 : Int)).toNat 0).toBitVec) (48#8)) rfl) (sS (sA (sT1 rfl) sT0) sB0 sF0) ?_
                                                            refine AL_cons (LR_conv (vx := U8 (((x20.getD ((x32 : Int)).toNat 0).toBitVec) - (48#8))) (at_tmp 180 _) (conv_I64 Hfaa.underlying5 Hfaa.underlying3 ((((x20.getD ((x32 : Int)).toNat 0).toBitVec) - (48#8)).toNat : Int)) rfl) (sS (sT1 rfl) sB0 sF0) ?_
                                                            refine AL_cons (LR_bin (at_tmp 176 _) (at_tmp 181 _) (add_I64 (w64 (10 * x31)) (w64 ((((x20.getD ((x32 : Int)).toNat 0).toBitVec) - (48#8)).toNat : Int))) rfl) (sS (sA (sT1 rfl) (sT1 rfl)) sB0 sF0) ?_
                                                            refine AL_cons (LR_bi2 (vx := I64 (w64 ((w64 (10 * x31)) + (w64 ((((x20.getD ((x32 : Int)).toNat 0).toBitVec) - (48#8)).toNat : Int))))) (vy := I64 1000000) (v := I64 (min (w64 ((w64 (10 * x31)) + (w64 ((((x20.getD ((x32 : Int)).toNat 0).toBitVec) - (48#8)).toNat : Int)))) 1000000)) (at_tmp 182 _) (at_c (v' := I64 1000000) rfl) (fun cs w => min_I .i64 (w64 ((w64 (10 * x31)) + (w64 ((((x20.getD ((x32 : Int)).toNat 0).toBitVec) - (48#8)).toNat : Int)))) 1000000 cs w) rfl) (sS (sA (sT1 rfl) sT0) sB0 sF0) ?_
                                                            refine AL_cons (LR_assign (at_tmp 183 _) rfl) (sS (sT1 rfl) sB0 sF0) ?_
                                                            refine AL_nil ?_
                                                            refine blN ?_
                                                            exact thenN (cutLeaf (v := min (w64 ((w64 (10 * x31)) + (w64 ((((x20.getD ((x32 : Int)).toNat 0).toBitVec) - (48#8)).toNat : Int)))) 1000000) hr (weak0 ((sT rfl (sT rfl (sT rfl (sT rfl (sT rfl (sT rfl (sT rfl (sT rfl sT0))))))))) (sub_keep sub_nil)))
                                                          · rintro x34 hr
                                                            show AW Hfaa.prog _ _ _ ⟨[(2, .inr (.inl (2, 0))), (4, .inl (is (Bl x3))), (6, .inl (is (Sv x20))), (8, .inl (is (Sv x10))), (9, .inl (is (Sv x11))), (13, .inl (is (Bl x21))), (15, .inl (is (I64 x34))), (16, .inl (is (I64 x32)))], [(2, pb 307 [is (U8 (0#8)), is (Bl false), is (Sv ([] : List UInt8)), is (I16 0), is (I64 0), is (I32 0)])]⟩
                                                            have hr : some out2 = F304_25 N x3 x10 x11 x20 x21 x32 x34 := hr
                                                            refine AW_region ?_
                                                            refine AL_cons (LR_move (at_tmp 16 _) rfl) (sS (sT1 rfl) sB0 sF0) ?_
                                                            refine AL_cons (LR_bin (at_tmp 173 _) (at_c (v' := I64 1) rfl) (add_I64 x32 1) rfl) (sS (sA (sT1 rfl) sT0) sB0 sF0) ?_
                                                            refine AL_cons (LR_assign (at_tmp 174 _) rfl) (sS (sT1 rfl) sB0 sF0) ?_
                                                            refine AL_nil ?_
                                                            exact thenN (loopNext (x' := (x34, w64 (x32 + 1))) hr (weak0 ((sT rfl (sT rfl (sT rfl (sT rfl (sT rfl (sT rfl (sT rfl (sT rfl sT0))))))))) (sub_keep sub_nil)))
                                                        · have hr := hr.trans (cond_f h)
                                                          clear h
                                                          refine AW_exit ?_
                                                          refine thenX ?_
                                                          obtain ⟨r', hro, hr⟩ := map_inr hr
                                                          refine thenX (loopOut hro (fun he => ?_))
                                                          rw [he] at hr
                                                          refine blH ?_
                                                          exact thenN (cutLeaf (v := x31) hr (weak0 ((sT rfl (sT rfl (sT rfl (sT rfl (sT rfl (sT rfl sT0))))))) (sub_keep sub_nil)))
                                                    · rintro x24 hr
                                                      show AW Hfaa.prog _ _ _ ⟨[(2, .inr (.inl (2, 0))), (4, .inl (is (Bl x3))), (8, .inl (is (Sv x10))), (9, .inl (is (Sv x11))), (13, .inl (is (Bl x21))), (15, .inl (is (I64 x24)))], [(2, pb 307 [is (U8 (0#8)), is (Bl false), is (Sv ([] : List UInt8)), is (I16 0), is (I64 0), is (I32 0)])]⟩
                                                      have hr : some r = F304_19 N x3 x10 x11 x21 x24 := hr
                                                      refine AW_cut (σ := Int) (fun v => ⟨[(2, .inr (.inl (2, 0))), (4, .inl (is (Bl x3))), (8, .inl (is (Sv x10))), (9, .inl (is (Sv x11))), (15, .inl (is (I64 v)))], [(2, pb 307 [is (U8 (0#8)), is (Bl false), is (Sv ([] : List UInt8)), is (I16 0), is (I64 0), is (I32 0)])]⟩) (fun v => some r = F304_20 N x3 x10 x11 v) ?_ ?_
                                                      · skip
                                                        refine AW_seq1 ?_
                                                        refine AW_region ?_
                                                        refine AL_cons (LR_move (at_tmp 13 _) rfl) (sS (sT1 rfl) sB0 sF0) ?_
                                                        refine AL_nil ?_
                                                        refine thenN ?_
                                                        refine AW_condT (b := x21) rfl (fun h => ?_) (fun h => ?_)
                                                        · have hr := hr.trans (cond_t h)
                                                          clear h
                                                          refine AW_region ?_
                                                          refine AL_cons (LR_move (at_tmp 15 _) rfl) (sS (sT1 rfl) sB0 sF0) ?_
                                                          refine AL_cons (LR_un (at_tmp 185 _) (neg_I64 x24) rfl) (sS (sT1 rfl) sB0 sF0) ?_
                                                          refine AL_cons (LR_assign (at_tmp 186 _) rfl) (sS (sT1 rfl) sB0 sF0) ?_
                                                          refine AL_nil ?_
                                                          exact thenN (cutLeaf (v := w64 (0 - x24)) hr (weak0 ((sT rfl (sT rfl (sT rfl (sT rfl (sT rfl sT0)))))) (sub_keep sub_nil)))
                                                        · have hr := hr.trans (cond_f h)
                                                          clear h
                                                          refine AW_skip ?_
                                                          exact thenN (cutLeaf (v := x24) hr (weak0 ((sT rfl (sT rfl (sT rfl (sT rfl (sT rfl sT0)))))) (sub_keep sub_nil)))
                                                      · rintro x25 hr
                                                        show AW Hfaa.prog _ _ _ ⟨[(2, .inr (.inl (2, 0))), (4, .inl (is (Bl x3))), (8, .inl (is (Sv x10))), (9, .inl (is (Sv x11))), (15, .inl (is (I64 x25)))], [(2, pb 307 [is (U8 (0#8)), is (Bl false), is (Sv ([] : List UInt8)), is (I16 0), is (I64 0), is (I32 0)])]⟩
                                                        have hr : some r = F304_20 N x3 x10 x11 x25 := hr
                                                        refine AW_cut (σ := Bool × Bool × List UInt8 × Int) (fun v => ⟨[(2, .inr (.inl (2, 0))), (17, .inr (.inl (17, 0))), (18, .inl (is (Bl v.1)))], [(2, pb 307 [is (U8 (0#8)), is (Bl false), is (Sv ([] : List UInt8)), is (I16 0), is (I64 0), is (I32 0)]), (17, pb 151 [is (Bl v.2.1), is (Sv v.2.2.1), is (I16 v.2.2.2)])]⟩) (fun v => some r = F304_21 N v.1 v.2.1 v.2.2.1 v.2.2.2) ?_ ?_
                                                        · skip
                                                          refine AW_region ?_
                                                          refine AL_cons (LR_move (at_tmp 4 _) rfl) (sS (sT1 rfl) sB0 sF0) ?_
                                                          refine AL_cons (LR_move (at_tmp 8 _) rfl) (sS (sT1 rfl) sB0 sF0) ?_
                                                          refine AL_cons (LR_move (at_tmp 9 _) rfl) (sS (sT1 rfl) sB0 sF0) ?_
                                                          obtain ⟨hg42, hr⟩ := guard_some hr
                                                          refine AL_cons (LR_bin (at_tmp 189 _) (at_tmp 190 _) (add_S x10 x11 (of_decide_eq_true hg42)) rfl) (sS (sA (sT1 rfl) (sT1 rfl)) sB0 sF0) ?_
                                                          refine AL_cons (LR_move (at_tmp 15 _) rfl) (sS (sT1 rfl) sB0 sF0) ?_
                                                          refine AL_cons (LR_move (at_tmp 9 _) rfl) (sS (sT1 rfl) sB0 sF0) ?_
                                                          refine AL_cons (LR_bi1 (at_tmp 193 _) (len_S Hfaa.underlying9 x11) rfl) (sS (sT1 rfl) sB0 sF0) ?_
                                                          refine AL_cons (LR_bin (at_c (v' := I64 4) rfl) (at_tmp 194 _) (mul_I64 4 (x11.length : Int)) rfl) (sS (sA sT0 (sT1 rfl)) sB0 sF0) ?_
                                                          refine AL_cons (LR_bin (at_tmp 192 _) (at_tmp 195 _) (sub_I64 x25 (w64 (4 * (x11.length : Int)))) rfl) (sS (sA (sT1 rfl) (sT1 rfl)) sB0 sF0) ?_
                                                          obtain ⟨y37, hy37, hr⟩ := bind_some hr
                                                          refine AL_cons (LR_call Hfaa.func284 rfl rfl (C284 N x3 (x10 ++ x11) (w64 (x25 - (w64 (4 * (x11.length : Int))))) y37 hy37) (all_cons (at_tmp 188 _) (all_cons (at_tmp 191 _) (all_cons (at_tmp 196 _) all_nil))) rfl) (sS (sA (sT1 rfl) (sA (sT1 rfl) (sA (sT1 rfl) sT0))) sB0 sF0) ?_
                                                          refine AL_cons (LR_move (at_tmp 197 _) rfl) (sS (sT1 rfl) sB0 sF0) ?_
                                                          refine AL_cons (LR_extract (at_tmp 187 _) rfl rfl) (sS (sT1 rfl) sB0 sF0) ?_
                                                          refine AL_cons (LR_extract (at_tmp 187 _) rfl rfl) (sS (sT1 rfl) sB0 sF0) ?_
                                                          refine AL_cons (zl151 rfl) (sS sT0 sB0 (sF1 rfl)) ?_
                                                          refine AL_cons (LR_store (at_tmp 17 _) (at_tmp 198 _) (cells_agg _) (onC (one_is rfl) (onC (one_is rfl) (onC (one_is rfl) onN))) sz151 rfl rfl) (sS (sA (sT1 rfl) (sT1 rfl)) (sB1 rfl) sF0) ?_
                                                          refine AL_cons (LR_assign (at_tmp 199 _) rfl) (sS (sT1 rfl) sB0 sF0) ?_
                                                          refine AL_nil ?_
                                                          exact thenN (cutLeaf (v := (y37.2.2.2, y37.1, y37.2.1, y37.2.2.1)) hr (weak0 ((sT rfl (sT rfl (sT rfl sT0)))) (sub_keep (sub_keep sub_nil))))
                                                        · rintro ⟨x26, x27, x28, x29⟩ hr
                                                          show AW Hfaa.prog _ _ _ ⟨[(2, .inr (.inl (2, 0))), (17, .inr (.inl (17, 0))), (18, .inl (is (Bl x26)))], [(2, pb 307 [is (U8 (0#8)), is (Bl false), is (Sv ([] : List UInt8)), is (I16 0), is (I64 0), is (I32 0)]), (17, pb 151 [is (Bl x27), is (Sv x28), is (I16 x29)])]⟩
                                                          have hr : some r = F304_21 N x26 x27 x28 x29 := hr
                                                          refine AW_seq1 ?_
                                                          refine AW_cut (σ := Bool) (fun v => ⟨[(2, .inr (.inl (2, 0))), (17, .inr (.inl (17, 0))), (201, .inl (is (Bl v)))], [(2, pb 307 [is (U8 (0#8)), is (Bl false), is (Sv ([] : List UInt8)), is (I16 0), is (I64 0), is (I32 0)]), (17, pb 151 [is (Bl x27), is (Sv x28), is (I16 x29)])]⟩) (fun v => some r = F304_22 N x27 x28 x29 v) ?_ ?_
                                                          · skip
                                                            refine AW_region ?_
                                                            refine AL_cons (LR_move (at_tmp 18 _) rfl) (sS (sT1 rfl) sB0 sF0) ?_
                                                            refine AL_cons (LR_un (at_tmp 200 _) (not_Bl x26) rfl) (sS (sT1 rfl) sB0 sF0) ?_
                                                            refine AL_nil ?_
                                                            exact thenN (cutLeaf (v := !x26) hr (weak0 ((sT rfl (sT rfl (sT rfl sT0)))) (sub_keep (sub_keep sub_nil))))
                                                          · rintro x30 hr
                                                            show AW Hfaa.prog _ _ _ ⟨[(2, .inr (.inl (2, 0))), (17, .inr (.inl (17, 0))), (201, .inl (is (Bl x30)))], [(2, pb 307 [is (U8 (0#8)), is (Bl false), is (Sv ([] : List UInt8)), is (I16 0), is (I64 0), is (I32 0)]), (17, pb 151 [is (Bl x27), is (Sv x28), is (I16 x29)])]⟩
                                                            have hr : some r = F304_22 N x27 x28 x29 x30 := hr
                                                            refine AW_condT (b := x30) rfl (fun h => ?_) (fun h => ?_)
                                                            · have hr := hr.trans (cond_t h)
                                                              clear h
                                                              refine AW_seq1 ?_
                                                              refine AW_region ?_
                                                              refine AL_cons (bl307 (parts_cons (i := 0) (off := 0) (at_c (v' := U8 (4#8)) rfl) (cells_one (one_is rfl)) rfl rfl parts_nil) rfl rfl) (sS (sA sT0 sT0) sB0 sF0) ?_
                                                              refine AL_cons (LR_store (at_tmp 2 _) (at_tmp 202 _) (cells_agg _) (onC (one_is rfl) (onC (one_is rfl) (onC (one_is rfl) (onC (one_is rfl) (onC (one_is rfl) (onC (one_is rfl) onN)))))) sz307 rfl rfl) (sS (sA (sT1 rfl) (sT1 rfl)) (sB1 rfl) sF0) ?_
                                                              refine AL_nil ?_
                                                              refine thenN ?_
                                                              refine AW_ret ?_
                                                              refine thenR ?_
                                                              obtain rfl := Option.some.inj hr
                                                              exact res1 rfl (rvC rfl rfl ag307 sz307 rfl)
                                                            · have hr := hr.trans (cond_f h)
                                                              clear h
                                                              refine AW_skip ?_
                                                              refine thenN ?_
                                                              refine AW_seq1 ?_
                                                              refine AW_region ?_
                                                              refine AL_cons (LR_loads (at_tmp 17 _) ag151 sz151 rfl rfl rfl) (sS (sT1 rfl) (sB1 rfl) sF0) ?_
                                                              refine AL_cons (bl307 (parts_cons (i := 1) (off := 1) (at_tmp 203 _) (cells_agg _) rfl rfl parts_nil) rfl rfl) (sS (sA (sT1 rfl) sT0) sB0 sF0) ?_
                                                              refine AL_cons (LR_store (at_tmp 2 _) (at_tmp 204 _) (cells_agg _) (onC (one_is rfl) (onC (one_is rfl) (onC (one_is rfl) (onC (one_is rfl) (onC (one_is rfl) (onC (one_is rfl) onN)))))) sz307 rfl rfl) (sS (sA (sT1 rfl) (sT1 rfl)) (sB1 rfl) sF0) ?_
                                                              refine AL_nil ?_
                                                              refine thenN ?_
                                                              refine AW_ret ?_
                                                              obtain rfl := Option.some.inj hr
                                                              exact res1 rfl (rvC rfl rfl ag307 sz307 rfl)
end Go.Proofs.YfwaawGreat
