import Derived.Test.YfwaawGreatG1
import Derived.Test.YfwaawGreatG10
import Derived.Test.YfwaawGreatG29
import Derived.Test.YfwaawGreatG34
import Derived.Test.YfwaawGreatG35
import Derived.Test.YfwaawGreatG36
namespace Go.Proofs.YfwaawGreat
open Go.Aw
set_option linter.unusedVariables false
set_option maxRecDepth 100000
set_option maxHeartbeats 1000000
/-- (*parse/slow.big).isZero -/
def F369_1 (N : Nat) (b0_0 : Int) (b0_1 : Nat → BitVec 64) (x1 : BitVec 64) : Option (Bool × Int × (Nat → BitVec 64)) := some ((x1 == (0#64), b0_0, b0_1))
def F369_4 (N : Nat) (b0_0 : Int) (b0_1 : Nat → BitVec 64) (x3 : Int) (x5 : BitVec 64) : Option ((BitVec 64 × Int) ⊕ (Bool × Int × (Nat → BitVec 64))) := some (.inl ((x5, w64 (x3 + 1))))
def F369_5 (N : Nat) (b0_0 : Int) (b0_1 : Nat → BitVec 64) (x2 : BitVec 64) (x3 : Int) (x6 : BitVec 64) : Option ((BitVec 64 × Int) ⊕ (Bool × Int × (Nat → BitVec 64))) := F369_4 N b0_0 b0_1 x3 (x2 ||| x6)
def F369_3 (N : Nat) (b0_0 : Int) (b0_1 : Nat → BitVec 64) (x2 : BitVec 64) (x3 : Int) (x4 : Bool) : Option ((BitVec 64 × Int) ⊕ (Bool × Int × (Nat → BitVec 64))) := bif x4 then bif (decide (0 ≤ x3) && decide (x3 < (52 : Int))) then F369_5 N b0_0 b0_1 x2 x3 (b0_1 x3.toNat) else none else (F369_1 N b0_0 b0_1 x2).map Sum.inr
def F369_L2b (N : Nat) (b0_0 : Int) (b0_1 : Nat → BitVec 64) (x2 : BitVec 64) (x3 : Int) : Option ((BitVec 64 × Int) ⊕ (Bool × Int × (Nat → BitVec 64))) := F369_3 N b0_0 b0_1 x2 x3 (decide (x3 < 52))
def F369_L2 (N : Nat) (b0_0 : Int) (b0_1 : Nat → BitVec 64) : (BitVec 64 × Int) → Option ((BitVec 64 × Int) ⊕ (Bool × Int × (Nat → BitVec 64))) := fun v => F369_L2b N b0_0 b0_1 v.1 v.2
def F369 (N : Nat) (b0_0 : Int) (b0_1 : Nat → BitVec 64) : Option (Bool × Int × (Nat → BitVec 64)) := iterL (F369_L2 N b0_0 b0_1) N (0#64, 0)
theorem C369 (N : Nat) (b0_0 : Int) (b0_1 : Nat → BitVec 64) (r : Bool × Int × (Nat → BitVec 64)) (hr : some r = F369 N b0_0 b0_1) : FnB Hfaa.prog 369 [.inr (.inl (0, 0))] [(0, pb 261 (is (I64 b0_0) :: (ar U64 52 b0_1 ++ [])))] (is (Bl r.1)) [(0, pb 261 (is (I64 r.2.1) :: (ar U64 52 r.2.2 ++ [])))] := by
  refine fnB_intro Hfaa.func369 rfl rfl rfl rfl rfl ⟨hf_pb _ _, trivial⟩ ?_
  intro bn0 w0 H0
  refine AW_seq1 ?_
  refine AW_region ?_
  refine AL_cons (LR_assign (at_c (v' := Bl false) rfl) rfl) (sS sT0 sB0 sF0) ?_
  refine AL_nil ?_
  refine thenN ?_
  refine AW_seq1 ?_
  refine AW_region ?_
  refine AL_cons (LR_assign (at_c (v' := U64 (0#64)) rfl) rfl) (sS sT0 sB0 sF0) ?_
  refine AL_nil ?_
  refine thenN ?_
  refine AW_cut (σ := BitVec 64) (fun v => ⟨[(3, .inl (is (U64 v)))], [(0, pb 261 (is (I64 b0_0) :: (ar U64 52 b0_1 ++ [])))]⟩) (fun v => some r = F369_1 N b0_0 b0_1 v) ?_ ?_
  · skip
    refine AW_seq1 ?_
    refine AW_region ?_
    refine AL_cons (LR_move (at_tmp 0 _) rfl) (sS (sT1 rfl) sB0 sF0) ?_
    refine AL_cons (LR_nilCheck (at_tmp 6 _) rfl) (sS (sT1 rfl) sB0 sF0) ?_
    refine AL_cons (LR_fieldAddr (off := 0) (o := 1) (at_tmp 7 _) (fun b w => fa261_1 b 0 w) rfl) (sS (sT1 rfl) sB0 sF0) ?_
    refine AL_cons (LR_loads (at_tmp 8 _) ag259 sz259 (take_nil (tkS tkA)) (bleLen (lnC (lnA ln0)) rfl) rfl) (sS (sT1 rfl) (sB1 rfl) sF0) ?_
    refine AL_cons (LR_move (at_c (v' := I64 0) rfl) rfl) (sS sT0 sB0 sF0) ?_
    refine AL_nil ?_
    refine thenN ?_
    refine AW_block ?_
    refine AW_iterR (σ := BitVec 64 × Int) (r := r) (x0 := (0#64, 0)) (emb := fun v => ⟨[(3, .inl (is (U64 v.1))), (9, .inl (agg (ar U64 52 b0_1 ++ []))), (10, .inl (is (I64 v.2)))], [(0, pb 261 (is (I64 b0_0) :: (ar U64 52 b0_1 ++ [])))]⟩) ?_ hr ?_
    · exact weakB ((sT rfl (sT rfl (sT rfl sT0)))) (sub_keep sub_nil) rfl
    rintro ⟨x2, x3⟩ out2 hr
    show AW Hfaa.prog _ _ _ ⟨[(3, .inl (is (U64 x2))), (9, .inl (agg (ar U64 52 b0_1 ++ []))), (10, .inl (is (I64 x3)))], [(0, pb 261 (is (I64 b0_0) :: (ar U64 52 b0_1 ++ [])))]⟩
    have hr : some out2 = F369_L2b N b0_0 b0_1 x2 x3 := hr
    refine AW_cut (σ := Bool) (fun v => ⟨[(3, .inl (is (U64 x2))), (9, .inl (agg (ar U64 52 b0_1 ++ []))), (10, .inl (is (I64 x3))), (11, .inl (is (Bl v)))], [(0, pb 261 (is (I64 b0_0) :: (ar U64 52 b0_1 ++ [])))]⟩) (fun v => some out2 = F369_3 N b0_0 b0_1 x2 x3 v) ?_ ?_
    · skip
      refine AW_region ?_
      refine AL_cons (LR_bin (at_tmp 10 _) (at_c (v' := I64 52) rfl) (lss_I64 x3 52) rfl) (sS (sA (sT1 rfl) sT0) sB0 sF0) ?_
      refine AL_nil ?_
      exact thenN (cutLeaf (v := decide (x3 < 52)) hr (weakB ((sT rfl (sT rfl (sT rfl (sT rfl sT0))))) (sub_keep sub_nil) rfl))
    · rintro x4 hr
      show AW Hfaa.prog _ _ _ ⟨[(3, .inl (is (U64 x2))), (9, .inl (agg (ar U64 52 b0_1 ++ []))), (10, .inl (is (I64 x3))), (11, .inl (is (Bl x4)))], [(0, pb 261 (is (I64 b0_0) :: (ar U64 52 b0_1 ++ [])))]⟩
      have hr : some out2 = F369_3 N b0_0 b0_1 x2 x3 x4 := hr
      refine AW_seq1 ?_
      refine AW_condT (b := x4) rfl (fun h => ?_) (fun h => ?_)
      · have hr := hr.trans (cond_t h)
        clear h
        refine AW_skip ?_
        refine thenN ?_
        refine AW_cut (σ := BitVec 64) (fun v => ⟨[(3, .inl (is (U64 v))), (9, .inl (agg (ar U64 52 b0_1 ++ []))), (10, .inl (is (I64 x3)))], [(0, pb 261 (is (I64 b0_0) :: (ar U64 52 b0_1 ++ [])))]⟩) (fun v => some out2 = F369_4 N b0_0 b0_1 x3 v) ?_ ?_
        · skip
          refine AW_block ?_
          refine AW_cut (σ := BitVec 64) (fun v => ⟨[(3, .inl (is (U64 x2))), (9, .inl (agg (ar U64 52 b0_1 ++ []))), (10, .inl (is (I64 x3))), (5, .inl (is (U64 v)))], [(0, pb 261 (is (I64 b0_0) :: (ar U64 52 b0_1 ++ [])))]⟩) (fun v => some out2 = F369_5 N b0_0 b0_1 x2 x3 v) ?_ ?_
          · skip
            refine AW_region ?_
            obtain ⟨hg16, hr⟩ := guard_some hr
            refine AL_cons (LR_indexA Hfaa.underlying259 sz30 na30 (at_agg0 (at_tmp 9 _)) (at_tmp 10 _) (dand hg16) rfl) (sS (sA (sT1 rfl) (sT1 rfl)) sB0 sF0) ?_
            refine AL_cons (LR_assign (at_tmp 12 _) rfl) (sS (sT1 rfl) sB0 sF0) ?_
            refine AL_nil ?_
            exact thenN (cutLeaf (v := b0_1 x3.toNat) hr (weakB ((sT rfl (sT rfl (sT rfl (sT rfl sT0))))) (sub_keep sub_nil) rfl))
          · rintro x6 hr
            show AW Hfaa.prog _ _ _ ⟨[(3, .inl (is (U64 x2))), (9, .inl (agg (ar U64 52 b0_1 ++ []))), (10, .inl (is (I64 x3))), (5, .inl (is (U64 x6)))], [(0, pb 261 (is (I64 b0_0) :: (ar U64 52 b0_1 ++ [])))]⟩
            have hr : some out2 = F369_5 N b0_0 b0_1 x2 x3 x6 := hr
            refine AW_region ?_
            refine AL_cons (LR_move (at_tmp 3 _) rfl) (sS (sT1 rfl) sB0 sF0) ?_
            refine AL_cons (LR_move (at_tmp 5 _) rfl) (sS (sT1 rfl) sB0 sF0) ?_
            refine AL_cons (LR_bin (at_tmp 13 _) (at_tmp 14 _) (or_U64 x2 x6) rfl) (sS (sA (sT1 rfl) (sT1 rfl)) sB0 sF0) ?_
            refine AL_cons (LR_assign (at_tmp 15 _) rfl) (sS (sT1 rfl) sB0 sF0) ?_
            refine AL_nil ?_
            refine blN ?_
            exact thenN (cutLeaf (v := x2 ||| x6) hr (weakB ((sT rfl (sT rfl (sT rfl sT0)))) (sub_keep sub_nil) rfl))
        · rintro x5 hr
          show AW Hfaa.prog _ _ _ ⟨[(3, .inl (is (U64 x5))), (9, .inl (agg (ar U64 52 b0_1 ++ []))), (10, .inl (is (I64 x3)))], [(0, pb 261 (is (I64 b0_0) :: (ar U64 52 b0_1 ++ [])))]⟩
          have hr : some out2 = F369_4 N b0_0 b0_1 x3 x5 := hr
          refine AW_region ?_
          refine AL_cons (LR_bin (at_tmp 10 _) (at_c (v' := I64 1) rfl) (add_I64 x3 1) rfl) (sS (sA (sT1 rfl) sT0) sB0 sF0) ?_
          refine AL_cons (LR_move (at_tmp 16 _) rfl) (sS (sT1 rfl) sB0 sF0) ?_
          refine AL_nil ?_
          exact thenN (loopNext (x' := (x5, w64 (x3 + 1))) hr (weakB ((sT rfl (sT rfl (sT rfl sT0)))) (sub_keep sub_nil) rfl))
      · have hr := hr.trans (cond_f h)
        clear h
        refine AW_exit ?_
        refine thenX ?_
        obtain ⟨r', hro, hr⟩ := map_inr hr
        refine thenX (loopOut hro (fun he => ?_))
        rw [he] at hr
        refine blH ?_
        exact thenN (cutLeaf (v := x2) hr (weakB ((sT rfl sT0)) (sub_keep sub_nil) rfl))
  · rintro x1 hr
    show AW Hfaa.prog _ _ _ ⟨[(3, .inl (is (U64 x1)))], [(0, pb 261 (is (I64 b0_0) :: (ar U64 52 b0_1 ++ [])))]⟩
    have hr : some r = F369_1 N b0_0 b0_1 x1 := hr
    refine AW_seq1 ?_
    refine AW_region ?_
    refine AL_cons (LR_move (at_tmp 3 _) rfl) (sS (sT1 rfl) sB0 sF0) ?_
    refine AL_cons (LR_bin (at_tmp 17 _) (at_c (v' := U64 (0#64)) rfl) (eql_U64 x1 (0#64)) rfl) (sS (sA (sT1 rfl) sT0) sB0 sF0) ?_
    refine AL_cons (LR_assign (at_tmp 18 _) rfl) (sS (sT1 rfl) sB0 sF0) ?_
    refine AL_nil ?_
    refine thenN ?_
    refine AW_ret ?_
    obtain rfl := Option.some.inj hr
    exact ⟨res1 rfl (rvT rfl), (sub_keep sub_nil)⟩
/-- parse/slow.quotient -/
def F269_12 (N : Nat) (x10 : Int) (x31 : Int) (x32 : Nat → BitVec 64) (x33 : BitVec 64) (x34 : Int) (x35 : Nat → BitVec 64) : Option (BitVec 64 × Int × Int × (Nat → BitVec 64) × Int × (Nat → BitVec 64)) := some ((x33, w64 (x10 - 64), x34, x35, x31, x32))
def F269_13 (N : Nat) (x10 : Int) (x28 : BitVec 64) (x31 : Int) (x32 : Nat → BitVec 64) (x36 : Bool) (x37 : Int) (x38 : Nat → BitVec 64) : Option (BitVec 64 × Int × Int × (Nat → BitVec 64) × Int × (Nat → BitVec 64)) := bif x36 then F269_12 N x10 x31 x32 (x28 ||| (1#64)) x37 x38 else F269_12 N x10 x31 x32 x28 x37 x38
def F269_11 (N : Nat) (x10 : Int) (x28 : BitVec 64) (x29 : Int) (x30 : Nat → BitVec 64) (x31 : Int) (x32 : Nat → BitVec 64) : Option (BitVec 64 × Int × Int × (Nat → BitVec 64) × Int × (Nat → BitVec 64)) := (F369 N x29 x30).bind fun y25 => F269_13 N x10 x28 x31 x32 (!y25.1) y25.2.1 y25.2.2
def F269_16 (N : Nat) (x10 : Int) (x44 : BitVec 64) (x50 : Bool) (x51 : Int) (x52 : Nat → BitVec 64) (x53 : Int) (x54 : Nat → BitVec 64) : Option ((BitVec 64 × Bool × Int × (Nat → BitVec 64) × Int × (Nat → BitVec 64)) ⊕ (BitVec 64 × Int × Int × (Nat → BitVec 64) × Int × (Nat → BitVec 64))) := some (.inl ((x44 - (1#64), x50, x51, x52, x53, x54)))
def F269_L15b (N : Nat) (x10 : Int) (x44 : BitVec 64) (x45 : Bool) (x46 : Int) (x47 : Nat → BitVec 64) (x48 : Int) (x49 : Nat → BitVec 64) : Option ((BitVec 64 × Bool × Int × (Nat → BitVec 64) × Int × (Nat → BitVec 64)) ⊕ (BitVec 64 × Int × Int × (Nat → BitVec 64) × Int × (Nat → BitVec 64))) := bif x45 then (F368 N x46 x47 x48 x49).bind fun y32 => F269_16 N x10 x44 (!y32.1) y32.2.1 y32.2.2.1 y32.2.2.2.1 y32.2.2.2.2 else (F269_11 N x10 x44 x46 x47 x48 x49).map Sum.inr
def F269_L15 (N : Nat) (x10 : Int) : (BitVec 64 × Bool × Int × (Nat → BitVec 64) × Int × (Nat → BitVec 64)) → Option ((BitVec 64 × Bool × Int × (Nat → BitVec 64) × Int × (Nat → BitVec 64)) ⊕ (BitVec 64 × Int × Int × (Nat → BitVec 64) × Int × (Nat → BitVec 64))) := fun v => F269_L15b N x10 v.1 v.2.1 v.2.2.1 v.2.2.2.1 v.2.2.2.2.1 v.2.2.2.2.2
def F269_14 (N : Nat) (x10 : Int) (x25 : BitVec 64) (x39 : Bool) (x40 : Int) (x41 : Nat → BitVec 64) (x42 : Int) (x43 : Nat → BitVec 64) : Option (BitVec 64 × Int × Int × (Nat → BitVec 64) × Int × (Nat → BitVec 64)) := iterL (F269_L15 N x10) N (x25, x39, x40, x41, x42, x43)
def F269_10 (N : Nat) (x10 : Int) (x20 : Int) (x21 : Nat → BitVec 64) (x25 : BitVec 64) (x26 : Int) (x27 : Nat → BitVec 64) : Option (BitVec 64 × Int × Int × (Nat → BitVec 64) × Int × (Nat → BitVec 64)) := (F367 N x26 x27 x20 x21 x25).bind fun y33 => F269_14 N x10 x25 y33.1 y33.2.1 y33.2.2.1 y33.2.2.2.1 y33.2.2.2.2
def F269_9 (N : Nat) (x10 : Int) (x18 : Int) (x19 : Nat → BitVec 64) (x20 : Int) (x21 : Nat → BitVec 64) (x25 : BitVec 64) : Option (BitVec 64 × Int × Int × (Nat → BitVec 64) × Int × (Nat → BitVec 64)) := (F365 N x18 x19 64).bind fun y34 => F269_10 N x10 x20 x21 x25 y34.1 y34.2
def F269_17 (N : Nat) (x10 : Int) (x18 : Int) (x19 : Nat → BitVec 64) (x20 : Int) (x21 : Nat → BitVec 64) (x23 : BitVec 64) (x55 : Bool) : Option (BitVec 64 × Int × Int × (Nat → BitVec 64) × Int × (Nat → BitVec 64)) := bif x55 then F269_9 N x10 x18 x19 x20 x21 (18446744073709551615#64) else F269_9 N x10 x18 x19 x20 x21 x23
def F269_8 (N : Nat) (x10 : Int) (x18 : Int) (x19 : Nat → BitVec 64) (x20 : Int) (x21 : Nat → BitVec 64) (x23 : BitVec 64) (x24 : Bool) : Option (BitVec 64 × Int × Int × (Nat → BitVec 64) × Int × (Nat → BitVec 64)) := F269_17 N x10 x18 x19 x20 x21 x23 (!x24)
def F269_7 (N : Nat) (x10 : Int) (x18 : Int) (x19 : Nat → BitVec 64) (x20 : Int) (x21 : Nat → BitVec 64) (x22 : BitVec 64) : Option (BitVec 64 × Int × Int × (Nat → BitVec 64) × Int × (Nat → BitVec 64)) := bif (decide (0 ≤ w64 (x20 - 1)) && decide (w64 (x20 - 1) < (52 : Int))) then bif (decide (0 ≤ w64 (x20 - 1)) && decide (w64 (x20 - 1) < (52 : Int))) then (F280 N (x19 ((w64 (x20 - 1)).toNat)) x22 (x21 ((w64 (x20 - 1)).toNat))).bind fun y35 => F269_8 N x10 x18 x19 x20 x21 y35.1 y35.2.2 else none else none
def F269_18 (N : Nat) (x10 : Int) (x18 : Int) (x19 : Nat → BitVec 64) (x20 : Int) (x21 : Nat → BitVec 64) (x56 : Bool) : Option (BitVec 64 × Int × Int × (Nat → BitVec 64) × Int × (Nat → BitVec 64)) := bif x56 then bif (decide (0 ≤ w64 (x20 - 2)) && decide (w64 (x20 - 2) < (52 : Int))) then F269_7 N x10 x18 x19 x20 x21 (x19 ((w64 (x20 - 2)).toNat)) else none else F269_7 N x10 x18 x19 x20 x21 (0#64)
def F269_6 (N : Nat) (x10 : Int) (x18 : Int) (x19 : Nat → BitVec 64) (x20 : Int) (x21 : Nat → BitVec 64) : Option (BitVec 64 × Int × Int × (Nat → BitVec 64) × Int × (Nat → BitVec 64)) := F269_18 N x10 x18 x19 x20 x21 (decide (x20 > 1))
def F269_5 (N : Nat) (x10 : Int) (x15 : Int) (x16 : Int) (x17 : Nat → BitVec 64) (x18 : Int) (x19 : Nat → BitVec 64) : Option (BitVec 64 × Int × Int × (Nat → BitVec 64) × Int × (Nat → BitVec 64)) := (F365 N x16 x17 x15).bind fun y36 => F269_6 N x10 x18 x19 y36.1 y36.2
def F269_4 (N : Nat) (x10 : Int) (x11 : Int) (x12 : Nat → BitVec 64) (x15 : Int) (x16 : Int) (x17 : Nat → BitVec 64) : Option (BitVec 64 × Int × Int × (Nat → BitVec 64) × Int × (Nat → BitVec 64)) := (F365 N x11 x12 x15).bind fun y37 => F269_5 N x10 x15 x16 x17 y37.1 y37.2
def F269_3 (N : Nat) (x10 : Int) (x11 : Int) (x12 : Nat → BitVec 64) (x13 : Int) (x14 : Nat → BitVec 64) : Option (BitVec 64 × Int × Int × (Nat → BitVec 64) × Int × (Nat → BitVec 64)) := (F364 N x13 x14).bind fun y38 => F269_4 N x10 x11 x12 (w64 ((BitVec.ofInt 64 (w64 (0 - y38.1)) &&& BitVec.ofInt 64 63).toNat : Int)) y38.2.1 y38.2.2
def F269_20 (N : Nat) (x1 : Int) (x58 : Int) (x59 : Nat → BitVec 64) (x62 : Int) (x63 : Nat → BitVec 64) : Option (BitVec 64 × Int × Int × (Nat → BitVec 64) × Int × (Nat → BitVec 64)) := F269_3 N (w64 (x1 + 1)) x58 x59 x62 x63
def F269_19 (N : Nat) (x1 : Int) (x57 : Bool) (x58 : Int) (x59 : Nat → BitVec 64) (x60 : Int) (x61 : Nat → BitVec 64) : Option (BitVec 64 × Int × Int × (Nat → BitVec 64) × Int × (Nat → BitVec 64)) := bif x57 then (F365 N x60 x61 1).bind fun y41 => F269_20 N x1 x58 x59 y41.1 y41.2 else F269_3 N x1 x58 x59 x60 x61
def F269_2 (N : Nat) (x1 : Int) (x6 : Int) (x7 : Nat → BitVec 64) (x8 : Int) (x9 : Nat → BitVec 64) : Option (BitVec 64 × Int × Int × (Nat → BitVec 64) × Int × (Nat → BitVec 64)) := (F366 N x6 x7 x8 x9).bind fun y42 => F269_19 N x1 (!y42.1) y42.2.1 y42.2.2.1 y42.2.2.2.1 y42.2.2.2.2
def F269_21 (N : Nat) (x1 : Int) (x2 : Int) (x3 : Nat → BitVec 64) (x4 : Int) (x5 : Nat → BitVec 64) (x64 : Bool) : Option (BitVec 64 × Int × Int × (Nat → BitVec 64) × Int × (Nat → BitVec 64)) := bif x64 then (F365 N x2 x3 (w64 (0 - x1))).bind fun y43 => F269_2 N x1 y43.1 y43.2 x4 x5 else (F365 N x4 x5 x1).bind fun y44 => F269_2 N x1 x2 x3 y44.1 y44.2
def F269_1 (N : Nat) (x1 : Int) (x2 : Int) (x3 : Nat → BitVec 64) (x4 : Int) (x5 : Nat → BitVec 64) : Option (BitVec 64 × Int × Int × (Nat → BitVec 64) × Int × (Nat → BitVec 64)) := F269_21 N x1 x2 x3 x4 x5 (decide (x1 < 0))
def F269 (N : Nat) (b0_0 : Int) (b0_1 : Nat → BitVec 64) (b1_0 : Int) (b1_1 : Nat → BitVec 64) : Option (BitVec 64 × Int × Int × (Nat → BitVec 64) × Int × (Nat → BitVec 64)) := (F364 N b0_0 b0_1).bind fun y45 => (F364 N b1_0 b1_1).bind fun y46 => F269_1 N (w64 (y45.1 - y46.1)) y45.2.1 y45.2.2 y46.2.1 y46.2.2
theorem C269 (N : Nat) (b0_0 : Int) (b0_1 : Nat → BitVec 64) (b1_0 : Int) (b1_1 : Nat → BitVec 64) (r : BitVec 64 × Int × Int × (Nat → BitVec 64) × Int × (Nat → BitVec 64)) (hr : some r = F269 N b0_0 b0_1 b1_0 b1_1) : FnB Hfaa.prog 269 [.inr (.inl (0, 0)), .inr (.inl (1, 0))] [(0, pb 261 (is (I64 b0_0) :: (ar U64 52 b0_1 ++ []))), (1, pb 261 (is (I64 b1_0) :: (ar U64 52 b1_1 ++ [])))] (tup [is (U64 r.1), is (I64 r.2.1)]) [(0, pb 261 (is (I64 r.2.2.1) :: (ar U64 52 r.2.2.2.1 ++ []))), (1, pb 261 (is (I64 r.2.2.2.2.1) :: (ar U64 52 r.2.2.2.2.2 ++ [])))] := by
  refine fnB_intro Hfaa.func269 rfl rfl rfl rfl rfl ⟨hf_pb _ _, hf_pb _ _, trivial⟩ ?_
  intro bn0 w0 H0
  refine AW_seq1 ?_
  refine AW_region ?_
  refine AL_cons (LR_assign (at_c (v' := U64 (0#64)) rfl) rfl) (sS sT0 sB0 sF0) ?_
  refine AL_cons (LR_assign (at_c (v' := I64 0) rfl) rfl) (sS sT0 sB0 sF0) ?_
  refine AL_nil ?_
  refine thenN ?_
  refine AW_cut (σ := Int × Int × (Nat → BitVec 64) × Int × (Nat → BitVec 64)) (fun v => ⟨[(0, .inr (.inl (0, 0))), (1, .inr (.inl (1, 0))), (6, .inl (is (I64 v.1)))], [(0, pb 261 (is (I64 v.2.1) :: (ar U64 52 v.2.2.1 ++ []))), (1, pb 261 (is (I64 v.2.2.2.1) :: (ar U64 52 v.2.2.2.2 ++ [])))]⟩) (fun v => some r = F269_1 N v.1 v.2.1 v.2.2.1 v.2.2.2.1 v.2.2.2.2) ?_ ?_
  · skip
    refine AW_region ?_
    refine AL_cons (LR_move (at_tmp 0 _) rfl) (sS (sT1 rfl) sB0 sF0) ?_
    obtain ⟨y45, hy45, hr⟩ := bind_some hr
    refine AL_cons (LR_callB [(0, 0)] [(0, 0)] Hfaa.func364 rfl rfl (C364 N b0_0 b0_1 y45 hy45) (aTC (at_tmp 13 _) aT0) rfl rfl rfl rfl rfl) (sS (sA (sT1 rfl) sT0) (sB1 rfl) sF0) ?_
    refine AL_cons (LR_move (at_tmp 1 _) rfl) (sS (sT1 rfl) sB0 sF0) ?_
    obtain ⟨y46, hy46, hr⟩ := bind_some hr
    refine AL_cons (LR_callB [(0, 1)] [(1, 0)] Hfaa.func364 rfl rfl (C364 N b1_0 b1_1 y46 hy46) (aTC (at_tmp 15 _) aT0) rfl rfl rfl rfl rfl) (sS (sA (sT1 rfl) sT0) (sB1 rfl) sF0) ?_
    refine AL_cons (LR_bin (at_tmp 14 _) (at_tmp 16 _) (sub_I64 y45.1 y46.1) rfl) (sS (sA (sT1 rfl) (sT1 rfl)) sB0 sF0) ?_
    refine AL_cons (LR_assign (at_tmp 17 _) rfl) (sS (sT1 rfl) sB0 sF0) ?_
    refine AL_nil ?_
    exact thenN (cutLeaf (v := (w64 (y45.1 - y46.1), y45.2.1, y45.2.2, y46.2.1, y46.2.2)) hr (weakB ((sT rfl (sT rfl (sT rfl sT0)))) (sub_keep (sub_keep sub_nil)) rfl))
  · rintro ⟨x1, x2, x3, x4, x5⟩ hr
    show AW Hfaa.prog _ _ _ ⟨[(0, .inr (.inl (0, 0))), (1, .inr (.inl (1, 0))), (6, .inl (is (I64 x1)))], [(0, pb 261 (is (I64 x2) :: (ar U64 52 x3 ++ []))), (1, pb 261 (is (I64 x4) :: (ar U64 52 x5 ++ [])))]⟩
    have hr : some r = F269_1 N x1 x2 x3 x4 x5 := hr
    refine AW_cut (σ := Int × (Nat → BitVec 64) × Int × (Nat → BitVec 64)) (fun v => ⟨[(0, .inr (.inl (0, 0))), (1, .inr (.inl (1, 0))), (6, .inl (is (I64 x1)))], [(0, pb 261 (is (I64 v.1) :: (ar U64 52 v.2.1 ++ []))), (1, pb 261 (is (I64 v.2.2.1) :: (ar U64 52 v.2.2.2 ++ [])))]⟩) (fun v => some r = F269_2 N x1 v.1 v.2.1 v.2.2.1 v.2.2.2) ?_ ?_
    · skip
      refine AW_cut (σ := Bool) (fun v => ⟨[(0, .inr (.inl (0, 0))), (1, .inr (.inl (1, 0))), (6, .inl (is (I64 x1))), (19, .inl (is (Bl v)))], [(0, pb 261 (is (I64 x2) :: (ar U64 52 x3 ++ []))), (1, pb 261 (is (I64 x4) :: (ar U64 52 x5 ++ [])))]⟩) (fun v => some r = F269_21 N x1 x2 x3 x4 x5 v) ?_ ?_
      · skip
        refine AW_region ?_
        refine AL_cons (LR_move (at_tmp 6 _) rfl) (sS (sT1 rfl) sB0 sF0) ?_
        refine AL_cons (LR_bin (at_tmp 18 _) (at_c (v' := I64 0) rfl) (lss_I64 x1 0) rfl) (sS (sA (sT1 rfl) sT0) sB0 sF0) ?_
        refine AL_nil ?_
        exact thenN (cutLeaf (v := decide (x1 < 0)) hr (weakB ((sT rfl (sT rfl (sT rfl (sT rfl sT0))))) (sub_keep (sub_keep sub_nil)) rfl))
      · rintro x64 hr
        show AW Hfaa.prog _ _ _ ⟨[(0, .inr (.inl (0, 0))), (1, .inr (.inl (1, 0))), (6, .inl (is (I64 x1))), (19, .inl (is (Bl x64)))], [(0, pb 261 (is (I64 x2) :: (ar U64 52 x3 ++ []))), (1, pb 261 (is (I64 x4) :: (ar U64 52 x5 ++ [])))]⟩
        have hr : some r = F269_21 N x1 x2 x3 x4 x5 x64 := hr
        refine AW_condT (b := x64) rfl (fun h => ?_) (fun h => ?_)
        · have hr := hr.trans (cond_t h)
          clear h
          refine AW_region ?_
          refine AL_cons (LR_move (at_tmp 0 _) rfl) (sS (sT1 rfl) sB0 sF0) ?_
          refine AL_cons (LR_move (at_tmp 6 _) rfl) (sS (sT1 rfl) sB0 sF0) ?_
          refine AL_cons (LR_un (at_tmp 21 _) (neg_I64 x1) rfl) (sS (sT1 rfl) sB0 sF0) ?_
          obtain ⟨y43, hy43, hr⟩ := bind_some hr
          refine AL_cons (LR_callB [(0, 0)] [(0, 0)] Hfaa.func365 rfl rfl (C365 N x2 x3 (w64 (0 - x1)) y43 hy43) (aTC (at_tmp 20 _) (aTC (at_tmp 22 _) aT0)) rfl rfl rfl rfl rfl) (sS (sA (sT1 rfl) (sA (sT1 rfl) sT0)) (sB1 rfl) sF0) ?_
          refine AL_nil ?_
          exact thenN (cutLeaf (v := (y43.1, y43.2, x4, x5)) hr (weakB ((sT rfl (sT rfl (sT rfl sT0)))) (sub_keep (sub_keep sub_nil)) rfl))
        · have hr := hr.trans (cond_f h)
          clear h
          refine AW_region ?_
          refine AL_cons (LR_move (at_tmp 1 _) rfl) (sS (sT1 rfl) sB0 sF0) ?_
          refine AL_cons (LR_move (at_tmp 6 _) rfl) (sS (sT1 rfl) sB0 sF0) ?_
          obtain ⟨y44, hy44, hr⟩ := bind_some hr
          refine AL_cons (LR_callB [(0, 1)] [(1, 0)] Hfaa.func365 rfl rfl (C365 N x4 x5 x1 y44 hy44) (aTC (at_tmp 24 _) (aTC (at_tmp 25 _) aT0)) rfl rfl rfl rfl rfl) (sS (sA (sT1 rfl) (sA (sT1 rfl) sT0)) (sB1 rfl) sF0) ?_
          refine AL_nil ?_
          exact thenN (cutLeaf (v := (x2, x3, y44.1, y44.2)) hr (weakB ((sT rfl (sT rfl (sT rfl sT0)))) (sub_keep (sub_keep sub_nil)) rfl))
    · rintro ⟨x6, x7, x8, x9⟩ hr
      show AW Hfaa.prog _ _ _ ⟨[(0, .inr (.inl (0, 0))), (1, .inr (.inl (1, 0))), (6, .inl (is (I64 x1)))], [(0, pb 261 (is (I64 x6) :: (ar U64 52 x7 ++ []))), (1, pb 261 (is (I64 x8) :: (ar U64 52 x9 ++ [])))]⟩
      have hr : some r = F269_2 N x1 x6 x7 x8 x9 := hr
      refine AW_cut (σ := Int × Int × (Nat → BitVec 64) × Int × (Nat → BitVec 64)) (fun v => ⟨[(0, .inr (.inl (0, 0))), (1, .inr (.inl (1, 0))), (6, .inl (is (I64 v.1)))], [(0, pb 261 (is (I64 v.2.1) :: (ar U64 52 v.2.2.1 ++ []))), (1, pb 261 (is (I64 v.2.2.2.1) :: (ar U64 52 v.2.2.2.2 ++ [])))]⟩) (fun v => some r = F269_3 N v.1 v.2.1 v.2.2.1 v.2.2.2.1 v.2.2.2.2) ?_ ?_
      · skip
        refine AW_cut (σ := Bool × Int × (Nat → BitVec 64) × Int × (Nat → BitVec 64)) (fun v => ⟨[(0, .inr (.inl (0, 0))), (1, .inr (.inl (1, 0))), (6, .inl (is (I64 x1))), (30, .inl (is (Bl v.1)))], [(0, pb 261 (is (I64 v.2.1) :: (ar U64 52 v.2.2.1 ++ []))), (1, pb 261 (is (I64 v.2.2.2.1) :: (ar U64 52 v.2.2.2.2 ++ [])))]⟩) (fun v => some r = F269_19 N x1 v.1 v.2.1 v.2.2.1 v.2.2.2.1 v.2.2.2.2) ?_ ?_
        · skip
          refine AW_region ?_
          refine AL_cons (LR_move (at_tmp 0 _) rfl) (sS (sT1 rfl) sB0 sF0) ?_
          refine AL_cons (LR_move (at_tmp 1 _) rfl) (sS (sT1 rfl) sB0 sF0) ?_
          obtain ⟨y42, hy42, hr⟩ := bind_some hr
          refine AL_cons (LR_callB [(0, 0), (1, 1)] [(0, 0), (1, 1)] Hfaa.func366 rfl rfl (C366 N x6 x7 x8 x9 y42 hy42) (aTC (at_tmp 27 _) (aTC (at_tmp 28 _) aT0)) rfl rfl rfl rfl rfl) (sS (sA (sT1 rfl) (sA (sT1 rfl) sT0)) (sB2 rfl rfl) sF0) ?_
          refine AL_cons (LR_un (at_tmp 29 _) (not_Bl y42.1) rfl) (sS (sT1 rfl) sB0 sF0) ?_
          refine AL_nil ?_
          exact thenN (cutLeaf (v := (!y42.1, y42.2.1, y42.2.2.1, y42.2.2.2.1, y42.2.2.2.2)) hr (weakB ((sT rfl (sT rfl (sT rfl (sT rfl sT0))))) (sub_keep (sub_keep sub_nil)) rfl))
        · rintro ⟨x57, x58, x59, x60, x61⟩ hr
          show AW Hfaa.prog _ _ _ ⟨[(0, .inr (.inl (0, 0))), (1, .inr (.inl (1, 0))), (6, .inl (is (I64 x1))), (30, .inl (is (Bl x57)))], [(0, pb 261 (is (I64 x58) :: (ar U64 52 x59 ++ []))), (1, pb 261 (is (I64 x60) :: (ar U64 52 x61 ++ [])))]⟩
          have hr : some r = F269_19 N x1 x57 x58 x59 x60 x61 := hr
          refine AW_condT (b := x57) rfl (fun h => ?_) (fun h => ?_)
          · have hr := hr.trans (cond_t h)
            clear h
            refine AW_cut (σ := Int × (Nat → BitVec 64)) (fun v => ⟨[(0, .inr (.inl (0, 0))), (1, .inr (.inl (1, 0))), (6, .inl (is (I64 x1)))], [(0, pb 261 (is (I64 x58) :: (ar U64 52 x59 ++ []))), (1, pb 261 (is (I64 v.1) :: (ar U64 52 v.2 ++ [])))]⟩) (fun v => some r = F269_20 N x1 x58 x59 v.1 v.2) ?_ ?_
            · skip
              refine AW_region ?_
              refine AL_cons (LR_move (at_tmp 1 _) rfl) (sS (sT1 rfl) sB0 sF0) ?_
              obtain ⟨y41, hy41, hr⟩ := bind_some hr
              refine AL_cons (LR_callB [(0, 1)] [(1, 0)] Hfaa.func365 rfl rfl (C365 N x60 x61 1 y41 hy41) (aTC (at_tmp 31 _) (aTC (at_c (v' := I64 1) rfl) aT0)) rfl rfl rfl rfl rfl) (sS (sA (sT1 rfl) (sA sT0 sT0)) (sB1 rfl) sF0) ?_
              refine AL_nil ?_
              exact thenN (cutLeaf (v := (y41.1, y41.2)) hr (weakB ((sT rfl (sT rfl (sT rfl sT0)))) (sub_keep (sub_keep sub_nil)) rfl))
            · rintro ⟨x62, x63⟩ hr
              show AW Hfaa.prog _ _ _ ⟨[(0, .inr (.inl (0, 0))), (1, .inr (.inl (1, 0))), (6, .inl (is (I64 x1)))], [(0, pb 261 (is (I64 x58) :: (ar U64 52 x59 ++ []))), (1, pb 261 (is (I64 x62) :: (ar U64 52 x63 ++ [])))]⟩
              have hr : some r = F269_20 N x1 x58 x59 x62 x63 := hr
              refine AW_region ?_
              refine AL_cons (LR_move (at_tmp 6 _) rfl) (sS (sT1 rfl) sB0 sF0) ?_
              refine AL_cons (LR_bin (at_tmp 33 _) (at_c (v' := I64 1) rfl) (add_I64 x1 1) rfl) (sS (sA (sT1 rfl) sT0) sB0 sF0) ?_
              refine AL_cons (LR_assign (at_tmp 34 _) rfl) (sS (sT1 rfl) sB0 sF0) ?_
              refine AL_nil ?_
              exact thenN (cutLeaf (v := (w64 (x1 + 1), x58, x59, x62, x63)) hr (weakB ((sT rfl (sT rfl (sT rfl sT0)))) (sub_keep (sub_keep sub_nil)) rfl))
          · have hr := hr.trans (cond_f h)
            clear h
            refine AW_skip ?_
            exact thenN (cutLeaf (v := (x1, x58, x59, x60, x61)) hr (weakB ((sT rfl (sT rfl (sT rfl sT0)))) (sub_keep (sub_keep sub_nil)) rfl))
      · rintro ⟨x10, x11, x12, x13, x14⟩ hr
        show AW Hfaa.prog _ _ _ ⟨[(0, .inr (.inl (0, 0))), (1, .inr (.inl (1, 0))), (6, .inl (is (I64 x10)))], [(0, pb 261 (is (I64 x11) :: (ar U64 52 x12 ++ []))), (1, pb 261 (is (I64 x13) :: (ar U64 52 x14 ++ [])))]⟩
        have hr : some r = F269_3 N x10 x11 x12 x13 x14 := hr
        refine AW_cut (σ := Int × Int × (Nat → BitVec 64)) (fun v => ⟨[(0, .inr (.inl (0, 0))), (1, .inr (.inl (1, 0))), (6, .inl (is (I64 x10))), (7, .inl (is (I64 v.1)))], [(0, pb 261 (is (I64 x11) :: (ar U64 52 x12 ++ []))), (1, pb 261 (is (I64 v.2.1) :: (ar U64 52 v.2.2 ++ [])))]⟩) (fun v => some r = F269_4 N x10 x11 x12 v.1 v.2.1 v.2.2) ?_ ?_
        · skip
          refine AW_region ?_
          refine AL_cons (LR_move (at_tmp 1 _) rfl) (sS (sT1 rfl) sB0 sF0) ?_
          obtain ⟨y38, hy38, hr⟩ := bind_some hr
          refine AL_cons (LR_callB [(0, 1)] [(1, 0)] Hfaa.func364 rfl rfl (C364 N x13 x14 y38 hy38) (aTC (at_tmp 35 _) aT0) rfl rfl rfl rfl rfl) (sS (sA (sT1 rfl) sT0) (sB1 rfl) sF0) ?_
          refine AL_cons (LR_un (at_tmp 36 _) (neg_I64 y38.1) rfl) (sS (sT1 rfl) sB0 sF0) ?_
          refine AL_cons (LR_bin (at_tmp 37 _) (at_c (v' := I64 63) rfl) (and_I64 (w64 (0 - y38.1)) 63) rfl) (sS (sA (sT1 rfl) sT0) sB0 sF0) ?_
          refine AL_cons (LR_assign (at_tmp 38 _) rfl) (sS (sT1 rfl) sB0 sF0) ?_
          refine AL_nil ?_
          exact thenN (cutLeaf (v := (w64 ((BitVec.ofInt 64 (w64 (0 - y38.1)) &&& BitVec.ofInt 64 63).toNat : Int), y38.2.1, y38.2.2)) hr (weakB ((sT rfl (sT rfl (sT rfl (sT rfl sT0))))) (sub_keep (sub_keep sub_nil)) rfl))
        · rintro ⟨x15, x16, x17⟩ hr
          show AW Hfaa.prog _ _ _ ⟨[(0, .inr (.inl (0, 0))), (1, .inr (.inl (1, 0))), (6, .inl (is (I64 x10))), (7, .inl (is (I64 x15)))], [(0, pb 261 (is (I64 x11) :: (ar U64 52 x12 ++ []))), (1, pb 261 (is (I64 x16) :: (ar U64 52 x17 ++ [])))]⟩
          have hr : some r = F269_4 N x10 x11 x12 x15 x16 x17 := hr
          refine AW_cut (σ := Int × (Nat → BitVec 64)) (fun v => ⟨[(0, .inr (.inl (0, 0))), (1, .inr (.inl (1, 0))), (6, .inl (is (I64 x10))), (7, .inl (is (I64 x15)))], [(0, pb 261 (is (I64 v.1) :: (ar U64 52 v.2 ++ []))), (1, pb 261 (is (I64 x16) :: (ar U64 52 x17 ++ [])))]⟩) (fun v => some r = F269_5 N x10 x15 x16 x17 v.1 v.2) ?_ ?_
          · skip
            refine AW_region ?_
            refine AL_cons (LR_move (at_tmp 0 _) rfl) (sS (sT1 rfl) sB0 sF0) ?_
            refine AL_cons (LR_move (at_tmp 7 _) rfl) (sS (sT1 rfl) sB0 sF0) ?_
            obtain ⟨y37, hy37, hr⟩ := bind_some hr
            refine AL_cons (LR_callB [(0, 0)] [(0, 0)] Hfaa.func365 rfl rfl (C365 N x11 x12 x15 y37 hy37) (aTC (at_tmp 39 _) (aTC (at_tmp 40 _) aT0)) rfl rfl rfl rfl rfl) (sS (sA (sT1 rfl) (sA (sT1 rfl) sT0)) (sB1 rfl) sF0) ?_
            refine AL_nil ?_
            exact thenN (cutLeaf (v := (y37.1, y37.2)) hr (weakB ((sT rfl (sT rfl (sT rfl (sT rfl sT0))))) (sub_keep (sub_keep sub_nil)) rfl))
          · rintro ⟨x18, x19⟩ hr
            show AW Hfaa.prog _ _ _ ⟨[(0, .inr (.inl (0, 0))), (1, .inr (.inl (1, 0))), (6, .inl (is (I64 x10))), (7, .inl (is (I64 x15)))], [(0, pb 261 (is (I64 x18) :: (ar U64 52 x19 ++ []))), (1, pb 261 (is (I64 x16) :: (ar U64 52 x17 ++ [])))]⟩
            have hr : some r = F269_5 N x10 x15 x16 x17 x18 x19 := hr
            refine AW_cut (σ := Int × (Nat → BitVec 64)) (fun v => ⟨[(0, .inr (.inl (0, 0))), (1, .inr (.inl (1, 0))), (6, .inl (is (I64 x10)))], [(0, pb 261 (is (I64 x18) :: (ar U64 52 x19 ++ []))), (1, pb 261 (is (I64 v.1) :: (ar U64 52 v.2 ++ [])))]⟩) (fun v => some r = F269_6 N x10 x18 x19 v.1 v.2) ?_ ?_
            · skip
              refine AW_region ?_
              refine AL_cons (LR_move (at_tmp 1 _) rfl) (sS (sT1 rfl) sB0 sF0) ?_
              refine AL_cons (LR_move (at_tmp 7 _) rfl) (sS (sT1 rfl) sB0 sF0) ?_
              obtain ⟨y36, hy36, hr⟩ := bind_some hr
              refine AL_cons (LR_callB [(0, 1)] [(1, 0)] Hfaa.func365 rfl rfl (C365 N x16 x17 x15 y36 hy36) (aTC (at_tmp 42 _) (aTC (at_tmp 43 _) aT0)) rfl rfl rfl rfl rfl) (sS (sA (sT1 rfl) (sA (sT1 rfl) sT0)) (sB1 rfl) sF0) ?_
              refine AL_nil ?_
              exact thenN (cutLeaf (v := (y36.1, y36.2)) hr (weakB ((sT rfl (sT rfl (sT rfl sT0)))) (sub_keep (sub_keep sub_nil)) rfl))
            · rintro ⟨x20, x21⟩ hr
              show AW Hfaa.prog _ _ _ ⟨[(0, .inr (.inl (0, 0))), (1, .inr (.inl (1, 0))), (6, .inl (is (I64 x10)))], [(0, pb 261 (is (I64 x18) :: (ar U64 52 x19 ++ []))), (1, pb 261 (is (I64 x20) :: (ar U64 52 x21 ++ [])))]⟩
              have hr : some r = F269_6 N x10 x18 x19 x20 x21 := hr
              refine AW_seq1 ?_
              refine AW_region ?_
              refine AL_cons (LR_assign (at_c (v' := U64 (0#64)) rfl) rfl) (sS sT0 sB0 sF0) ?_
              refine AL_nil ?_
              refine thenN ?_
              refine AW_cut (σ := BitVec 64) (fun v => ⟨[(0, .inr (.inl (0, 0))), (1, .inr (.inl (1, 0))), (6, .inl (is (I64 x10))), (8, .inl (is (U64 v)))], [(0, pb 261 (is (I64 x18) :: (ar U64 52 x19 ++ []))), (1, pb 261 (is (I64 x20) :: (ar U64 52 x21 ++ [])))]⟩) (fun v => some r = F269_7 N x10 x18 x19 x20 x21 v) ?_ ?_
              · skip
                refine AW_cut (σ := Bool) (fun v => ⟨[(0, .inr (.inl (0, 0))), (1, .inr (.inl (1, 0))), (6, .inl (is (I64 x10))), (8, .inl (is (U64 (0#64)))), (49, .inl (is (Bl v)))], [(0, pb 261 (is (I64 x18) :: (ar U64 52 x19 ++ []))), (1, pb 261 (is (I64 x20) :: (ar U64 52 x21 ++ [])))]⟩) (fun v => some r = F269_18 N x10 x18 x19 x20 x21 v) ?_ ?_
                · skip
                  refine AW_region ?_
                  refine AL_cons (LR_move (at_tmp 1 _) rfl) (sS (sT1 rfl) sB0 sF0) ?_
                  refine AL_cons (LR_nilCheck (at_tmp 45 _) rfl) (sS (sT1 rfl) sB0 sF0) ?_
                  refine AL_cons (LR_fieldAddr (off := 0) (o := 0) (at_tmp 46 _) (fun b w => fa261_0 b 0 w) rfl) (sS (sT1 rfl) sB0 sF0) ?_
                  refine AL_cons (LR_load (at_tmp 47 _) na3 g0 rfl) (sS (sT1 rfl) (sB1 rfl) sF0) ?_
                  refine AL_cons (LR_bin (at_tmp 48 _) (at_c (v' := I64 1) rfl) (gtr_I64 x20 1) rfl) (sS (sA (sT1 rfl) sT0) sB0 sF0) ?_
                  refine AL_nil ?_
                  exact thenN (cutLeaf (v := decide (x20 > 1)) hr (weakB ((sT rfl (sT rfl (sT rfl (sT rfl (sT rfl sT0)))))) (sub_keep (sub_keep sub_nil)) rfl))
                · rintro x56 hr
                  show AW Hfaa.prog _ _ _ ⟨[(0, .inr (.inl (0, 0))), (1, .inr (.inl (1, 0))), (6, .inl (is (I64 x10))), (8, .inl (is (U64 (0#64)))), (49, .inl (is (Bl x56)))], [(0, pb 261 (is (I64 x18) :: (ar U64 52 x19 ++ []))), (1, pb 261 (is (I64 x20) :: (ar U64 52 x21 ++ [])))]⟩
                  have hr : some r = F269_18 N x10 x18 x19 x20 x21 x56 := hr
                  refine AW_condT (b := x56) rfl (fun h => ?_) (fun h => ?_)
                  · have hr := hr.trans (cond_t h)
                    clear h
                    obtain ⟨hg6, hr⟩ := guard_some hr
                    refine AW_draw mixed
                      (lrC (LR_move (at_tmp 0 _) rfl)
                      (lrC (LR_move (at_tmp 1 _) rfl)
                      (lrC (LR_nilCheck (at_tmp 51 _) rfl)
                      (lrC (LR_fieldAddr (off := 0) (o := 0) (at_tmp 52 _) (fun b w => fa261_0 b 0 w) rfl)
                      (lrC (LR_load (at_tmp 53 _) na3 g0 rfl)
                      (lrC (LR_bin (at_tmp 54 _) (at_c (v' := I64 2) rfl) (sub_I64 x20 2) rfl)
                      (lrC (LR_nilCheck (at_tmp 50 _) rfl)
                      (lrC (LR_fieldAddr (off := 0) (o := 1) (at_tmp 56 _) (fun b w => fa261_1 b 0 w) rfl)
                      (lrC (LR_indexAddr (o := ((w64 (x20 - 2)).toNat) + 1) Hfaa.underlying259 sz30 (at_tmp 57 _) (at_tmp 55 _) (dand hg6) (by first | rfl | omega) rfl)
                      (lrC (LR_load (at_tmp 58 _) na30 (gS (gA (ltn (dand hg6)))) rfl)
                      (lrC (LR_assign (at_tmp 59 _) rfl)
                      lrN)))))))))))
                      (by kernel_rfl)
                      (saC (sS (sT1 rfl) sB0 sF0) (saC (sS (sT1 rfl) sB0 sF0) (saC (sS (sT1 rfl) sB0 sF0) (saC (sS (sT1 rfl) sB0 sF0) (saC (sS (sT1 rfl) (sB1 rfl) sF0) (saC (sS (sA (sT1 rfl) sT0) sB0 sF0) (saC (sS (sT1 rfl) sB0 sF0) (saC (sS (sT1 rfl) sB0 sF0) (saC (sS (sA (sT1 rfl) (sT1 rfl)) sB0 sF0) (saC (sS (sT1 rfl) (sB1 rfl) sF0) (saC (sS (sT1 rfl) sB0 sF0) saN))))))))))) ?_
                    exact thenN (cutLeaf (v := x19 ((w64 (x20 - 2)).toNat)) hr (weakB ((sT rfl (sT rfl (sT rfl (sT rfl sT0))))) (sub_keep (sub_keep sub_nil)) rfl))
                  · have hr := hr.trans (cond_f h)
                    clear h
                    refine AW_skip ?_
                    exact thenN (cutLeaf (v := 0#64) hr (weakB ((sT rfl (sT rfl (sT rfl (sT rfl sT0))))) (sub_keep (sub_keep sub_nil)) rfl))
              · rintro x22 hr
                show AW Hfaa.prog _ _ _ ⟨[(0, .inr (.inl (0, 0))), (1, .inr (.inl (1, 0))), (6, .inl (is (I64 x10))), (8, .inl (is (U64 x22)))], [(0, pb 261 (is (I64 x18) :: (ar U64 52 x19 ++ []))), (1, pb 261 (is (I64 x20) :: (ar U64 52 x21 ++ [])))]⟩
                have hr : some r = F269_7 N x10 x18 x19 x20 x21 x22 := hr
                refine AW_cut (σ := BitVec 64 × Bool) (fun v => ⟨[(0, .inr (.inl (0, 0))), (1, .inr (.inl (1, 0))), (6, .inl (is (I64 x10))), (9, .inl (is (U64 v.1))), (11, .inl (is (Bl v.2)))], [(0, pb 261 (is (I64 x18) :: (ar U64 52 x19 ++ []))), (1, pb 261 (is (I64 x20) :: (ar U64 52 x21 ++ [])))]⟩) (fun v => some r = F269_8 N x10 x18 x19 x20 x21 v.1 v.2) ?_ ?_
                · skip
                  obtain ⟨hg4, hr⟩ := guard_some hr
                  obtain ⟨hg5, hr⟩ := guard_some hr
                  obtain ⟨y35, hy35, hr⟩ := bind_some hr
                  refine AW_draw mixed
                    (lrC (LR_move (at_tmp 0 _) rfl)
                    (lrC (LR_move (at_tmp 1 _) rfl)
                    (lrC (LR_nilCheck (at_tmp 62 _) rfl)
                    (lrC (LR_fieldAddr (off := 0) (o := 0) (at_tmp 63 _) (fun b w => fa261_0 b 0 w) rfl)
                    (lrC (LR_load (at_tmp 64 _) na3 g0 rfl)
                    (lrC (LR_bin (at_tmp 65 _) (at_c (v' := I64 1) rfl) (sub_I64 x20 1) rfl)
                    (lrC (LR_nilCheck (at_tmp 61 _) rfl)
                    (lrC (LR_fieldAddr (off := 0) (o := 1) (at_tmp 67 _) (fun b w => fa261_1 b 0 w) rfl)
                    (lrC (LR_indexAddr (o := ((w64 (x20 - 1)).toNat) + 1) Hfaa.underlying259 sz30 (at_tmp 68 _) (at_tmp 66 _) (dand hg4) (by first | rfl | omega) rfl)
                    (lrC (LR_load (at_tmp 69 _) na30 (gS (gA (ltn (dand hg4)))) rfl)
                    (lrC (LR_move (at_tmp 8 _) rfl)
                    (lrC (bl42 (parts_cons (i := 0) (off := 0) (at_tmp 70 _) (cells_one (one_is rfl)) rfl rfl (parts_cons (i := 1) (off := 1) (at_tmp 71 _) (cells_one (one_is rfl)) rfl rfl parts_nil)) rfl rfl)
                    (lrC (LR_move (at_tmp 1 _) rfl)
                    (lrC (LR_move (at_tmp 1 _) rfl)
                    (lrC (LR_nilCheck (at_tmp 74 _) rfl)
                    (lrC (LR_fieldAddr (off := 0) (o := 0) (at_tmp 75 _) (fun b w => fa261_0 b 0 w) rfl)
                    (lrC (LR_load (at_tmp 76 _) na3 g0 rfl)
                    (lrC (LR_bin (at_tmp 77 _) (at_c (v' := I64 1) rfl) (sub_I64 x20 1) rfl)
                    (lrC (LR_nilCheck (at_tmp 73 _) rfl)
                    (lrC (LR_fieldAddr (off := 0) (o := 1) (at_tmp 79 _) (fun b w => fa261_1 b 0 w) rfl)
                    (lrC (LR_indexAddr (o := ((w64 (x20 - 1)).toNat) + 1) Hfaa.underlying259 sz30 (at_tmp 80 _) (at_tmp 78 _) (dand hg5) (by first | rfl | omega) rfl)
                    (lrC (LR_load (at_tmp 81 _) na30 (gS (gA (ltn (dand hg5)))) rfl)
                    (lrC (LR_call Hfaa.func280 rfl rfl (C280 N (x19 ((w64 (x20 - 1)).toNat)) x22 (x21 ((w64 (x20 - 1)).toNat)) y35 hy35) (all_cons (at_tmp 72 _) (all_cons (at_tmp 82 _) all_nil)) rfl)
                    (lrC (LR_move (at_tmp 83 _) rfl)
                    (lrC (LR_extract (at_tmp 60 _) rfl rfl)
                    (lrC (LR_extract (at_tmp 60 _) rfl rfl)
                    (lrC (LR_extract (at_tmp 60 _) rfl rfl)
                    (lrC (LR_assign (at_tmp 84 _) rfl)
                    (lrC (LR_assign (at_tmp 85 _) rfl)
                    (lrC (LR_assign (at_tmp 86 _) rfl)
                    lrN))))))))))))))))))))))))))))))
                    (by kernel_rfl)
                    (saC (sS (sT1 rfl) sB0 sF0) (saC (sS (sT1 rfl) sB0 sF0) (saC (sS (sT1 rfl) sB0 sF0) (saC (sS (sT1 rfl) sB0 sF0) (saC (sS (sT1 rfl) (sB1 rfl) sF0) (saC (sS (sA (sT1 rfl) sT0) sB0 sF0) (saC (sS (sT1 rfl) sB0 sF0) (saC (sS (sT1 rfl) sB0 sF0) (saC (sS (sA (sT1 rfl) (sT1 rfl)) sB0 sF0) (saC (sS (sT1 rfl) (sB1 rfl) sF0) (saC (sS (sT1 rfl) sB0 sF0) (saC (sS (sA (sT1 rfl) (sA (sT1 rfl) sT0)) sB0 sF0) (saC (sS (sT1 rfl) sB0 sF0) (saC (sS (sT1 rfl) sB0 sF0) (saC (sS (sT1 rfl) sB0 sF0) (saC (sS (sT1 rfl) sB0 sF0) (saC (sS (sT1 rfl) (sB1 rfl) sF0) (saC (sS (sA (sT1 rfl) sT0) sB0 sF0) (saC (sS (sT1 rfl) sB0 sF0) (saC (sS (sT1 rfl) sB0 sF0) (saC (sS (sA (sT1 rfl) (sT1 rfl)) sB0 sF0) (saC (sS (sT1 rfl) (sB1 rfl) sF0) (saC (sS (sA (sT1 rfl) (sA (sT1 rfl) sT0)) sB0 sF0) (saC (sS (sT1 rfl) sB0 sF0) (saC (sS (sT1 rfl) sB0 sF0) (saC (sS (sT1 rfl) sB0 sF0) (saC (sS (sT1 rfl) sB0 sF0) (saC (sS (sT1 rfl) sB0 sF0) (saC (sS (sT1 rfl) sB0 sF0) (saC (sS (sT1 rfl) sB0 sF0) saN)))))))))))))))))))))))))))))) ?_
                  exact thenN (cutLeaf (v := (y35.1, y35.2.2)) hr (weakB ((sT rfl (sT rfl (sT rfl (sT rfl (sT rfl sT0)))))) (sub_keep (sub_keep sub_nil)) rfl))
                · rintro ⟨x23, x24⟩ hr
                  show AW Hfaa.prog _ _ _ ⟨[(0, .inr (.inl (0, 0))), (1, .inr (.inl (1, 0))), (6, .inl (is (I64 x10))), (9, .inl (is (U64 x23))), (11, .inl (is (Bl x24)))], [(0, pb 261 (is (I64 x18) :: (ar U64 52 x19 ++ []))), (1, pb 261 (is (I64 x20) :: (ar U64 52 x21 ++ [])))]⟩
                  have hr : some r = F269_8 N x10 x18 x19 x20 x21 x23 x24 := hr
                  refine AW_cut (σ := BitVec 64) (fun v => ⟨[(0, .inr (.inl (0, 0))), (1, .inr (.inl (1, 0))), (6, .inl (is (I64 x10))), (9, .inl (is (U64 v)))], [(0, pb 261 (is (I64 x18) :: (ar U64 52 x19 ++ []))), (1, pb 261 (is (I64 x20) :: (ar U64 52 x21 ++ [])))]⟩) (fun v => some r = F269_9 N x10 x18 x19 x20 x21 v) ?_ ?_
                  · skip
                    refine AW_cut (σ := Bool) (fun v => ⟨[(0, .inr (.inl (0, 0))), (1, .inr (.inl (1, 0))), (6, .inl (is (I64 x10))), (9, .inl (is (U64 x23))), (88, .inl (is (Bl v)))], [(0, pb 261 (is (I64 x18) :: (ar U64 52 x19 ++ []))), (1, pb 261 (is (I64 x20) :: (ar U64 52 x21 ++ [])))]⟩) (fun v => some r = F269_17 N x10 x18 x19 x20 x21 x23 v) ?_ ?_
                    · skip
                      refine AW_region ?_
                      refine AL_cons (LR_move (at_tmp 11 _) rfl) (sS (sT1 rfl) sB0 sF0) ?_
                      refine AL_cons (LR_un (at_tmp 87 _) (not_Bl x24) rfl) (sS (sT1 rfl) sB0 sF0) ?_
                      refine AL_nil ?_
                      exact thenN (cutLeaf (v := !x24) hr (weakB ((sT rfl (sT rfl (sT rfl (sT rfl (sT rfl sT0)))))) (sub_keep (sub_keep sub_nil)) rfl))
                    · rintro x55 hr
                      show AW Hfaa.prog _ _ _ ⟨[(0, .inr (.inl (0, 0))), (1, .inr (.inl (1, 0))), (6, .inl (is (I64 x10))), (9, .inl (is (U64 x23))), (88, .inl (is (Bl x55)))], [(0, pb 261 (is (I64 x18) :: (ar U64 52 x19 ++ []))), (1, pb 261 (is (I64 x20) :: (ar U64 52 x21 ++ [])))]⟩
                      have hr : some r = F269_17 N x10 x18 x19 x20 x21 x23 x55 := hr
                      refine AW_condT (b := x55) rfl (fun h => ?_) (fun h => ?_)
                      · have hr := hr.trans (cond_t h)
                        clear h
                        refine AW_region ?_
                        refine AL_cons (LR_assign (at_c (v' := U64 (18446744073709551615#64)) rfl) rfl) (sS sT0 sB0 sF0) ?_
                        refine AL_nil ?_
                        exact thenN (cutLeaf (v := 18446744073709551615#64) hr (weakB ((sT rfl (sT rfl (sT rfl (sT rfl sT0))))) (sub_keep (sub_keep sub_nil)) rfl))
                      · have hr := hr.trans (cond_f h)
                        clear h
                        refine AW_skip ?_
                        exact thenN (cutLeaf (v := x23) hr (weakB ((sT rfl (sT rfl (sT rfl (sT rfl sT0))))) (sub_keep (sub_keep sub_nil)) rfl))
                  · rintro x25 hr
                    show AW Hfaa.prog _ _ _ ⟨[(0, .inr (.inl (0, 0))), (1, .inr (.inl (1, 0))), (6, .inl (is (I64 x10))), (9, .inl (is (U64 x25)))], [(0, pb 261 (is (I64 x18) :: (ar U64 52 x19 ++ []))), (1, pb 261 (is (I64 x20) :: (ar U64 52 x21 ++ [])))]⟩
                    have hr : some r = F269_9 N x10 x18 x19 x20 x21 x25 := hr
                    refine AW_cut (σ := Int × (Nat → BitVec 64)) (fun v => ⟨[(0, .inr (.inl (0, 0))), (1, .inr (.inl (1, 0))), (6, .inl (is (I64 x10))), (9, .inl (is (U64 x25)))], [(0, pb 261 (is (I64 v.1) :: (ar U64 52 v.2 ++ []))), (1, pb 261 (is (I64 x20) :: (ar U64 52 x21 ++ [])))]⟩) (fun v => some r = F269_10 N x10 x20 x21 x25 v.1 v.2) ?_ ?_
                    · skip
                      refine AW_region ?_
                      refine AL_cons (LR_move (at_tmp 0 _) rfl) (sS (sT1 rfl) sB0 sF0) ?_
                      obtain ⟨y34, hy34, hr⟩ := bind_some hr
                      refine AL_cons (LR_callB [(0, 0)] [(0, 0)] Hfaa.func365 rfl rfl (C365 N x18 x19 64 y34 hy34) (aTC (at_tmp 89 _) (aTC (at_c (v' := I64 64) rfl) aT0)) rfl rfl rfl rfl rfl) (sS (sA (sT1 rfl) (sA sT0 sT0)) (sB1 rfl) sF0) ?_
                      refine AL_nil ?_
                      exact thenN (cutLeaf (v := (y34.1, y34.2)) hr (weakB ((sT rfl (sT rfl (sT rfl (sT rfl sT0))))) (sub_keep (sub_keep sub_nil)) rfl))
                    · rintro ⟨x26, x27⟩ hr
                      show AW Hfaa.prog _ _ _ ⟨[(0, .inr (.inl (0, 0))), (1, .inr (.inl (1, 0))), (6, .inl (is (I64 x10))), (9, .inl (is (U64 x25)))], [(0, pb 261 (is (I64 x26) :: (ar U64 52 x27 ++ []))), (1, pb 261 (is (I64 x20) :: (ar U64 52 x21 ++ [])))]⟩
                      have hr : some r = F269_10 N x10 x20 x21 x25 x26 x27 := hr
                      refine AW_cut (σ := BitVec 64 × Int × (Nat → BitVec 64) × Int × (Nat → BitVec 64)) (fun v => ⟨[(0, .inr (.inl (0, 0))), (6, .inl (is (I64 x10))), (9, .inl (is (U64 v.1)))], [(0, pb 261 (is (I64 v.2.1) :: (ar U64 52 v.2.2.1 ++ []))), (1, pb 261 (is (I64 v.2.2.2.1) :: (ar U64 52 v.2.2.2.2 ++ [])))]⟩) (fun v => some r = F269_11 N x10 v.1 v.2.1 v.2.2.1 v.2.2.2.1 v.2.2.2.2) ?_ ?_
                      · skip
                        refine AW_cut (σ := Bool × Int × (Nat → BitVec 64) × Int × (Nat → BitVec 64)) (fun v => ⟨[(0, .inr (.inl (0, 0))), (1, .inr (.inl (1, 0))), (6, .inl (is (I64 x10))), (9, .inl (is (U64 x25))), (12, .inl (is (Bl v.1)))], [(0, pb 261 (is (I64 v.2.1) :: (ar U64 52 v.2.2.1 ++ []))), (1, pb 261 (is (I64 v.2.2.2.1) :: (ar U64 52 v.2.2.2.2 ++ [])))]⟩) (fun v => some r = F269_14 N x10 x25 v.1 v.2.1 v.2.2.1 v.2.2.2.1 v.2.2.2.2) ?_ ?_
                        · skip
                          refine AW_region ?_
                          refine AL_cons (LR_move (at_tmp 0 _) rfl) (sS (sT1 rfl) sB0 sF0) ?_
                          refine AL_cons (LR_move (at_tmp 1 _) rfl) (sS (sT1 rfl) sB0 sF0) ?_
                          refine AL_cons (LR_move (at_tmp 9 _) rfl) (sS (sT1 rfl) sB0 sF0) ?_
                          obtain ⟨y33, hy33, hr⟩ := bind_some hr
                          refine AL_cons (LR_callB [(0, 0), (1, 1)] [(0, 0), (1, 1)] Hfaa.func367 rfl rfl (C367 N x26 x27 x20 x21 x25 y33 hy33) (aTC (at_tmp 91 _) (aTC (at_tmp 92 _) (aTC (at_tmp 93 _) aT0))) rfl rfl rfl rfl rfl) (sS (sA (sT1 rfl) (sA (sT1 rfl) (sA (sT1 rfl) sT0))) (sB2 rfl rfl) sF0) ?_
                          refine AL_cons (LR_assign (at_tmp 94 _) rfl) (sS (sT1 rfl) sB0 sF0) ?_
                          refine AL_nil ?_
                          exact thenN (cutLeaf (v := (y33.1, y33.2.1, y33.2.2.1, y33.2.2.2.1, y33.2.2.2.2)) hr (weakB ((sT rfl (sT rfl (sT rfl (sT rfl (sT rfl sT0)))))) (sub_keep (sub_keep sub_nil)) rfl))
                        · rintro ⟨x39, x40, x41, x42, x43⟩ hr
                          show AW Hfaa.prog _ _ _ ⟨[(0, .inr (.inl (0, 0))), (1, .inr (.inl (1, 0))), (6, .inl (is (I64 x10))), (9, .inl (is (U64 x25))), (12, .inl (is (Bl x39)))], [(0, pb 261 (is (I64 x40) :: (ar U64 52 x41 ++ []))), (1, pb 261 (is (I64 x42) :: (ar U64 52 x43 ++ [])))]⟩
                          have hr : some r = F269_14 N x10 x25 x39 x40 x41 x42 x43 := hr
                          refine AW_block ?_
                          refine AW_iterR (σ := BitVec 64 × Bool × Int × (Nat → BitVec 64) × Int × (Nat → BitVec 64)) (r := r) (x0 := (x25, x39, x40, x41, x42, x43)) (emb := fun v => ⟨[(0, .inr (.inl (0, 0))), (1, .inr (.inl (1, 0))), (6, .inl (is (I64 x10))), (9, .inl (is (U64 v.1))), (12, .inl (is (Bl v.2.1)))], [(0, pb 261 (is (I64 v.2.2.1) :: (ar U64 52 v.2.2.2.1 ++ []))), (1, pb 261 (is (I64 v.2.2.2.2.1) :: (ar U64 52 v.2.2.2.2.2 ++ [])))]⟩) ?_ hr ?_
                          · exact weakB ((sT rfl (sT rfl (sT rfl (sT rfl (sT rfl sT0)))))) (sub_keep (sub_keep sub_nil)) rfl
                          rintro ⟨x44, x45, x46, x47, x48, x49⟩ out2 hr
                          show AW Hfaa.prog _ _ _ ⟨[(0, .inr (.inl (0, 0))), (1, .inr (.inl (1, 0))), (6, .inl (is (I64 x10))), (9, .inl (is (U64 x44))), (12, .inl (is (Bl x45)))], [(0, pb 261 (is (I64 x46) :: (ar U64 52 x47 ++ []))), (1, pb 261 (is (I64 x48) :: (ar U64 52 x49 ++ [])))]⟩
                          have hr : some out2 = F269_L15b N x10 x44 x45 x46 x47 x48 x49 := hr
                          refine AW_seq1 ?_
                          refine AW_seq1 ?_
                          refine AW_region ?_
                          refine AL_cons (LR_move (at_tmp 12 _) rfl) (sS (sT1 rfl) sB0 sF0) ?_
                          refine AL_nil ?_
                          refine thenN ?_
                          refine AW_condT (b := x45) rfl (fun h => ?_) (fun h => ?_)
                          · have hr := hr.trans (cond_t h)
                            clear h
                            refine AW_skip ?_
                            refine thenN ?_
                            refine AW_cut (σ := Bool × Int × (Nat → BitVec 64) × Int × (Nat → BitVec 64)) (fun v => ⟨[(0, .inr (.inl (0, 0))), (1, .inr (.inl (1, 0))), (6, .inl (is (I64 x10))), (9, .inl (is (U64 x44))), (12, .inl (is (Bl v.1)))], [(0, pb 261 (is (I64 v.2.1) :: (ar U64 52 v.2.2.1 ++ []))), (1, pb 261 (is (I64 v.2.2.2.1) :: (ar U64 52 v.2.2.2.2 ++ [])))]⟩) (fun v => some out2 = F269_16 N x10 x44 v.1 v.2.1 v.2.2.1 v.2.2.2.1 v.2.2.2.2) ?_ ?_
                            · skip
                              refine AW_block ?_
                              refine AW_region ?_
                              refine AL_cons (LR_move (at_tmp 0 _) rfl) (sS (sT1 rfl) sB0 sF0) ?_
                              refine AL_cons (LR_move (at_tmp 1 _) rfl) (sS (sT1 rfl) sB0 sF0) ?_
                              obtain ⟨y32, hy32, hr⟩ := bind_some hr
                              refine AL_cons (LR_callB [(0, 0), (1, 1)] [(0, 0), (1, 1)] Hfaa.func368 rfl rfl (C368 N x46 x47 x48 x49 y32 hy32) (aTC (at_tmp 98 _) (aTC (at_tmp 99 _) aT0)) rfl rfl rfl rfl rfl) (sS (sA (sT1 rfl) (sA (sT1 rfl) sT0)) (sB2 rfl rfl) sF0) ?_
                              refine AL_cons (LR_un (at_tmp 100 _) (not_Bl y32.1) rfl) (sS (sT1 rfl) sB0 sF0) ?_
                              refine AL_cons (LR_assign (at_tmp 101 _) rfl) (sS (sT1 rfl) sB0 sF0) ?_
                              refine AL_nil ?_
                              refine blN ?_
                              exact thenN (cutLeaf (v := (!y32.1, y32.2.1, y32.2.2.1, y32.2.2.2.1, y32.2.2.2.2)) hr (weakB ((sT rfl (sT rfl (sT rfl (sT rfl (sT rfl sT0)))))) (sub_keep (sub_keep sub_nil)) rfl))
                            · rintro ⟨x50, x51, x52, x53, x54⟩ hr
                              show AW Hfaa.prog _ _ _ ⟨[(0, .inr (.inl (0, 0))), (1, .inr (.inl (1, 0))), (6, .inl (is (I64 x10))), (9, .inl (is (U64 x44))), (12, .inl (is (Bl x50)))], [(0, pb 261 (is (I64 x51) :: (ar U64 52 x52 ++ []))), (1, pb 261 (is (I64 x53) :: (ar U64 52 x54 ++ [])))]⟩
                              have hr : some out2 = F269_16 N x10 x44 x50 x51 x52 x53 x54 := hr
                              refine AW_region ?_
                              refine AL_cons (LR_move (at_tmp 9 _) rfl) (sS (sT1 rfl) sB0 sF0) ?_
                              refine AL_cons (LR_bin (at_tmp 96 _) (at_c (v' := U64 (1#64)) rfl) (sub_U64 x44 (1#64)) rfl) (sS (sA (sT1 rfl) sT0) sB0 sF0) ?_
                              refine AL_cons (LR_assign (at_tmp 97 _) rfl) (sS (sT1 rfl) sB0 sF0) ?_
                              refine AL_nil ?_
                              exact thenN (loopNext (x' := (x44 - (1#64), x50, x51, x52, x53, x54)) hr (weakB ((sT rfl (sT rfl (sT rfl (sT rfl (sT rfl sT0)))))) (sub_keep (sub_keep sub_nil)) rfl))
                          · have hr := hr.trans (cond_f h)
                            clear h
                            refine AW_exit ?_
                            refine thenX ?_
                            obtain ⟨r', hro, hr⟩ := map_inr hr
                            refine thenX (loopOut hro (fun he => ?_))
                            rw [he] at hr
                            refine blH ?_
                            exact thenN (cutLeaf (v := (x44, x46, x47, x48, x49)) hr (weakB ((sT rfl (sT rfl (sT rfl sT0)))) (sub_keep (sub_keep sub_nil)) rfl))
                      · rintro ⟨x28, x29, x30, x31, x32⟩ hr
                        show AW Hfaa.prog _ _ _ ⟨[(0, .inr (.inl (0, 0))), (6, .inl (is (I64 x10))), (9, .inl (is (U64 x28)))], [(0, pb 261 (is (I64 x29) :: (ar U64 52 x30 ++ []))), (1, pb 261 (is (I64 x31) :: (ar U64 52 x32 ++ [])))]⟩
                        have hr : some r = F269_11 N x10 x28 x29 x30 x31 x32 := hr
                        refine AW_cut (σ := BitVec 64 × Int × (Nat → BitVec 64)) (fun v => ⟨[(6, .inl (is (I64 x10))), (9, .inl (is (U64 v.1)))], [(0, pb 261 (is (I64 v.2.1) :: (ar U64 52 v.2.2 ++ []))), (1, pb 261 (is (I64 x31) :: (ar U64 52 x32 ++ [])))]⟩) (fun v => some r = F269_12 N x10 x31 x32 v.1 v.2.1 v.2.2) ?_ ?_
                        · skip
                          refine AW_cut (σ := Bool × Int × (Nat → BitVec 64)) (fun v => ⟨[(6, .inl (is (I64 x10))), (9, .inl (is (U64 x28))), (104, .inl (is (Bl v.1)))], [(0, pb 261 (is (I64 v.2.1) :: (ar U64 52 v.2.2 ++ []))), (1, pb 261 (is (I64 x31) :: (ar U64 52 x32 ++ [])))]⟩) (fun v => some r = F269_13 N x10 x28 x31 x32 v.1 v.2.1 v.2.2) ?_ ?_
                          · skip
                            refine AW_region ?_
                            refine AL_cons (LR_move (at_tmp 0 _) rfl) (sS (sT1 rfl) sB0 sF0) ?_
                            obtain ⟨y25, hy25, hr⟩ := bind_some hr
                            refine AL_cons (LR_callB [(0, 0)] [(0, 0)] Hfaa.func369 rfl rfl (C369 N x29 x30 y25 hy25) (aTC (at_tmp 102 _) aT0) rfl rfl rfl rfl rfl) (sS (sA (sT1 rfl) sT0) (sB1 rfl) sF0) ?_
                            refine AL_cons (LR_un (at_tmp 103 _) (not_Bl y25.1) rfl) (sS (sT1 rfl) sB0 sF0) ?_
                            refine AL_nil ?_
                            exact thenN (cutLeaf (v := (!y25.1, y25.2.1, y25.2.2)) hr (weakB ((sT rfl (sT rfl (sT rfl sT0)))) (sub_keep (sub_keep sub_nil)) rfl))
                          · rintro ⟨x36, x37, x38⟩ hr
                            show AW Hfaa.prog _ _ _ ⟨[(6, .inl (is (I64 x10))), (9, .inl (is (U64 x28))), (104, .inl (is (Bl x36)))], [(0, pb 261 (is (I64 x37) :: (ar U64 52 x38 ++ []))), (1, pb 261 (is (I64 x31) :: (ar U64 52 x32 ++ [])))]⟩
                            have hr : some r = F269_13 N x10 x28 x31 x32 x36 x37 x38 := hr
                            refine AW_condT (b := x36) rfl (fun h => ?_) (fun h => ?_)
                            · have hr := hr.trans (cond_t h)
                              clear h
                              refine AW_region ?_
                              refine AL_cons (LR_move (at_tmp 9 _) rfl) (sS (sT1 rfl) sB0 sF0) ?_
                              refine AL_cons (LR_bin (at_tmp 105 _) (at_c (v' := U64 (1#64)) rfl) (or_U64 x28 (1#64)) rfl) (sS (sA (sT1 rfl) sT0) sB0 sF0) ?_
                              refine AL_cons (LR_assign (at_tmp 106 _) rfl) (sS (sT1 rfl) sB0 sF0) ?_
                              refine AL_nil ?_
                              exact thenN (cutLeaf (v := (x28 ||| (1#64), x37, x38)) hr (weakB ((sT rfl (sT rfl sT0))) (sub_keep (sub_keep sub_nil)) rfl))
                            · have hr := hr.trans (cond_f h)
                              clear h
                              refine AW_skip ?_
                              exact thenN (cutLeaf (v := (x28, x37, x38)) hr (weakB ((sT rfl (sT rfl sT0))) (sub_keep (sub_keep sub_nil)) rfl))
                        · rintro ⟨x33, x34, x35⟩ hr
                          show AW Hfaa.prog _ _ _ ⟨[(6, .inl (is (I64 x10))), (9, .inl (is (U64 x33)))], [(0, pb 261 (is (I64 x34) :: (ar U64 52 x35 ++ []))), (1, pb 261 (is (I64 x31) :: (ar U64 52 x32 ++ [])))]⟩
                          have hr : some r = F269_12 N x10 x31 x32 x33 x34 x35 := hr
                          refine AW_seq1 ?_
                          refine AW_region ?_
                          refine AL_cons (LR_move (at_tmp 9 _) rfl) (sS (sT1 rfl) sB0 sF0) ?_
                          refine AL_cons (LR_move (at_tmp 6 _) rfl) (sS (sT1 rfl) sB0 sF0) ?_
                          refine AL_cons (LR_bin (at_tmp 108 _) (at_c (v' := I64 64) rfl) (sub_I64 x10 64) rfl) (sS (sA (sT1 rfl) sT0) sB0 sF0) ?_
                          refine AL_cons (LR_assign (at_tmp 107 _) rfl) (sS (sT1 rfl) sB0 sF0) ?_
                          refine AL_cons (LR_assign (at_tmp 109 _) rfl) (sS (sT1 rfl) sB0 sF0) ?_
                          refine AL_nil ?_
                          refine thenN ?_
                          refine AW_ret ?_
                          obtain rfl := Option.some.inj hr
                          exact ⟨res2 rfl (rvT rfl) (rvT rfl), (sub_keep (sub_keep sub_nil))⟩
/-- parse/slow.SlowFlags -/
def F168_10 (N : Nat) (a0_0 : BitVec 8) (a0_1 : BitVec 8) (a1 : BitVec 8) (a2_0 : Bool) (a2_1 : List UInt8) (a2_2 : Int) (x16 : BitVec 64) (x17 : Int) : Option (BitVec 64 × BitVec 8) := (F265 N a0_0 a0_1 a1 a2_0 x16 (w64 (x17 + (w64 a2_2)))).bind fun y28 => some (y28.1, y28.2)
def F168_9 (N : Nat) (a0_0 : BitVec 8) (a0_1 : BitVec 8) (a1 : BitVec 8) (a2_0 : Bool) (a2_1 : List UInt8) (a2_2 : Int) (x12 : Int) (x13 : Nat → BitVec 64) (x14 : Int) (x15 : Nat → BitVec 64) : Option (BitVec 64 × BitVec 8) := (F269 N x12 x13 x14 x15).bind fun y29 => F168_10 N a0_0 a0_1 a1 a2_0 a2_1 a2_2 y29.1 y29.2.1
def F168_11 (N : Nat) (a0_0 : BitVec 8) (a0_1 : BitVec 8) (a1 : BitVec 8) (a2_0 : Bool) (a2_1 : List UInt8) (a2_2 : Int) (x8 : Int) (x9 : Nat → BitVec 64) (x10 : Int) (x11 : Nat → BitVec 64) (x18 : Bool) : Option (BitVec 64 × BitVec 8) := bif x18 then (F268 N x10 x11 (w64 (0 - (w64 a2_2)))).bind fun y30 => F168_9 N a0_0 a0_1 a1 a2_0 a2_1 a2_2 x8 x9 y30.1 y30.2 else (F268 N x8 x9 (w64 a2_2)).bind fun y31 => F168_9 N a0_0 a0_1 a1 a2_0 a2_1 a2_2 y31.1 y31.2 x10 x11
def F168_8 (N : Nat) (a0_0 : BitVec 8) (a0_1 : BitVec 8) (a1 : BitVec 8) (a2_0 : Bool) (a2_1 : List UInt8) (a2_2 : Int) (x8 : Int) (x9 : Nat → BitVec 64) (x10 : Int) (x11 : Nat → BitVec 64) : Option (BitVec 64 × BitVec 8) := F168_11 N a0_0 a0_1 a1 a2_0 a2_1 a2_2 x8 x9 x10 x11 (decide (a2_2 < 0))
def F168_7 (N : Nat) (a0_0 : BitVec 8) (a0_1 : BitVec 8) (a1 : BitVec 8) (a2_0 : Bool) (a2_1 : List UInt8) (a2_2 : Int) (x7 : Nat → BitVec 64) (x8 : Int) (x9 : Nat → BitVec 64) : Option (BitVec 64 × BitVec 8) := (F267 N 0 x7 (0#64) (1#64)).bind fun y32 => F168_8 N a0_0 a0_1 a1 a2_0 a2_1 a2_2 x8 x9 y32.1 y32.2
def F168_6 (N : Nat) (a0_0 : BitVec 8) (a0_1 : BitVec 8) (a1 : BitVec 8) (a2_0 : Bool) (a2_1 : List UInt8) (a2_2 : Int) (x6 : Nat → BitVec 64) (x7 : Nat → BitVec 64) : Option (BitVec 64 × BitVec 8) := (F266 N 0 x6 a2_1).bind fun y33 => F168_7 N a0_0 a0_1 a1 a2_0 a2_1 a2_2 x7 y33.1 y33.2
def F168_5 (N : Nat) (a0_0 : BitVec 8) (a0_1 : BitVec 8) (a1 : BitVec 8) (a2_0 : Bool) (a2_1 : List UInt8) (a2_2 : Int) (x5 : Bool) : Option (BitVec 64 × BitVec 8) := bif x5 then (F265 N a0_0 a0_1 a1 a2_0 (9223372036854775808#64) (-2000)).bind fun y21 => some (y21.1, y21.2) else F168_6 N a0_0 a0_1 a1 a2_0 a2_1 a2_2 (fun _ => 0#64) (fun _ => 0#64)
def F168_4 (N : Nat) (a0_0 : BitVec 8) (a0_1 : BitVec 8) (a1 : BitVec 8) (a2_0 : Bool) (a2_1 : List UInt8) (a2_2 : Int) (x2 : Int) (x4 : Bool) : Option (BitVec 64 × BitVec 8) := bif x4 then (F265 N a0_0 a0_1 a1 a2_0 (9223372036854775808#64) 2000).bind fun y19 => some (y19.1, y19.2) else F168_5 N a0_0 a0_1 a1 a2_0 a2_1 a2_2 (decide (x2 < (-400)))
def F168_3 (N : Nat) (a0_0 : BitVec 8) (a0_1 : BitVec 8) (a1 : BitVec 8) (a2_0 : Bool) (a2_1 : List UInt8) (a2_2 : Int) (x2 : Int) (x3 : Bool) : Option (BitVec 64 × BitVec 8) := bif x3 then (F265 N a0_0 a0_1 a1 a2_0 (0#64) 0).bind fun y17 => some (y17.1, y17.2) else F168_4 N a0_0 a0_1 a1 a2_0 a2_1 a2_2 x2 (decide (x2 > 310))
def F168_2 (N : Nat) (a0_0 : BitVec 8) (a0_1 : BitVec 8) (a1 : BitVec 8) (a2_0 : Bool) (a2_1 : List UInt8) (a2_2 : Int) (x2 : Int) : Option (BitVec 64 × BitVec 8) := F168_3 N a0_0 a0_1 a1 a2_0 a2_1 a2_2 x2 (a2_1 == ([] : List UInt8))
def F168_1 (N : Nat) (a0_0 : BitVec 8) (a0_1 : BitVec 8) (a1 : BitVec 8) (a2_0 : Bool) (a2_1 : List UInt8) (a2_2 : Int) (x1 : Bool) : Option (BitVec 64 × BitVec 8) := bif x1 then some (0#64, 0#8) else F168_2 N a0_0 a0_1 a1 a2_0 a2_1 a2_2 (w64 ((a2_1.length : Int) + (w64 a2_2)))
def F168 (N : Nat) (a0_0 : BitVec 8) (a0_1 : BitVec 8) (a1 : BitVec 8) (a2_0 : Bool) (a2_1 : List UInt8) (a2_2 : Int) : Option (BitVec 64 × BitVec 8) := lt (F40 a0_0 a0_1) fun y34 => bif !y34 then F168_1 N a0_0 a0_1 a1 a2_0 a2_1 a2_2 true else (F137 N a2_0 a2_1 a2_2).bind fun y36 => F168_1 N a0_0 a0_1 a1 a2_0 a2_1 a2_2 (!y36)
theorem C168 (N : Nat) (a0_0 : BitVec 8) (a0_1 : BitVec 8) (a1 : BitVec 8) (a2_0 : Bool) (a2_1 : List UInt8) (a2_2 : Int) (r : BitVec 64 × BitVec 8) (hr : some r = F168 N a0_0 a0_1 a1 a2_0 a2_1 a2_2) : Aw.Fn Hfaa.prog 168 [agg [is (U8 a0_0), is (U8 a0_1)], is (U8 a1), agg [is (Bl a2_0), is (Sv a2_1), is (I16 a2_2)]] (tup [is (U64 r.1), is (U8 r.2)]) := by
  refine fn_intro Hfaa.func168 rfl rfl rfl ?_
  intro bn0 w0 H0
  refine AW_seq1 ?_
  refine AW_region ?_
  refine AL_cons (LR_box (at_tmp 0 _) (cells_agg _) rfl) (sS (sT1 rfl) sB0 (sF1 rfl)) ?_
  refine AL_cons (LR_box (at_tmp 2 _) (cells_agg _) rfl) (sS (sT1 rfl) sB0 (sF1 rfl)) ?_
  refine AL_cons (LR_assign (at_c (v' := U64 (0#64)) rfl) rfl) (sS sT0 sB0 sF0) ?_
  refine AL_cons (LR_assign (at_c (v' := U8 (0#8)) rfl) rfl) (sS sT0 sB0 sF0) ?_
  refine AL_nil ?_
  refine thenN ?_
  refine AW_seq1 ?_
  refine AW_cut (σ := Bool) (fun v => ⟨[(1, .inl (is (U8 a1))), (3, .inr (.inl (3, 0))), (5, .inr (.inl (5, 0))), (20, .inl (is (Bl v)))], [(3, pb 23 [is (U8 a0_0), is (U8 a0_1)]), (5, pb 76 [is (Bl a2_0), is (Sv a2_1), is (I16 a2_2)])]⟩) (fun v => some r = F168_1 N a0_0 a0_1 a1 a2_0 a2_1 a2_2 v) ?_ ?_
  · skip
    refine AW_region ?_
    refine AL_cons (LR_loads (at_tmp 3 _) ag23 sz23 rfl rfl rfl) (sS (sT1 rfl) (sB1 rfl) sF0) ?_
    obtain ⟨y34, hy34, hr⟩ := lt_some hr
    refine AL_cons (LR_call Hfaa.func40 rfl rfl (C40 a0_0 a0_1 y34 hy34) (all_cons (at_tmp 13 _) all_nil) rfl) (sS (sA (sT1 rfl) sT0) sB0 sF0) ?_
    refine AL_cons (LR_un (at_tmp 14 _) (not_Bl y34) rfl) (sS (sT1 rfl) sB0 sF0) ?_
    refine AL_cons (LR_move (at_tmp 15 _) rfl) (sS (sT1 rfl) sB0 sF0) ?_
    cases hb : !y34
    · have hr := hr.trans (cond_f hb)
      refine AL_cons (LR_on rfl rfl rfl (LR_loads (at_tmp 5 _) ag76 sz76 rfl rfl rfl)) (sS (sT rfl (sT1 rfl)) (sB1 rfl) sF0) ?_
      obtain ⟨y36, hy36, hr⟩ := bind_some hr
      refine AL_cons (LR_on rfl rfl rfl (LR_call Hfaa.func137 rfl rfl (C137 N a2_0 a2_1 a2_2 y36 hy36) (all_cons (at_tmp 17 _) all_nil) rfl)) (sS (sT rfl (sA (sT1 rfl) sT0)) sB0 sF0) ?_
      refine AL_cons (LR_on rfl rfl rfl (LR_un (at_tmp 18 _) (not_Bl y36) rfl)) (sS (sT rfl (sT1 rfl)) sB0 sF0) ?_
      refine AL_cons (LR_pick (b := false) (at_tmp 16 _) (at_c (v' := Bl true) rfl) (at_tmp 19 _) rfl) (sS (sA (sT1 rfl) (sA sT0 (sT1 rfl))) sB0 sF0) ?_
      refine AL_nil ?_
      exact thenN (cutLeaf (v := !y36) hr (weak0 ((sT rfl (sT rfl (sT rfl (sT rfl sT0))))) (sub_keep (sub_keep sub_nil))))
    · have hr := hr.trans (cond_t hb)
      refine AL_cons (LR_off (b := true) rfl rfl rfl rfl) (sS (sT1 rfl) sB0 sF0) ?_
      refine AL_cons (LR_off (b := true) rfl rfl rfl rfl) (sS (sT1 rfl) sB0 sF0) ?_
      refine AL_cons (LR_off (b := true) rfl rfl rfl rfl) (sS (sT1 rfl) sB0 sF0) ?_
      refine AL_cons (LR_pick (b := true) (at_tmp 16 _) (at_c (v' := Bl true) rfl) (at_tmp 19 _) rfl) (sS (sA (sT1 rfl) (sA sT0 (sT1 rfl))) sB0 sF0) ?_
      refine AL_nil ?_
      exact thenN (cutLeaf (v := true) hr (weak0 ((sT rfl (sT rfl (sT rfl (sT rfl sT0))))) (sub_keep (sub_keep sub_nil))))
  · rintro x1 hr
    show AW Hfaa.prog _ _ _ ⟨[(1, .inl (is (U8 a1))), (3, .inr (.inl (3, 0))), (5, .inr (.inl (5, 0))), (20, .inl (is (Bl x1)))], [(3, pb 23 [is (U8 a0_0), is (U8 a0_1)]), (5, pb 76 [is (Bl a2_0), is (Sv a2_1), is (I16 a2_2)])]⟩
    have hr : some r = F168_1 N a0_0 a0_1 a1 a2_0 a2_1 a2_2 x1 := hr
    refine AW_condT (b := x1) rfl (fun h => ?_) (fun h => ?_)
    · have hr := hr.trans (cond_t h)
      clear h
      refine AW_seq1 ?_
      refine AW_region ?_
      refine AL_cons (LR_assign (at_c (v' := U64 (0#64)) rfl) rfl) (sS sT0 sB0 sF0) ?_
      refine AL_cons (LR_assign (at_c (v' := U8 (0#8)) rfl) rfl) (sS sT0 sB0 sF0) ?_
      refine AL_nil ?_
      refine thenN ?_
      refine AW_ret ?_
      refine thenR ?_
      obtain rfl := Option.some.inj hr
      exact res2 rfl (rvT rfl) (rvT rfl)
    · have hr := hr.trans (cond_f h)
      clear h
      refine AW_skip ?_
      refine thenN ?_
      refine AW_cut (σ := Int) (fun v => ⟨[(1, .inl (is (U8 a1))), (3, .inr (.inl (3, 0))), (5, .inr (.inl (5, 0))), (8, .inl (is (I64 v)))], [(3, pb 23 [is (U8 a0_0), is (U8 a0_1)]), (5, pb 76 [is (Bl a2_0), is (Sv a2_1), is (I16 a2_2)])]⟩) (fun v => some r = F168_2 N a0_0 a0_1 a1 a2_0 a2_1 a2_2 v) ?_ ?_
      · skip
        refine AW_region ?_
        refine AL_cons (LR_fieldAddr (off := 0) (o := 1) (at_tmp 5 _) (fun b w => fa76_1 b 0 w) rfl) (sS (sT1 rfl) sB0 sF0) ?_
        refine AL_cons (LR_load (at_tmp 21 _) na9 rfl rfl) (sS (sT1 rfl) (sB1 rfl) sF0) ?_
        refine AL_cons (LR_bi1 (at_tmp 22 _) (len_S Hfaa.underlying9 a2_1) rfl) (sS (sT1 rfl) sB0 sF0) ?_
        refine AL_cons (LR_fieldAddr (off := 0) (o := 2) (at_tmp 5 _) (fun b w => fa76_2 b 0 w) rfl) (sS (sT1 rfl) sB0 sF0) ?_
        refine AL_cons (LR_load (at_tmp 24 _) na44 rfl rfl) (sS (sT1 rfl) (sB1 rfl) sF0) ?_
        refine AL_cons (LR_conv (vx := I16 a2_2) (at_tmp 25 _) (conv_I64 Hfaa.underlying44 Hfaa.underlying3 a2_2) rfl) (sS (sT1 rfl) sB0 sF0) ?_
        refine AL_cons (LR_bin (at_tmp 23 _) (at_tmp 26 _) (add_I64 (a2_1.length : Int) (w64 a2_2)) rfl) (sS (sA (sT1 rfl) (sT1 rfl)) sB0 sF0) ?_
        refine AL_cons (LR_assign (at_tmp 27 _) rfl) (sS (sT1 rfl) sB0 sF0) ?_
        refine AL_nil ?_
        exact thenN (cutLeaf (v := w64 ((a2_1.length : Int) + (w64 a2_2))) hr (weak0 ((sT rfl (sT rfl (sT rfl (sT rfl sT0))))) (sub_keep (sub_keep sub_nil))))
      · rintro x2 hr
        show AW Hfaa.prog _ _ _ ⟨[(1, .inl (is (U8 a1))), (3, .inr (.inl (3, 0))), (5, .inr (.inl (5, 0))), (8, .inl (is (I64 x2)))], [(3, pb 23 [is (U8 a0_0), is (U8 a0_1)]), (5, pb 76 [is (Bl a2_0), is (Sv a2_1), is (I16 a2_2)])]⟩
        have hr : some r = F168_2 N a0_0 a0_1 a1 a2_0 a2_1 a2_2 x2 := hr
        refine AW_seq1 ?_
        refine AW_block ?_
        refine AW_cut (σ := Bool) (fun v => ⟨[(1, .inl (is (U8 a1))), (3, .inr (.inl (3, 0))), (5, .inr (.inl (5, 0))), (8, .inl (is (I64 x2))), (28, .inl (is (Bl v)))], [(3, pb 23 [is (U8 a0_0), is (U8 a0_1)]), (5, pb 76 [is (Bl a2_0), is (Sv a2_1), is (I16 a2_2)])]⟩) (fun v => some r = F168_3 N a0_0 a0_1 a1 a2_0 a2_1 a2_2 x2 v) ?_ ?_
        · skip
          refine AW_region ?_
          refine AL_cons (LR_fieldAddr (off := 0) (o := 1) (at_tmp 5 _) (fun b w => fa76_1 b 0 w) rfl) (sS (sT1 rfl) sB0 sF0) ?_
          refine AL_cons (LR_load (at_tmp 29 _) na9 rfl rfl) (sS (sT1 rfl) (sB1 rfl) sF0) ?_
          refine AL_cons (LR_bin (at_tmp 30 _) (at_c (v' := Sv ([] : List UInt8)) rfl) (eql_S a2_1 ([] : List UInt8)) rfl) (sS (sA (sT1 rfl) sT0) sB0 sF0) ?_
          refine AL_cons (LR_assign (at_tmp 31 _) rfl) (sS (sT1 rfl) sB0 sF0) ?_
          refine AL_nil ?_
          exact thenN (cutLeaf (v := a2_1 == ([] : List UInt8)) hr (weak0 ((sT rfl (sT rfl (sT rfl (sT rfl (sT rfl sT0)))))) (sub_keep (sub_keep sub_nil))))
        · rintro x3 hr
          show AW Hfaa.prog _ _ _ ⟨[(1, .inl (is (U8 a1))), (3, .inr (.inl (3, 0))), (5, .inr (.inl (5, 0))), (8, .inl (is (I64 x2))), (28, .inl (is (Bl x3)))], [(3, pb 23 [is (U8 a0_0), is (U8 a0_1)]), (5, pb 76 [is (Bl a2_0), is (Sv a2_1), is (I16 a2_2)])]⟩
          have hr : some r = F168_3 N a0_0 a0_1 a1 a2_0 a2_1 a2_2 x2 x3 := hr
          refine AW_condT (b := x3) rfl (fun h => ?_) (fun h => ?_)
          · have hr := hr.trans (cond_t h)
            clear h
            refine AW_seq1 ?_
            refine AW_region ?_
            refine AL_cons (LR_loads (at_tmp 3 _) ag23 sz23 rfl rfl rfl) (sS (sT1 rfl) (sB1 rfl) sF0) ?_
            refine AL_cons (LR_move (at_tmp 1 _) rfl) (sS (sT1 rfl) sB0 sF0) ?_
            refine AL_cons (LR_fieldAddr (off := 0) (o := 0) (at_tmp 5 _) (fun b w => fa76_0 b 0 w) rfl) (sS (sT1 rfl) sB0 sF0) ?_
            refine AL_cons (LR_load (at_tmp 34 _) na4 rfl rfl) (sS (sT1 rfl) (sB1 rfl) sF0) ?_
            obtain ⟨y17, hy17, hr⟩ := bind_some hr
            refine AL_cons (LR_call Hfaa.func265 rfl rfl (C265 N a0_0 a0_1 a1 a2_0 (0#64) 0 y17 hy17) (all_cons (at_tmp 32 _) (all_cons (at_tmp 33 _) (all_cons (at_tmp 35 _) (all_cons (at_c (v' := U64 (0#64)) rfl) (all_cons (at_c (v' := I64 0) rfl) all_nil))))) rfl) (sS (sA (sT1 rfl) (sA (sT1 rfl) (sA (sT1 rfl) (sA sT0 (sA sT0 sT0))))) sB0 sF0) ?_
            refine AL_cons (LR_extract (at_tmp 36 _) rfl rfl) (sS (sT1 rfl) sB0 sF0) ?_
            refine AL_cons (LR_extract (at_tmp 36 _) rfl rfl) (sS (sT1 rfl) sB0 sF0) ?_
            refine AL_cons (LR_assign (at_tmp 37 _) rfl) (sS (sT1 rfl) sB0 sF0) ?_
            refine AL_cons (LR_assign (at_tmp 38 _) rfl) (sS (sT1 rfl) sB0 sF0) ?_
            refine AL_nil ?_
            refine thenN ?_
            refine AW_ret ?_
            refine blR ?_
            refine thenR ?_
            obtain rfl := Option.some.inj hr
            exact res2 rfl (rvT rfl) (rvT rfl)
          · have hr := hr.trans (cond_f h)
            clear h
            refine AW_cut (σ := Bool) (fun v => ⟨[(1, .inl (is (U8 a1))), (3, .inr (.inl (3, 0))), (5, .inr (.inl (5, 0))), (8, .inl (is (I64 x2))), (39, .inl (is (Bl v)))], [(3, pb 23 [is (U8 a0_0), is (U8 a0_1)]), (5, pb 76 [is (Bl a2_0), is (Sv a2_1), is (I16 a2_2)])]⟩) (fun v => some r = F168_4 N a0_0 a0_1 a1 a2_0 a2_1 a2_2 x2 v) ?_ ?_
            · skip
              refine AW_region ?_
              refine AL_cons (LR_move (at_tmp 8 _) rfl) (sS (sT1 rfl) sB0 sF0) ?_
              refine AL_cons (LR_bin (at_tmp 40 _) (at_c (v' := I64 310) rfl) (gtr_I64 x2 310) rfl) (sS (sA (sT1 rfl) sT0) sB0 sF0) ?_
              refine AL_cons (LR_assign (at_tmp 41 _) rfl) (sS (sT1 rfl) sB0 sF0) ?_
              refine AL_nil ?_
              exact thenN (cutLeaf (v := decide (x2 > 310)) hr (weak0 ((sT rfl (sT rfl (sT rfl (sT rfl (sT rfl sT0)))))) (sub_keep (sub_keep sub_nil))))
            · rintro x4 hr
              show AW Hfaa.prog _ _ _ ⟨[(1, .inl (is (U8 a1))), (3, .inr (.inl (3, 0))), (5, .inr (.inl (5, 0))), (8, .inl (is (I64 x2))), (39, .inl (is (Bl x4)))], [(3, pb 23 [is (U8 a0_0), is (U8 a0_1)]), (5, pb 76 [is (Bl a2_0), is (Sv a2_1), is (I16 a2_2)])]⟩
              have hr : some r = F168_4 N a0_0 a0_1 a1 a2_0 a2_1 a2_2 x2 x4 := hr
              refine AW_condT (b := x4) rfl (fun h => ?_) (fun h => ?_)
              · have hr := hr.trans (cond_t h)
                clear h
                refine AW_seq1 ?_
                refine AW_region ?_
                refine AL_cons (LR_loads (at_tmp 3 _) ag23 sz23 rfl rfl rfl) (sS (sT1 rfl) (sB1 rfl) sF0) ?_
                refine AL_cons (LR_move (at_tmp 1 _) rfl) (sS (sT1 rfl) sB0 sF0) ?_
                refine AL_cons (LR_fieldAddr (off := 0) (o := 0) (at_tmp 5 _) (fun b w => fa76_0 b 0 w) rfl) (sS (sT1 rfl) sB0 sF0) ?_
                refine AL_cons (LR_load (at_tmp 44 _) na4 rfl rfl) (sS (sT1 rfl) (sB1 rfl) sF0) ?_
                obtain ⟨y19, hy19, hr⟩ := bind_some hr
                refine AL_cons (LR_call Hfaa.func265 rfl rfl (C265 N a0_0 a0_1 a1 a2_0 (9223372036854775808#64) 2000 y19 hy19) (all_cons (at_tmp 42 _) (all_cons (at_tmp 43 _) (all_cons (at_tmp 45 _) (all_cons (at_c (v' := U64 (9223372036854775808#64)) rfl) (all_cons (at_c (v' := I64 2000) rfl) all_nil))))) rfl) (sS (sA (sT1 rfl) (sA (sT1 rfl) (sA (sT1 rfl) (sA sT0 (sA sT0 sT0))))) sB0 sF0) ?_
                refine AL_cons (LR_extract (at_tmp 46 _) rfl rfl) (sS (sT1 rfl) sB0 sF0) ?_
                refine AL_cons (LR_extract (at_tmp 46 _) rfl rfl) (sS (sT1 rfl) sB0 sF0) ?_
                refine AL_cons (LR_assign (at_tmp 47 _) rfl) (sS (sT1 rfl) sB0 sF0) ?_
                refine AL_cons (LR_assign (at_tmp 48 _) rfl) (sS (sT1 rfl) sB0 sF0) ?_
                refine AL_nil ?_
                refine thenN ?_
                refine AW_ret ?_
                refine blR ?_
                refine thenR ?_
                obtain rfl := Option.some.inj hr
                exact res2 rfl (rvT rfl) (rvT rfl)
              · have hr := hr.trans (cond_f h)
                clear h
                refine AW_cut (σ := Bool) (fun v => ⟨[(1, .inl (is (U8 a1))), (3, .inr (.inl (3, 0))), (5, .inr (.inl (5, 0))), (49, .inl (is (Bl v)))], [(3, pb 23 [is (U8 a0_0), is (U8 a0_1)]), (5, pb 76 [is (Bl a2_0), is (Sv a2_1), is (I16 a2_2)])]⟩) (fun v => some r = F168_5 N a0_0 a0_1 a1 a2_0 a2_1 a2_2 v) ?_ ?_
                · skip
                  refine AW_region ?_
                  refine AL_cons (LR_move (at_tmp 8 _) rfl) (sS (sT1 rfl) sB0 sF0) ?_
                  refine AL_cons (LR_bin (at_tmp 50 _) (at_c (v' := I64 (-400)) rfl) (lss_I64 x2 (-400)) rfl) (sS (sA (sT1 rfl) sT0) sB0 sF0) ?_
                  refine AL_cons (LR_assign (at_tmp 51 _) rfl) (sS (sT1 rfl) sB0 sF0) ?_
                  refine AL_nil ?_
                  exact thenN (cutLeaf (v := decide (x2 < (-400))) hr (weak0 ((sT rfl (sT rfl (sT rfl (sT rfl sT0))))) (sub_keep (sub_keep sub_nil))))
                · rintro x5 hr
                  show AW Hfaa.prog _ _ _ ⟨[(1, .inl (is (U8 a1))), (3, .inr (.inl (3, 0))), (5, .inr (.inl (5, 0))), (49, .inl (is (Bl x5)))], [(3, pb 23 [is (U8 a0_0), is (U8 a0_1)]), (5, pb 76 [is (Bl a2_0), is (Sv a2_1), is (I16 a2_2)])]⟩
                  have hr : some r = F168_5 N a0_0 a0_1 a1 a2_0 a2_1 a2_2 x5 := hr
                  refine AW_condT (b := x5) rfl (fun h => ?_) (fun h => ?_)
                  · have hr := hr.trans (cond_t h)
                    clear h
                    refine AW_seq1 ?_
                    refine AW_region ?_
                    refine AL_cons (LR_loads (at_tmp 3 _) ag23 sz23 rfl rfl rfl) (sS (sT1 rfl) (sB1 rfl) sF0) ?_
                    refine AL_cons (LR_move (at_tmp 1 _) rfl) (sS (sT1 rfl) sB0 sF0) ?_
                    refine AL_cons (LR_fieldAddr (off := 0) (o := 0) (at_tmp 5 _) (fun b w => fa76_0 b 0 w) rfl) (sS (sT1 rfl) sB0 sF0) ?_
                    refine AL_cons (LR_load (at_tmp 54 _) na4 rfl rfl) (sS (sT1 rfl) (sB1 rfl) sF0) ?_
                    obtain ⟨y21, hy21, hr⟩ := bind_some hr
                    refine AL_cons (LR_call Hfaa.func265 rfl rfl (C265 N a0_0 a0_1 a1 a2_0 (9223372036854775808#64) (-2000) y21 hy21) (all_cons (at_tmp 52 _) (all_cons (at_tmp 53 _) (all_cons (at_tmp 55 _) (all_cons (at_c (v' := U64 (9223372036854775808#64)) rfl) (all_cons (at_c (v' := I64 (-2000)) rfl) all_nil))))) rfl) (sS (sA (sT1 rfl) (sA (sT1 rfl) (sA (sT1 rfl) (sA sT0 (sA sT0 sT0))))) sB0 sF0) ?_
                    refine AL_cons (LR_extract (at_tmp 56 _) rfl rfl) (sS (sT1 rfl) sB0 sF0) ?_
                    refine AL_cons (LR_extract (at_tmp 56 _) rfl rfl) (sS (sT1 rfl) sB0 sF0) ?_
                    refine AL_cons (LR_assign (at_tmp 57 _) rfl) (sS (sT1 rfl) sB0 sF0) ?_
                    refine AL_cons (LR_assign (at_tmp 58 _) rfl) (sS (sT1 rfl) sB0 sF0) ?_
                    refine AL_nil ?_
                    refine thenN ?_
                    refine AW_ret ?_
                    refine blR ?_
                    refine thenR ?_
                    obtain rfl := Option.some.inj hr
                    exact res2 rfl (rvT rfl) (rvT rfl)
                  · have hr := hr.trans (cond_f h)
                    clear h
                    refine AW_skip ?_
                    refine blN ?_
                    refine thenN ?_
                    refine AW_cut (σ := (Nat → BitVec 64) × (Nat → BitVec 64)) (fun v => ⟨[(1, .inl (is (U8 a1))), (3, .inr (.inl (3, 0))), (5, .inr (.inl (5, 0))), (9, .inr (.inl (9, 0))), (10, .inr (.inl (10, 0)))], [(3, pb 23 [is (U8 a0_0), is (U8 a0_1)]), (5, pb 76 [is (Bl a2_0), is (Sv a2_1), is (I16 a2_2)]), (9, pb 261 (is (I64 0) :: (ar U64 52 v.1 ++ []))), (10, pb 261 (is (I64 0) :: (ar U64 52 v.2 ++ [])))]⟩) (fun v => some r = F168_6 N a0_0 a0_1 a1 a2_0 a2_1 a2_2 v.1 v.2) ?_ ?_
                    · skip
                      refine AW_region ?_
                      refine AL_cons (zl261 rfl) (sS sT0 sB0 (sF1 rfl)) ?_
                      refine AL_cons (zl261 rfl) (sS sT0 sB0 (sF1 rfl)) ?_
                      refine AL_nil ?_
                      exact thenN (cutLeaf (v := (fun _ => 0#64, fun _ => 0#64)) hr (weak0 ((sT rfl (sT rfl (sT rfl (sT rfl (sT rfl sT0)))))) (sub_keep (sub_keep (sub_keep (sub_keep sub_nil))))))
                    · rintro ⟨x6, x7⟩ hr
                      show AW Hfaa.prog _ _ _ ⟨[(1, .inl (is (U8 a1))), (3, .inr (.inl (3, 0))), (5, .inr (.inl (5, 0))), (9, .inr (.inl (9, 0))), (10, .inr (.inl (10, 0)))], [(3, pb 23 [is (U8 a0_0), is (U8 a0_1)]), (5, pb 76 [is (Bl a2_0), is (Sv a2_1), is (I16 a2_2)]), (9, pb 261 (is (I64 0) :: (ar U64 52 x6 ++ []))), (10, pb 261 (is (I64 0) :: (ar U64 52 x7 ++ [])))]⟩
                      have hr : some r = F168_6 N a0_0 a0_1 a1 a2_0 a2_1 a2_2 x6 x7 := hr
                      refine AW_cut (σ := Int × (Nat → BitVec 64)) (fun v => ⟨[(1, .inl (is (U8 a1))), (3, .inr (.inl (3, 0))), (5, .inr (.inl (5, 0))), (9, .inr (.inl (9, 0))), (10, .inr (.inl (10, 0)))], [(3, pb 23 [is (U8 a0_0), is (U8 a0_1)]), (5, pb 76 [is (Bl a2_0), is (Sv a2_1), is (I16 a2_2)]), (9, pb 261 (is (I64 v.1) :: (ar U64 52 v.2 ++ []))), (10, pb 261 (is (I64 0) :: (ar U64 52 x7 ++ [])))]⟩) (fun v => some r = F168_7 N a0_0 a0_1 a1 a2_0 a2_1 a2_2 x7 v.1 v.2) ?_ ?_
                      · skip
                        refine AW_region ?_
                        refine AL_cons (LR_fieldAddr (off := 0) (o := 1) (at_tmp 5 _) (fun b w => fa76_1 b 0 w) rfl) (sS (sT1 rfl) sB0 sF0) ?_
                        refine AL_cons (LR_load (at_tmp 59 _) na9 rfl rfl) (sS (sT1 rfl) (sB1 rfl) sF0) ?_
                        obtain ⟨y33, hy33, hr⟩ := bind_some hr
                        refine AL_cons (LR_callB [(0, 9)] [(9, 0)] Hfaa.func266 rfl rfl (C266 N 0 x6 a2_1 y33 hy33) (aTC (at_tmp 9 _) (aTC (at_tmp 60 _) aT0)) rfl rfl rfl rfl rfl) (sS (sA (sT1 rfl) (sA (sT1 rfl) sT0)) (sB1 rfl) sF0) ?_
                        refine AL_nil ?_
                        exact thenN (cutLeaf (v := (y33.1, y33.2)) hr (weak0 ((sT rfl (sT rfl (sT rfl (sT rfl (sT rfl sT0)))))) (sub_keep (sub_keep (sub_keep (sub_keep sub_nil))))))
                      · rintro ⟨x8, x9⟩ hr
                        show AW Hfaa.prog _ _ _ ⟨[(1, .inl (is (U8 a1))), (3, .inr (.inl (3, 0))), (5, .inr (.inl (5, 0))), (9, .inr (.inl (9, 0))), (10, .inr (.inl (10, 0)))], [(3, pb 23 [is (U8 a0_0), is (U8 a0_1)]), (5, pb 76 [is (Bl a2_0), is (Sv a2_1), is (I16 a2_2)]), (9, pb 261 (is (I64 x8) :: (ar U64 52 x9 ++ []))), (10, pb 261 (is (I64 0) :: (ar U64 52 x7 ++ [])))]⟩
                        have hr : some r = F168_7 N a0_0 a0_1 a1 a2_0 a2_1 a2_2 x7 x8 x9 := hr
                        refine AW_cut (σ := Int × (Nat → BitVec 64)) (fun v => ⟨[(1, .inl (is (U8 a1))), (3, .inr (.inl (3, 0))), (5, .inr (.inl (5, 0))), (9, .inr (.inl (9, 0))), (10, .inr (.inl (10, 0)))], [(3, pb 23 [is (U8 a0_0), is (U8 a0_1)]), (5, pb 76 [is (Bl a2_0), is (Sv a2_1), is (I16 a2_2)]), (9, pb 261 (is (I64 x8) :: (ar U64 52 x9 ++ []))), (10, pb 261 (is (I64 v.1) :: (ar U64 52 v.2 ++ [])))]⟩) (fun v => some r = F168_8 N a0_0 a0_1 a1 a2_0 a2_1 a2_2 x8 x9 v.1 v.2) ?_ ?_
                        · skip
                          refine AW_region ?_
                          obtain ⟨y32, hy32, hr⟩ := bind_some hr
                          refine AL_cons (LR_callB [(0, 10)] [(10, 0)] Hfaa.func267 rfl rfl (C267 N 0 x7 (0#64) (1#64) y32 hy32) (aTC (at_tmp 10 _) (aTC (at_c (v' := U64 (0#64)) rfl) (aTC (at_c (v' := U64 (1#64)) rfl) aT0))) rfl rfl rfl rfl rfl) (sS (sA (sT1 rfl) (sA sT0 (sA sT0 sT0))) (sB1 rfl) sF0) ?_
                          refine AL_nil ?_
                          exact thenN (cutLeaf (v := (y32.1, y32.2)) hr (weak0 ((sT rfl (sT rfl (sT rfl (sT rfl (sT rfl sT0)))))) (sub_keep (sub_keep (sub_keep (sub_keep sub_nil))))))
                        · rintro ⟨x10, x11⟩ hr
                          show AW Hfaa.prog _ _ _ ⟨[(1, .inl (is (U8 a1))), (3, .inr (.inl (3, 0))), (5, .inr (.inl (5, 0))), (9, .inr (.inl (9, 0))), (10, .inr (.inl (10, 0)))], [(3, pb 23 [is (U8 a0_0), is (U8 a0_1)]), (5, pb 76 [is (Bl a2_0), is (Sv a2_1), is (I16 a2_2)]), (9, pb 261 (is (I64 x8) :: (ar U64 52 x9 ++ []))), (10, pb 261 (is (I64 x10) :: (ar U64 52 x11 ++ [])))]⟩
                          have hr : some r = F168_8 N a0_0 a0_1 a1 a2_0 a2_1 a2_2 x8 x9 x10 x11 := hr
                          refine AW_cut (σ := Int × (Nat → BitVec 64) × Int × (Nat → BitVec 64)) (fun v => ⟨[(1, .inl (is (U8 a1))), (3, .inr (.inl (3, 0))), (5, .inr (.inl (5, 0))), (9, .inr (.inl (9, 0))), (10, .inr (.inl (10, 0)))], [(3, pb 23 [is (U8 a0_0), is (U8 a0_1)]), (5, pb 76 [is (Bl a2_0), is (Sv a2_1), is (I16 a2_2)]), (9, pb 261 (is (I64 v.1) :: (ar U64 52 v.2.1 ++ []))), (10, pb 261 (is (I64 v.2.2.1) :: (ar U64 52 v.2.2.2 ++ [])))]⟩) (fun v => some r = F168_9 N a0_0 a0_1 a1 a2_0 a2_1 a2_2 v.1 v.2.1 v.2.2.1 v.2.2.2) ?_ ?_
                          · skip
                            refine AW_cut (σ := Bool) (fun v => ⟨[(1, .inl (is (U8 a1))), (3, .inr (.inl (3, 0))), (5, .inr (.inl (5, 0))), (9, .inr (.inl (9, 0))), (10, .inr (.inl (10, 0))), (65, .inl (is (Bl v)))], [(3, pb 23 [is (U8 a0_0), is (U8 a0_1)]), (5, pb 76 [is (Bl a2_0), is (Sv a2_1), is (I16 a2_2)]), (9, pb 261 (is (I64 x8) :: (ar U64 52 x9 ++ []))), (10, pb 261 (is (I64 x10) :: (ar U64 52 x11 ++ [])))]⟩) (fun v => some r = F168_11 N a0_0 a0_1 a1 a2_0 a2_1 a2_2 x8 x9 x10 x11 v) ?_ ?_
                            · skip
                              refine AW_region ?_
                              refine AL_cons (LR_fieldAddr (off := 0) (o := 2) (at_tmp 5 _) (fun b w => fa76_2 b 0 w) rfl) (sS (sT1 rfl) sB0 sF0) ?_
                              refine AL_cons (LR_load (at_tmp 63 _) na44 rfl rfl) (sS (sT1 rfl) (sB1 rfl) sF0) ?_
                              refine AL_cons (LR_bin (at_tmp 64 _) (at_c (v' := I16 0) rfl) (lss_I16 a2_2 0) rfl) (sS (sA (sT1 rfl) sT0) sB0 sF0) ?_
                              refine AL_nil ?_
                              exact thenN (cutLeaf (v := decide (a2_2 < 0)) hr (weak0 ((sT rfl (sT rfl (sT rfl (sT rfl (sT rfl (sT rfl sT0))))))) (sub_keep (sub_keep (sub_keep (sub_keep sub_nil))))))
                            · rintro x18 hr
                              show AW Hfaa.prog _ _ _ ⟨[(1, .inl (is (U8 a1))), (3, .inr (.inl (3, 0))), (5, .inr (.inl (5, 0))), (9, .inr (.inl (9, 0))), (10, .inr (.inl (10, 0))), (65, .inl (is (Bl x18)))], [(3, pb 23 [is (U8 a0_0), is (U8 a0_1)]), (5, pb 76 [is (Bl a2_0), is (Sv a2_1), is (I16 a2_2)]), (9, pb 261 (is (I64 x8) :: (ar U64 52 x9 ++ []))), (10, pb 261 (is (I64 x10) :: (ar U64 52 x11 ++ [])))]⟩
                              have hr : some r = F168_11 N a0_0 a0_1 a1 a2_0 a2_1 a2_2 x8 x9 x10 x11 x18 := hr
                              refine AW_condT (b := x18) rfl (fun h => ?_) (fun h => ?_)
                              · have hr := hr.trans (cond_t h)
                                clear h
                                refine AW_region ?_
                                refine AL_cons (LR_fieldAddr (off := 0) (o := 2) (at_tmp 5 _) (fun b w => fa76_2 b 0 w) rfl) (sS (sT1 rfl) sB0 sF0) ?_
                                refine AL_cons (LR_load (at_tmp 66 _) na44 rfl rfl) (sS (sT1 rfl) (sB1 rfl) sF0) ?_
                                refine AL_cons (LR_conv (vx := I16 a2_2) (at_tmp 67 _) (conv_I64 Hfaa.underlying44 Hfaa.underlying3 a2_2) rfl) (sS (sT1 rfl) sB0 sF0) ?_
                                refine AL_cons (LR_un (at_tmp 68 _) (neg_I64 (w64 a2_2)) rfl) (sS (sT1 rfl) sB0 sF0) ?_
                                obtain ⟨y30, hy30, hr⟩ := bind_some hr
                                refine AL_cons (LR_callB [(0, 10)] [(10, 0)] Hfaa.func268 rfl rfl (C268 N x10 x11 (w64 (0 - (w64 a2_2))) y30 hy30) (aTC (at_tmp 10 _) (aTC (at_tmp 69 _) aT0)) rfl rfl rfl rfl rfl) (sS (sA (sT1 rfl) (sA (sT1 rfl) sT0)) (sB1 rfl) sF0) ?_
                                refine AL_nil ?_
                                exact thenN (cutLeaf (v := (x8, x9, y30.1, y30.2)) hr (weak0 ((sT rfl (sT rfl (sT rfl (sT rfl (sT rfl sT0)))))) (sub_keep (sub_keep (sub_keep (sub_keep sub_nil))))))
                              · have hr := hr.trans (cond_f h)
                                clear h
                                refine AW_region ?_
                                refine AL_cons (LR_fieldAddr (off := 0) (o := 2) (at_tmp 5 _) (fun b w => fa76_2 b 0 w) rfl) (sS (sT1 rfl) sB0 sF0) ?_
                                refine AL_cons (LR_load (at_tmp 71 _) na44 rfl rfl) (sS (sT1 rfl) (sB1 rfl) sF0) ?_
                                refine AL_cons (LR_conv (vx := I16 a2_2) (at_tmp 72 _) (conv_I64 Hfaa.underlying44 Hfaa.underlying3 a2_2) rfl) (sS (sT1 rfl) sB0 sF0) ?_
                                obtain ⟨y31, hy31, hr⟩ := bind_some hr
                                refine AL_cons (LR_callB [(0, 9)] [(9, 0)] Hfaa.func268 rfl rfl (C268 N x8 x9 (w64 a2_2) y31 hy31) (aTC (at_tmp 9 _) (aTC (at_tmp 73 _) aT0)) rfl rfl rfl rfl rfl) (sS (sA (sT1 rfl) (sA (sT1 rfl) sT0)) (sB1 rfl) sF0) ?_
                                refine AL_nil ?_
                                exact thenN (cutLeaf (v := (y31.1, y31.2, x10, x11)) hr (weak0 ((sT rfl (sT rfl (sT rfl (sT rfl (sT rfl sT0)))))) (sub_keep (sub_keep (sub_keep (sub_keep sub_nil))))))
                          · rintro ⟨x12, x13, x14, x15⟩ hr
                            show AW Hfaa.prog _ _ _ ⟨[(1, .inl (is (U8 a1))), (3, .inr (.inl (3, 0))), (5, .inr (.inl (5, 0))), (9, .inr (.inl (9, 0))), (10, .inr (.inl (10, 0)))], [(3, pb 23 [is (U8 a0_0), is (U8 a0_1)]), (5, pb 76 [is (Bl a2_0), is (Sv a2_1), is (I16 a2_2)]), (9, pb 261 (is (I64 x12) :: (ar U64 52 x13 ++ []))), (10, pb 261 (is (I64 x14) :: (ar U64 52 x15 ++ [])))]⟩
                            have hr : some r = F168_9 N a0_0 a0_1 a1 a2_0 a2_1 a2_2 x12 x13 x14 x15 := hr
                            refine AW_cut (σ := BitVec 64 × Int) (fun v => ⟨[(1, .inl (is (U8 a1))), (3, .inr (.inl (3, 0))), (5, .inr (.inl (5, 0))), (11, .inl (is (U64 v.1))), (12, .inl (is (I64 v.2)))], [(3, pb 23 [is (U8 a0_0), is (U8 a0_1)]), (5, pb 76 [is (Bl a2_0), is (Sv a2_1), is (I16 a2_2)])]⟩) (fun v => some r = F168_10 N a0_0 a0_1 a1 a2_0 a2_1 a2_2 v.1 v.2) ?_ ?_
                            · skip
                              refine AW_region ?_
                              obtain ⟨y29, hy29, hr⟩ := bind_some hr
                              refine AL_cons (LR_callB [(0, 9), (1, 10)] [(9, 0), (10, 1)] Hfaa.func269 rfl rfl (C269 N x12 x13 x14 x15 y29 hy29) (aTC (at_tmp 9 _) (aTC (at_tmp 10 _) aT0)) rfl rfl rfl rfl rfl) (sS (sA (sT1 rfl) (sA (sT1 rfl) sT0)) (sB2 rfl rfl) sF0) ?_
                              refine AL_cons (LR_move (at_tmp 76 _) rfl) (sS (sT1 rfl) sB0 sF0) ?_
                              refine AL_cons (LR_extract (at_tmp 75 _) rfl rfl) (sS (sT1 rfl) sB0 sF0) ?_
                              refine AL_cons (LR_extract (at_tmp 75 _) rfl rfl) (sS (sT1 rfl) sB0 sF0) ?_
                              refine AL_cons (LR_assign (at_tmp 77 _) rfl) (sS (sT1 rfl) sB0 sF0) ?_
                              refine AL_cons (LR_assign (at_tmp 78 _) rfl) (sS (sT1 rfl) sB0 sF0) ?_
                              refine AL_nil ?_
                              exact thenN (cutLeaf (v := (y29.1, y29.2.1)) hr (weak0 ((sT rfl (sT rfl (sT rfl (sT rfl (sT rfl sT0)))))) (sub_keep (sub_keep (sub_drop (sub_drop sub_nil))))))
                            · rintro ⟨x16, x17⟩ hr
                              show AW Hfaa.prog _ _ _ ⟨[(1, .inl (is (U8 a1))), (3, .inr (.inl (3, 0))), (5, .inr (.inl (5, 0))), (11, .inl (is (U64 x16))), (12, .inl (is (I64 x17)))], [(3, pb 23 [is (U8 a0_0), is (U8 a0_1)]), (5, pb 76 [is (Bl a2_0), is (Sv a2_1), is (I16 a2_2)])]⟩
                              have hr : some r = F168_10 N a0_0 a0_1 a1 a2_0 a2_1 a2_2 x16 x17 := hr
                              refine AW_seq1 ?_
                              refine AW_region ?_
                              refine AL_cons (LR_loads (at_tmp 3 _) ag23 sz23 rfl rfl rfl) (sS (sT1 rfl) (sB1 rfl) sF0) ?_
                              refine AL_cons (LR_move (at_tmp 1 _) rfl) (sS (sT1 rfl) sB0 sF0) ?_
                              refine AL_cons (LR_fieldAddr (off := 0) (o := 0) (at_tmp 5 _) (fun b w => fa76_0 b 0 w) rfl) (sS (sT1 rfl) sB0 sF0) ?_
                              refine AL_cons (LR_load (at_tmp 81 _) na4 rfl rfl) (sS (sT1 rfl) (sB1 rfl) sF0) ?_
                              refine AL_cons (LR_move (at_tmp 11 _) rfl) (sS (sT1 rfl) sB0 sF0) ?_
                              refine AL_cons (LR_move (at_tmp 12 _) rfl) (sS (sT1 rfl) sB0 sF0) ?_
                              refine AL_cons (LR_fieldAddr (off := 0) (o := 2) (at_tmp 5 _) (fun b w => fa76_2 b 0 w) rfl) (sS (sT1 rfl) sB0 sF0) ?_
                              refine AL_cons (LR_load (at_tmp 85 _) na44 rfl rfl) (sS (sT1 rfl) (sB1 rfl) sF0) ?_
                              refine AL_cons (LR_conv (vx := I16 a2_2) (at_tmp 86 _) (conv_I64 Hfaa.underlying44 Hfaa.underlying3 a2_2) rfl) (sS (sT1 rfl) sB0 sF0) ?_
                              refine AL_cons (LR_bin (at_tmp 84 _) (at_tmp 87 _) (add_I64 x17 (w64 a2_2)) rfl) (sS (sA (sT1 rfl) (sT1 rfl)) sB0 sF0) ?_
                              obtain ⟨y28, hy28, hr⟩ := bind_some hr
                              refine AL_cons (LR_call Hfaa.func265 rfl rfl (C265 N a0_0 a0_1 a1 a2_0 x16 (w64 (x17 + (w64 a2_2))) y28 hy28) (all_cons (at_tmp 79 _) (all_cons (at_tmp 80 _) (all_cons (at_tmp 82 _) (all_cons (at_tmp 83 _) (all_cons (at_tmp 88 _) all_nil))))) rfl) (sS (sA (sT1 rfl) (sA (sT1 rfl) (sA (sT1 rfl) (sA (sT1 rfl) (sA (sT1 rfl) sT0))))) sB0 sF0) ?_
                              refine AL_cons (LR_extract (at_tmp 89 _) rfl rfl) (sS (sT1 rfl) sB0 sF0) ?_
                              refine AL_cons (LR_extract (at_tmp 89 _) rfl rfl) (sS (sT1 rfl) sB0 sF0) ?_
                              refine AL_cons (LR_assign (at_tmp 90 _) rfl) (sS (sT1 rfl) sB0 sF0) ?_
                              refine AL_cons (LR_assign (at_tmp 91 _) rfl) (sS (sT1 rfl) sB0 sF0) ?_
                              refine AL_nil ?_
                              refine thenN ?_
                              refine AW_ret ?_
                              obtain rfl := Option.some.inj hr
                              exact res2 rfl (rvT rfl) (rvT rfl)
end Go.Proofs.YfwaawGreat
