import Derived.Test.YfwaawGreatG1
import Derived.Test.YfwaawGreatG48
import Derived.Test.YfwaawGreatG49
namespace Go.Proofs.YfwaawGreat
open Go.Aw
set_option linter.unusedVariables false
set_option maxRecDepth 100000
set_option maxHeartbeats 1000000
/-- (*expand.expansion).expand -/
def F201_8 (N : Nat) (x8 : Nat → BitVec 64) (x9 : Int) (x11 : Int) (x18 : Nat → BitVec 8) (x19 : Int) (x20 : Int) (x21 : Int) (x22 : Int) : Option ((Int × (Nat → BitVec 8) × Int × Int × Int × Int) ⊕ ((Nat → BitVec 8) × Int × Int × Int × Int)) := some (.inl ((w64 (x11 - 1), x18, x19, x20, x21, x22)))
def F201_7 (N : Nat) (x8 : Nat → BitVec 64) (x9 : Int) (x11 : Int) (x12 : Nat → BitVec 8) (x13 : Int) (x14 : Int) (x15 : Int) (x16 : Int) (x17 : Bool) : Option ((Int × (Nat → BitVec 8) × Int × Int × Int × Int) ⊕ ((Nat → BitVec 8) × Int × Int × Int × Int)) := bif x17 then bif (decide (0 ≤ x11) && decide (x11 < (20 : Int))) then (F282 N x12 x13 x14 x15 x16 (x8 x11.toNat) false).bind fun y28 => F201_8 N x8 x9 x11 y28.1 y28.2.1 y28.2.2.1 y28.2.2.2.1 y28.2.2.2.2 else none else (some (x12, x13, x14, x15, x16)).map Sum.inr
def F201_L6b (N : Nat) (x8 : Nat → BitVec 64) (x9 : Int) (x11 : Int) (x12 : Nat → BitVec 8) (x13 : Int) (x14 : Int) (x15 : Int) (x16 : Int) : Option ((Int × (Nat → BitVec 8) × Int × Int × Int × Int) ⊕ ((Nat → BitVec 8) × Int × Int × Int × Int)) := F201_7 N x8 x9 x11 x12 x13 x14 x15 x16 (decide (x11 ≥ 0))
def F201_L6 (N : Nat) (x8 : Nat → BitVec 64) (x9 : Int) : (Int × (Nat → BitVec 8) × Int × Int × Int × Int) → Option ((Int × (Nat → BitVec 8) × Int × Int × Int × Int) ⊕ ((Nat → BitVec 8) × Int × Int × Int × Int)) := fun v => F201_L6b N x8 x9 v.1 v.2.1 v.2.2.1 v.2.2.2.1 v.2.2.2.2.1 v.2.2.2.2.2
def F201_5 (N : Nat) (b0_0 : Nat → BitVec 8) (b0_1 : Int) (b0_3 : Int) (b0_4 : Int) (x8 : Nat → BitVec 64) (x9 : Int) (x10 : Int) : Option ((Nat → BitVec 8) × Int × Int × Int × Int) := iterL (F201_L6 N x8 x9) N ((x10, b0_0, b0_1, (-1), b0_3, b0_4))
def F201_4 (N : Nat) (b0_0 : Nat → BitVec 8) (b0_1 : Int) (b0_3 : Int) (b0_4 : Int) (x8 : Nat → BitVec 64) (x9 : Int) : Option ((Nat → BitVec 8) × Int × Int × Int × Int) := F201_5 N b0_0 b0_1 b0_3 b0_4 x8 x9 (w64 (x9 - 1))
def F201_11 (N : Nat) (x1 : Bool) (x2 : Int) (x5 : Int) (x23 : Int) (x24 : Nat → BitVec 8) (x25 : Int) (x26 : Int) (x27 : Int) (x28 : Int) (x29 : BitVec 64) (x30 : Bool) : Option ((Nat → BitVec 8) × Int × Int × Int × Int) := bif x30 then (F283 N x24 x25 x26 x27 x28 x29 x23).bind fun y34 => some (y34.1, y34.2.1, y34.2.2.1, y34.2.2.2.1, y34.2.2.2.2) else some (x24, x25, x26, x27, x28)
def F201_10 (N : Nat) (x1 : Bool) (x2 : Int) (x5 : Int) (x23 : Int) (x24 : Nat → BitVec 8) (x25 : Int) (x26 : Int) (x27 : Int) (x28 : Int) (x29 : BitVec 64) : Option ((Nat → BitVec 8) × Int × Int × Int × Int) := F201_11 N x1 x2 x5 x23 x24 x25 x26 x27 x28 x29 (x29 != (0#64))
def F201_16 (N : Nat) (x1 : Bool) (x2 : Int) (x5 : Int) (x6 : BitVec 64) (x23 : Int) (x39 : Nat → BitVec 8) (x40 : Int) (x41 : Int) (x42 : Int) (x43 : Int) : Option ((Nat → BitVec 8) × Int × Int × Int × Int) := bif decide (0 ≤ x23) then F201_10 N x1 x2 x5 x23 x39 x40 x41 x42 x43 (x6 &&& (((1#64) <<< x23.toNat) - (1#64))) else none
def F201_15 (N : Nat) (x1 : Bool) (x2 : Int) (x5 : Int) (x6 : BitVec 64) (x23 : Int) (x32 : BitVec 64) (x34 : Nat → BitVec 8) (x35 : Int) (x36 : Int) (x37 : Int) (x38 : Int) : Option ((Nat → BitVec 8) × Int × Int × Int × Int) := (F282 N x34 x35 x36 x37 x38 (x32 % (1000000000000000000#64)) false).bind fun y37 => F201_16 N x1 x2 x5 x6 x23 y37.1 y37.2.1 y37.2.2.1 y37.2.2.2.1 y37.2.2.2.2
def F201_14 (N : Nat) (b0_0 : Nat → BitVec 8) (b0_1 : Int) (b0_3 : Int) (b0_4 : Int) (x1 : Bool) (x2 : Int) (x5 : Int) (x6 : BitVec 64) (x23 : Int) (x32 : BitVec 64) (x33 : Bool) : Option ((Nat → BitVec 8) × Int × Int × Int × Int) := bif x33 then (F282 N b0_0 b0_1 (-1) b0_3 b0_4 (x32 / (1000000000000000000#64)) false).bind fun y38 => F201_15 N x1 x2 x5 x6 x23 x32 y38.1 y38.2.1 y38.2.2.1 y38.2.2.2.1 y38.2.2.2.2 else F201_10 N x1 x2 x5 x23 b0_0 b0_1 (-1) b0_3 b0_4 x6
def F201_13 (N : Nat) (b0_0 : Nat → BitVec 8) (b0_1 : Int) (b0_3 : Int) (b0_4 : Int) (x1 : Bool) (x2 : Int) (x5 : Int) (x6 : BitVec 64) (x23 : Int) (x32 : BitVec 64) : Option ((Nat → BitVec 8) × Int × Int × Int × Int) := F201_14 N b0_0 b0_1 b0_3 b0_4 x1 x2 x5 x6 x23 x32 (x32 != (0#64))
def F201_12 (N : Nat) (b0_0 : Nat → BitVec 8) (b0_1 : Int) (b0_3 : Int) (b0_4 : Int) (x1 : Bool) (x2 : Int) (x5 : Int) (x6 : BitVec 64) (x23 : Int) (x31 : Bool) : Option ((Nat → BitVec 8) × Int × Int × Int × Int) := bif x31 then bif decide (0 ≤ x23) then F201_13 N b0_0 b0_1 b0_3 b0_4 x1 x2 x5 x6 x23 (x6 >>> x23.toNat) else none else F201_10 N x1 x2 x5 x23 b0_0 b0_1 (-1) b0_3 b0_4 x6
def F201_9 (N : Nat) (b0_0 : Nat → BitVec 8) (b0_1 : Int) (b0_3 : Int) (b0_4 : Int) (x1 : Bool) (x2 : Int) (x5 : Int) (x6 : BitVec 64) (x23 : Int) : Option ((Nat → BitVec 8) × Int × Int × Int × Int) := F201_12 N b0_0 b0_1 b0_3 b0_4 x1 x2 x5 x6 x23 (decide (x23 < 64))
def F201_3 (N : Nat) (b0_0 : Nat → BitVec 8) (b0_1 : Int) (b0_3 : Int) (b0_4 : Int) (x1 : Bool) (x2 : Int) (x5 : Int) (x6 : BitVec 64) (x7 : Bool) : Option ((Nat → BitVec 8) × Int × Int × Int × Int) := bif x7 then (F281 N x6 x5).bind fun y29 => F201_4 N b0_0 b0_1 b0_3 b0_4 y29.1 y29.2 else F201_9 N b0_0 b0_1 b0_3 b0_4 x1 x2 x5 x6 (w16 (0 - x5))
def F201_2 (N : Nat) (b0_0 : Nat → BitVec 8) (b0_1 : Int) (b0_2 : Int) (b0_3 : Int) (b0_4 : Int) (x1 : Bool) (x2 : Int) (x5 : Int) (x6 : BitVec 64) : Option ((Nat → BitVec 8) × Int × Int × Int × Int) := F201_3 N b0_0 b0_1 b0_3 b0_4 x1 x2 x5 x6 (decide (x5 ≥ 0))
def F201_19 (N : Nat) (b0_0 : Nat → BitVec 8) (b0_1 : Int) (b0_2 : Int) (b0_3 : Int) (b0_4 : Int) (x1 : Bool) (x2 : Int) (x44 : Int) (x47 : BitVec 64) : Option ((Int × BitVec 64) ⊕ ((Nat → BitVec 8) × Int × Int × Int × Int)) := some (.inl ((w16 (x44 + 1), x47)))
def F201_18 (N : Nat) (b0_0 : Nat → BitVec 8) (b0_1 : Int) (b0_2 : Int) (b0_3 : Int) (b0_4 : Int) (x1 : Bool) (x2 : Int) (x44 : Int) (x45 : BitVec 64) (x46 : Bool) : Option ((Int × BitVec 64) ⊕ ((Nat → BitVec 8) × Int × Int × Int × Int)) := bif x46 then F201_19 N b0_0 b0_1 b0_2 b0_3 b0_4 x1 x2 x44 (x45 >>> 1) else (F201_2 N b0_0 b0_1 b0_2 b0_3 b0_4 x1 x2 x44 x45).map Sum.inr
def F201_L17b (N : Nat) (b0_0 : Nat → BitVec 8) (b0_1 : Int) (b0_2 : Int) (b0_3 : Int) (b0_4 : Int) (x1 : Bool) (x2 : Int) (x44 : Int) (x45 : BitVec 64) : Option ((Int × BitVec 64) ⊕ ((Nat → BitVec 8) × Int × Int × Int × Int)) := F201_18 N b0_0 b0_1 b0_2 b0_3 b0_4 x1 x2 x44 x45 (((x45 &&& (1#64)) == (0#64)) && (decide (x44 < 0)))
def F201_L17 (N : Nat) (b0_0 : Nat → BitVec 8) (b0_1 : Int) (b0_2 : Int) (b0_3 : Int) (b0_4 : Int) (x1 : Bool) (x2 : Int) : (Int × BitVec 64) → Option ((Int × BitVec 64) ⊕ ((Nat → BitVec 8) × Int × Int × Int × Int)) := fun v => F201_L17b N b0_0 b0_1 b0_2 b0_3 b0_4 x1 x2 v.1 v.2
def F201_1 (N : Nat) (b0_0 : Nat → BitVec 8) (b0_1 : Int) (b0_2 : Int) (b0_3 : Int) (b0_4 : Int) (x1 : Bool) (x2 : Int) (x3 : Int) (x4 : BitVec 64) : Option ((Nat → BitVec 8) × Int × Int × Int × Int) := iterL (F201_L17 N b0_0 b0_1 b0_2 b0_3 b0_4 x1 x2) N (x3, x4)
def F201 (N : Nat) (b0_0 : Nat → BitVec 8) (b0_1 : Int) (b0_2 : Int) (b0_3 : Int) (b0_4 : Int) (a1_0 : BitVec 8) (a1_1 : BitVec 8) (a2 : BitVec 64) : Option ((Nat → BitVec 8) × Int × Int × Int × Int) := lt (F65 a1_0 a1_1 a2) fun y39 => F201_1 N b0_0 b0_1 b0_2 b0_3 b0_4 y39.1 y39.2.1 y39.2.2.1 y39.2.2.2
theorem C201 (N : Nat) (b0_0 : Nat → BitVec 8) (b0_1 : Int) (b0_2 : Int) (b0_3 : Int) (b0_4 : Int) (a1_0 : BitVec 8) (a1_1 : BitVec 8) (a2 : BitVec 64) (r : (Nat → BitVec 8) × Int × Int × Int × Int) (hr : some r = F201 N b0_0 b0_1 b0_2 b0_3 b0_4 a1_0 a1_1 a2) : FnB Hfaa.prog 201 [.inr (.inl (0, 0)), .inl (agg [is (U8 a1_0), is (U8 a1_1)]), .inl (is (U64 a2))] [(0, pb 215 (ar U8 1441 b0_0 ++ (is (I64 b0_1) :: (is (I64 b0_2) :: (is (I64 b0_3) :: (is (I64 b0_4) :: []))))))] (tup []) [(0, pb 215 (ar U8 1441 r.1 ++ (is (I64 r.2.1) :: (is (I64 r.2.2.1) :: (is (I64 r.2.2.2.1) :: (is (I64 r.2.2.2.2) :: []))))))] := by
  refine fnB_intro Hfaa.func201 rfl rfl rfl rfl rfl ⟨hf_pb _ _, trivial⟩ ?_
  intro bn0 w0 H0
  refine AW_seq1 ?_
  refine AW_region ?_
  refine AL_cons (LR_box (at_tmp 1 _) (cells_agg _) rfl) (sS (sT1 rfl) sB0 (sF1 rfl)) ?_
  refine AL_nil ?_
  refine thenN ?_
  refine AW_cut (σ := Bool × Int × Int × BitVec 64) (fun v => ⟨[(0, .inr (.inl (0, 0))), (6, .inr (.inl (6, 0)))], [(0, pb 215 (ar U8 1441 b0_0 ++ (is (I64 b0_1) :: (is (I64 b0_2) :: (is (I64 b0_3) :: (is (I64 b0_4) :: [])))))), (6, pb 112 [is (Bl v.1), is (I8 v.2.1), is (I16 v.2.2.1), is (U64 v.2.2.2)])]⟩) (fun v => some r = F201_1 N b0_0 b0_1 b0_2 b0_3 b0_4 v.1 v.2.1 v.2.2.1 v.2.2.2) ?_ ?_
  · skip
    refine AW_region ?_
    refine AL_cons (LR_loads (at_tmp 4 _) ag23 sz23 rfl rfl rfl) (sS (sT1 rfl) (sB1 rfl) sF0) ?_
    refine AL_cons (LR_move (at_tmp 2 _) rfl) (sS (sT1 rfl) sB0 sF0) ?_
    obtain ⟨y39, hy39, hr⟩ := lt_some hr
    refine AL_cons (LR_call Hfaa.func65 rfl rfl (C65 a1_0 a1_1 a2 y39 hy39) (all_cons (at_tmp 11 _) (all_cons (at_tmp 12 _) all_nil)) rfl) (sS (sA (sT1 rfl) (sA (sT1 rfl) sT0)) sB0 sF0) ?_
    refine AL_cons (zl112 rfl) (sS sT0 sB0 (sF1 rfl)) ?_
    refine AL_cons (LR_store (at_tmp 6 _) (at_tmp 13 _) (cells_agg _) (onC (one_is rfl) (onC (one_is rfl) (onC (one_is rfl) (onC (one_is rfl) onN)))) sz112 rfl rfl) (sS (sA (sT1 rfl) (sT1 rfl)) (sB1 rfl) sF0) ?_
    refine AL_nil ?_
    exact thenN (cutLeaf (v := (y39.1, y39.2.1, y39.2.2.1, y39.2.2.2)) hr (weakB ((sT rfl (sT rfl sT0))) (sub_keep (sub_drop (sub_keep sub_nil))) rfl))
  · rintro ⟨x1, x2, x3, x4⟩ hr
    show AW Hfaa.prog _ _ _ ⟨[(0, .inr (.inl (0, 0))), (6, .inr (.inl (6, 0)))], [(0, pb 215 (ar U8 1441 b0_0 ++ (is (I64 b0_1) :: (is (I64 b0_2) :: (is (I64 b0_3) :: (is (I64 b0_4) :: [])))))), (6, pb 112 [is (Bl x1), is (I8 x2), is (I16 x3), is (U64 x4)])]⟩
    have hr : some r = F201_1 N b0_0 b0_1 b0_2 b0_3 b0_4 x1 x2 x3 x4 := hr
    refine AW_cut (σ := Int × BitVec 64) (fun v => ⟨[(0, .inr (.inl (0, 0))), (6, .inr (.inl (6, 0)))], [(0, pb 215 (ar U8 1441 b0_0 ++ (is (I64 b0_1) :: (is (I64 b0_2) :: (is (I64 b0_3) :: (is (I64 b0_4) :: [])))))), (6, pb 112 [is (Bl x1), is (I8 x2), is (I16 v.1), is (U64 v.2)])]⟩) (fun v => some r = F201_2 N b0_0 b0_1 b0_2 b0_3 b0_4 x1 x2 v.1 v.2) ?_ ?_
    · skip
      refine AW_block ?_
      refine AW_iterR (σ := Int × BitVec 64) (r := r) (x0 := (x3, x4)) (emb := fun v => ⟨[(0, .inr (.inl (0, 0))), (6, .inr (.inl (6, 0)))], [(0, pb 215 (ar U8 1441 b0_0 ++ (is (I64 b0_1) :: (is (I64 b0_2) :: (is (I64 b0_3) :: (is (I64 b0_4) :: [])))))), (6, pb 112 [is (Bl x1), is (I8 x2), is (I16 v.1), is (U64 v.2)])]⟩) ?_ hr ?_
      · exact weakB ((sT rfl (sT rfl sT0))) (sub_keep (sub_keep sub_nil)) rfl
      rintro ⟨x44, x45⟩ out6 hr
      show AW Hfaa.prog _ _ _ ⟨[(0, .inr (.inl (0, 0))), (6, .inr (.inl (6, 0)))], [(0, pb 215 (ar U8 1441 b0_0 ++ (is (I64 b0_1) :: (is (I64 b0_2) :: (is (I64 b0_3) :: (is (I64 b0_4) :: [])))))), (6, pb 112 [is (Bl x1), is (I8 x2), is (I16 x44), is (U64 x45)])]⟩
      have hr : some out6 = F201_L17b N b0_0 b0_1 b0_2 b0_3 b0_4 x1 x2 x44 x45 := hr
      refine AW_seq1 ?_
      refine AW_cut (σ := Bool) (fun v => ⟨[(0, .inr (.inl (0, 0))), (6, .inr (.inl (6, 0))), (22, .inl (is (Bl v)))], [(0, pb 215 (ar U8 1441 b0_0 ++ (is (I64 b0_1) :: (is (I64 b0_2) :: (is (I64 b0_3) :: (is (I64 b0_4) :: [])))))), (6, pb 112 [is (Bl x1), is (I8 x2), is (I16 x44), is (U64 x45)])]⟩) (fun v => some out6 = F201_18 N b0_0 b0_1 b0_2 b0_3 b0_4 x1 x2 x44 x45 v) ?_ ?_
      · skip
        refine AW_region ?_
        refine AL_cons (LR_fieldAddr (off := 0) (o := 3) (at_tmp 6 _) (fun b w => fa112_3 b 0 w) rfl) (sS (sT1 rfl) sB0 sF0) ?_
        refine AL_cons (LR_load (at_tmp 14 _) na30 rfl rfl) (sS (sT1 rfl) (sB1 rfl) sF0) ?_
        refine AL_cons (LR_bin (at_tmp 15 _) (at_c (v' := U64 (1#64)) rfl) (and_U64 x45 (1#64)) rfl) (sS (sA (sT1 rfl) sT0) sB0 sF0) ?_
        refine AL_cons (LR_bin (at_tmp 16 _) (at_c (v' := U64 (0#64)) rfl) (eql_U64 (x45 &&& (1#64)) (0#64)) rfl) (sS (sA (sT1 rfl) sT0) sB0 sF0) ?_
        refine AL_cons (LR_move (at_tmp 17 _) rfl) (sS (sT1 rfl) sB0 sF0) ?_
        refine AL_cutAt 4 ⟨[(0, .inr (.inl (0, 0))), (6, .inr (.inl (6, 0))), (14, .inr (.inl (6, 3))), (15, .inl (is (U64 x45))), (16, .inl (is (U64 (x45 &&& (1#64))))), (17, .inl (is (Bl ((x45 &&& (1#64)) == (0#64))))), (18, .inl (is (Bl ((x45 &&& (1#64)) == (0#64))))), (22, .inl (is (Bl (((x45 &&& (1#64)) == (0#64)) && (decide (x44 < 0))))))], [(0, pb 215 (ar U8 1441 b0_0 ++ (is (I64 b0_1) :: (is (I64 b0_2) :: (is (I64 b0_3) :: (is (I64 b0_4) :: [])))))), (6, pb 112 [is (Bl x1), is (I8 x2), is (I16 x44), is (U64 x45)])]⟩ ?_ ?_
        · cases hb : (x45 &&& (1#64)) == (0#64)
          · skip
            refine AL_cons (LR_off (b := false) rfl rfl rfl rfl) (sS (sT1 rfl) sB0 sF0) ?_
            refine AL_cons (LR_off (b := false) rfl rfl rfl rfl) (sS (sT1 rfl) sB0 sF0) ?_
            refine AL_cons (LR_off (b := false) rfl rfl rfl rfl) (sS (sT1 rfl) sB0 sF0) ?_
            refine AL_cons (LR_pick (b := false) (at_tmp 18 _) (at_tmp 21 _) (at_c (v' := Bl false) rfl) rfl) (sS (sA (sT1 rfl) (sA (sT1 rfl) sT0)) sB0 sF0) ?_
            exact AL_nil ⟨rfl, weakB ((sT rfl (sT rfl (sT rfl (sT rfl (sT rfl (sT rfl (sT rfl (sT rfl sT0))))))))) (sub_keep (sub_keep sub_nil)) rfl⟩
          · skip
            refine AL_cons (LR_on rfl rfl rfl (LR_fieldAddr (off := 0) (o := 2) (at_tmp 6 _) (fun b w => fa112_2 b 0 w) rfl)) (sS (sT rfl (sT1 rfl)) sB0 sF0) ?_
            refine AL_cons (LR_on rfl rfl rfl (LR_load (at_tmp 19 _) na44 rfl rfl)) (sS (sT rfl (sT1 rfl)) (sB1 rfl) sF0) ?_
            refine AL_cons (LR_on rfl rfl rfl (LR_bin (at_tmp 20 _) (at_c (v' := I16 0) rfl) (lss_I16 x44 0) rfl)) (sS (sT rfl (sA (sT1 rfl) sT0)) sB0 sF0) ?_
            refine AL_cons (LR_pick (b := true) (at_tmp 18 _) (at_tmp 21 _) (at_c (v' := Bl false) rfl) rfl) (sS (sA (sT1 rfl) (sA (sT1 rfl) sT0)) sB0 sF0) ?_
            exact AL_nil ⟨rfl, weakB ((sT rfl (sT rfl (sT rfl (sT rfl (sT rfl (sT rfl (sT rfl (sT rfl sT0))))))))) (sub_keep (sub_keep sub_nil)) rfl⟩
        refine AL_nil ?_
        exact thenN (cutLeaf (v := ((x45 &&& (1#64)) == (0#64)) && (decide (x44 < 0))) hr (weakB ((sT rfl (sT rfl (sT rfl sT0)))) (sub_keep (sub_keep sub_nil)) rfl))
      · rintro x46 hr
        show AW Hfaa.prog _ _ _ ⟨[(0, .inr (.inl (0, 0))), (6, .inr (.inl (6, 0))), (22, .inl (is (Bl x46)))], [(0, pb 215 (ar U8 1441 b0_0 ++ (is (I64 b0_1) :: (is (I64 b0_2) :: (is (I64 b0_3) :: (is (I64 b0_4) :: [])))))), (6, pb 112 [is (Bl x1), is (I8 x2), is (I16 x44), is (U64 x45)])]⟩
        have hr : some out6 = F201_18 N b0_0 b0_1 b0_2 b0_3 b0_4 x1 x2 x44 x45 x46 := hr
        refine AW_condT (b := x46) rfl (fun h => ?_) (fun h => ?_)
        · have hr := hr.trans (cond_t h)
          clear h
          refine AW_skip ?_
          refine thenN ?_
          refine AW_block ?_
          refine AW_cut (σ := BitVec 64) (fun v => ⟨[(0, .inr (.inl (0, 0))), (6, .inr (.inl (6, 0)))], [(0, pb 215 (ar U8 1441 b0_0 ++ (is (I64 b0_1) :: (is (I64 b0_2) :: (is (I64 b0_3) :: (is (I64 b0_4) :: [])))))), (6, pb 112 [is (Bl x1), is (I8 x2), is (I16 x44), is (U64 v)])]⟩) (fun v => some out6 = F201_19 N b0_0 b0_1 b0_2 b0_3 b0_4 x1 x2 x44 v) ?_ ?_
          · skip
            refine AW_region ?_
            refine AL_cons (LR_fieldAddr (off := 0) (o := 3) (at_tmp 6 _) (fun b w => fa112_3 b 0 w) rfl) (sS (sT1 rfl) sB0 sF0) ?_
            refine AL_cons (LR_load (at_tmp 23 _) na30 rfl rfl) (sS (sT1 rfl) (sB1 rfl) sF0) ?_
            refine AL_cons (LR_bin (at_tmp 24 _) (at_c (v' := U64 (1#64)) rfl) (shr_U64 x45 ((1#64).toNat : Int) (Int.natCast_nonneg _)) rfl) (sS (sA (sT1 rfl) sT0) sB0 sF0) ?_
            refine AL_cons (LR_fieldAddr (off := 0) (o := 3) (at_tmp 6 _) (fun b w => fa112_3 b 0 w) rfl) (sS (sT1 rfl) sB0 sF0) ?_
            refine AL_cons (LR_store (at_tmp 26 _) (at_tmp 25 _) (cells_one (one_is rfl)) (onC (one_is rfl) onN) sz30 rfl rfl) (sS (sA (sT1 rfl) (sT1 rfl)) (sB1 rfl) sF0) ?_
            refine AL_nil ?_
            exact thenN (cutLeaf (v := x45 >>> 1) hr (weakB ((sT rfl (sT rfl sT0))) (sub_keep (sub_keep sub_nil)) rfl))
          · rintro x47 hr
            show AW Hfaa.prog _ _ _ ⟨[(0, .inr (.inl (0, 0))), (6, .inr (.inl (6, 0)))], [(0, pb 215 (ar U8 1441 b0_0 ++ (is (I64 b0_1) :: (is (I64 b0_2) :: (is (I64 b0_3) :: (is (I64 b0_4) :: [])))))), (6, pb 112 [is (Bl x1), is (I8 x2), is (I16 x44), is (U64 x47)])]⟩
            have hr : some out6 = F201_19 N b0_0 b0_1 b0_2 b0_3 b0_4 x1 x2 x44 x47 := hr
            refine AW_region ?_
            refine AL_cons (LR_fieldAddr (off := 0) (o := 2) (at_tmp 6 _) (fun b w => fa112_2 b 0 w) rfl) (sS (sT1 rfl) sB0 sF0) ?_
            refine AL_cons (LR_load (at_tmp 27 _) na44 rfl rfl) (sS (sT1 rfl) (sB1 rfl) sF0) ?_
            refine AL_cons (LR_bin (at_tmp 28 _) (at_c (v' := I16 1) rfl) (add_I16 x44 1) rfl) (sS (sA (sT1 rfl) sT0) sB0 sF0) ?_
            refine AL_cons (LR_fieldAddr (off := 0) (o := 2) (at_tmp 6 _) (fun b w => fa112_2 b 0 w) rfl) (sS (sT1 rfl) sB0 sF0) ?_
            refine AL_cons (LR_store (at_tmp 30 _) (at_tmp 29 _) (cells_one (one_is rfl)) (onC (one_is rfl) onN) sz44 rfl rfl) (sS (sA (sT1 rfl) (sT1 rfl)) (sB1 rfl) sF0) ?_
            refine AL_nil ?_
            refine blN ?_
            exact thenN (loopNext (x' := (w16 (x44 + 1), x47)) hr (weakB ((sT rfl (sT rfl sT0))) (sub_keep (sub_keep sub_nil)) rfl))
        · have hr := hr.trans (cond_f h)
          clear h
          refine AW_exit ?_
          refine thenX ?_
          obtain ⟨r', hro, hr⟩ := map_inr hr
          refine thenX (loopOut hro (fun he => ?_))
          rw [he] at hr
          refine blH ?_
          exact thenN (cutLeaf (v := (x44, x45)) hr (weakB ((sT rfl (sT rfl sT0))) (sub_keep (sub_keep sub_nil)) rfl))
    · rintro ⟨x5, x6⟩ hr
      show AW Hfaa.prog _ _ _ ⟨[(0, .inr (.inl (0, 0))), (6, .inr (.inl (6, 0)))], [(0, pb 215 (ar U8 1441 b0_0 ++ (is (I64 b0_1) :: (is (I64 b0_2) :: (is (I64 b0_3) :: (is (I64 b0_4) :: [])))))), (6, pb 112 [is (Bl x1), is (I8 x2), is (I16 x5), is (U64 x6)])]⟩
      have hr : some r = F201_2 N b0_0 b0_1 b0_2 b0_3 b0_4 x1 x2 x5 x6 := hr
      refine AW_seq1 ?_
      refine AW_region ?_
      refine AL_cons (LR_move (at_tmp 0 _) rfl) (sS (sT1 rfl) sB0 sF0) ?_
      refine AL_cons (LR_nilCheck (at_tmp 31 _) rfl) (sS (sT1 rfl) sB0 sF0) ?_
      refine AL_cons (LR_fieldAddr (off := 0) (o := 1442) (at_tmp 32 _) (fun b w => fa215_2 b 0 w) rfl) (sS (sT1 rfl) sB0 sF0) ?_
      refine AL_cons (LR_storeA (at_tmp 33 _) (at_c (v' := I64 (-1)) rfl) (cells_one (one_is rfl)) (onC (one_is rfl) onN) sz3 rfl (bleLen (lnA (lnC (lnC (lnC (lnC ln0))))) rfl) (stP (stS st0))) (sS (sA (sT1 rfl) sT0) (sB1 rfl) sF0) ?_
      refine AL_nil ?_
      refine thenN ?_
      refine AW_seq1 ?_
      refine AW_cut (σ := Bool) (fun v => ⟨[(0, .inr (.inl (0, 0))), (6, .inr (.inl (6, 0))), (36, .inl (is (Bl v)))], [(0, pb 215 (ar U8 1441 b0_0 ++ (is (I64 b0_1) :: (is (I64 (-1)) :: (is (I64 b0_3) :: (is (I64 b0_4) :: [])))))), (6, pb 112 [is (Bl x1), is (I8 x2), is (I16 x5), is (U64 x6)])]⟩) (fun v => some r = F201_3 N b0_0 b0_1 b0_3 b0_4 x1 x2 x5 x6 v) ?_ ?_
      · skip
        refine AW_region ?_
        refine AL_cons (LR_fieldAddr (off := 0) (o := 2) (at_tmp 6 _) (fun b w => fa112_2 b 0 w) rfl) (sS (sT1 rfl) sB0 sF0) ?_
        refine AL_cons (LR_load (at_tmp 34 _) na44 rfl rfl) (sS (sT1 rfl) (sB1 rfl) sF0) ?_
        refine AL_cons (LR_bin (at_tmp 35 _) (at_c (v' := I16 0) rfl) (geq_I16 x5 0) rfl) (sS (sA (sT1 rfl) sT0) sB0 sF0) ?_
        refine AL_nil ?_
        exact thenN (cutLeaf (v := decide (x5 ≥ 0)) hr (weakB ((sT rfl (sT rfl (sT rfl sT0)))) (sub_keep (sub_keep sub_nil)) rfl))
      · rintro x7 hr
        show AW Hfaa.prog _ _ _ ⟨[(0, .inr (.inl (0, 0))), (6, .inr (.inl (6, 0))), (36, .inl (is (Bl x7)))], [(0, pb 215 (ar U8 1441 b0_0 ++ (is (I64 b0_1) :: (is (I64 (-1)) :: (is (I64 b0_3) :: (is (I64 b0_4) :: [])))))), (6, pb 112 [is (Bl x1), is (I8 x2), is (I16 x5), is (U64 x6)])]⟩
        have hr : some r = F201_3 N b0_0 b0_1 b0_3 b0_4 x1 x2 x5 x6 x7 := hr
        refine AW_condT (b := x7) rfl (fun h => ?_) (fun h => ?_)
        · have hr := hr.trans (cond_t h)
          clear h
          refine AW_cut (σ := (Nat → BitVec 64) × Int) (fun v => ⟨[(0, .inr (.inl (0, 0))), (7, .inr (.inl (7, 0)))], [(0, pb 215 (ar U8 1441 b0_0 ++ (is (I64 b0_1) :: (is (I64 (-1)) :: (is (I64 b0_3) :: (is (I64 b0_4) :: [])))))), (7, pb 286 (ar U64 20 v.1 ++ (is (I64 v.2) :: [])))]⟩) (fun v => some r = F201_4 N b0_0 b0_1 b0_3 b0_4 v.1 v.2) ?_ ?_
          · skip
            refine AW_region ?_
            refine AL_cons (LR_fieldAddr (off := 0) (o := 3) (at_tmp 6 _) (fun b w => fa112_3 b 0 w) rfl) (sS (sT1 rfl) sB0 sF0) ?_
            refine AL_cons (LR_load (at_tmp 37 _) na30 rfl rfl) (sS (sT1 rfl) (sB1 rfl) sF0) ?_
            refine AL_cons (LR_fieldAddr (off := 0) (o := 2) (at_tmp 6 _) (fun b w => fa112_2 b 0 w) rfl) (sS (sT1 rfl) sB0 sF0) ?_
            refine AL_cons (LR_load (at_tmp 39 _) na44 rfl rfl) (sS (sT1 rfl) (sB1 rfl) sF0) ?_
            obtain ⟨y29, hy29, hr⟩ := bind_some hr
            refine AL_cons (LR_call Hfaa.func281 rfl rfl (C281 N x6 x5 y29 hy29) (all_cons (at_tmp 38 _) (all_cons (at_tmp 40 _) all_nil)) rfl) (sS (sA (sT1 rfl) (sA (sT1 rfl) sT0)) sB0 sF0) ?_
            refine AL_cons (zl286 rfl) (sS sT0 sB0 (sF1 rfl)) ?_
            refine AL_cons (LR_storeA (at_tmp 7 _) (at_tmp 41 _) (cells_agg _) (ones_ar (fun _ => rfl) (onC (one_is rfl) onN)) sz286 (lnA (lnC ln0)) (bleLen (lnA (lnC ln0)) rfl) (setSeg_full _ _ (lenEq (lnA (lnC ln0)) (lnA (lnC ln0))))) (sS (sA (sT1 rfl) (sT1 rfl)) (sB1 rfl) sF0) ?_
            refine AL_nil ?_
            exact thenN (cutLeaf (v := (y29.1, y29.2)) hr (weakB ((sT rfl (sT rfl sT0))) (sub_keep (sub_drop (sub_keep sub_nil))) rfl))
          · rintro ⟨x8, x9⟩ hr
            show AW Hfaa.prog _ _ _ ⟨[(0, .inr (.inl (0, 0))), (7, .inr (.inl (7, 0)))], [(0, pb 215 (ar U8 1441 b0_0 ++ (is (I64 b0_1) :: (is (I64 (-1)) :: (is (I64 b0_3) :: (is (I64 b0_4) :: [])))))), (7, pb 286 (ar U64 20 x8 ++ (is (I64 x9) :: [])))]⟩
            have hr : some r = F201_4 N b0_0 b0_1 b0_3 b0_4 x8 x9 := hr
            refine AW_seq1 ?_
            refine AW_cut (σ := Int) (fun v => ⟨[(0, .inr (.inl (0, 0))), (7, .inr (.inl (7, 0))), (8, .inl (is (I64 v)))], [(0, pb 215 (ar U8 1441 b0_0 ++ (is (I64 b0_1) :: (is (I64 (-1)) :: (is (I64 b0_3) :: (is (I64 b0_4) :: [])))))), (7, pb 286 (ar U64 20 x8 ++ (is (I64 x9) :: [])))]⟩) (fun v => some r = F201_5 N b0_0 b0_1 b0_3 b0_4 x8 x9 v) ?_ ?_
            · skip
              refine AW_region ?_
              refine AL_cons (LR_fieldAddr (off := 0) (o := 20) (at_tmp 7 _) (fun b w => fa286_1 b 0 w) rfl) (sS (sT1 rfl) sB0 sF0) ?_
              refine AL_cons (LR_load (at_tmp 42 _) na3 (gP g0) rfl) (sS (sT1 rfl) (sB1 rfl) sF0) ?_
              refine AL_cons (LR_bin (at_tmp 43 _) (at_c (v' := I64 1) rfl) (sub_I64 x9 1) rfl) (sS (sA (sT1 rfl) sT0) sB0 sF0) ?_
              refine AL_cons (LR_assign (at_tmp 44 _) rfl) (sS (sT1 rfl) sB0 sF0) ?_
              refine AL_nil ?_
              exact thenN (cutLeaf (v := w64 (x9 - 1)) hr (weakB ((sT rfl (sT rfl (sT rfl sT0)))) (sub_keep (sub_keep sub_nil)) rfl))
            · rintro x10 hr
              show AW Hfaa.prog _ _ _ ⟨[(0, .inr (.inl (0, 0))), (7, .inr (.inl (7, 0))), (8, .inl (is (I64 x10)))], [(0, pb 215 (ar U8 1441 b0_0 ++ (is (I64 b0_1) :: (is (I64 (-1)) :: (is (I64 b0_3) :: (is (I64 b0_4) :: [])))))), (7, pb 286 (ar U64 20 x8 ++ (is (I64 x9) :: [])))]⟩
              have hr : some r = F201_5 N b0_0 b0_1 b0_3 b0_4 x8 x9 x10 := hr
              refine AW_block ?_
              refine AW_iterR (σ := Int × (Nat → BitVec 8) × Int × Int × Int × Int) (r := r) (x0 := (x10, b0_0, b0_1, (-1), b0_3, b0_4)) (emb := fun v => ⟨[(0, .inr (.inl (0, 0))), (7, .inr (.inl (7, 0))), (8, .inl (is (I64 v.1)))], [(0, pb 215 (ar U8 1441 v.2.1 ++ (is (I64 v.2.2.1) :: (is (I64 v.2.2.2.1) :: (is (I64 v.2.2.2.2.1) :: (is (I64 v.2.2.2.2.2) :: [])))))), (7, pb 286 (ar U64 20 x8 ++ (is (I64 x9) :: [])))]⟩) ?_ hr ?_
              · exact weakB ((sT rfl (sT rfl (sT rfl sT0)))) (sub_keep (sub_keep sub_nil)) rfl
              rintro ⟨x11, x12, x13, x14, x15, x16⟩ out5 hr
              show AW Hfaa.prog _ _ _ ⟨[(0, .inr (.inl (0, 0))), (7, .inr (.inl (7, 0))), (8, .inl (is (I64 x11)))], [(0, pb 215 (ar U8 1441 x12 ++ (is (I64 x13) :: (is (I64 x14) :: (is (I64 x15) :: (is (I64 x16) :: [])))))), (7, pb 286 (ar U64 20 x8 ++ (is (I64 x9) :: [])))]⟩
              have hr : some out5 = F201_L6b N x8 x9 x11 x12 x13 x14 x15 x16 := hr
              refine AW_seq1 ?_
              refine AW_cut (σ := Bool) (fun v => ⟨[(0, .inr (.inl (0, 0))), (7, .inr (.inl (7, 0))), (8, .inl (is (I64 x11))), (46, .inl (is (Bl v)))], [(0, pb 215 (ar U8 1441 x12 ++ (is (I64 x13) :: (is (I64 x14) :: (is (I64 x15) :: (is (I64 x16) :: [])))))), (7, pb 286 (ar U64 20 x8 ++ (is (I64 x9) :: [])))]⟩) (fun v => some out5 = F201_7 N x8 x9 x11 x12 x13 x14 x15 x16 v) ?_ ?_
              · skip
                refine AW_region ?_
                refine AL_cons (LR_move (at_tmp 8 _) rfl) (sS (sT1 rfl) sB0 sF0) ?_
                refine AL_cons (LR_bin (at_tmp 45 _) (at_c (v' := I64 0) rfl) (geq_I64 x11 0) rfl) (sS (sA (sT1 rfl) sT0) sB0 sF0) ?_
                refine AL_nil ?_
                exact thenN (cutLeaf (v := decide (x11 ≥ 0)) hr (weakB ((sT rfl (sT rfl (sT rfl (sT rfl sT0))))) (sub_keep (sub_keep sub_nil)) rfl))
              · rintro x17 hr
                show AW Hfaa.prog _ _ _ ⟨[(0, .inr (.inl (0, 0))), (7, .inr (.inl (7, 0))), (8, .inl (is (I64 x11))), (46, .inl (is (Bl x17)))], [(0, pb 215 (ar U8 1441 x12 ++ (is (I64 x13) :: (is (I64 x14) :: (is (I64 x15) :: (is (I64 x16) :: [])))))), (7, pb 286 (ar U64 20 x8 ++ (is (I64 x9) :: [])))]⟩
                have hr : some out5 = F201_7 N x8 x9 x11 x12 x13 x14 x15 x16 x17 := hr
                refine AW_condT (b := x17) rfl (fun h => ?_) (fun h => ?_)
                · have hr := hr.trans (cond_t h)
                  clear h
                  refine AW_skip ?_
                  refine thenN ?_
                  refine AW_cut (σ := (Nat → BitVec 8) × Int × Int × Int × Int) (fun v => ⟨[(0, .inr (.inl (0, 0))), (7, .inr (.inl (7, 0))), (8, .inl (is (I64 x11)))], [(0, pb 215 (ar U8 1441 v.1 ++ (is (I64 v.2.1) :: (is (I64 v.2.2.1) :: (is (I64 v.2.2.2.1) :: (is (I64 v.2.2.2.2) :: [])))))), (7, pb 286 (ar U64 20 x8 ++ (is (I64 x9) :: [])))]⟩) (fun v => some out5 = F201_8 N x8 x9 x11 v.1 v.2.1 v.2.2.1 v.2.2.2.1 v.2.2.2.2) ?_ ?_
                  · skip
                    refine AW_block ?_
                    refine AW_region ?_
                    refine AL_cons (LR_move (at_tmp 0 _) rfl) (sS (sT1 rfl) sB0 sF0) ?_
                    refine AL_cons (LR_move (at_tmp 8 _) rfl) (sS (sT1 rfl) sB0 sF0) ?_
                    refine AL_cons (LR_fieldAddr (off := 0) (o := 0) (at_tmp 7 _) (fun b w => fa286_0 b 0 w) rfl) (sS (sT1 rfl) sB0 sF0) ?_
                    obtain ⟨hg24, hr⟩ := guard_some hr
                    refine AL_cons (LR_indexAddr (o := x11.toNat) Hfaa.underlying284 sz30 (at_tmp 51 _) (at_tmp 50 _) (dand hg24) (by first | rfl | omega) rfl) (sS (sA (sT1 rfl) (sT1 rfl)) sB0 sF0) ?_
                    refine AL_cons (LR_load (at_tmp 52 _) na30 (gA (ltn (dand hg24))) rfl) (sS (sT1 rfl) (sB1 rfl) sF0) ?_
                    obtain ⟨y28, hy28, hr⟩ := bind_some hr
                    refine AL_cons (LR_callB [(0, 0)] [(0, 0)] Hfaa.func282 rfl rfl (C282 N x12 x13 x14 x15 x16 (x8 x11.toNat) false y28 hy28) (aTC (at_tmp 49 _) (aTC (at_tmp 53 _) (aTC (at_c (v' := Bl false) rfl) aT0))) rfl rfl rfl rfl rfl) (sS (sA (sT1 rfl) (sA (sT1 rfl) (sA sT0 sT0))) (sB1 rfl) sF0) ?_
                    refine AL_nil ?_
                    refine blN ?_
                    exact thenN (cutLeaf (v := (y28.1, y28.2.1, y28.2.2.1, y28.2.2.2.1, y28.2.2.2.2)) hr (weakB ((sT rfl (sT rfl (sT rfl sT0)))) (sub_keep (sub_keep sub_nil)) rfl))
                  · rintro ⟨x18, x19, x20, x21, x22⟩ hr
                    show AW Hfaa.prog _ _ _ ⟨[(0, .inr (.inl (0, 0))), (7, .inr (.inl (7, 0))), (8, .inl (is (I64 x11)))], [(0, pb 215 (ar U8 1441 x18 ++ (is (I64 x19) :: (is (I64 x20) :: (is (I64 x21) :: (is (I64 x22) :: [])))))), (7, pb 286 (ar U64 20 x8 ++ (is (I64 x9) :: [])))]⟩
                    have hr : some out5 = F201_8 N x8 x9 x11 x18 x19 x20 x21 x22 := hr
                    refine AW_region ?_
                    refine AL_cons (LR_move (at_tmp 8 _) rfl) (sS (sT1 rfl) sB0 sF0) ?_
                    refine AL_cons (LR_bin (at_tmp 47 _) (at_c (v' := I64 1) rfl) (sub_I64 x11 1) rfl) (sS (sA (sT1 rfl) sT0) sB0 sF0) ?_
                    refine AL_cons (LR_assign (at_tmp 48 _) rfl) (sS (sT1 rfl) sB0 sF0) ?_
                    refine AL_nil ?_
                    exact thenN (loopNext (x' := (w64 (x11 - 1), x18, x19, x20, x21, x22)) hr (weakB ((sT rfl (sT rfl (sT rfl sT0)))) (sub_keep (sub_keep sub_nil)) rfl))
                · have hr := hr.trans (cond_f h)
                  clear h
                  refine AW_exit ?_
                  refine thenX ?_
                  obtain ⟨r', hro, hr⟩ := map_inr hr
                  refine thenX (loopOut hro (fun he => ?_))
                  rw [he] at hr
                  refine blH ?_
                  refine thenN ?_
                  refine AW_ret ?_
                  refine thenR ?_
                  obtain rfl := Option.some.inj hr
                  exact ⟨res0 rfl , (sub_keep (sub_drop sub_nil))⟩
        · have hr := hr.trans (cond_f h)
          clear h
          refine AW_skip ?_
          refine thenN ?_
          refine AW_cut (σ := Int) (fun v => ⟨[(0, .inr (.inl (0, 0))), (6, .inr (.inl (6, 0))), (9, .inl (is (I16 v)))], [(0, pb 215 (ar U8 1441 b0_0 ++ (is (I64 b0_1) :: (is (I64 (-1)) :: (is (I64 b0_3) :: (is (I64 b0_4) :: [])))))), (6, pb 112 [is (Bl x1), is (I8 x2), is (I16 x5), is (U64 x6)])]⟩) (fun v => some r = F201_9 N b0_0 b0_1 b0_3 b0_4 x1 x2 x5 x6 v) ?_ ?_
          · skip
            refine AW_region ?_
            refine AL_cons (LR_fieldAddr (off := 0) (o := 2) (at_tmp 6 _) (fun b w => fa112_2 b 0 w) rfl) (sS (sT1 rfl) sB0 sF0) ?_
            refine AL_cons (LR_load (at_tmp 55 _) na44 rfl rfl) (sS (sT1 rfl) (sB1 rfl) sF0) ?_
            refine AL_cons (LR_un (at_tmp 56 _) (neg_I16 x5) rfl) (sS (sT1 rfl) sB0 sF0) ?_
            refine AL_cons (LR_assign (at_tmp 57 _) rfl) (sS (sT1 rfl) sB0 sF0) ?_
            refine AL_nil ?_
            exact thenN (cutLeaf (v := w16 (0 - x5)) hr (weakB ((sT rfl (sT rfl (sT rfl sT0)))) (sub_keep (sub_keep sub_nil)) rfl))
          · rintro x23 hr
            show AW Hfaa.prog _ _ _ ⟨[(0, .inr (.inl (0, 0))), (6, .inr (.inl (6, 0))), (9, .inl (is (I16 x23)))], [(0, pb 215 (ar U8 1441 b0_0 ++ (is (I64 b0_1) :: (is (I64 (-1)) :: (is (I64 b0_3) :: (is (I64 b0_4) :: [])))))), (6, pb 112 [is (Bl x1), is (I8 x2), is (I16 x5), is (U64 x6)])]⟩
            have hr : some r = F201_9 N b0_0 b0_1 b0_3 b0_4 x1 x2 x5 x6 x23 := hr
            refine AW_cut (σ := (Nat → BitVec 8) × Int × Int × Int × Int × BitVec 64) (fun v => ⟨[(0, .inr (.inl (0, 0))), (6, .inr (.inl (6, 0))), (9, .inl (is (I16 x23)))], [(0, pb 215 (ar U8 1441 v.1 ++ (is (I64 v.2.1) :: (is (I64 v.2.2.1) :: (is (I64 v.2.2.2.1) :: (is (I64 v.2.2.2.2.1) :: [])))))), (6, pb 112 [is (Bl x1), is (I8 x2), is (I16 x5), is (U64 v.2.2.2.2.2)])]⟩) (fun v => some r = F201_10 N x1 x2 x5 x23 v.1 v.2.1 v.2.2.1 v.2.2.2.1 v.2.2.2.2.1 v.2.2.2.2.2) ?_ ?_
            · skip
              refine AW_cut (σ := Bool) (fun v => ⟨[(0, .inr (.inl (0, 0))), (6, .inr (.inl (6, 0))), (9, .inl (is (I16 x23))), (59, .inl (is (Bl v)))], [(0, pb 215 (ar U8 1441 b0_0 ++ (is (I64 b0_1) :: (is (I64 (-1)) :: (is (I64 b0_3) :: (is (I64 b0_4) :: [])))))), (6, pb 112 [is (Bl x1), is (I8 x2), is (I16 x5), is (U64 x6)])]⟩) (fun v => some r = F201_12 N b0_0 b0_1 b0_3 b0_4 x1 x2 x5 x6 x23 v) ?_ ?_
              · skip
                refine AW_region ?_
                refine AL_cons (LR_move (at_tmp 9 _) rfl) (sS (sT1 rfl) sB0 sF0) ?_
                refine AL_cons (LR_bin (at_tmp 58 _) (at_c (v' := I16 64) rfl) (lss_I16 x23 64) rfl) (sS (sA (sT1 rfl) sT0) sB0 sF0) ?_
                refine AL_nil ?_
                exact thenN (cutLeaf (v := decide (x23 < 64)) hr (weakB ((sT rfl (sT rfl (sT rfl (sT rfl sT0))))) (sub_keep (sub_keep sub_nil)) rfl))
              · rintro x31 hr
                show AW Hfaa.prog _ _ _ ⟨[(0, .inr (.inl (0, 0))), (6, .inr (.inl (6, 0))), (9, .inl (is (I16 x23))), (59, .inl (is (Bl x31)))], [(0, pb 215 (ar U8 1441 b0_0 ++ (is (I64 b0_1) :: (is (I64 (-1)) :: (is (I64 b0_3) :: (is (I64 b0_4) :: [])))))), (6, pb 112 [is (Bl x1), is (I8 x2), is (I16 x5), is (U64 x6)])]⟩
                have hr : some r = F201_12 N b0_0 b0_1 b0_3 b0_4 x1 x2 x5 x6 x23 x31 := hr
                refine AW_condT (b := x31) rfl (fun h => ?_) (fun h => ?_)
                · have hr := hr.trans (cond_t h)
                  clear h
                  refine AW_cut (σ := BitVec 64) (fun v => ⟨[(0, .inr (.inl (0, 0))), (6, .inr (.inl (6, 0))), (9, .inl (is (I16 x23))), (10, .inl (is (U64 v)))], [(0, pb 215 (ar U8 1441 b0_0 ++ (is (I64 b0_1) :: (is (I64 (-1)) :: (is (I64 b0_3) :: (is (I64 b0_4) :: [])))))), (6, pb 112 [is (Bl x1), is (I8 x2), is (I16 x5), is (U64 x6)])]⟩) (fun v => some r = F201_13 N b0_0 b0_1 b0_3 b0_4 x1 x2 x5 x6 x23 v) ?_ ?_
                  · skip
                    refine AW_region ?_
                    refine AL_cons (LR_fieldAddr (off := 0) (o := 3) (at_tmp 6 _) (fun b w => fa112_3 b 0 w) rfl) (sS (sT1 rfl) sB0 sF0) ?_
                    refine AL_cons (LR_load (at_tmp 60 _) na30 rfl rfl) (sS (sT1 rfl) (sB1 rfl) sF0) ?_
                    refine AL_cons (LR_move (at_tmp 9 _) rfl) (sS (sT1 rfl) sB0 sF0) ?_
                    obtain ⟨hg30, hr⟩ := guard_some hr
                    refine AL_cons (LR_bin (at_tmp 61 _) (at_tmp 62 _) (shr_U64 x6 x23 (of_decide_eq_true hg30)) rfl) (sS (sA (sT1 rfl) (sT1 rfl)) sB0 sF0) ?_
                    refine AL_cons (LR_assign (at_tmp 63 _) rfl) (sS (sT1 rfl) sB0 sF0) ?_
                    refine AL_nil ?_
                    exact thenN (cutLeaf (v := x6 >>> x23.toNat) hr (weakB ((sT rfl (sT rfl (sT rfl (sT rfl sT0))))) (sub_keep (sub_keep sub_nil)) rfl))
                  · rintro x32 hr
                    show AW Hfaa.prog _ _ _ ⟨[(0, .inr (.inl (0, 0))), (6, .inr (.inl (6, 0))), (9, .inl (is (I16 x23))), (10, .inl (is (U64 x32)))], [(0, pb 215 (ar U8 1441 b0_0 ++ (is (I64 b0_1) :: (is (I64 (-1)) :: (is (I64 b0_3) :: (is (I64 b0_4) :: [])))))), (6, pb 112 [is (Bl x1), is (I8 x2), is (I16 x5), is (U64 x6)])]⟩
                    have hr : some r = F201_13 N b0_0 b0_1 b0_3 b0_4 x1 x2 x5 x6 x23 x32 := hr
                    refine AW_cut (σ := Bool) (fun v => ⟨[(0, .inr (.inl (0, 0))), (6, .inr (.inl (6, 0))), (9, .inl (is (I16 x23))), (10, .inl (is (U64 x32))), (65, .inl (is (Bl v)))], [(0, pb 215 (ar U8 1441 b0_0 ++ (is (I64 b0_1) :: (is (I64 (-1)) :: (is (I64 b0_3) :: (is (I64 b0_4) :: [])))))), (6, pb 112 [is (Bl x1), is (I8 x2), is (I16 x5), is (U64 x6)])]⟩) (fun v => some r = F201_14 N b0_0 b0_1 b0_3 b0_4 x1 x2 x5 x6 x23 x32 v) ?_ ?_
                    · skip
                      refine AW_region ?_
                      refine AL_cons (LR_move (at_tmp 10 _) rfl) (sS (sT1 rfl) sB0 sF0) ?_
                      refine AL_cons (LR_bin (at_tmp 64 _) (at_c (v' := U64 (0#64)) rfl) (neq_U64 x32 (0#64)) rfl) (sS (sA (sT1 rfl) sT0) sB0 sF0) ?_
                      refine AL_nil ?_
                      exact thenN (cutLeaf (v := x32 != (0#64)) hr (weakB ((sT rfl (sT rfl (sT rfl (sT rfl (sT rfl sT0)))))) (sub_keep (sub_keep sub_nil)) rfl))
                    · rintro x33 hr
                      show AW Hfaa.prog _ _ _ ⟨[(0, .inr (.inl (0, 0))), (6, .inr (.inl (6, 0))), (9, .inl (is (I16 x23))), (10, .inl (is (U64 x32))), (65, .inl (is (Bl x33)))], [(0, pb 215 (ar U8 1441 b0_0 ++ (is (I64 b0_1) :: (is (I64 (-1)) :: (is (I64 b0_3) :: (is (I64 b0_4) :: [])))))), (6, pb 112 [is (Bl x1), is (I8 x2), is (I16 x5), is (U64 x6)])]⟩
                      have hr : some r = F201_14 N b0_0 b0_1 b0_3 b0_4 x1 x2 x5 x6 x23 x32 x33 := hr
                      refine AW_condT (b := x33) rfl (fun h => ?_) (fun h => ?_)
                      · have hr := hr.trans (cond_t h)
                        clear h
                        refine AW_cut (σ := (Nat → BitVec 8) × Int × Int × Int × Int) (fun v => ⟨[(0, .inr (.inl (0, 0))), (6, .inr (.inl (6, 0))), (9, .inl (is (I16 x23))), (10, .inl (is (U64 x32)))], [(0, pb 215 (ar U8 1441 v.1 ++ (is (I64 v.2.1) :: (is (I64 v.2.2.1) :: (is (I64 v.2.2.2.1) :: (is (I64 v.2.2.2.2) :: [])))))), (6, pb 112 [is (Bl x1), is (I8 x2), is (I16 x5), is (U64 x6)])]⟩) (fun v => some r = F201_15 N x1 x2 x5 x6 x23 x32 v.1 v.2.1 v.2.2.1 v.2.2.2.1 v.2.2.2.2) ?_ ?_
                        · skip
                          refine AW_region ?_
                          refine AL_cons (LR_move (at_tmp 0 _) rfl) (sS (sT1 rfl) sB0 sF0) ?_
                          refine AL_cons (LR_move (at_tmp 10 _) rfl) (sS (sT1 rfl) sB0 sF0) ?_
                          refine AL_cons (LR_bin (at_tmp 67 _) (at_c (v' := U64 (1000000000000000000#64)) rfl) (quo_U64 x32 (1000000000000000000#64) (by decide)) rfl) (sS (sA (sT1 rfl) sT0) sB0 sF0) ?_
                          obtain ⟨y38, hy38, hr⟩ := bind_some hr
                          refine AL_cons (LR_callB [(0, 0)] [(0, 0)] Hfaa.func282 rfl rfl (C282 N b0_0 b0_1 (-1) b0_3 b0_4 (x32 / (1000000000000000000#64)) false y38 hy38) (aTC (at_tmp 66 _) (aTC (at_tmp 68 _) (aTC (at_c (v' := Bl false) rfl) aT0))) rfl rfl rfl rfl rfl) (sS (sA (sT1 rfl) (sA (sT1 rfl) (sA sT0 sT0))) (sB1 rfl) sF0) ?_
                          refine AL_nil ?_
                          exact thenN (cutLeaf (v := (y38.1, y38.2.1, y38.2.2.1, y38.2.2.2.1, y38.2.2.2.2)) hr (weakB ((sT rfl (sT rfl (sT rfl (sT rfl sT0))))) (sub_keep (sub_keep sub_nil)) rfl))
                        · rintro ⟨x34, x35, x36, x37, x38⟩ hr
                          show AW Hfaa.prog _ _ _ ⟨[(0, .inr (.inl (0, 0))), (6, .inr (.inl (6, 0))), (9, .inl (is (I16 x23))), (10, .inl (is (U64 x32)))], [(0, pb 215 (ar U8 1441 x34 ++ (is (I64 x35) :: (is (I64 x36) :: (is (I64 x37) :: (is (I64 x38) :: [])))))), (6, pb 112 [is (Bl x1), is (I8 x2), is (I16 x5), is (U64 x6)])]⟩
                          have hr : some r = F201_15 N x1 x2 x5 x6 x23 x32 x34 x35 x36 x37 x38 := hr
                          refine AW_cut (σ := (Nat → BitVec 8) × Int × Int × Int × Int) (fun v => ⟨[(0, .inr (.inl (0, 0))), (6, .inr (.inl (6, 0))), (9, .inl (is (I16 x23)))], [(0, pb 215 (ar U8 1441 v.1 ++ (is (I64 v.2.1) :: (is (I64 v.2.2.1) :: (is (I64 v.2.2.2.1) :: (is (I64 v.2.2.2.2) :: [])))))), (6, pb 112 [is (Bl x1), is (I8 x2), is (I16 x5), is (U64 x6)])]⟩) (fun v => some r = F201_16 N x1 x2 x5 x6 x23 v.1 v.2.1 v.2.2.1 v.2.2.2.1 v.2.2.2.2) ?_ ?_
                          · skip
                            refine AW_region ?_
                            refine AL_cons (LR_move (at_tmp 0 _) rfl) (sS (sT1 rfl) sB0 sF0) ?_
                            refine AL_cons (LR_move (at_tmp 10 _) rfl) (sS (sT1 rfl) sB0 sF0) ?_
                            refine AL_cons (LR_bin (at_tmp 71 _) (at_c (v' := U64 (1000000000000000000#64)) rfl) (rem_U64 x32 (1000000000000000000#64) (by decide)) rfl) (sS (sA (sT1 rfl) sT0) sB0 sF0) ?_
                            obtain ⟨y37, hy37, hr⟩ := bind_some hr
                            refine AL_cons (LR_callB [(0, 0)] [(0, 0)] Hfaa.func282 rfl rfl (C282 N x34 x35 x36 x37 x38 (x32 % (1000000000000000000#64)) false y37 hy37) (aTC (at_tmp 70 _) (aTC (at_tmp 72 _) (aTC (at_c (v' := Bl false) rfl) aT0))) rfl rfl rfl rfl rfl) (sS (sA (sT1 rfl) (sA (sT1 rfl) (sA sT0 sT0))) (sB1 rfl) sF0) ?_
                            refine AL_nil ?_
                            exact thenN (cutLeaf (v := (y37.1, y37.2.1, y37.2.2.1, y37.2.2.2.1, y37.2.2.2.2)) hr (weakB ((sT rfl (sT rfl (sT rfl sT0)))) (sub_keep (sub_keep sub_nil)) rfl))
                          · rintro ⟨x39, x40, x41, x42, x43⟩ hr
                            show AW Hfaa.prog _ _ _ ⟨[(0, .inr (.inl (0, 0))), (6, .inr (.inl (6, 0))), (9, .inl (is (I16 x23)))], [(0, pb 215 (ar U8 1441 x39 ++ (is (I64 x40) :: (is (I64 x41) :: (is (I64 x42) :: (is (I64 x43) :: [])))))), (6, pb 112 [is (Bl x1), is (I8 x2), is (I16 x5), is (U64 x6)])]⟩
                            have hr : some r = F201_16 N x1 x2 x5 x6 x23 x39 x40 x41 x42 x43 := hr
                            obtain ⟨hg29, hr⟩ := guard_some hr
                            refine AW_draw mixed
                              (lrC (LR_fieldAddr (off := 0) (o := 3) (at_tmp 6 _) (fun b w => fa112_3 b 0 w) rfl)
                              (lrC (LR_load (at_tmp 74 _) na30 rfl rfl)
                              (lrC (LR_move (at_tmp 9 _) rfl)
                              (lrC (LR_bin (at_c (v' := U64 (1#64)) rfl) (at_tmp 76 _) (shl_U64 (1#64) x23 (of_decide_eq_true hg29)) rfl)
                              (lrC (LR_bin (at_tmp 77 _) (at_c (v' := U64 (1#64)) rfl) (sub_U64 ((1#64) <<< x23.toNat) (1#64)) rfl)
                              (lrC (LR_bin (at_tmp 75 _) (at_tmp 78 _) (and_U64 x6 (((1#64) <<< x23.toNat) - (1#64))) rfl)
                              (lrC (LR_fieldAddr (off := 0) (o := 3) (at_tmp 6 _) (fun b w => fa112_3 b 0 w) rfl)
                              (lrC (LR_store (at_tmp 80 _) (at_tmp 79 _) (cells_one (one_is rfl)) (onC (one_is rfl) onN) sz30 rfl rfl)
                              lrN))))))))
                              (by kernel_rfl)
                              (saC (sS (sT1 rfl) sB0 sF0) (saC (sS (sT1 rfl) (sB1 rfl) sF0) (saC (sS (sT1 rfl) sB0 sF0) (saC (sS (sA sT0 (sT1 rfl)) sB0 sF0) (saC (sS (sA (sT1 rfl) sT0) sB0 sF0) (saC (sS (sA (sT1 rfl) (sT1 rfl)) sB0 sF0) (saC (sS (sT1 rfl) sB0 sF0) (saC (sS (sA (sT1 rfl) (sT1 rfl)) (sB1 rfl) sF0) saN)))))))) ?_
                            exact thenN (cutLeaf (v := (x39, x40, x41, x42, x43, x6 &&& (((1#64) <<< x23.toNat) - (1#64)))) hr (weakB ((sT rfl (sT rfl (sT rfl sT0)))) (sub_keep (sub_keep sub_nil)) rfl))
                      · have hr := hr.trans (cond_f h)
                        clear h
                        refine AW_skip ?_
                        exact thenN (cutLeaf (v := (b0_0, b0_1, (-1), b0_3, b0_4, x6)) hr (weakB ((sT rfl (sT rfl (sT rfl sT0)))) (sub_keep (sub_keep sub_nil)) rfl))
                · have hr := hr.trans (cond_f h)
                  clear h
                  refine AW_skip ?_
                  exact thenN (cutLeaf (v := (b0_0, b0_1, (-1), b0_3, b0_4, x6)) hr (weakB ((sT rfl (sT rfl (sT rfl sT0)))) (sub_keep (sub_keep sub_nil)) rfl))
            · rintro ⟨x24, x25, x26, x27, x28, x29⟩ hr
              show AW Hfaa.prog _ _ _ ⟨[(0, .inr (.inl (0, 0))), (6, .inr (.inl (6, 0))), (9, .inl (is (I16 x23)))], [(0, pb 215 (ar U8 1441 x24 ++ (is (I64 x25) :: (is (I64 x26) :: (is (I64 x27) :: (is (I64 x28) :: [])))))), (6, pb 112 [is (Bl x1), is (I8 x2), is (I16 x5), is (U64 x29)])]⟩
              have hr : some r = F201_10 N x1 x2 x5 x23 x24 x25 x26 x27 x28 x29 := hr
              refine AW_cut (σ := Bool) (fun v => ⟨[(0, .inr (.inl (0, 0))), (6, .inr (.inl (6, 0))), (9, .inl (is (I16 x23))), (83, .inl (is (Bl v)))], [(0, pb 215 (ar U8 1441 x24 ++ (is (I64 x25) :: (is (I64 x26) :: (is (I64 x27) :: (is (I64 x28) :: [])))))), (6, pb 112 [is (Bl x1), is (I8 x2), is (I16 x5), is (U64 x29)])]⟩) (fun v => some r = F201_11 N x1 x2 x5 x23 x24 x25 x26 x27 x28 x29 v) ?_ ?_
              · skip
                refine AW_region ?_
                refine AL_cons (LR_fieldAddr (off := 0) (o := 3) (at_tmp 6 _) (fun b w => fa112_3 b 0 w) rfl) (sS (sT1 rfl) sB0 sF0) ?_
                refine AL_cons (LR_load (at_tmp 81 _) na30 rfl rfl) (sS (sT1 rfl) (sB1 rfl) sF0) ?_
                refine AL_cons (LR_bin (at_tmp 82 _) (at_c (v' := U64 (0#64)) rfl) (neq_U64 x29 (0#64)) rfl) (sS (sA (sT1 rfl) sT0) sB0 sF0) ?_
                refine AL_nil ?_
                exact thenN (cutLeaf (v := x29 != (0#64)) hr (weakB ((sT rfl (sT rfl (sT rfl (sT rfl sT0))))) (sub_keep (sub_keep sub_nil)) rfl))
              · rintro x30 hr
                show AW Hfaa.prog _ _ _ ⟨[(0, .inr (.inl (0, 0))), (6, .inr (.inl (6, 0))), (9, .inl (is (I16 x23))), (83, .inl (is (Bl x30)))], [(0, pb 215 (ar U8 1441 x24 ++ (is (I64 x25) :: (is (I64 x26) :: (is (I64 x27) :: (is (I64 x28) :: [])))))), (6, pb 112 [is (Bl x1), is (I8 x2), is (I16 x5), is (U64 x29)])]⟩
                have hr : some r = F201_11 N x1 x2 x5 x23 x24 x25 x26 x27 x28 x29 x30 := hr
                refine AW_condT (b := x30) rfl (fun h => ?_) (fun h => ?_)
                · have hr := hr.trans (cond_t h)
                  clear h
                  refine AW_region ?_
                  refine AL_cons (LR_move (at_tmp 0 _) rfl) (sS (sT1 rfl) sB0 sF0) ?_
                  refine AL_cons (LR_fieldAddr (off := 0) (o := 3) (at_tmp 6 _) (fun b w => fa112_3 b 0 w) rfl) (sS (sT1 rfl) sB0 sF0) ?_
                  refine AL_cons (LR_load (at_tmp 85 _) na30 rfl rfl) (sS (sT1 rfl) (sB1 rfl) sF0) ?_
                  refine AL_cons (LR_move (at_tmp 9 _) rfl) (sS (sT1 rfl) sB0 sF0) ?_
                  obtain ⟨y34, hy34, hr⟩ := bind_some hr
                  refine AL_cons (LR_callB [(0, 0)] [(0, 0)] Hfaa.func283 rfl rfl (C283 N x24 x25 x26 x27 x28 x29 x23 y34 hy34) (aTC (at_tmp 84 _) (aTC (at_tmp 86 _) (aTC (at_tmp 87 _) aT0))) rfl rfl rfl rfl rfl) (sS (sA (sT1 rfl) (sA (sT1 rfl) (sA (sT1 rfl) sT0))) (sB1 rfl) sF0) ?_
                  refine AL_nil ?_
                  obtain rfl := Option.some.inj hr
                  exact ⟨res0 rfl , (sub_keep (sub_drop sub_nil))⟩
                · have hr := hr.trans (cond_f h)
                  clear h
                  refine AW_skip ?_
                  obtain rfl := Option.some.inj hr
                  exact ⟨res0 rfl , (sub_keep (sub_drop sub_nil))⟩
/-- expand.zeros -/
def F200_3 (N : Nat) (a0 : Int) (x3 : Nat → BitVec 8) : Option (List UInt8) := bif (decide (0 ≤ (0 : Int)) && (decide ((0 : Int) ≤ (min a0 4096 : Int)) && decide ((min a0 4096 : Int) ≤ (4096 : Int)))) then bif decide ((((min a0 4096 : Int).toNat)) ≤ 4096) then some (bys (((min a0 4096 : Int).toNat)) x3) else none else none
def F200_6 (N : Nat) (a0 : Int) (x4 : Int) (x7 : Nat → BitVec 8) : Option ((Int × (Nat → BitVec 8)) ⊕ (List UInt8)) := some (.inl ((w64 (x4 + 1), x7)))
def F200_5 (N : Nat) (a0 : Int) (x4 : Int) (x5 : Nat → BitVec 8) (x6 : Bool) : Option ((Int × (Nat → BitVec 8)) ⊕ (List UInt8)) := bif x6 then bif (decide (0 ≤ x4) && decide (x4 < (4096 : Int))) then F200_6 N a0 x4 (upd x5 x4.toNat (48#8)) else none else (F200_3 N a0 x5).map Sum.inr
def F200_L4b (N : Nat) (a0 : Int) (x4 : Int) (x5 : Nat → BitVec 8) : Option ((Int × (Nat → BitVec 8)) ⊕ (List UInt8)) := F200_5 N a0 x4 x5 (decide (x4 < 4096))
def F200_L4 (N : Nat) (a0 : Int) : (Int × (Nat → BitVec 8)) → Option ((Int × (Nat → BitVec 8)) ⊕ (List UInt8)) := fun v => F200_L4b N a0 v.1 v.2
def F200_2 (N : Nat) (a0 : Int) (x2 : Nat → BitVec 8) : Option (List UInt8) := iterL (F200_L4 N a0) N (0, x2)
def F200_1 (N : Nat) (a0 : Int) (x1 : Bool) : Option (List UInt8) := bif x1 then some ([] : List UInt8) else F200_2 N a0 (fun _ => 0#8)
def F200 (N : Nat) (a0 : Int) : Option (List UInt8) := F200_1 N a0 (decide (a0 ≤ 0))
theorem C200 (N : Nat) (a0 : Int) (r : List UInt8) (hr : some r = F200 N a0) : Aw.Fn Hfaa.prog 200 [is (I64 a0)] (is (Sv r)) := by
  refine fn_intro Hfaa.func200 rfl rfl rfl ?_
  intro bn0 w0 H0
  refine AW_seq1 ?_
  refine AW_region ?_
  refine AL_cons (LR_assign (at_c (v' := Sv ([] : List UInt8)) rfl) rfl) (sS sT0 sB0 sF0) ?_
  refine AL_nil ?_
  refine thenN ?_
  refine AW_seq1 ?_
  refine AW_cut (σ := Bool) (fun v => ⟨[(0, .inl (is (I64 a0))), (6, .inl (is (Bl v)))], []⟩) (fun v => some r = F200_1 N a0 v) ?_ ?_
  · skip
    refine AW_region ?_
    refine AL_cons (LR_move (at_tmp 0 _) rfl) (sS (sT1 rfl) sB0 sF0) ?_
    refine AL_cons (LR_bin (at_tmp 5 _) (at_c (v' := I64 0) rfl) (leq_I64 a0 0) rfl) (sS (sA (sT1 rfl) sT0) sB0 sF0) ?_
    refine AL_nil ?_
    exact thenN (cutLeaf (v := decide (a0 ≤ 0)) hr (weak0 ((sT rfl (sT rfl sT0))) sub_nil))
  · rintro x1 hr
    show AW Hfaa.prog _ _ _ ⟨[(0, .inl (is (I64 a0))), (6, .inl (is (Bl x1)))], []⟩
    have hr : some r = F200_1 N a0 x1 := hr
    refine AW_condT (b := x1) rfl (fun h => ?_) (fun h => ?_)
    · have hr := hr.trans (cond_t h)
      clear h
      refine AW_seq1 ?_
      refine AW_region ?_
      refine AL_cons (LR_assign (at_c (v' := Sv ([] : List UInt8)) rfl) rfl) (sS sT0 sB0 sF0) ?_
      refine AL_nil ?_
      refine thenN ?_
      refine AW_ret ?_
      refine thenR ?_
      obtain rfl := Option.some.inj hr
      exact res1 rfl (rvT rfl)
    · have hr := hr.trans (cond_f h)
      clear h
      refine AW_skip ?_
      refine thenN ?_
      refine AW_cut (σ := (Nat → BitVec 8)) (fun v => ⟨[(0, .inl (is (I64 a0))), (3, .inr (.inl (3, 0)))], [(3, pb 282 (ar U8 4096 v ++ []))]⟩) (fun v => some r = F200_2 N a0 v) ?_ ?_
      · skip
        refine AW_region ?_
        refine AL_cons (zl282 rfl) (sS sT0 sB0 (sF1 rfl)) ?_
        refine AL_nil ?_
        exact thenN (cutLeaf (v := fun _ => 0#8) hr (weak0 ((sT rfl (sT rfl sT0))) (sub_keep sub_nil)))
      · rintro x2 hr
        show AW Hfaa.prog _ _ _ ⟨[(0, .inl (is (I64 a0))), (3, .inr (.inl (3, 0)))], [(3, pb 282 (ar U8 4096 x2 ++ []))]⟩
        have hr : some r = F200_2 N a0 x2 := hr
        refine AW_cut (σ := (Nat → BitVec 8)) (fun v => ⟨[(0, .inl (is (I64 a0))), (3, .inr (.inl (3, 0)))], [(3, pb 282 (ar U8 4096 v ++ []))]⟩) (fun v => some r = F200_3 N a0 v) ?_ ?_
        · skip
          refine AW_seq1 ?_
          refine AW_region ?_
          refine AL_cons (LR_move (at_c (v' := I64 0) rfl) rfl) (sS sT0 sB0 sF0) ?_
          refine AL_nil ?_
          refine thenN ?_
          refine AW_block ?_
          refine AW_iterR (σ := Int × (Nat → BitVec 8)) (r := r) (x0 := (0, x2)) (emb := fun v => ⟨[(0, .inl (is (I64 a0))), (3, .inr (.inl (3, 0))), (7, .inl (is (I64 v.1)))], [(3, pb 282 (ar U8 4096 v.2 ++ []))]⟩) ?_ hr ?_
          · exact weak0 ((sT rfl (sT rfl (sT rfl sT0)))) (sub_keep sub_nil)
          rintro ⟨x4, x5⟩ out2 hr
          show AW Hfaa.prog _ _ _ ⟨[(0, .inl (is (I64 a0))), (3, .inr (.inl (3, 0))), (7, .inl (is (I64 x4)))], [(3, pb 282 (ar U8 4096 x5 ++ []))]⟩
          have hr : some out2 = F200_L4b N a0 x4 x5 := hr
          refine AW_cut (σ := Bool) (fun v => ⟨[(0, .inl (is (I64 a0))), (3, .inr (.inl (3, 0))), (7, .inl (is (I64 x4))), (8, .inl (is (Bl v)))], [(3, pb 282 (ar U8 4096 x5 ++ []))]⟩) (fun v => some out2 = F200_5 N a0 x4 x5 v) ?_ ?_
          · skip
            refine AW_region ?_
            refine AL_cons (LR_bin (at_tmp 7 _) (at_c (v' := I64 4096) rfl) (lss_I64 x4 4096) rfl) (sS (sA (sT1 rfl) sT0) sB0 sF0) ?_
            refine AL_nil ?_
            exact thenN (cutLeaf (v := decide (x4 < 4096)) hr (weak0 ((sT rfl (sT rfl (sT rfl (sT rfl sT0))))) (sub_keep sub_nil)))
          · rintro x6 hr
            show AW Hfaa.prog _ _ _ ⟨[(0, .inl (is (I64 a0))), (3, .inr (.inl (3, 0))), (7, .inl (is (I64 x4))), (8, .inl (is (Bl x6)))], [(3, pb 282 (ar U8 4096 x5 ++ []))]⟩
            have hr : some out2 = F200_5 N a0 x4 x5 x6 := hr
            refine AW_seq1 ?_
            refine AW_condT (b := x6) rfl (fun h => ?_) (fun h => ?_)
            · have hr := hr.trans (cond_t h)
              clear h
              refine AW_skip ?_
              refine thenN ?_
              refine AW_cut (σ := (Nat → BitVec 8)) (fun v => ⟨[(0, .inl (is (I64 a0))), (3, .inr (.inl (3, 0))), (7, .inl (is (I64 x4)))], [(3, pb 282 (ar U8 4096 v ++ []))]⟩) (fun v => some out2 = F200_6 N a0 x4 v) ?_ ?_
              · skip
                refine AW_block ?_
                refine AW_seq1 ?_
                refine AW_region ?_
                refine AL_cons (LR_move (at_tmp 7 _) rfl) (sS (sT1 rfl) sB0 sF0) ?_
                refine AL_cons (LR_assign (at_tmp 9 _) rfl) (sS (sT1 rfl) sB0 sF0) ?_
                refine AL_nil ?_
                refine thenN ?_
                refine AW_region ?_
                refine AL_cons (LR_move (at_tmp 4 _) rfl) (sS (sT1 rfl) sB0 sF0) ?_
                obtain ⟨hg16, hr⟩ := guard_some hr
                refine AL_cons (LR_indexAddr (o := x4.toNat) Hfaa.underlying282 sz5 (at_tmp 3 _) (at_tmp 10 _) (dand hg16) (by first | rfl | omega) rfl) (sS (sA (sT1 rfl) (sT1 rfl)) sB0 sF0) ?_
                refine AL_cons (LR_storeA (at_tmp 11 _) (at_c (v' := U8 (48#8)) rfl) (cells_one (one_is rfl)) (onC (one_is rfl) onN) sz5 rfl (ble_dyn (lnA ln0) (by have := (ltn (dand hg16)); omega)) (stA (ltn (dand hg16)))) (sS (sA (sT1 rfl) sT0) (sB1 rfl) sF0) ?_
                refine AL_nil ?_
                refine blN ?_
                exact thenN (cutLeaf (v := upd x5 x4.toNat (48#8)) hr (weak0 ((sT rfl (sT rfl (sT rfl sT0)))) (sub_keep sub_nil)))
              · rintro x7 hr
                show AW Hfaa.prog _ _ _ ⟨[(0, .inl (is (I64 a0))), (3, .inr (.inl (3, 0))), (7, .inl (is (I64 x4)))], [(3, pb 282 (ar U8 4096 x7 ++ []))]⟩
                have hr : some out2 = F200_6 N a0 x4 x7 := hr
                refine AW_region ?_
                refine AL_cons (LR_bin (at_tmp 7 _) (at_c (v' := I64 1) rfl) (add_I64 x4 1) rfl) (sS (sA (sT1 rfl) sT0) sB0 sF0) ?_
                refine AL_cons (LR_move (at_tmp 12 _) rfl) (sS (sT1 rfl) sB0 sF0) ?_
                refine AL_nil ?_
                exact thenN (loopNext (x' := (w64 (x4 + 1), x7)) hr (weak0 ((sT rfl (sT rfl (sT rfl sT0)))) (sub_keep sub_nil)))
            · have hr := hr.trans (cond_f h)
              clear h
              refine AW_exit ?_
              refine thenX ?_
              obtain ⟨r', hro, hr⟩ := map_inr hr
              refine thenX (loopOut hro (fun he => ?_))
              rw [he] at hr
              refine blH ?_
              exact thenN (cutLeaf (v := x5) hr (weak0 ((sT rfl (sT rfl sT0))) (sub_keep sub_nil)))
        · rintro x3 hr
          show AW Hfaa.prog _ _ _ ⟨[(0, .inl (is (I64 a0))), (3, .inr (.inl (3, 0)))], [(3, pb 282 (ar U8 4096 x3 ++ []))]⟩
          have hr : some r = F200_3 N a0 x3 := hr
          refine AW_seq1 ?_
          refine AW_region ?_
          refine AL_cons (LR_move (at_tmp 0 _) rfl) (sS (sT1 rfl) sB0 sF0) ?_
          refine AL_cons (LR_bi2 (vx := I64 a0) (vy := I64 4096) (v := I64 (min a0 4096)) (at_tmp 13 _) (at_c (v' := I64 4096) rfl) (fun cs w => min_I .i64 a0 4096 cs w) rfl) (sS (sA (sT1 rfl) sT0) sB0 sF0) ?_
          obtain ⟨hg9, hr⟩ := guard_some hr
          refine AL_cons (slcE (o' := 0) (l' := ((min a0 4096 : Int).toNat)) (c' := 4096) (LR_sliceA (i := (0 : Int)) (j := (min a0 4096 : Int)) Hfaa.underlying282 sz5 (at_tmp 3 _) lo_none (hi_some (at_tmp 14 _)) (dand3 hg9) (by decide) rfl) (by first | rfl | (simp; done) | (simp <;> omega))) (sS (sA (sT1 rfl) (sA sT0 (sT1 rfl))) sB0 sF0) ?_
          obtain ⟨hg10, hr⟩ := guard_some hr
          refine AL_cons (LR_convT (f := x3) Hfaa.underlying227 Hfaa.underlying5 Hfaa.underlying9 (at_tmp 15 _) (fun i hi => (zadd _).symm ▸ gA (Nat.lt_of_lt_of_le hi (of_decide_eq_true hg10))) rfl) (sS (sT1 rfl) (sB1 rfl) sF0) ?_
          refine AL_cons (LR_assign (at_tmp 16 _) rfl) (sS (sT1 rfl) sB0 sF0) ?_
          refine AL_nil ?_
          refine thenN ?_
          refine AW_ret ?_
          obtain rfl := Option.some.inj hr
          exact res1 rfl (rvT rfl)
/-- (*expand.expansion).round -/
def F202_8 (N : Nat) (b0_0 : Nat → BitVec 8) (b0_1 : Int) (b0_2 : Int) (b0_3 : Int) (b0_4 : Int) (a1 : Int) (x7 : Nat → BitVec 8) (x8 : Nat) (x9 : Nat) (x10 : Nat) : Option (List UInt8 × (Nat → BitVec 8) × Int × Int × Int × Int) := bif decide (x8 + x9 ≤ 1442) then (F200 N (w64 (a1 - b0_1))).bind fun y2 => bif decide ((bys x9 (fun i => x7 (x8 + i))).length + y2.length ≤ 9223372036854775807) then some (((bys x9 (fun i => x7 (x8 + i))) ++ y2, b0_0, b0_1, b0_2, b0_3, b0_4)) else none else none
def F202_9 (N : Nat) (b0_0 : Nat → BitVec 8) (b0_1 : Int) (b0_2 : Int) (b0_3 : Int) (b0_4 : Int) (a1 : Int) (x4 : Int) (x7 : Nat → BitVec 8) (x11 : Bool) : Option (List UInt8 × (Nat → BitVec 8) × Int × Int × Int × Int) := bif x11 then bif (decide (0 ≤ (0 : Int)) && (decide ((0 : Int) ≤ (w64 (x4 + 1) : Int)) && decide ((w64 (x4 + 1) : Int) ≤ (1442 : Int)))) then F202_8 N b0_0 b0_1 b0_2 b0_3 b0_4 a1 x7 0 (((w64 (x4 + 1) : Int).toNat)) 1442 else none else F202_8 N b0_0 b0_1 b0_2 b0_3 b0_4 a1 x7 1 (((w64 (x4 + 1) : Int).toNat) - 1) (1442 - 1)
def F202_7 (N : Nat) (b0_0 : Nat → BitVec 8) (b0_1 : Int) (b0_2 : Int) (b0_3 : Int) (b0_4 : Int) (a1 : Int) (x4 : Int) (x7 : Nat → BitVec 8) : Option (List UInt8 × (Nat → BitVec 8) × Int × Int × Int × Int) := bif (decide (0 ≤ (1 : Int)) && (decide ((1 : Int) ≤ (w64 (x4 + 1) : Int)) && decide ((w64 (x4 + 1) : Int) ≤ (1442 : Int)))) then bif decide ((1 : Int) < (1442 : Int)) then F202_9 N b0_0 b0_1 b0_2 b0_3 b0_4 a1 x4 x7 (((x7 0) != (48#8)) || (x4 == 0)) else none else none
def F202_12 (N : Nat) (b0_0 : Nat → BitVec 8) (b0_1 : Int) (b0_2 : Int) (b0_3 : Int) (b0_4 : Int) (a1 : Int) (x4 : Int) (x13 : Int) (x16 : Bool) (x17 : Nat → BitVec 8) : Option ((Bool × Int × (Nat → BitVec 8)) ⊕ (List UInt8 × (Nat → BitVec 8) × Int × Int × Int × Int)) := some (.inl ((x16, w64 (x13 - 1), x17)))
def F202_14 (N : Nat) (b0_0 : Nat → BitVec 8) (b0_1 : Int) (b0_2 : Int) (b0_3 : Int) (b0_4 : Int) (a1 : Int) (x4 : Int) (x13 : Int) (x19 : Nat → BitVec 8) : Option ((Bool × Int × (Nat → BitVec 8)) ⊕ (List UInt8 × (Nat → BitVec 8) × Int × Int × Int × Int)) := F202_12 N b0_0 b0_1 b0_2 b0_3 b0_4 a1 x4 x13 false x19
def F202_13 (N : Nat) (b0_0 : Nat → BitVec 8) (b0_1 : Int) (b0_2 : Int) (b0_3 : Int) (b0_4 : Int) (a1 : Int) (x4 : Int) (x12 : Bool) (x13 : Int) (x14 : Nat → BitVec 8) (x18 : Bool) : Option ((Bool × Int × (Nat → BitVec 8)) ⊕ (List UInt8 × (Nat → BitVec 8) × Int × Int × Int × Int)) := bif x18 then bif (decide (0 ≤ x13) && decide (x13 < (1442 : Int))) then bif (decide (0 ≤ x13) && decide (x13 < (1442 : Int))) then F202_14 N b0_0 b0_1 b0_2 b0_3 b0_4 a1 x4 x13 (upd x14 x13.toNat ((x14 x13.toNat) + (1#8))) else none else none else bif (decide (0 ≤ x13) && decide (x13 < (1442 : Int))) then F202_12 N b0_0 b0_1 b0_2 b0_3 b0_4 a1 x4 x13 x12 (upd x14 x13.toNat (48#8)) else none
def F202_11 (N : Nat) (b0_0 : Nat → BitVec 8) (b0_1 : Int) (b0_2 : Int) (b0_3 : Int) (b0_4 : Int) (a1 : Int) (x4 : Int) (x12 : Bool) (x13 : Int) (x14 : Nat → BitVec 8) (x15 : Bool) : Option ((Bool × Int × (Nat → BitVec 8)) ⊕ (List UInt8 × (Nat → BitVec 8) × Int × Int × Int × Int)) := bif x15 then bif (decide (0 ≤ x13) && decide (x13 < (1442 : Int))) then F202_13 N b0_0 b0_1 b0_2 b0_3 b0_4 a1 x4 x12 x13 x14 ((x14 x13.toNat) != (57#8)) else none else (F202_7 N b0_0 b0_1 b0_2 b0_3 b0_4 a1 x4 x14).map Sum.inr
def F202_L10b (N : Nat) (b0_0 : Nat → BitVec 8) (b0_1 : Int) (b0_2 : Int) (b0_3 : Int) (b0_4 : Int) (a1 : Int) (x4 : Int) (x12 : Bool) (x13 : Int) (x14 : Nat → BitVec 8) : Option ((Bool × Int × (Nat → BitVec 8)) ⊕ (List UInt8 × (Nat → BitVec 8) × Int × Int × Int × Int)) := F202_11 N b0_0 b0_1 b0_2 b0_3 b0_4 a1 x4 x12 x13 x14 (x12 && (decide (x13 ≥ 0)))
def F202_L10 (N : Nat) (b0_0 : Nat → BitVec 8) (b0_1 : Int) (b0_2 : Int) (b0_3 : Int) (b0_4 : Int) (a1 : Int) (x4 : Int) : (Bool × Int × (Nat → BitVec 8)) → Option ((Bool × Int × (Nat → BitVec 8)) ⊕ (List UInt8 × (Nat → BitVec 8) × Int × Int × Int × Int)) := fun v => F202_L10b N b0_0 b0_1 b0_2 b0_3 b0_4 a1 x4 v.1 v.2.1 v.2.2
def F202_6 (N : Nat) (b0_0 : Nat → BitVec 8) (b0_1 : Int) (b0_2 : Int) (b0_3 : Int) (b0_4 : Int) (a1 : Int) (x4 : Int) (x5 : Nat → BitVec 8) (x6 : Bool) : Option (List UInt8 × (Nat → BitVec 8) × Int × Int × Int × Int) := iterL (F202_L10 N b0_0 b0_1 b0_2 b0_3 b0_4 a1 x4) N (x6, x4, x5)
def F202_17 (N : Nat) (b0_0 : Nat → BitVec 8) (b0_1 : Int) (b0_2 : Int) (b0_3 : Int) (b0_4 : Int) (a1 : Int) (x4 : Int) (x5 : Nat → BitVec 8) (x21 : Bool) (x22 : BitVec 8) : Option (List UInt8 × (Nat → BitVec 8) × Int × Int × Int × Int) := bif decide ((53#8).toNat < x22.toNat) then F202_6 N b0_0 b0_1 b0_2 b0_3 b0_4 a1 x4 x5 true else bif x22 == (53#8) then bif !x21 then F202_6 N b0_0 b0_1 b0_2 b0_3 b0_4 a1 x4 x5 true else bif (decide (0 ≤ x4) && decide (x4 < (1442 : Int))) then F202_6 N b0_0 b0_1 b0_2 b0_3 b0_4 a1 x4 x5 (((x5 x4.toNat) &&& (1#8)) == (1#8)) else none else F202_6 N b0_0 b0_1 b0_2 b0_3 b0_4 a1 x4 x5 false
def F202_16 (N : Nat) (b0_0 : Nat → BitVec 8) (b0_1 : Int) (b0_2 : Int) (b0_3 : Int) (b0_4 : Int) (a1 : Int) (x4 : Int) (x5 : Nat → BitVec 8) (x21 : Bool) : Option (List UInt8 × (Nat → BitVec 8) × Int × Int × Int × Int) := bif (decide (0 ≤ a1) && decide (a1 < (1441 : Int))) then F202_17 N b0_0 b0_1 b0_2 b0_3 b0_4 a1 x4 x5 x21 (b0_0 a1.toNat) else none
def F202_21 (N : Nat) (b0_0 : Nat → BitVec 8) (b0_1 : Int) (b0_2 : Int) (b0_3 : Int) (b0_4 : Int) (a1 : Int) (x4 : Int) (x5 : Nat → BitVec 8) (x25 : Int) (x27 : Bool) : Option ((Bool × Int) ⊕ (List UInt8 × (Nat → BitVec 8) × Int × Int × Int × Int)) := some (.inl ((x27, w64 (x25 + 1))))
def F202_20 (N : Nat) (b0_0 : Nat → BitVec 8) (b0_1 : Int) (b0_2 : Int) (b0_3 : Int) (b0_4 : Int) (a1 : Int) (x4 : Int) (x5 : Nat → BitVec 8) (x24 : Bool) (x25 : Int) (x26 : Bool) : Option ((Bool × Int) ⊕ (List UInt8 × (Nat → BitVec 8) × Int × Int × Int × Int)) := bif x26 then bif x24 then bif (decide (0 ≤ x25) && decide (x25 < (1441 : Int))) then F202_21 N b0_0 b0_1 b0_2 b0_3 b0_4 a1 x4 x5 x25 ((b0_0 x25.toNat) == (48#8)) else none else F202_21 N b0_0 b0_1 b0_2 b0_3 b0_4 a1 x4 x5 x25 false else (F202_16 N b0_0 b0_1 b0_2 b0_3 b0_4 a1 x4 x5 x24).map Sum.inr
def F202_L19b (N : Nat) (b0_0 : Nat → BitVec 8) (b0_1 : Int) (b0_2 : Int) (b0_3 : Int) (b0_4 : Int) (a1 : Int) (x4 : Int) (x5 : Nat → BitVec 8) (x24 : Bool) (x25 : Int) : Option ((Bool × Int) ⊕ (List UInt8 × (Nat → BitVec 8) × Int × Int × Int × Int)) := F202_20 N b0_0 b0_1 b0_2 b0_3 b0_4 a1 x4 x5 x24 x25 (decide (x25 < b0_1))
def F202_L19 (N : Nat) (b0_0 : Nat → BitVec 8) (b0_1 : Int) (b0_2 : Int) (b0_3 : Int) (b0_4 : Int) (a1 : Int) (x4 : Int) (x5 : Nat → BitVec 8) : (Bool × Int) → Option ((Bool × Int) ⊕ (List UInt8 × (Nat → BitVec 8) × Int × Int × Int × Int)) := fun v => F202_L19b N b0_0 b0_1 b0_2 b0_3 b0_4 a1 x4 x5 v.1 v.2
def F202_18 (N : Nat) (b0_0 : Nat → BitVec 8) (b0_1 : Int) (b0_2 : Int) (b0_3 : Int) (b0_4 : Int) (a1 : Int) (x4 : Int) (x5 : Nat → BitVec 8) (x23 : Int) : Option (List UInt8 × (Nat → BitVec 8) × Int × Int × Int × Int) := iterL (F202_L19 N b0_0 b0_1 b0_2 b0_3 b0_4 a1 x4 x5) N (true, x23)
def F202_15 (N : Nat) (b0_0 : Nat → BitVec 8) (b0_1 : Int) (b0_2 : Int) (b0_3 : Int) (b0_4 : Int) (a1 : Int) (x4 : Int) (x5 : Nat → BitVec 8) (x20 : Bool) : Option (List UInt8 × (Nat → BitVec 8) × Int × Int × Int × Int) := bif x20 then F202_18 N b0_0 b0_1 b0_2 b0_3 b0_4 a1 x4 x5 (w64 (a1 + 1)) else F202_6 N b0_0 b0_1 b0_2 b0_3 b0_4 a1 x4 x5 false
def F202_5 (N : Nat) (b0_0 : Nat → BitVec 8) (b0_1 : Int) (b0_2 : Int) (b0_3 : Int) (b0_4 : Int) (a1 : Int) (x4 : Int) (x5 : Nat → BitVec 8) : Option (List UInt8 × (Nat → BitVec 8) × Int × Int × Int × Int) := F202_15 N b0_0 b0_1 b0_2 b0_3 b0_4 a1 x4 x5 (decide (a1 < b0_1))
def F202_4 (N : Nat) (b0_0 : Nat → BitVec 8) (b0_1 : Int) (b0_2 : Int) (b0_3 : Int) (b0_4 : Int) (a1 : Int) (x3 : Nat → BitVec 8) (x4 : Int) : Option (List UInt8 × (Nat → BitVec 8) × Int × Int × Int × Int) := bif (decide (0 ≤ (1 : Int)) && (decide ((1 : Int) ≤ (1442 : Int)) && decide ((1442 : Int) ≤ (1442 : Int)))) then bif decide ((1 : Int) < (1442 : Int)) then bif (decide (0 ≤ (0 : Int)) && (decide ((0 : Int) ≤ (x4 : Int)) && decide ((x4 : Int) ≤ (1441 : Int)))) then bif decide (1 + (1442 - 1) ≤ 1442) then bif decide ((((x4 : Int).toNat)) ≤ 1441) then F202_5 N b0_0 b0_1 b0_2 b0_3 b0_4 a1 x4 (cpyA x3 1 (Nat.min (((x4 : Int).toNat)) (1442 - 1)) b0_0) else none else none else none else none else none
def F202_3 (N : Nat) (b0_0 : Nat → BitVec 8) (b0_1 : Int) (b0_2 : Int) (b0_3 : Int) (b0_4 : Int) (a1 : Int) (x3 : Nat → BitVec 8) : Option (List UInt8 × (Nat → BitVec 8) × Int × Int × Int × Int) := F202_4 N b0_0 b0_1 b0_2 b0_3 b0_4 a1 x3 (min a1 b0_1)
def F202_2 (N : Nat) (b0_0 : Nat → BitVec 8) (b0_1 : Int) (b0_2 : Int) (b0_3 : Int) (b0_4 : Int) (a1 : Int) (x2 : Nat → BitVec 8) : Option (List UInt8 × (Nat → BitVec 8) × Int × Int × Int × Int) := F202_3 N b0_0 b0_1 b0_2 b0_3 b0_4 a1 (upd x2 0 (48#8))
def F202_1 (N : Nat) (b0_0 : Nat → BitVec 8) (b0_1 : Int) (b0_2 : Int) (b0_3 : Int) (b0_4 : Int) (a1 : Int) (x1 : Bool) : Option (List UInt8 × (Nat → BitVec 8) × Int × Int × Int × Int) := bif x1 then some ((([48] : List UInt8), b0_0, b0_1, b0_2, b0_3, b0_4)) else F202_2 N b0_0 b0_1 b0_2 b0_3 b0_4 a1 (fun _ => 0#8)
def F202 (N : Nat) (b0_0 : Nat → BitVec 8) (b0_1 : Int) (b0_2 : Int) (b0_3 : Int) (b0_4 : Int) (a1 : Int) : Option (List UInt8 × (Nat → BitVec 8) × Int × Int × Int × Int) := F202_1 N b0_0 b0_1 b0_2 b0_3 b0_4 a1 (decide (a1 < 0))
theorem C202 (N : Nat) (b0_0 : Nat → BitVec 8) (b0_1 : Int) (b0_2 : Int) (b0_3 : Int) (b0_4 : Int) (a1 : Int) (r : List UInt8 × (Nat → BitVec 8) × Int × Int × Int × Int) (hr : some r = F202 N b0_0 b0_1 b0_2 b0_3 b0_4 a1) : FnB Hfaa.prog 202 [.inr (.inl (0, 0)), .inl (is (I64 a1))] [(0, pb 215 (ar U8 1441 b0_0 ++ (is (I64 b0_1) :: (is (I64 b0_2) :: (is (I64 b0_3) :: (is (I64 b0_4) :: []))))))] (is (Sv r.1)) [(0, pb 215 (ar U8 1441 r.2.1 ++ (is (I64 r.2.2.1) :: (is (I64 r.2.2.2.1) :: (is (I64 r.2.2.2.2.1) :: (is (I64 r.2.2.2.2.2) :: []))))))] := by
  refine fnB_intro Hfaa.func202 rfl rfl rfl rfl rfl ⟨hf_pb _ _, trivial⟩ ?_
  intro bn0 w0 H0
  refine AW_seq1 ?_
  refine AW_region ?_
  refine AL_cons (LR_assign (at_c (v' := Sv ([] : List UInt8)) rfl) rfl) (sS sT0 sB0 sF0) ?_
  refine AL_nil ?_
  refine thenN ?_
  refine AW_seq1 ?_
  refine AW_cut (σ := Bool) (fun v => ⟨[(0, .inr (.inl (0, 0))), (1, .inl (is (I64 a1))), (14, .inl (is (Bl v)))], [(0, pb 215 (ar U8 1441 b0_0 ++ (is (I64 b0_1) :: (is (I64 b0_2) :: (is (I64 b0_3) :: (is (I64 b0_4) :: []))))))]⟩) (fun v => some r = F202_1 N b0_0 b0_1 b0_2 b0_3 b0_4 a1 v) ?_ ?_
  · skip
    refine AW_region ?_
    refine AL_cons (LR_move (at_tmp 1 _) rfl) (sS (sT1 rfl) sB0 sF0) ?_
    refine AL_cons (LR_bin (at_tmp 13 _) (at_c (v' := I64 0) rfl) (lss_I64 a1 0) rfl) (sS (sA (sT1 rfl) sT0) sB0 sF0) ?_
    refine AL_nil ?_
    exact thenN (cutLeaf (v := decide (a1 < 0)) hr (weakB ((sT rfl (sT rfl (sT rfl sT0)))) (sub_keep sub_nil) rfl))
  · rintro x1 hr
    show AW Hfaa.prog _ _ _ ⟨[(0, .inr (.inl (0, 0))), (1, .inl (is (I64 a1))), (14, .inl (is (Bl x1)))], [(0, pb 215 (ar U8 1441 b0_0 ++ (is (I64 b0_1) :: (is (I64 b0_2) :: (is (I64 b0_3) :: (is (I64 b0_4) :: []))))))]⟩
    have hr : some r = F202_1 N b0_0 b0_1 b0_2 b0_3 b0_4 a1 x1 := hr
    refine AW_condT (b := x1) rfl (fun h => ?_) (fun h => ?_)
    · have hr := hr.trans (cond_t h)
      clear h
      refine AW_seq1 ?_
      refine AW_region ?_
      refine AL_cons (LR_assign (at_c (v' := Sv ([48] : List UInt8)) rfl) rfl) (sS sT0 sB0 sF0) ?_
      refine AL_nil ?_
      refine thenN ?_
      refine AW_ret ?_
      refine thenR ?_
      obtain rfl := Option.some.inj hr
      exact ⟨res1 rfl (rvT rfl), (sub_keep sub_nil)⟩
    · have hr := hr.trans (cond_f h)
      clear h
      refine AW_skip ?_
      refine thenN ?_
      refine AW_cut (σ := (Nat → BitVec 8)) (fun v => ⟨[(0, .inr (.inl (0, 0))), (1, .inl (is (I64 a1))), (5, .inr (.inl (5, 0)))], [(0, pb 215 (ar U8 1441 b0_0 ++ (is (I64 b0_1) :: (is (I64 b0_2) :: (is (I64 b0_3) :: (is (I64 b0_4) :: [])))))), (5, pb 290 (ar U8 1442 v ++ []))]⟩) (fun v => some r = F202_2 N b0_0 b0_1 b0_2 b0_3 b0_4 a1 v) ?_ ?_
      · skip
        refine AW_region ?_
        refine AL_cons (zl290 rfl) (sS sT0 sB0 (sF1 rfl)) ?_
        refine AL_nil ?_
        exact thenN (cutLeaf (v := fun _ => 0#8) hr (weakB ((sT rfl (sT rfl (sT rfl sT0)))) (sub_keep (sub_keep sub_nil)) rfl))
      · rintro x2 hr
        show AW Hfaa.prog _ _ _ ⟨[(0, .inr (.inl (0, 0))), (1, .inl (is (I64 a1))), (5, .inr (.inl (5, 0)))], [(0, pb 215 (ar U8 1441 b0_0 ++ (is (I64 b0_1) :: (is (I64 b0_2) :: (is (I64 b0_3) :: (is (I64 b0_4) :: [])))))), (5, pb 290 (ar U8 1442 x2 ++ []))]⟩
        have hr : some r = F202_2 N b0_0 b0_1 b0_2 b0_3 b0_4 a1 x2 := hr
        refine AW_cut (σ := (Nat → BitVec 8)) (fun v => ⟨[(0, .inr (.inl (0, 0))), (1, .inl (is (I64 a1))), (5, .inr (.inl (5, 0)))], [(0, pb 215 (ar U8 1441 b0_0 ++ (is (I64 b0_1) :: (is (I64 b0_2) :: (is (I64 b0_3) :: (is (I64 b0_4) :: [])))))), (5, pb 290 (ar U8 1442 v ++ []))]⟩) (fun v => some r = F202_3 N b0_0 b0_1 b0_2 b0_3 b0_4 a1 v) ?_ ?_
        · skip
          refine AW_region ?_
          refine AL_cons (LR_indexAddr (o := 0) Hfaa.underlying290 sz5 (at_tmp 5 _) (at_c (v' := I64 0) rfl) (by decide) (by first | rfl | omega) rfl) (sS (sA (sT1 rfl) sT0) sB0 sF0) ?_
          refine AL_cons (LR_storeA (at_tmp 15 _) (at_c (v' := U8 (48#8)) rfl) (cells_one (one_is rfl)) (onC (one_is rfl) onN) sz5 rfl (bleLen (lnA ln0) rfl) (stA (i := 0) (by decide))) (sS (sA (sT1 rfl) sT0) (sB1 rfl) sF0) ?_
          refine AL_nil ?_
          exact thenN (cutLeaf (v := upd x2 0 (48#8)) hr (weakB ((sT rfl (sT rfl (sT rfl sT0)))) (sub_keep (sub_keep sub_nil)) rfl))
        · rintro x3 hr
          show AW Hfaa.prog _ _ _ ⟨[(0, .inr (.inl (0, 0))), (1, .inl (is (I64 a1))), (5, .inr (.inl (5, 0)))], [(0, pb 215 (ar U8 1441 b0_0 ++ (is (I64 b0_1) :: (is (I64 b0_2) :: (is (I64 b0_3) :: (is (I64 b0_4) :: [])))))), (5, pb 290 (ar U8 1442 x3 ++ []))]⟩
          have hr : some r = F202_3 N b0_0 b0_1 b0_2 b0_3 b0_4 a1 x3 := hr
          refine AW_cut (σ := Int) (fun v => ⟨[(0, .inr (.inl (0, 0))), (1, .inl (is (I64 a1))), (5, .inr (.inl (5, 0))), (6, .inl (is (I64 v)))], [(0, pb 215 (ar U8 1441 b0_0 ++ (is (I64 b0_1) :: (is (I64 b0_2) :: (is (I64 b0_3) :: (is (I64 b0_4) :: [])))))), (5, pb 290 (ar U8 1442 x3 ++ []))]⟩) (fun v => some r = F202_4 N b0_0 b0_1 b0_2 b0_3 b0_4 a1 x3 v) ?_ ?_
          · skip
            refine AW_region ?_
            refine AL_cons (LR_move (at_tmp 1 _) rfl) (sS (sT1 rfl) sB0 sF0) ?_
            refine AL_cons (LR_move (at_tmp 0 _) rfl) (sS (sT1 rfl) sB0 sF0) ?_
            refine AL_cons (LR_nilCheck (at_tmp 17 _) rfl) (sS (sT1 rfl) sB0 sF0) ?_
            refine AL_cons (LR_fieldAddr (off := 0) (o := 1441) (at_tmp 18 _) (fun b w => fa215_1 b 0 w) rfl) (sS (sT1 rfl) sB0 sF0) ?_
            refine AL_cons (LR_load (at_tmp 19 _) na3 (gP g0) rfl) (sS (sT1 rfl) (sB1 rfl) sF0) ?_
            refine AL_cons (LR_bi2 (vx := I64 a1) (vy := I64 b0_1) (v := I64 (min a1 b0_1)) (at_tmp 16 _) (at_tmp 20 _) (fun cs w => min_I .i64 a1 b0_1 cs w) rfl) (sS (sA (sT1 rfl) (sT1 rfl)) sB0 sF0) ?_
            refine AL_cons (LR_assign (at_tmp 21 _) rfl) (sS (sT1 rfl) sB0 sF0) ?_
            refine AL_nil ?_
            exact thenN (cutLeaf (v := min a1 b0_1) hr (weakB ((sT rfl (sT rfl (sT rfl (sT rfl sT0))))) (sub_keep (sub_keep sub_nil)) rfl))
          · rintro x4 hr
            show AW Hfaa.prog _ _ _ ⟨[(0, .inr (.inl (0, 0))), (1, .inl (is (I64 a1))), (5, .inr (.inl (5, 0))), (6, .inl (is (I64 x4)))], [(0, pb 215 (ar U8 1441 b0_0 ++ (is (I64 b0_1) :: (is (I64 b0_2) :: (is (I64 b0_3) :: (is (I64 b0_4) :: [])))))), (5, pb 290 (ar U8 1442 x3 ++ []))]⟩
            have hr : some r = F202_4 N b0_0 b0_1 b0_2 b0_3 b0_4 a1 x3 x4 := hr
            refine AW_cut (σ := (Nat → BitVec 8)) (fun v => ⟨[(0, .inr (.inl (0, 0))), (1, .inl (is (I64 a1))), (5, .inr (.inl (5, 0))), (6, .inl (is (I64 x4)))], [(0, pb 215 (ar U8 1441 b0_0 ++ (is (I64 b0_1) :: (is (I64 b0_2) :: (is (I64 b0_3) :: (is (I64 b0_4) :: [])))))), (5, pb 290 (ar U8 1442 v ++ []))]⟩) (fun v => some r = F202_5 N b0_0 b0_1 b0_2 b0_3 b0_4 a1 x4 v) ?_ ?_
            · skip
              obtain ⟨hg144, hr⟩ := guard_some hr
              obtain ⟨hg145, hr⟩ := guard_some hr
              obtain ⟨hg146, hr⟩ := guard_some hr
              obtain ⟨hg147, hr⟩ := guard_some hr
              obtain ⟨hg148, hr⟩ := guard_some hr
              refine AW_draw mixed
                (lrC (slcE (o' := 1) (l' := 1442 - 1) (c' := 1442 - 1) (LR_sliceA (i := (1 : Int)) (j := (1442 : Int)) Hfaa.underlying290 sz5 (at_tmp 5 _) (lo_some (at_c (v' := I64 1) rfl)) hi_none (dand3 hg144) (of_decide_eq_true hg145) rfl) (by first | rfl | (simp; done) | (simp <;> omega)))
                (lrC (LR_move (at_tmp 0 _) rfl)
                (lrC (LR_nilCheck (at_tmp 23 _) rfl)
                (lrC (LR_fieldAddr (off := 0) (o := 0) (at_tmp 24 _) (fun b w => fa215_0 b 0 w) rfl)
                (lrC (LR_move (at_tmp 6 _) rfl)
                (lrC (slcE (o' := 0) (l' := ((x4 : Int).toNat)) (c' := 1441) (LR_sliceA (i := (0 : Int)) (j := (x4 : Int)) Hfaa.underlying213 sz5 (at_tmp 25 _) lo_none (hi_some (at_tmp 26 _)) (dand3 hg146) (by decide) rfl) (by first | rfl | (simp; done) | (simp <;> omega)))
                (lrC (LR_copyBB Hfaa.underlying227 sz5 (fun _ => rfl) (at_tmp 22 _) (at_tmp 27 _) (of_decide_eq_true hg147) (of_decide_eq_true hg148) rfl)
                lrN)))))))
                (by kernel_rfl)
                (saC (sS (sA (sT1 rfl) (sA sT0 sT0)) sB0 sF0) (saC (sS (sT1 rfl) sB0 sF0) (saC (sS (sT1 rfl) sB0 sF0) (saC (sS (sT1 rfl) sB0 sF0) (saC (sS (sT1 rfl) sB0 sF0) (saC (sS (sA (sT1 rfl) (sA sT0 (sT1 rfl))) sB0 sF0) (saC (sS (sA (sT1 rfl) (sT1 rfl)) (sB2 rfl rfl) sF0) saN))))))) ?_
              exact thenN (cutLeaf (v := cpyA x3 1 (Nat.min (((x4 : Int).toNat)) (1442 - 1)) b0_0) hr (weakB ((sT rfl (sT rfl (sT rfl (sT rfl sT0))))) (sub_keep (sub_keep sub_nil)) rfl))
            · rintro x5 hr
              show AW Hfaa.prog _ _ _ ⟨[(0, .inr (.inl (0, 0))), (1, .inl (is (I64 a1))), (5, .inr (.inl (5, 0))), (6, .inl (is (I64 x4)))], [(0, pb 215 (ar U8 1441 b0_0 ++ (is (I64 b0_1) :: (is (I64 b0_2) :: (is (I64 b0_3) :: (is (I64 b0_4) :: [])))))), (5, pb 290 (ar U8 1442 x5 ++ []))]⟩
              have hr : some r = F202_5 N b0_0 b0_1 b0_2 b0_3 b0_4 a1 x4 x5 := hr
              refine AW_seq1 ?_
              refine AW_region ?_
              refine AL_cons (LR_assign (at_c (v' := Bl false) rfl) rfl) (sS sT0 sB0 sF0) ?_
              refine AL_nil ?_
              refine thenN ?_
              refine AW_cut (σ := Bool) (fun v => ⟨[(0, .inr (.inl (0, 0))), (1, .inl (is (I64 a1))), (5, .inr (.inl (5, 0))), (6, .inl (is (I64 x4))), (7, .inl (is (Bl v)))], [(0, pb 215 (ar U8 1441 b0_0 ++ (is (I64 b0_1) :: (is (I64 b0_2) :: (is (I64 b0_3) :: (is (I64 b0_4) :: [])))))), (5, pb 290 (ar U8 1442 x5 ++ []))]⟩) (fun v => some r = F202_6 N b0_0 b0_1 b0_2 b0_3 b0_4 a1 x4 x5 v) ?_ ?_
              · skip
                refine AW_cut (σ := Bool) (fun v => ⟨[(0, .inr (.inl (0, 0))), (1, .inl (is (I64 a1))), (5, .inr (.inl (5, 0))), (6, .inl (is (I64 x4))), (7, .inl (is (Bl false))), (34, .inl (is (Bl v)))], [(0, pb 215 (ar U8 1441 b0_0 ++ (is (I64 b0_1) :: (is (I64 b0_2) :: (is (I64 b0_3) :: (is (I64 b0_4) :: [])))))), (5, pb 290 (ar U8 1442 x5 ++ []))]⟩) (fun v => some r = F202_15 N b0_0 b0_1 b0_2 b0_3 b0_4 a1 x4 x5 v) ?_ ?_
                · skip
                  refine AW_region ?_
                  refine AL_cons (LR_move (at_tmp 1 _) rfl) (sS (sT1 rfl) sB0 sF0) ?_
                  refine AL_cons (LR_move (at_tmp 0 _) rfl) (sS (sT1 rfl) sB0 sF0) ?_
                  refine AL_cons (LR_nilCheck (at_tmp 30 _) rfl) (sS (sT1 rfl) sB0 sF0) ?_
                  refine AL_cons (LR_fieldAddr (off := 0) (o := 1441) (at_tmp 31 _) (fun b w => fa215_1 b 0 w) rfl) (sS (sT1 rfl) sB0 sF0) ?_
                  refine AL_cons (LR_load (at_tmp 32 _) na3 (gP g0) rfl) (sS (sT1 rfl) (sB1 rfl) sF0) ?_
                  refine AL_cons (LR_bin (at_tmp 29 _) (at_tmp 33 _) (lss_I64 a1 b0_1) rfl) (sS (sA (sT1 rfl) (sT1 rfl)) sB0 sF0) ?_
                  refine AL_nil ?_
                  exact thenN (cutLeaf (v := decide (a1 < b0_1)) hr (weakB ((sT rfl (sT rfl (sT rfl (sT rfl (sT rfl (sT rfl sT0))))))) (sub_keep (sub_keep sub_nil)) rfl))
                · rintro x20 hr
                  show AW Hfaa.prog _ _ _ ⟨[(0, .inr (.inl (0, 0))), (1, .inl (is (I64 a1))), (5, .inr (.inl (5, 0))), (6, .inl (is (I64 x4))), (7, .inl (is (Bl false))), (34, .inl (is (Bl x20)))], [(0, pb 215 (ar U8 1441 b0_0 ++ (is (I64 b0_1) :: (is (I64 b0_2) :: (is (I64 b0_3) :: (is (I64 b0_4) :: [])))))), (5, pb 290 (ar U8 1442 x5 ++ []))]⟩
                  have hr : some r = F202_15 N b0_0 b0_1 b0_2 b0_3 b0_4 a1 x4 x5 x20 := hr
                  refine AW_condT (b := x20) rfl (fun h => ?_) (fun h => ?_)
                  · have hr := hr.trans (cond_t h)
                    clear h
                    refine AW_seq1 ?_
                    refine AW_region ?_
                    refine AL_cons (LR_assign (at_c (v' := Bl true) rfl) rfl) (sS sT0 sB0 sF0) ?_
                    refine AL_nil ?_
                    refine thenN ?_
                    refine AW_cut (σ := Bool) (fun v => ⟨[(0, .inr (.inl (0, 0))), (1, .inl (is (I64 a1))), (5, .inr (.inl (5, 0))), (6, .inl (is (I64 x4))), (8, .inl (is (Bl v)))], [(0, pb 215 (ar U8 1441 b0_0 ++ (is (I64 b0_1) :: (is (I64 b0_2) :: (is (I64 b0_3) :: (is (I64 b0_4) :: [])))))), (5, pb 290 (ar U8 1442 x5 ++ []))]⟩) (fun v => some r = F202_16 N b0_0 b0_1 b0_2 b0_3 b0_4 a1 x4 x5 v) ?_ ?_
                    · skip
                      refine AW_cut (σ := Int) (fun v => ⟨[(0, .inr (.inl (0, 0))), (1, .inl (is (I64 a1))), (5, .inr (.inl (5, 0))), (6, .inl (is (I64 x4))), (8, .inl (is (Bl true))), (9, .inl (is (I64 v)))], [(0, pb 215 (ar U8 1441 b0_0 ++ (is (I64 b0_1) :: (is (I64 b0_2) :: (is (I64 b0_3) :: (is (I64 b0_4) :: [])))))), (5, pb 290 (ar U8 1442 x5 ++ []))]⟩) (fun v => some r = F202_18 N b0_0 b0_1 b0_2 b0_3 b0_4 a1 x4 x5 v) ?_ ?_
                      · skip
                        refine AW_region ?_
                        refine AL_cons (LR_move (at_tmp 1 _) rfl) (sS (sT1 rfl) sB0 sF0) ?_
                        refine AL_cons (LR_bin (at_tmp 35 _) (at_c (v' := I64 1) rfl) (add_I64 a1 1) rfl) (sS (sA (sT1 rfl) sT0) sB0 sF0) ?_
                        refine AL_cons (LR_assign (at_tmp 36 _) rfl) (sS (sT1 rfl) sB0 sF0) ?_
                        refine AL_nil ?_
                        exact thenN (cutLeaf (v := w64 (a1 + 1)) hr (weakB ((sT rfl (sT rfl (sT rfl (sT rfl (sT rfl (sT rfl sT0))))))) (sub_keep (sub_keep sub_nil)) rfl))
                      · rintro x23 hr
                        show AW Hfaa.prog _ _ _ ⟨[(0, .inr (.inl (0, 0))), (1, .inl (is (I64 a1))), (5, .inr (.inl (5, 0))), (6, .inl (is (I64 x4))), (8, .inl (is (Bl true))), (9, .inl (is (I64 x23)))], [(0, pb 215 (ar U8 1441 b0_0 ++ (is (I64 b0_1) :: (is (I64 b0_2) :: (is (I64 b0_3) :: (is (I64 b0_4) :: [])))))), (5, pb 290 (ar U8 1442 x5 ++ []))]⟩
                        have hr : some r = F202_18 N b0_0 b0_1 b0_2 b0_3 b0_4 a1 x4 x5 x23 := hr
                        refine AW_block ?_
                        refine AW_iterR (σ := Bool × Int) (r := r) (x0 := (true, x23)) (emb := fun v => ⟨[(0, .inr (.inl (0, 0))), (1, .inl (is (I64 a1))), (5, .inr (.inl (5, 0))), (6, .inl (is (I64 x4))), (8, .inl (is (Bl v.1))), (9, .inl (is (I64 v.2)))], [(0, pb 215 (ar U8 1441 b0_0 ++ (is (I64 b0_1) :: (is (I64 b0_2) :: (is (I64 b0_3) :: (is (I64 b0_4) :: [])))))), (5, pb 290 (ar U8 1442 x5 ++ []))]⟩) ?_ hr ?_
                        · exact weakB ((sT rfl (sT rfl (sT rfl (sT rfl (sT rfl (sT rfl sT0))))))) (sub_keep (sub_keep sub_nil)) rfl
                        rintro ⟨x24, x25⟩ out6 hr
                        show AW Hfaa.prog _ _ _ ⟨[(0, .inr (.inl (0, 0))), (1, .inl (is (I64 a1))), (5, .inr (.inl (5, 0))), (6, .inl (is (I64 x4))), (8, .inl (is (Bl x24))), (9, .inl (is (I64 x25)))], [(0, pb 215 (ar U8 1441 b0_0 ++ (is (I64 b0_1) :: (is (I64 b0_2) :: (is (I64 b0_3) :: (is (I64 b0_4) :: [])))))), (5, pb 290 (ar U8 1442 x5 ++ []))]⟩
                        have hr : some out6 = F202_L19b N b0_0 b0_1 b0_2 b0_3 b0_4 a1 x4 x5 x24 x25 := hr
                        refine AW_seq1 ?_
                        refine AW_cut (σ := Bool) (fun v => ⟨[(0, .inr (.inl (0, 0))), (1, .inl (is (I64 a1))), (5, .inr (.inl (5, 0))), (6, .inl (is (I64 x4))), (8, .inl (is (Bl x24))), (9, .inl (is (I64 x25))), (42, .inl (is (Bl v)))], [(0, pb 215 (ar U8 1441 b0_0 ++ (is (I64 b0_1) :: (is (I64 b0_2) :: (is (I64 b0_3) :: (is (I64 b0_4) :: [])))))), (5, pb 290 (ar U8 1442 x5 ++ []))]⟩) (fun v => some out6 = F202_20 N b0_0 b0_1 b0_2 b0_3 b0_4 a1 x4 x5 x24 x25 v) ?_ ?_
                        · skip
                          refine AW_region ?_
                          refine AL_cons (LR_move (at_tmp 9 _) rfl) (sS (sT1 rfl) sB0 sF0) ?_
                          refine AL_cons (LR_move (at_tmp 0 _) rfl) (sS (sT1 rfl) sB0 sF0) ?_
                          refine AL_cons (LR_nilCheck (at_tmp 38 _) rfl) (sS (sT1 rfl) sB0 sF0) ?_
                          refine AL_cons (LR_fieldAddr (off := 0) (o := 1441) (at_tmp 39 _) (fun b w => fa215_1 b 0 w) rfl) (sS (sT1 rfl) sB0 sF0) ?_
                          refine AL_cons (LR_load (at_tmp 40 _) na3 (gP g0) rfl) (sS (sT1 rfl) (sB1 rfl) sF0) ?_
                          refine AL_cons (LR_bin (at_tmp 37 _) (at_tmp 41 _) (lss_I64 x25 b0_1) rfl) (sS (sA (sT1 rfl) (sT1 rfl)) sB0 sF0) ?_
                          refine AL_nil ?_
                          exact thenN (cutLeaf (v := decide (x25 < b0_1)) hr (weakB ((sT rfl (sT rfl (sT rfl (sT rfl (sT rfl (sT rfl (sT rfl sT0)))))))) (sub_keep (sub_keep sub_nil)) rfl))
                        · rintro x26 hr
                          show AW Hfaa.prog _ _ _ ⟨[(0, .inr (.inl (0, 0))), (1, .inl (is (I64 a1))), (5, .inr (.inl (5, 0))), (6, .inl (is (I64 x4))), (8, .inl (is (Bl x24))), (9, .inl (is (I64 x25))), (42, .inl (is (Bl x26)))], [(0, pb 215 (ar U8 1441 b0_0 ++ (is (I64 b0_1) :: (is (I64 b0_2) :: (is (I64 b0_3) :: (is (I64 b0_4) :: [])))))), (5, pb 290 (ar U8 1442 x5 ++ []))]⟩
                          have hr : some out6 = F202_20 N b0_0 b0_1 b0_2 b0_3 b0_4 a1 x4 x5 x24 x25 x26 := hr
                          refine AW_condT (b := x26) rfl (fun h => ?_) (fun h => ?_)
                          · have hr := hr.trans (cond_t h)
                            clear h
                            refine AW_skip ?_
                            refine thenN ?_
                            refine AW_cut (σ := Bool) (fun v => ⟨[(0, .inr (.inl (0, 0))), (1, .inl (is (I64 a1))), (5, .inr (.inl (5, 0))), (6, .inl (is (I64 x4))), (8, .inl (is (Bl v))), (9, .inl (is (I64 x25)))], [(0, pb 215 (ar U8 1441 b0_0 ++ (is (I64 b0_1) :: (is (I64 b0_2) :: (is (I64 b0_3) :: (is (I64 b0_4) :: [])))))), (5, pb 290 (ar U8 1442 x5 ++ []))]⟩) (fun v => some out6 = F202_21 N b0_0 b0_1 b0_2 b0_3 b0_4 a1 x4 x5 x25 v) ?_ ?_
                            · skip
                              refine AW_block ?_
                              refine AW_region ?_
                              refine AL_cons (LR_move (at_tmp 8 _) rfl) (sS (sT1 rfl) sB0 sF0) ?_
                              refine AL_cons (LR_move (at_tmp 45 _) rfl) (sS (sT1 rfl) sB0 sF0) ?_
                              cases hb : x24
                              · have hr := hr.trans (cond_f hb)
                                refine AL_cons (LR_off (b := false) rfl rfl rfl rfl) (sS (sT1 rfl) sB0 sF0) ?_
                                refine AL_cons (LR_off (b := false) rfl rfl rfl rfl) (sS (sT1 rfl) sB0 sF0) ?_
                                refine AL_cons (LR_off (b := false) rfl rfl rfl rfl) (sS (sT1 rfl) sB0 sF0) ?_
                                refine AL_cons (LR_off (b := false) rfl rfl rfl rfl) (sS (sT1 rfl) sB0 sF0) ?_
                                refine AL_cons (LR_off (b := false) rfl rfl rfl rfl) (sS (sT1 rfl) sB0 sF0) ?_
                                refine AL_cons (LR_off (b := false) rfl rfl rfl rfl) (sS (sT1 rfl) sB0 sF0) ?_
                                refine AL_cons (LR_off (b := false) rfl rfl rfl rfl) (sS (sT1 rfl) sB0 sF0) ?_
                                refine AL_cons (LR_pick (b := false) (at_tmp 46 _) (at_tmp 53 _) (at_c (v' := Bl false) rfl) rfl) (sS (sA (sT1 rfl) (sA (sT1 rfl) sT0)) sB0 sF0) ?_
                                refine AL_cons (LR_assign (at_tmp 54 _) rfl) (sS (sT1 rfl) sB0 sF0) ?_
                                refine AL_nil ?_
                                refine blN ?_
                                exact thenN (cutLeaf (v := false) hr (weakB ((sT rfl (sT rfl (sT rfl (sT rfl (sT rfl (sT rfl sT0))))))) (sub_keep (sub_keep sub_nil)) rfl))
                              · have hr := hr.trans (cond_t hb)
                                refine AL_cons (LR_on rfl rfl rfl (LR_move (at_tmp 0 _) rfl)) (sS (sT rfl (sT1 rfl)) sB0 sF0) ?_
                                refine AL_cons (LR_on rfl rfl rfl (LR_move (at_tmp 9 _) rfl)) (sS (sT rfl (sT1 rfl)) sB0 sF0) ?_
                                refine AL_cons (LR_on rfl rfl rfl (LR_nilCheck (at_tmp 47 _) rfl)) (sS (sT rfl (sT1 rfl)) sB0 sF0) ?_
                                refine AL_cons (LR_on rfl rfl rfl (LR_fieldAddr (off := 0) (o := 0) (at_tmp 49 _) (fun b w => fa215_0 b 0 w) rfl)) (sS (sT rfl (sT1 rfl)) sB0 sF0) ?_
                                obtain ⟨hg143, hr⟩ := guard_some hr
                                refine AL_cons (LR_on rfl rfl rfl (LR_indexAddr (o := x25.toNat) Hfaa.underlying213 sz5 (at_tmp 50 _) (at_tmp 48 _) (dand hg143) (by first | rfl | omega) rfl)) (sS (sT rfl (sA (sT1 rfl) (sT1 rfl))) sB0 sF0) ?_
                                refine AL_cons (LR_on rfl rfl rfl (LR_load (at_tmp 51 _) na5 (gA (ltn (dand hg143))) rfl)) (sS (sT rfl (sT1 rfl)) (sB1 rfl) sF0) ?_
                                refine AL_cons (LR_on rfl rfl rfl (LR_bin (at_tmp 52 _) (at_c (v' := U8 (48#8)) rfl) (eql_U8 (b0_0 x25.toNat) (48#8)) rfl)) (sS (sT rfl (sA (sT1 rfl) sT0)) sB0 sF0) ?_
                                refine AL_cons (LR_pick (b := true) (at_tmp 46 _) (at_tmp 53 _) (at_c (v' := Bl false) rfl) rfl) (sS (sA (sT1 rfl) (sA (sT1 rfl) sT0)) sB0 sF0) ?_
                                refine AL_cons (LR_assign (at_tmp 54 _) rfl) (sS (sT1 rfl) sB0 sF0) ?_
                                refine AL_nil ?_
                                refine blN ?_
                                exact thenN (cutLeaf (v := (b0_0 x25.toNat) == (48#8)) hr (weakB ((sT rfl (sT rfl (sT rfl (sT rfl (sT rfl (sT rfl sT0))))))) (sub_keep (sub_keep sub_nil)) rfl))
                            · rintro x27 hr
                              show AW Hfaa.prog _ _ _ ⟨[(0, .inr (.inl (0, 0))), (1, .inl (is (I64 a1))), (5, .inr (.inl (5, 0))), (6, .inl (is (I64 x4))), (8, .inl (is (Bl x27))), (9, .inl (is (I64 x25)))], [(0, pb 215 (ar U8 1441 b0_0 ++ (is (I64 b0_1) :: (is (I64 b0_2) :: (is (I64 b0_3) :: (is (I64 b0_4) :: [])))))), (5, pb 290 (ar U8 1442 x5 ++ []))]⟩
                              have hr : some out6 = F202_21 N b0_0 b0_1 b0_2 b0_3 b0_4 a1 x4 x5 x25 x27 := hr
                              refine AW_region ?_
                              refine AL_cons (LR_move (at_tmp 9 _) rfl) (sS (sT1 rfl) sB0 sF0) ?_
                              refine AL_cons (LR_bin (at_tmp 43 _) (at_c (v' := I64 1) rfl) (add_I64 x25 1) rfl) (sS (sA (sT1 rfl) sT0) sB0 sF0) ?_
                              refine AL_cons (LR_assign (at_tmp 44 _) rfl) (sS (sT1 rfl) sB0 sF0) ?_
                              refine AL_nil ?_
                              exact thenN (loopNext (x' := (x27, w64 (x25 + 1))) hr (weakB ((sT rfl (sT rfl (sT rfl (sT rfl (sT rfl (sT rfl sT0))))))) (sub_keep (sub_keep sub_nil)) rfl))
                          · have hr := hr.trans (cond_f h)
                            clear h
                            refine AW_exit ?_
                            refine thenX ?_
                            obtain ⟨r', hro, hr⟩ := map_inr hr
                            refine thenX (loopOut hro (fun he => ?_))
                            rw [he] at hr
                            refine blH ?_
                            exact thenN (cutLeaf (v := x24) hr (weakB ((sT rfl (sT rfl (sT rfl (sT rfl (sT rfl sT0)))))) (sub_keep (sub_keep sub_nil)) rfl))
                    · rintro x21 hr
                      show AW Hfaa.prog _ _ _ ⟨[(0, .inr (.inl (0, 0))), (1, .inl (is (I64 a1))), (5, .inr (.inl (5, 0))), (6, .inl (is (I64 x4))), (8, .inl (is (Bl x21)))], [(0, pb 215 (ar U8 1441 b0_0 ++ (is (I64 b0_1) :: (is (I64 b0_2) :: (is (I64 b0_3) :: (is (I64 b0_4) :: [])))))), (5, pb 290 (ar U8 1442 x5 ++ []))]⟩
                      have hr : some r = F202_16 N b0_0 b0_1 b0_2 b0_3 b0_4 a1 x4 x5 x21 := hr
                      refine AW_cut (σ := BitVec 8) (fun v => ⟨[(0, .inr (.inl (0, 0))), (1, .inl (is (I64 a1))), (5, .inr (.inl (5, 0))), (6, .inl (is (I64 x4))), (8, .inl (is (Bl x21))), (10, .inl (is (U8 v)))], [(0, pb 215 (ar U8 1441 b0_0 ++ (is (I64 b0_1) :: (is (I64 b0_2) :: (is (I64 b0_3) :: (is (I64 b0_4) :: [])))))), (5, pb 290 (ar U8 1442 x5 ++ []))]⟩) (fun v => some r = F202_17 N b0_0 b0_1 b0_2 b0_3 b0_4 a1 x4 x5 x21 v) ?_ ?_
                      · skip
                        refine AW_region ?_
                        refine AL_cons (LR_move (at_tmp 0 _) rfl) (sS (sT1 rfl) sB0 sF0) ?_
                        refine AL_cons (LR_move (at_tmp 1 _) rfl) (sS (sT1 rfl) sB0 sF0) ?_
                        refine AL_cons (LR_nilCheck (at_tmp 55 _) rfl) (sS (sT1 rfl) sB0 sF0) ?_
                        refine AL_cons (LR_fieldAddr (off := 0) (o := 0) (at_tmp 57 _) (fun b w => fa215_0 b 0 w) rfl) (sS (sT1 rfl) sB0 sF0) ?_
                        obtain ⟨hg135, hr⟩ := guard_some hr
                        refine AL_cons (LR_indexAddr (o := a1.toNat) Hfaa.underlying213 sz5 (at_tmp 58 _) (at_tmp 56 _) (dand hg135) (by first | rfl | omega) rfl) (sS (sA (sT1 rfl) (sT1 rfl)) sB0 sF0) ?_
                        refine AL_cons (LR_load (at_tmp 59 _) na5 (gA (ltn (dand hg135))) rfl) (sS (sT1 rfl) (sB1 rfl) sF0) ?_
                        refine AL_cons (LR_assign (at_tmp 60 _) rfl) (sS (sT1 rfl) sB0 sF0) ?_
                        refine AL_nil ?_
                        exact thenN (cutLeaf (v := b0_0 a1.toNat) hr (weakB ((sT rfl (sT rfl (sT rfl (sT rfl (sT rfl (sT rfl sT0))))))) (sub_keep (sub_keep sub_nil)) rfl))
                      · rintro x22 hr
                        show AW Hfaa.prog _ _ _ ⟨[(0, .inr (.inl (0, 0))), (1, .inl (is (I64 a1))), (5, .inr (.inl (5, 0))), (6, .inl (is (I64 x4))), (8, .inl (is (Bl x21))), (10, .inl (is (U8 x22)))], [(0, pb 215 (ar U8 1441 b0_0 ++ (is (I64 b0_1) :: (is (I64 b0_2) :: (is (I64 b0_3) :: (is (I64 b0_4) :: [])))))), (5, pb 290 (ar U8 1442 x5 ++ []))]⟩
                        have hr : some r = F202_17 N b0_0 b0_1 b0_2 b0_3 b0_4 a1 x4 x5 x21 x22 := hr
                        refine AW_region ?_
                        refine AL_cons (LR_move (at_tmp 10 _) rfl) (sS (sT1 rfl) sB0 sF0) ?_
                        refine AL_cons (LR_bin (at_tmp 61 _) (at_c (v' := U8 (53#8)) rfl) (gtr_U8 x22 (53#8)) rfl) (sS (sA (sT1 rfl) sT0) sB0 sF0) ?_
                        refine AL_cons (LR_move (at_tmp 62 _) rfl) (sS (sT1 rfl) sB0 sF0) ?_
                        cases hb : decide ((53#8).toNat < x22.toNat)
                        · have hr := hr.trans (cond_f hb)
                          refine AL_cons (LR_on rfl rfl rfl (LR_move (at_tmp 10 _) rfl)) (sS (sT rfl (sT1 rfl)) sB0 sF0) ?_
                          refine AL_cons (LR_on rfl rfl rfl (LR_bin (at_tmp 64 _) (at_c (v' := U8 (53#8)) rfl) (eql_U8 x22 (53#8)) rfl)) (sS (sT rfl (sA (sT1 rfl) sT0)) sB0 sF0) ?_
                          refine AL_cons (LR_on rfl rfl rfl (LR_move (at_tmp 65 _) rfl)) (sS (sT rfl (sT1 rfl)) sB0 sF0) ?_
                          cases hb : x22 == (53#8)
                          · have hr := hr.trans (cond_f hb)
                            refine AL_cons (LR_off (b := false) rfl rfl rfl rfl) (sS (sT1 rfl) sB0 sF0) ?_
                            refine AL_cons (LR_off (b := false) rfl rfl rfl rfl) (sS (sT1 rfl) sB0 sF0) ?_
                            refine AL_cons (LR_off (b := false) rfl rfl rfl rfl) (sS (sT1 rfl) sB0 sF0) ?_
                            refine AL_cons (LR_offU rfl rfl rfl rfl) (sS (sT1 rfl) sB0 sF0) ?_
                            refine AL_cons (LR_offU rfl rfl rfl rfl) (sS (sT1 rfl) sB0 sF0) ?_
                            refine AL_cons (LR_offU rfl rfl rfl rfl) (sS (sT1 rfl) sB0 sF0) ?_
                            refine AL_cons (LR_offU rfl rfl rfl rfl) (sS (sT1 rfl) sB0 sF0) ?_
                            refine AL_cons (LR_offU rfl rfl rfl rfl) (sS (sT1 rfl) sB0 sF0) ?_
                            refine AL_cons (LR_off (b := false) rfl rfl rfl rfl) (sS (sT1 rfl) sB0 sF0) ?_
                            refine AL_cons (LR_on rfl rfl rfl (LR_pick (b := false) (at_tmp 66 _) (at_tmp 75 _) (at_c (v' := Bl false) rfl) rfl)) (sS (sT rfl (sA (sT1 rfl) (sA (sT1 rfl) sT0))) sB0 sF0) ?_
                            refine AL_cons (LR_pick (b := false) (at_tmp 63 _) (at_c (v' := Bl true) rfl) (at_tmp 76 _) rfl) (sS (sA (sT1 rfl) (sA sT0 (sT1 rfl))) sB0 sF0) ?_
                            refine AL_cons (LR_assign (at_tmp 77 _) rfl) (sS (sT1 rfl) sB0 sF0) ?_
                            refine AL_nil ?_
                            exact thenN (cutLeaf (v := false) hr (weakB ((sT rfl (sT rfl (sT rfl (sT rfl (sT rfl sT0)))))) (sub_keep (sub_keep sub_nil)) rfl))
                          · have hr := hr.trans (cond_t hb)
                            refine AL_cons (LR_on rfl rfl rfl (LR_move (at_tmp 8 _) rfl)) (sS (sT rfl (sT1 rfl)) sB0 sF0) ?_
                            refine AL_cons (LR_on rfl rfl rfl (LR_un (at_tmp 67 _) (not_Bl x21) rfl)) (sS (sT rfl (sT1 rfl)) sB0 sF0) ?_
                            refine AL_cons (LR_on rfl rfl rfl (LR_move (at_tmp 68 _) rfl)) (sS (sT rfl (sT1 rfl)) sB0 sF0) ?_
                            cases hb : !x21
                            · have hr := hr.trans (cond_f hb)
                              refine AL_cons (LR_on rfl rfl rfl (LR_move (at_tmp 6 _) rfl)) (sS (sT rfl (sT1 rfl)) sB0 sF0) ?_
                              obtain ⟨hg134, hr⟩ := guard_some hr
                              refine AL_cons (LR_on rfl rfl rfl (LR_indexAddr (o := x4.toNat) Hfaa.underlying290 sz5 (at_tmp 5 _) (at_tmp 70 _) (dand hg134) (by first | rfl | omega) rfl)) (sS (sT rfl (sA (sT1 rfl) (sT1 rfl))) sB0 sF0) ?_
                              refine AL_cons (LR_on rfl rfl rfl (LR_load (at_tmp 71 _) na5 (gA (ltn (dand hg134))) rfl)) (sS (sT rfl (sT1 rfl)) (sB1 rfl) sF0) ?_
                              refine AL_cons (LR_on rfl rfl rfl (LR_bin (at_tmp 72 _) (at_c (v' := U8 (1#8)) rfl) (and_U8 (x5 x4.toNat) (1#8)) rfl)) (sS (sT rfl (sA (sT1 rfl) sT0)) sB0 sF0) ?_
                              refine AL_cons (LR_on rfl rfl rfl (LR_bin (at_tmp 73 _) (at_c (v' := U8 (1#8)) rfl) (eql_U8 ((x5 x4.toNat) &&& (1#8)) (1#8)) rfl)) (sS (sT rfl (sA (sT1 rfl) sT0)) sB0 sF0) ?_
                              refine AL_cons (LR_on rfl rfl rfl (LR_pick (b := false) (at_tmp 69 _) (at_c (v' := Bl true) rfl) (at_tmp 74 _) rfl)) (sS (sT rfl (sA (sT1 rfl) (sA sT0 (sT1 rfl)))) sB0 sF0) ?_
                              refine AL_cons (LR_on rfl rfl rfl (LR_pick (b := true) (at_tmp 66 _) (at_tmp 75 _) (at_c (v' := Bl false) rfl) rfl)) (sS (sT rfl (sA (sT1 rfl) (sA (sT1 rfl) sT0))) sB0 sF0) ?_
                              refine AL_cons (LR_pick (b := false) (at_tmp 63 _) (at_c (v' := Bl true) rfl) (at_tmp 76 _) rfl) (sS (sA (sT1 rfl) (sA sT0 (sT1 rfl))) sB0 sF0) ?_
                              refine AL_cons (LR_assign (at_tmp 77 _) rfl) (sS (sT1 rfl) sB0 sF0) ?_
                              refine AL_nil ?_
                              exact thenN (cutLeaf (v := ((x5 x4.toNat) &&& (1#8)) == (1#8)) hr (weakB ((sT rfl (sT rfl (sT rfl (sT rfl (sT rfl sT0)))))) (sub_keep (sub_keep sub_nil)) rfl))
                            · have hr := hr.trans (cond_t hb)
                              refine AL_cons (LR_off (b := true) rfl rfl rfl rfl) (sS (sT1 rfl) sB0 sF0) ?_
                              refine AL_cons (LR_off (b := true) rfl rfl rfl rfl) (sS (sT1 rfl) sB0 sF0) ?_
                              refine AL_cons (LR_off (b := true) rfl rfl rfl rfl) (sS (sT1 rfl) sB0 sF0) ?_
                              refine AL_cons (LR_off (b := true) rfl rfl rfl rfl) (sS (sT1 rfl) sB0 sF0) ?_
                              refine AL_cons (LR_off (b := true) rfl rfl rfl rfl) (sS (sT1 rfl) sB0 sF0) ?_
                              refine AL_cons (LR_on rfl rfl rfl (LR_pick (b := true) (at_tmp 69 _) (at_c (v' := Bl true) rfl) (at_tmp 74 _) rfl)) (sS (sT rfl (sA (sT1 rfl) (sA sT0 (sT1 rfl)))) sB0 sF0) ?_
                              refine AL_cons (LR_on rfl rfl rfl (LR_pick (b := true) (at_tmp 66 _) (at_tmp 75 _) (at_c (v' := Bl false) rfl) rfl)) (sS (sT rfl (sA (sT1 rfl) (sA (sT1 rfl) sT0))) sB0 sF0) ?_
                              refine AL_cons (LR_pick (b := false) (at_tmp 63 _) (at_c (v' := Bl true) rfl) (at_tmp 76 _) rfl) (sS (sA (sT1 rfl) (sA sT0 (sT1 rfl))) sB0 sF0) ?_
                              refine AL_cons (LR_assign (at_tmp 77 _) rfl) (sS (sT1 rfl) sB0 sF0) ?_
                              refine AL_nil ?_
                              exact thenN (cutLeaf (v := true) hr (weakB ((sT rfl (sT rfl (sT rfl (sT rfl (sT rfl sT0)))))) (sub_keep (sub_keep sub_nil)) rfl))
                        · have hr := hr.trans (cond_t hb)
                          refine AL_cons (LR_off (b := true) rfl rfl rfl rfl) (sS (sT1 rfl) sB0 sF0) ?_
                          refine AL_cons (LR_off (b := true) rfl rfl rfl rfl) (sS (sT1 rfl) sB0 sF0) ?_
                          refine AL_cons (LR_off (b := true) rfl rfl rfl rfl) (sS (sT1 rfl) sB0 sF0) ?_
                          refine AL_cons (LR_offU rfl rfl rfl rfl) (sS (sT1 rfl) sB0 sF0) ?_
                          refine AL_cons (LR_offU rfl rfl rfl rfl) (sS (sT1 rfl) sB0 sF0) ?_
                          refine AL_cons (LR_offU rfl rfl rfl rfl) (sS (sT1 rfl) sB0 sF0) ?_
                          refine AL_cons (LR_offU rfl rfl rfl rfl) (sS (sT1 rfl) sB0 sF0) ?_
                          refine AL_cons (LR_offU rfl rfl rfl rfl) (sS (sT1 rfl) sB0 sF0) ?_
                          refine AL_cons (LR_offU rfl rfl rfl rfl) (sS (sT1 rfl) sB0 sF0) ?_
                          refine AL_cons (LR_offU rfl rfl rfl rfl) (sS (sT1 rfl) sB0 sF0) ?_
                          refine AL_cons (LR_offU rfl rfl rfl rfl) (sS (sT1 rfl) sB0 sF0) ?_
                          refine AL_cons (LR_offU rfl rfl rfl rfl) (sS (sT1 rfl) sB0 sF0) ?_
                          refine AL_cons (LR_off (b := true) rfl rfl rfl rfl) (sS (sT1 rfl) sB0 sF0) ?_
                          refine AL_cons (LR_pick (b := true) (at_tmp 63 _) (at_c (v' := Bl true) rfl) (at_tmp 76 _) rfl) (sS (sA (sT1 rfl) (sA sT0 (sT1 rfl))) sB0 sF0) ?_
                          refine AL_cons (LR_assign (at_tmp 77 _) rfl) (sS (sT1 rfl) sB0 sF0) ?_
                          refine AL_nil ?_
                          exact thenN (cutLeaf (v := true) hr (weakB ((sT rfl (sT rfl (sT rfl (sT rfl (sT rfl sT0)))))) (sub_keep (sub_keep sub_nil)) rfl))
                  · have hr := hr.trans (cond_f h)
                    clear h
                    refine AW_skip ?_
                    exact thenN (cutLeaf (v := false) hr (weakB ((sT rfl (sT rfl (sT rfl (sT rfl (sT rfl sT0)))))) (sub_keep (sub_keep sub_nil)) rfl))
              · rintro x6 hr
                show AW Hfaa.prog _ _ _ ⟨[(0, .inr (.inl (0, 0))), (1, .inl (is (I64 a1))), (5, .inr (.inl (5, 0))), (6, .inl (is (I64 x4))), (7, .inl (is (Bl x6)))], [(0, pb 215 (ar U8 1441 b0_0 ++ (is (I64 b0_1) :: (is (I64 b0_2) :: (is (I64 b0_3) :: (is (I64 b0_4) :: [])))))), (5, pb 290 (ar U8 1442 x5 ++ []))]⟩
                have hr : some r = F202_6 N b0_0 b0_1 b0_2 b0_3 b0_4 a1 x4 x5 x6 := hr
                refine AW_cut (σ := (Nat → BitVec 8)) (fun v => ⟨[(0, .inr (.inl (0, 0))), (1, .inl (is (I64 a1))), (5, .inr (.inl (5, 0))), (6, .inl (is (I64 x4)))], [(0, pb 215 (ar U8 1441 b0_0 ++ (is (I64 b0_1) :: (is (I64 b0_2) :: (is (I64 b0_3) :: (is (I64 b0_4) :: [])))))), (5, pb 290 (ar U8 1442 v ++ []))]⟩) (fun v => some r = F202_7 N b0_0 b0_1 b0_2 b0_3 b0_4 a1 x4 v) ?_ ?_
                · skip
                  refine AW_seq1 ?_
                  refine AW_region ?_
                  refine AL_cons (LR_move (at_tmp 6 _) rfl) (sS (sT1 rfl) sB0 sF0) ?_
                  refine AL_cons (LR_assign (at_tmp 78 _) rfl) (sS (sT1 rfl) sB0 sF0) ?_
                  refine AL_nil ?_
                  refine thenN ?_
                  refine AW_block ?_
                  refine AW_iterR (σ := Bool × Int × (Nat → BitVec 8)) (r := r) (x0 := (x6, x4, x5)) (emb := fun v => ⟨[(0, .inr (.inl (0, 0))), (1, .inl (is (I64 a1))), (5, .inr (.inl (5, 0))), (6, .inl (is (I64 x4))), (7, .inl (is (Bl v.1))), (11, .inl (is (I64 v.2.1)))], [(0, pb 215 (ar U8 1441 b0_0 ++ (is (I64 b0_1) :: (is (I64 b0_2) :: (is (I64 b0_3) :: (is (I64 b0_4) :: [])))))), (5, pb 290 (ar U8 1442 v.2.2 ++ []))]⟩) ?_ hr ?_
                  · exact weakB ((sT rfl (sT rfl (sT rfl (sT rfl (sT rfl (sT rfl sT0))))))) (sub_keep (sub_keep sub_nil)) rfl
                  rintro ⟨x12, x13, x14⟩ out4 hr
                  show AW Hfaa.prog _ _ _ ⟨[(0, .inr (.inl (0, 0))), (1, .inl (is (I64 a1))), (5, .inr (.inl (5, 0))), (6, .inl (is (I64 x4))), (7, .inl (is (Bl x12))), (11, .inl (is (I64 x13)))], [(0, pb 215 (ar U8 1441 b0_0 ++ (is (I64 b0_1) :: (is (I64 b0_2) :: (is (I64 b0_3) :: (is (I64 b0_4) :: [])))))), (5, pb 290 (ar U8 1442 x14 ++ []))]⟩
                  have hr : some out4 = F202_L10b N b0_0 b0_1 b0_2 b0_3 b0_4 a1 x4 x12 x13 x14 := hr
                  refine AW_seq1 ?_
                  refine AW_cut (σ := Bool) (fun v => ⟨[(0, .inr (.inl (0, 0))), (1, .inl (is (I64 a1))), (5, .inr (.inl (5, 0))), (6, .inl (is (I64 x4))), (7, .inl (is (Bl x12))), (11, .inl (is (I64 x13))), (83, .inl (is (Bl v)))], [(0, pb 215 (ar U8 1441 b0_0 ++ (is (I64 b0_1) :: (is (I64 b0_2) :: (is (I64 b0_3) :: (is (I64 b0_4) :: [])))))), (5, pb 290 (ar U8 1442 x14 ++ []))]⟩) (fun v => some out4 = F202_11 N b0_0 b0_1 b0_2 b0_3 b0_4 a1 x4 x12 x13 x14 v) ?_ ?_
                  · skip
                    refine AW_region ?_
                    refine AL_cons (LR_move (at_tmp 7 _) rfl) (sS (sT1 rfl) sB0 sF0) ?_
                    refine AL_cons (LR_move (at_tmp 79 _) rfl) (sS (sT1 rfl) sB0 sF0) ?_
                    refine AL_cutAt 3 ⟨[(0, .inr (.inl (0, 0))), (1, .inl (is (I64 a1))), (5, .inr (.inl (5, 0))), (6, .inl (is (I64 x4))), (7, .inl (is (Bl x12))), (11, .inl (is (I64 x13))), (79, .inl (is (Bl x12))), (80, .inl (is (Bl x12))), (83, .inl (is (Bl (x12 && (decide (x13 ≥ 0))))))], [(0, pb 215 (ar U8 1441 b0_0 ++ (is (I64 b0_1) :: (is (I64 b0_2) :: (is (I64 b0_3) :: (is (I64 b0_4) :: [])))))), (5, pb 290 (ar U8 1442 x14 ++ []))]⟩ ?_ ?_
                    · cases hb : x12
                      · skip
                        refine AL_cons (LR_off (b := false) rfl rfl rfl rfl) (sS (sT1 rfl) sB0 sF0) ?_
                        refine AL_cons (LR_off (b := false) rfl rfl rfl rfl) (sS (sT1 rfl) sB0 sF0) ?_
                        refine AL_cons (LR_pick (b := false) (at_tmp 80 _) (at_tmp 82 _) (at_c (v' := Bl false) rfl) rfl) (sS (sA (sT1 rfl) (sA (sT1 rfl) sT0)) sB0 sF0) ?_
                        exact AL_nil ⟨rfl, weakB ((sT rfl (sT rfl (sT rfl (sT rfl (sT rfl (sT rfl (sT rfl (sT rfl (sT rfl sT0)))))))))) (sub_keep (sub_keep sub_nil)) rfl⟩
                      · skip
                        refine AL_cons (LR_on rfl rfl rfl (LR_move (at_tmp 11 _) rfl)) (sS (sT rfl (sT1 rfl)) sB0 sF0) ?_
                        refine AL_cons (LR_on rfl rfl rfl (LR_bin (at_tmp 81 _) (at_c (v' := I64 0) rfl) (geq_I64 x13 0) rfl)) (sS (sT rfl (sA (sT1 rfl) sT0)) sB0 sF0) ?_
                        refine AL_cons (LR_pick (b := true) (at_tmp 80 _) (at_tmp 82 _) (at_c (v' := Bl false) rfl) rfl) (sS (sA (sT1 rfl) (sA (sT1 rfl) sT0)) sB0 sF0) ?_
                        exact AL_nil ⟨rfl, weakB ((sT rfl (sT rfl (sT rfl (sT rfl (sT rfl (sT rfl (sT rfl (sT rfl (sT rfl sT0)))))))))) (sub_keep (sub_keep sub_nil)) rfl⟩
                    refine AL_nil ?_
                    exact thenN (cutLeaf (v := x12 && (decide (x13 ≥ 0))) hr (weakB ((sT rfl (sT rfl (sT rfl (sT rfl (sT rfl (sT rfl (sT rfl sT0)))))))) (sub_keep (sub_keep sub_nil)) rfl))
                  · rintro x15 hr
                    show AW Hfaa.prog _ _ _ ⟨[(0, .inr (.inl (0, 0))), (1, .inl (is (I64 a1))), (5, .inr (.inl (5, 0))), (6, .inl (is (I64 x4))), (7, .inl (is (Bl x12))), (11, .inl (is (I64 x13))), (83, .inl (is (Bl x15)))], [(0, pb 215 (ar U8 1441 b0_0 ++ (is (I64 b0_1) :: (is (I64 b0_2) :: (is (I64 b0_3) :: (is (I64 b0_4) :: [])))))), (5, pb 290 (ar U8 1442 x14 ++ []))]⟩
                    have hr : some out4 = F202_11 N b0_0 b0_1 b0_2 b0_3 b0_4 a1 x4 x12 x13 x14 x15 := hr
                    refine AW_condT (b := x15) rfl (fun h => ?_) (fun h => ?_)
                    · have hr := hr.trans (cond_t h)
                      clear h
                      refine AW_skip ?_
                      refine thenN ?_
                      refine AW_cut (σ := Bool × (Nat → BitVec 8)) (fun v => ⟨[(0, .inr (.inl (0, 0))), (1, .inl (is (I64 a1))), (5, .inr (.inl (5, 0))), (6, .inl (is (I64 x4))), (11, .inl (is (I64 x13))), (7, .inl (is (Bl v.1)))], [(0, pb 215 (ar U8 1441 b0_0 ++ (is (I64 b0_1) :: (is (I64 b0_2) :: (is (I64 b0_3) :: (is (I64 b0_4) :: [])))))), (5, pb 290 (ar U8 1442 v.2 ++ []))]⟩) (fun v => some out4 = F202_12 N b0_0 b0_1 b0_2 b0_3 b0_4 a1 x4 x13 v.1 v.2) ?_ ?_
                      · skip
                        refine AW_block ?_
                        refine AW_cut (σ := Bool) (fun v => ⟨[(0, .inr (.inl (0, 0))), (1, .inl (is (I64 a1))), (5, .inr (.inl (5, 0))), (6, .inl (is (I64 x4))), (7, .inl (is (Bl x12))), (11, .inl (is (I64 x13))), (89, .inl (is (Bl v)))], [(0, pb 215 (ar U8 1441 b0_0 ++ (is (I64 b0_1) :: (is (I64 b0_2) :: (is (I64 b0_3) :: (is (I64 b0_4) :: [])))))), (5, pb 290 (ar U8 1442 x14 ++ []))]⟩) (fun v => some out4 = F202_13 N b0_0 b0_1 b0_2 b0_3 b0_4 a1 x4 x12 x13 x14 v) ?_ ?_
                        · skip
                          refine AW_region ?_
                          refine AL_cons (LR_move (at_tmp 11 _) rfl) (sS (sT1 rfl) sB0 sF0) ?_
                          obtain ⟨hg121, hr⟩ := guard_some hr
                          refine AL_cons (LR_indexAddr (o := x13.toNat) Hfaa.underlying290 sz5 (at_tmp 5 _) (at_tmp 86 _) (dand hg121) (by first | rfl | omega) rfl) (sS (sA (sT1 rfl) (sT1 rfl)) sB0 sF0) ?_
                          refine AL_cons (LR_load (at_tmp 87 _) na5 (gA (ltn (dand hg121))) rfl) (sS (sT1 rfl) (sB1 rfl) sF0) ?_
                          refine AL_cons (LR_bin (at_tmp 88 _) (at_c (v' := U8 (57#8)) rfl) (neq_U8 (x14 x13.toNat) (57#8)) rfl) (sS (sA (sT1 rfl) sT0) sB0 sF0) ?_
                          refine AL_nil ?_
                          exact thenN (cutLeaf (v := (x14 x13.toNat) != (57#8)) hr (weakB ((sT rfl (sT rfl (sT rfl (sT rfl (sT rfl (sT rfl (sT rfl sT0)))))))) (sub_keep (sub_keep sub_nil)) rfl))
                        · rintro x18 hr
                          show AW Hfaa.prog _ _ _ ⟨[(0, .inr (.inl (0, 0))), (1, .inl (is (I64 a1))), (5, .inr (.inl (5, 0))), (6, .inl (is (I64 x4))), (7, .inl (is (Bl x12))), (11, .inl (is (I64 x13))), (89, .inl (is (Bl x18)))], [(0, pb 215 (ar U8 1441 b0_0 ++ (is (I64 b0_1) :: (is (I64 b0_2) :: (is (I64 b0_3) :: (is (I64 b0_4) :: [])))))), (5, pb 290 (ar U8 1442 x14 ++ []))]⟩
                          have hr : some out4 = F202_13 N b0_0 b0_1 b0_2 b0_3 b0_4 a1 x4 x12 x13 x14 x18 := hr
                          refine AW_condT (b := x18) rfl (fun h => ?_) (fun h => ?_)
                          · have hr := hr.trans (cond_t h)
                            clear h
                            refine AW_cut (σ := (Nat → BitVec 8)) (fun v => ⟨[(0, .inr (.inl (0, 0))), (1, .inl (is (I64 a1))), (5, .inr (.inl (5, 0))), (6, .inl (is (I64 x4))), (11, .inl (is (I64 x13)))], [(0, pb 215 (ar U8 1441 b0_0 ++ (is (I64 b0_1) :: (is (I64 b0_2) :: (is (I64 b0_3) :: (is (I64 b0_4) :: [])))))), (5, pb 290 (ar U8 1442 v ++ []))]⟩) (fun v => some out4 = F202_14 N b0_0 b0_1 b0_2 b0_3 b0_4 a1 x4 x13 v) ?_ ?_
                            · skip
                              refine AW_region ?_
                              refine AL_cons (LR_move (at_tmp 11 _) rfl) (sS (sT1 rfl) sB0 sF0) ?_
                              obtain ⟨hg118, hr⟩ := guard_some hr
                              refine AL_cons (LR_indexAddr (o := x13.toNat) Hfaa.underlying290 sz5 (at_tmp 5 _) (at_tmp 90 _) (dand hg118) (by first | rfl | omega) rfl) (sS (sA (sT1 rfl) (sT1 rfl)) sB0 sF0) ?_
                              refine AL_cons (LR_load (at_tmp 91 _) na5 (gA (ltn (dand hg118))) rfl) (sS (sT1 rfl) (sB1 rfl) sF0) ?_
                              refine AL_cons (LR_bin (at_tmp 92 _) (at_c (v' := U8 (1#8)) rfl) (add_U8 (x14 x13.toNat) (1#8)) rfl) (sS (sA (sT1 rfl) sT0) sB0 sF0) ?_
                              obtain ⟨hg119, hr⟩ := guard_some hr
                              refine AL_cons (LR_indexAddr (o := x13.toNat) Hfaa.underlying290 sz5 (at_tmp 5 _) (at_tmp 90 _) (dand hg119) (by first | rfl | omega) rfl) (sS (sA (sT1 rfl) (sT1 rfl)) sB0 sF0) ?_
                              refine AL_cons (LR_storeA (at_tmp 94 _) (at_tmp 93 _) (cells_one (one_is rfl)) (onC (one_is rfl) onN) sz5 rfl (ble_dyn (lnA ln0) (by have := (ltn (dand hg119)); omega)) (stA (ltn (dand hg119)))) (sS (sA (sT1 rfl) (sT1 rfl)) (sB1 rfl) sF0) ?_
                              refine AL_nil ?_
                              exact thenN (cutLeaf (v := upd x14 x13.toNat ((x14 x13.toNat) + (1#8))) hr (weakB ((sT rfl (sT rfl (sT rfl (sT rfl (sT rfl sT0)))))) (sub_keep (sub_keep sub_nil)) rfl))
                            · rintro x19 hr
                              show AW Hfaa.prog _ _ _ ⟨[(0, .inr (.inl (0, 0))), (1, .inl (is (I64 a1))), (5, .inr (.inl (5, 0))), (6, .inl (is (I64 x4))), (11, .inl (is (I64 x13)))], [(0, pb 215 (ar U8 1441 b0_0 ++ (is (I64 b0_1) :: (is (I64 b0_2) :: (is (I64 b0_3) :: (is (I64 b0_4) :: [])))))), (5, pb 290 (ar U8 1442 x19 ++ []))]⟩
                              have hr : some out4 = F202_14 N b0_0 b0_1 b0_2 b0_3 b0_4 a1 x4 x13 x19 := hr
                              refine AW_region ?_
                              refine AL_cons (LR_assign (at_c (v' := Bl false) rfl) rfl) (sS sT0 sB0 sF0) ?_
                              refine AL_nil ?_
                              refine blN ?_
                              exact thenN (cutLeaf (v := (false, x19)) hr (weakB ((sT rfl (sT rfl (sT rfl (sT rfl (sT rfl (sT rfl sT0))))))) (sub_keep (sub_keep sub_nil)) rfl))
                          · have hr := hr.trans (cond_f h)
                            clear h
                            refine AW_region ?_
                            refine AL_cons (LR_move (at_tmp 11 _) rfl) (sS (sT1 rfl) sB0 sF0) ?_
                            obtain ⟨hg120, hr⟩ := guard_some hr
                            refine AL_cons (LR_indexAddr (o := x13.toNat) Hfaa.underlying290 sz5 (at_tmp 5 _) (at_tmp 95 _) (dand hg120) (by first | rfl | omega) rfl) (sS (sA (sT1 rfl) (sT1 rfl)) sB0 sF0) ?_
                            refine AL_cons (LR_storeA (at_tmp 96 _) (at_c (v' := U8 (48#8)) rfl) (cells_one (one_is rfl)) (onC (one_is rfl) onN) sz5 rfl (ble_dyn (lnA ln0) (by have := (ltn (dand hg120)); omega)) (stA (ltn (dand hg120)))) (sS (sA (sT1 rfl) sT0) (sB1 rfl) sF0) ?_
                            refine AL_nil ?_
                            refine blN ?_
                            exact thenN (cutLeaf (v := (x12, upd x14 x13.toNat (48#8))) hr (weakB ((sT rfl (sT rfl (sT rfl (sT rfl (sT rfl (sT rfl sT0))))))) (sub_keep (sub_keep sub_nil)) rfl))
                      · rintro ⟨x16, x17⟩ hr
                        show AW Hfaa.prog _ _ _ ⟨[(0, .inr (.inl (0, 0))), (1, .inl (is (I64 a1))), (5, .inr (.inl (5, 0))), (6, .inl (is (I64 x4))), (11, .inl (is (I64 x13))), (7, .inl (is (Bl x16)))], [(0, pb 215 (ar U8 1441 b0_0 ++ (is (I64 b0_1) :: (is (I64 b0_2) :: (is (I64 b0_3) :: (is (I64 b0_4) :: [])))))), (5, pb 290 (ar U8 1442 x17 ++ []))]⟩
                        have hr : some out4 = F202_12 N b0_0 b0_1 b0_2 b0_3 b0_4 a1 x4 x13 x16 x17 := hr
                        refine AW_region ?_
                        refine AL_cons (LR_move (at_tmp 11 _) rfl) (sS (sT1 rfl) sB0 sF0) ?_
                        refine AL_cons (LR_bin (at_tmp 84 _) (at_c (v' := I64 1) rfl) (sub_I64 x13 1) rfl) (sS (sA (sT1 rfl) sT0) sB0 sF0) ?_
                        refine AL_cons (LR_assign (at_tmp 85 _) rfl) (sS (sT1 rfl) sB0 sF0) ?_
                        refine AL_nil ?_
                        exact thenN (loopNext (x' := (x16, w64 (x13 - 1), x17)) hr (weakB ((sT rfl (sT rfl (sT rfl (sT rfl (sT rfl (sT rfl sT0))))))) (sub_keep (sub_keep sub_nil)) rfl))
                    · have hr := hr.trans (cond_f h)
                      clear h
                      refine AW_exit ?_
                      refine thenX ?_
                      obtain ⟨r', hro, hr⟩ := map_inr hr
                      refine thenX (loopOut hro (fun he => ?_))
                      rw [he] at hr
                      refine blH ?_
                      exact thenN (cutLeaf (v := x14) hr (weakB ((sT rfl (sT rfl (sT rfl (sT rfl sT0))))) (sub_keep (sub_keep sub_nil)) rfl))
                · rintro x7 hr
                  show AW Hfaa.prog _ _ _ ⟨[(0, .inr (.inl (0, 0))), (1, .inl (is (I64 a1))), (5, .inr (.inl (5, 0))), (6, .inl (is (I64 x4)))], [(0, pb 215 (ar U8 1441 b0_0 ++ (is (I64 b0_1) :: (is (I64 b0_2) :: (is (I64 b0_3) :: (is (I64 b0_4) :: [])))))), (5, pb 290 (ar U8 1442 x7 ++ []))]⟩
                  have hr : some r = F202_7 N b0_0 b0_1 b0_2 b0_3 b0_4 a1 x4 x7 := hr
                  refine AW_seq1 ?_
                  refine AW_region ?_
                  refine AL_cons (LR_move (at_tmp 6 _) rfl) (sS (sT1 rfl) sB0 sF0) ?_
                  refine AL_cons (LR_bin (at_tmp 97 _) (at_c (v' := I64 1) rfl) (add_I64 x4 1) rfl) (sS (sA (sT1 rfl) sT0) sB0 sF0) ?_
                  obtain ⟨hg72, hr⟩ := guard_some hr
                  obtain ⟨hg73, hr⟩ := guard_some hr
                  refine AL_cons (slcE (o' := 1) (l' := ((w64 (x4 + 1) : Int).toNat) - 1) (c' := 1442 - 1) (LR_sliceA (i := (1 : Int)) (j := (w64 (x4 + 1) : Int)) Hfaa.underlying290 sz5 (at_tmp 5 _) (lo_some (at_c (v' := I64 1) rfl)) (hi_some (at_tmp 98 _)) (dand3 hg72) (of_decide_eq_true hg73) rfl) (by first | rfl | (simp; done) | (simp <;> omega))) (sS (sA (sT1 rfl) (sA sT0 (sT1 rfl))) sB0 sF0) ?_
                  refine AL_cons (LR_assign (at_tmp 99 _) rfl) (sS (sT1 rfl) sB0 sF0) ?_
                  refine AL_nil ?_
                  refine thenN ?_
                  refine AW_cut (σ := Nat × Nat × Nat) (fun v => ⟨[(0, .inr (.inl (0, 0))), (1, .inl (is (I64 a1))), (12, .inr (.inr (.inl (5, v.1, v.2.1, v.2.2))))], [(0, pb 215 (ar U8 1441 b0_0 ++ (is (I64 b0_1) :: (is (I64 b0_2) :: (is (I64 b0_3) :: (is (I64 b0_4) :: [])))))), (5, pb 290 (ar U8 1442 x7 ++ []))]⟩) (fun v => some r = F202_8 N b0_0 b0_1 b0_2 b0_3 b0_4 a1 x7 v.1 v.2.1 v.2.2) ?_ ?_
                  · skip
                    refine AW_cut (σ := Bool) (fun v => ⟨[(0, .inr (.inl (0, 0))), (1, .inl (is (I64 a1))), (5, .inr (.inl (5, 0))), (6, .inl (is (I64 x4))), (12, .inr (.inr (.inl (5, 1, ((w64 (x4 + 1) : Int).toNat) - 1, 1442 - 1)))), (106, .inl (is (Bl v)))], [(0, pb 215 (ar U8 1441 b0_0 ++ (is (I64 b0_1) :: (is (I64 b0_2) :: (is (I64 b0_3) :: (is (I64 b0_4) :: [])))))), (5, pb 290 (ar U8 1442 x7 ++ []))]⟩) (fun v => some r = F202_9 N b0_0 b0_1 b0_2 b0_3 b0_4 a1 x4 x7 v) ?_ ?_
                    · skip
                      refine AW_region ?_
                      refine AL_cons (LR_indexAddr (o := 0) Hfaa.underlying290 sz5 (at_tmp 5 _) (at_c (v' := I64 0) rfl) (by decide) (by first | rfl | omega) rfl) (sS (sA (sT1 rfl) sT0) sB0 sF0) ?_
                      refine AL_cons (LR_load (at_tmp 100 _) na5 (gA (i := 0) (by decide)) rfl) (sS (sT1 rfl) (sB1 rfl) sF0) ?_
                      refine AL_cons (LR_bin (at_tmp 101 _) (at_c (v' := U8 (48#8)) rfl) (neq_U8 (x7 0) (48#8)) rfl) (sS (sA (sT1 rfl) sT0) sB0 sF0) ?_
                      refine AL_cons (LR_move (at_tmp 102 _) rfl) (sS (sT1 rfl) sB0 sF0) ?_
                      refine AL_cutAt 3 ⟨[(0, .inr (.inl (0, 0))), (1, .inl (is (I64 a1))), (5, .inr (.inl (5, 0))), (6, .inl (is (I64 x4))), (97, .inl (is (I64 x4))), (98, .inl (is (I64 (w64 (x4 + 1))))), (99, .inr (.inr (.inl (5, 1, ((w64 (x4 + 1) : Int).toNat) - 1, 1442 - 1)))), (12, .inr (.inr (.inl (5, 1, ((w64 (x4 + 1) : Int).toNat) - 1, 1442 - 1)))), (100, .inr (.inl (5, 0))), (101, .inl (is (U8 (x7 0)))), (102, .inl (is (Bl ((x7 0) != (48#8))))), (103, .inl (is (Bl ((x7 0) != (48#8))))), (106, .inl (is (Bl (((x7 0) != (48#8)) || (x4 == 0)))))], [(0, pb 215 (ar U8 1441 b0_0 ++ (is (I64 b0_1) :: (is (I64 b0_2) :: (is (I64 b0_3) :: (is (I64 b0_4) :: [])))))), (5, pb 290 (ar U8 1442 x7 ++ []))]⟩ ?_ ?_
                      · cases hb : (x7 0) != (48#8)
                        · skip
                          refine AL_cons (LR_on rfl rfl rfl (LR_move (at_tmp 6 _) rfl)) (sS (sT rfl (sT1 rfl)) sB0 sF0) ?_
                          refine AL_cons (LR_on rfl rfl rfl (LR_bin (at_tmp 104 _) (at_c (v' := I64 0) rfl) (eql_I64 x4 0) rfl)) (sS (sT rfl (sA (sT1 rfl) sT0)) sB0 sF0) ?_
                          refine AL_cons (LR_pick (b := false) (at_tmp 103 _) (at_c (v' := Bl true) rfl) (at_tmp 105 _) rfl) (sS (sA (sT1 rfl) (sA sT0 (sT1 rfl))) sB0 sF0) ?_
                          exact AL_nil ⟨rfl, weakB ((sT rfl (sT rfl (sT rfl (sT rfl (sT rfl (sT rfl (sT rfl (sT rfl (sT rfl (sT rfl (sT rfl (sT rfl (sT rfl sT0)))))))))))))) (sub_keep (sub_keep sub_nil)) rfl⟩
                        · skip
                          refine AL_cons (LR_off (b := true) rfl rfl rfl rfl) (sS (sT1 rfl) sB0 sF0) ?_
                          refine AL_cons (LR_off (b := true) rfl rfl rfl rfl) (sS (sT1 rfl) sB0 sF0) ?_
                          refine AL_cons (LR_pick (b := true) (at_tmp 103 _) (at_c (v' := Bl true) rfl) (at_tmp 105 _) rfl) (sS (sA (sT1 rfl) (sA sT0 (sT1 rfl))) sB0 sF0) ?_
                          exact AL_nil ⟨rfl, weakB ((sT rfl (sT rfl (sT rfl (sT rfl (sT rfl (sT rfl (sT rfl (sT rfl (sT rfl (sT rfl (sT rfl (sT rfl (sT rfl sT0)))))))))))))) (sub_keep (sub_keep sub_nil)) rfl⟩
                      refine AL_nil ?_
                      exact thenN (cutLeaf (v := ((x7 0) != (48#8)) || (x4 == 0)) hr (weakB ((sT rfl (sT rfl (sT rfl (sT rfl (sT rfl (sT rfl sT0))))))) (sub_keep (sub_keep sub_nil)) rfl))
                    · rintro x11 hr
                      show AW Hfaa.prog _ _ _ ⟨[(0, .inr (.inl (0, 0))), (1, .inl (is (I64 a1))), (5, .inr (.inl (5, 0))), (6, .inl (is (I64 x4))), (12, .inr (.inr (.inl (5, 1, ((w64 (x4 + 1) : Int).toNat) - 1, 1442 - 1)))), (106, .inl (is (Bl x11)))], [(0, pb 215 (ar U8 1441 b0_0 ++ (is (I64 b0_1) :: (is (I64 b0_2) :: (is (I64 b0_3) :: (is (I64 b0_4) :: [])))))), (5, pb 290 (ar U8 1442 x7 ++ []))]⟩
                      have hr : some r = F202_9 N b0_0 b0_1 b0_2 b0_3 b0_4 a1 x4 x7 x11 := hr
                      refine AW_condT (b := x11) rfl (fun h => ?_) (fun h => ?_)
                      · have hr := hr.trans (cond_t h)
                        clear h
                        refine AW_region ?_
                        refine AL_cons (LR_move (at_tmp 6 _) rfl) (sS (sT1 rfl) sB0 sF0) ?_
                        refine AL_cons (LR_bin (at_tmp 107 _) (at_c (v' := I64 1) rfl) (add_I64 x4 1) rfl) (sS (sA (sT1 rfl) sT0) sB0 sF0) ?_
                        obtain ⟨hg79, hr⟩ := guard_some hr
                        refine AL_cons (slcE (o' := 0) (l' := ((w64 (x4 + 1) : Int).toNat)) (c' := 1442) (LR_sliceA (i := (0 : Int)) (j := (w64 (x4 + 1) : Int)) Hfaa.underlying290 sz5 (at_tmp 5 _) lo_none (hi_some (at_tmp 108 _)) (dand3 hg79) (by decide) rfl) (by first | rfl | (simp; done) | (simp <;> omega))) (sS (sA (sT1 rfl) (sA sT0 (sT1 rfl))) sB0 sF0) ?_
                        refine AL_cons (LR_assign (at_tmp 109 _) rfl) (sS (sT1 rfl) sB0 sF0) ?_
                        refine AL_nil ?_
                        exact thenN (cutLeaf (v := (0, ((w64 (x4 + 1) : Int).toNat), 1442)) hr (weakB ((sT rfl (sT rfl (sT rfl sT0)))) (sub_keep (sub_keep sub_nil)) rfl))
                      · have hr := hr.trans (cond_f h)
                        clear h
                        refine AW_skip ?_
                        exact thenN (cutLeaf (v := (1, ((w64 (x4 + 1) : Int).toNat) - 1, 1442 - 1)) hr (weakB ((sT rfl (sT rfl (sT rfl sT0)))) (sub_keep (sub_keep sub_nil)) rfl))
                  · rintro ⟨x8, x9, x10⟩ hr
                    show AW Hfaa.prog _ _ _ ⟨[(0, .inr (.inl (0, 0))), (1, .inl (is (I64 a1))), (12, .inr (.inr (.inl (5, x8, x9, x10))))], [(0, pb 215 (ar U8 1441 b0_0 ++ (is (I64 b0_1) :: (is (I64 b0_2) :: (is (I64 b0_3) :: (is (I64 b0_4) :: [])))))), (5, pb 290 (ar U8 1442 x7 ++ []))]⟩
                    have hr : some r = F202_8 N b0_0 b0_1 b0_2 b0_3 b0_4 a1 x7 x8 x9 x10 := hr
                    refine AW_seq1 ?_
                    obtain ⟨hg77, hr⟩ := guard_some hr
                    obtain ⟨y2, hy2, hr⟩ := bind_some hr
                    obtain ⟨hg78, hr⟩ := guard_some hr
                    refine AW_draw mixed
                      (lrC (LR_move (at_tmp 12 _) rfl)
                      (lrC (LR_convT (f := fun i => x7 (x8 + i)) Hfaa.underlying227 Hfaa.underlying5 Hfaa.underlying9 (at_tmp 110 _) (fun i hi => gA (Nat.lt_of_lt_of_le (Nat.add_lt_add_left hi _) (of_decide_eq_true hg77))) rfl)
                      (lrC (LR_move (at_tmp 1 _) rfl)
                      (lrC (LR_move (at_tmp 0 _) rfl)
                      (lrC (LR_nilCheck (at_tmp 113 _) rfl)
                      (lrC (LR_fieldAddr (off := 0) (o := 1441) (at_tmp 114 _) (fun b w => fa215_1 b 0 w) rfl)
                      (lrC (LR_load (at_tmp 115 _) na3 (gP g0) rfl)
                      (lrC (LR_bin (at_tmp 112 _) (at_tmp 116 _) (sub_I64 a1 b0_1) rfl)
                      (lrC (LR_call Hfaa.func200 rfl rfl (C200 N (w64 (a1 - b0_1)) y2 hy2) (all_cons (at_tmp 117 _) all_nil) rfl)
                      (lrC (LR_bin (at_tmp 111 _) (at_tmp 118 _) (add_S (bys x9 (fun i => x7 (x8 + i))) y2 (of_decide_eq_true hg78)) rfl)
                      (lrC (LR_assign (at_tmp 119 _) rfl)
                      lrN)))))))))))
                      (by kernel_rfl)
                      (saC (sS (sT1 rfl) sB0 sF0) (saC (sS (sT1 rfl) (sB1 rfl) sF0) (saC (sS (sT1 rfl) sB0 sF0) (saC (sS (sT1 rfl) sB0 sF0) (saC (sS (sT1 rfl) sB0 sF0) (saC (sS (sT1 rfl) sB0 sF0) (saC (sS (sT1 rfl) (sB1 rfl) sF0) (saC (sS (sA (sT1 rfl) (sT1 rfl)) sB0 sF0) (saC (sS (sA (sT1 rfl) sT0) sB0 sF0) (saC (sS (sA (sT1 rfl) (sT1 rfl)) sB0 sF0) (saC (sS (sT1 rfl) sB0 sF0) saN))))))))))) ?_
                    refine thenN ?_
                    refine AW_ret ?_
                    obtain rfl := Option.some.inj hr
                    exact ⟨res1 rfl (rvT rfl), (sub_keep (sub_drop sub_nil))⟩
end Go.Proofs.YfwaawGreat
