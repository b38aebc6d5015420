import Derived.Test.YfwaawGreatG26
import Derived.Test.YfwaawGreatG28
namespace Go.Proofs.YfwaawGreat
open Go.Aw
set_option linter.unusedVariables false
set_option maxRecDepth 100000
set_option maxHeartbeats 1000000
/-- (*parse/slow.big).less -/
def F366_4 (N : Nat) (b0_0 : Int) (b0_1 : Nat → BitVec 64) (b1_0 : Int) (b1_1 : Nat → BitVec 64) (x2 : Int) (x4 : Bool) : Option ((Int) ⊕ (Bool × Int × (Nat → BitVec 64) × Int × (Nat → BitVec 64))) := bif x4 then bif (decide (0 ≤ x2) && decide (x2 < (52 : Int))) then bif (decide (0 ≤ x2) && decide (x2 < (52 : Int))) then (some ((decide ((b0_1 x2.toNat).toNat < (b1_1 x2.toNat).toNat), b0_0, b0_1, b1_0, b1_1))).map Sum.inr else none else none else some (.inl (w64 (x2 - 1)))
def F366_3 (N : Nat) (b0_0 : Int) (b0_1 : Nat → BitVec 64) (b1_0 : Int) (b1_1 : Nat → BitVec 64) (x2 : Int) (x3 : Bool) : Option ((Int) ⊕ (Bool × Int × (Nat → BitVec 64) × Int × (Nat → BitVec 64))) := bif x3 then bif (decide (0 ≤ x2) && decide (x2 < (52 : Int))) then bif (decide (0 ≤ x2) && decide (x2 < (52 : Int))) then F366_4 N b0_0 b0_1 b1_0 b1_1 x2 ((b0_1 x2.toNat) != (b1_1 x2.toNat)) else none else none else (some (false, b0_0, b0_1, b1_0, b1_1)).map Sum.inr
def F366_L2b (N : Nat) (b0_0 : Int) (b0_1 : Nat → BitVec 64) (b1_0 : Int) (b1_1 : Nat → BitVec 64) (x2 : Int) : Option ((Int) ⊕ (Bool × Int × (Nat → BitVec 64) × Int × (Nat → BitVec 64))) := F366_3 N b0_0 b0_1 b1_0 b1_1 x2 (decide (x2 ≥ 0))
def F366_L2 (N : Nat) (b0_0 : Int) (b0_1 : Nat → BitVec 64) (b1_0 : Int) (b1_1 : Nat → BitVec 64) : (Int) → Option ((Int) ⊕ (Bool × Int × (Nat → BitVec 64) × Int × (Nat → BitVec 64))) := fun v => F366_L2b N b0_0 b0_1 b1_0 b1_1 v
def F366_1 (N : Nat) (b0_0 : Int) (b0_1 : Nat → BitVec 64) (b1_0 : Int) (b1_1 : Nat → BitVec 64) (x1 : Int) : Option (Bool × Int × (Nat → BitVec 64) × Int × (Nat → BitVec 64)) := iterL (F366_L2 N b0_0 b0_1 b1_0 b1_1) N x1
def F366 (N : Nat) (b0_0 : Int) (b0_1 : Nat → BitVec 64) (b1_0 : Int) (b1_1 : Nat → BitVec 64) : Option (Bool × Int × (Nat → BitVec 64) × Int × (Nat → BitVec 64)) := F366_1 N b0_0 b0_1 b1_0 b1_1 (w64 ((max b0_0 b1_0) - 1))
theorem C366 (N : Nat) (b0_0 : Int) (b0_1 : Nat → BitVec 64) (b1_0 : Int) (b1_1 : Nat → BitVec 64) (r : Bool × Int × (Nat → BitVec 64) × Int × (Nat → BitVec 64)) (hr : some r = F366 N b0_0 b0_1 b1_0 b1_1) : FnB Hfaa.prog 366 [.inr (.inl (0, 0)), .inr (.inl (1, 0))] [(0, pb 261 (is (I64 b0_0) :: (ar U64 52 b0_1 ++ []))), (1, pb 261 (is (I64 b1_0) :: (ar U64 52 b1_1 ++ [])))] (is (Bl r.1)) [(0, pb 261 (is (I64 r.2.1) :: (ar U64 52 r.2.2.1 ++ []))), (1, pb 261 (is (I64 r.2.2.2.1) :: (ar U64 52 r.2.2.2.2 ++ [])))] := by
  refine fnB_intro Hfaa.func366 rfl rfl rfl rfl rfl ⟨hf_pb _ _, hf_pb _ _, trivial⟩ ?_
  intro bn0 w0 H0
  refine AW_seq1 ?_
  refine AW_region ?_
  refine AL_cons (LR_assign (at_c (v' := Bl false) rfl) rfl) (sS sT0 sB0 sF0) ?_
  refine AL_nil ?_
  refine thenN ?_
  refine AW_seq1 ?_
  refine AW_cut (σ := Int) (fun v => ⟨[(0, .inr (.inl (0, 0))), (1, .inr (.inl (1, 0))), (5, .inl (is (I64 v)))], [(0, pb 261 (is (I64 b0_0) :: (ar U64 52 b0_1 ++ []))), (1, pb 261 (is (I64 b1_0) :: (ar U64 52 b1_1 ++ [])))]⟩) (fun v => some r = F366_1 N b0_0 b0_1 b1_0 b1_1 v) ?_ ?_
  · skip
    refine AW_draw mixed
      (lrC (LR_move (at_tmp 0 _) rfl)
      (lrC (LR_nilCheck (at_tmp 6 _) rfl)
      (lrC (LR_fieldAddr (off := 0) (o := 0) (at_tmp 7 _) (fun b w => fa261_0 b 0 w) rfl)
      (lrC (LR_load (at_tmp 8 _) na3 g0 rfl)
      (lrC (LR_move (at_tmp 1 _) rfl)
      (lrC (LR_nilCheck (at_tmp 10 _) rfl)
      (lrC (LR_fieldAddr (off := 0) (o := 0) (at_tmp 11 _) (fun b w => fa261_0 b 0 w) rfl)
      (lrC (LR_load (at_tmp 12 _) na3 g0 rfl)
      (lrC (LR_bi2 (vx := I64 b0_0) (vy := I64 b1_0) (v := I64 (max b0_0 b1_0)) (at_tmp 9 _) (at_tmp 13 _) (fun cs w => max_I .i64 b0_0 b1_0 cs w) rfl)
      (lrC (LR_bin (at_tmp 14 _) (at_c (v' := I64 1) rfl) (sub_I64 (max b0_0 b1_0) 1) rfl)
      (lrC (LR_assign (at_tmp 15 _) rfl)
      lrN)))))))))))
      (by kernel_rfl)
      (saC (sS (sT1 rfl) sB0 sF0) (saC (sS (sT1 rfl) sB0 sF0) (saC (sS (sT1 rfl) sB0 sF0) (saC (sS (sT1 rfl) (sB1 rfl) sF0) (saC (sS (sT1 rfl) sB0 sF0) (saC (sS (sT1 rfl) sB0 sF0) (saC (sS (sT1 rfl) sB0 sF0) (saC (sS (sT1 rfl) (sB1 rfl) sF0) (saC (sS (sA (sT1 rfl) (sT1 rfl)) sB0 sF0) (saC (sS (sA (sT1 rfl) sT0) sB0 sF0) (saC (sS (sT1 rfl) sB0 sF0) saN))))))))))) ?_
    exact thenN (cutLeaf (v := w64 ((max b0_0 b1_0) - 1)) hr (weakB ((sT rfl (sT rfl (sT rfl sT0)))) (sub_keep (sub_keep sub_nil)) rfl))
  · rintro x1 hr
    show AW Hfaa.prog _ _ _ ⟨[(0, .inr (.inl (0, 0))), (1, .inr (.inl (1, 0))), (5, .inl (is (I64 x1)))], [(0, pb 261 (is (I64 b0_0) :: (ar U64 52 b0_1 ++ []))), (1, pb 261 (is (I64 b1_0) :: (ar U64 52 b1_1 ++ [])))]⟩
    have hr : some r = F366_1 N b0_0 b0_1 b1_0 b1_1 x1 := hr
    refine AW_block ?_
    refine AW_iterR (σ := Int) (r := r) (x0 := x1) (emb := fun v => ⟨[(0, .inr (.inl (0, 0))), (1, .inr (.inl (1, 0))), (5, .inl (is (I64 v)))], [(0, pb 261 (is (I64 b0_0) :: (ar U64 52 b0_1 ++ []))), (1, pb 261 (is (I64 b1_0) :: (ar U64 52 b1_1 ++ [])))]⟩) ?_ hr ?_
    · exact weakB ((sT rfl (sT rfl (sT rfl sT0)))) (sub_keep (sub_keep sub_nil)) rfl
    rintro x2 out2 hr
    show AW Hfaa.prog _ _ _ ⟨[(0, .inr (.inl (0, 0))), (1, .inr (.inl (1, 0))), (5, .inl (is (I64 x2)))], [(0, pb 261 (is (I64 b0_0) :: (ar U64 52 b0_1 ++ []))), (1, pb 261 (is (I64 b1_0) :: (ar U64 52 b1_1 ++ [])))]⟩
    have hr : some out2 = F366_L2b N b0_0 b0_1 b1_0 b1_1 x2 := hr
    refine AW_seq1 ?_
    refine AW_cut (σ := Bool) (fun v => ⟨[(0, .inr (.inl (0, 0))), (1, .inr (.inl (1, 0))), (5, .inl (is (I64 x2))), (17, .inl (is (Bl v)))], [(0, pb 261 (is (I64 b0_0) :: (ar U64 52 b0_1 ++ []))), (1, pb 261 (is (I64 b1_0) :: (ar U64 52 b1_1 ++ [])))]⟩) (fun v => some out2 = F366_3 N b0_0 b0_1 b1_0 b1_1 x2 v) ?_ ?_
    · skip
      refine AW_region ?_
      refine AL_cons (LR_move (at_tmp 5 _) rfl) (sS (sT1 rfl) sB0 sF0) ?_
      refine AL_cons (LR_bin (at_tmp 16 _) (at_c (v' := I64 0) rfl) (geq_I64 x2 0) rfl) (sS (sA (sT1 rfl) sT0) sB0 sF0) ?_
      refine AL_nil ?_
      exact thenN (cutLeaf (v := decide (x2 ≥ 0)) hr (weakB ((sT rfl (sT rfl (sT rfl (sT rfl sT0))))) (sub_keep (sub_keep sub_nil)) rfl))
    · rintro x3 hr
      show AW Hfaa.prog _ _ _ ⟨[(0, .inr (.inl (0, 0))), (1, .inr (.inl (1, 0))), (5, .inl (is (I64 x2))), (17, .inl (is (Bl x3)))], [(0, pb 261 (is (I64 b0_0) :: (ar U64 52 b0_1 ++ []))), (1, pb 261 (is (I64 b1_0) :: (ar U64 52 b1_1 ++ [])))]⟩
      have hr : some out2 = F366_3 N b0_0 b0_1 b1_0 b1_1 x2 x3 := hr
      refine AW_condT (b := x3) rfl (fun h => ?_) (fun h => ?_)
      · have hr := hr.trans (cond_t h)
        clear h
        refine AW_skip ?_
        refine thenN ?_
        refine AW_seq1 ?_
        refine AW_block ?_
        refine AW_cut (σ := Bool) (fun v => ⟨[(0, .inr (.inl (0, 0))), (1, .inr (.inl (1, 0))), (5, .inl (is (I64 x2))), (32, .inl (is (Bl v)))], [(0, pb 261 (is (I64 b0_0) :: (ar U64 52 b0_1 ++ []))), (1, pb 261 (is (I64 b1_0) :: (ar U64 52 b1_1 ++ [])))]⟩) (fun v => some out2 = F366_4 N b0_0 b0_1 b1_0 b1_1 x2 v) ?_ ?_
        · skip
          obtain ⟨hg63, hr⟩ := guard_some hr
          obtain ⟨hg64, hr⟩ := guard_some hr
          refine AW_draw mixed
            (lrC (LR_move (at_tmp 0 _) rfl)
            (lrC (LR_move (at_tmp 5 _) rfl)
            (lrC (LR_nilCheck (at_tmp 20 _) rfl)
            (lrC (LR_fieldAddr (off := 0) (o := 1) (at_tmp 22 _) (fun b w => fa261_1 b 0 w) rfl)
            (lrC (LR_indexAddr (o := x2.toNat + 1) Hfaa.underlying259 sz30 (at_tmp 23 _) (at_tmp 21 _) (dand hg63) (by first | rfl | omega) rfl)
            (lrC (LR_load (at_tmp 24 _) na30 (gS (gA (ltn (dand hg63)))) rfl)
            (lrC (LR_move (at_tmp 1 _) rfl)
            (lrC (LR_move (at_tmp 5 _) rfl)
            (lrC (LR_nilCheck (at_tmp 26 _) rfl)
            (lrC (LR_fieldAddr (off := 0) (o := 1) (at_tmp 28 _) (fun b w => fa261_1 b 0 w) rfl)
            (lrC (LR_indexAddr (o := x2.toNat + 1) Hfaa.underlying259 sz30 (at_tmp 29 _) (at_tmp 27 _) (dand hg64) (by first | rfl | omega) rfl)
            (lrC (LR_load (at_tmp 30 _) na30 (gS (gA (ltn (dand hg64)))) rfl)
            (lrC (LR_bin (at_tmp 25 _) (at_tmp 31 _) (neq_U64 (b0_1 x2.toNat) (b1_1 x2.toNat)) rfl)
            lrN)))))))))))))
            (by kernel_rfl)
            (saC (sS (sT1 rfl) sB0 sF0) (saC (sS (sT1 rfl) sB0 sF0) (saC (sS (sT1 rfl) sB0 sF0) (saC (sS (sT1 rfl) sB0 sF0) (saC (sS (sA (sT1 rfl) (sT1 rfl)) sB0 sF0) (saC (sS (sT1 rfl) (sB1 rfl) sF0) (saC (sS (sT1 rfl) sB0 sF0) (saC (sS (sT1 rfl) sB0 sF0) (saC (sS (sT1 rfl) sB0 sF0) (saC (sS (sT1 rfl) sB0 sF0) (saC (sS (sA (sT1 rfl) (sT1 rfl)) sB0 sF0) (saC (sS (sT1 rfl) (sB1 rfl) sF0) (saC (sS (sA (sT1 rfl) (sT1 rfl)) sB0 sF0) saN))))))))))))) ?_
          exact thenN (cutLeaf (v := (b0_1 x2.toNat) != (b1_1 x2.toNat)) hr (weakB ((sT rfl (sT rfl (sT rfl (sT rfl sT0))))) (sub_keep (sub_keep sub_nil)) rfl))
        · rintro x4 hr
          show AW Hfaa.prog _ _ _ ⟨[(0, .inr (.inl (0, 0))), (1, .inr (.inl (1, 0))), (5, .inl (is (I64 x2))), (32, .inl (is (Bl x4)))], [(0, pb 261 (is (I64 b0_0) :: (ar U64 52 b0_1 ++ []))), (1, pb 261 (is (I64 b1_0) :: (ar U64 52 b1_1 ++ [])))]⟩
          have hr : some out2 = F366_4 N b0_0 b0_1 b1_0 b1_1 x2 x4 := hr
          refine AW_condT (b := x4) rfl (fun h => ?_) (fun h => ?_)
          · have hr := hr.trans (cond_t h)
            clear h
            refine AW_seq1 ?_
            obtain ⟨hg61, hr⟩ := guard_some hr
            obtain ⟨hg62, hr⟩ := guard_some hr
            refine AW_draw mixed
              (lrC (LR_move (at_tmp 0 _) rfl)
              (lrC (LR_move (at_tmp 5 _) rfl)
              (lrC (LR_nilCheck (at_tmp 33 _) rfl)
              (lrC (LR_fieldAddr (off := 0) (o := 1) (at_tmp 35 _) (fun b w => fa261_1 b 0 w) rfl)
              (lrC (LR_indexAddr (o := x2.toNat + 1) Hfaa.underlying259 sz30 (at_tmp 36 _) (at_tmp 34 _) (dand hg61) (by first | rfl | omega) rfl)
              (lrC (LR_load (at_tmp 37 _) na30 (gS (gA (ltn (dand hg61)))) rfl)
              (lrC (LR_move (at_tmp 1 _) rfl)
              (lrC (LR_move (at_tmp 5 _) rfl)
              (lrC (LR_nilCheck (at_tmp 39 _) rfl)
              (lrC (LR_fieldAddr (off := 0) (o := 1) (at_tmp 41 _) (fun b w => fa261_1 b 0 w) rfl)
              (lrC (LR_indexAddr (o := x2.toNat + 1) Hfaa.underlying259 sz30 (at_tmp 42 _) (at_tmp 40 _) (dand hg62) (by first | rfl | omega) rfl)
              (lrC (LR_load (at_tmp 43 _) na30 (gS (gA (ltn (dand hg62)))) rfl)
              (lrC (LR_bin (at_tmp 38 _) (at_tmp 44 _) (lss_U64 (b0_1 x2.toNat) (b1_1 x2.toNat)) rfl)
              (lrC (LR_assign (at_tmp 45 _) rfl)
              lrN))))))))))))))
              (by kernel_rfl)
              (saC (sS (sT1 rfl) sB0 sF0) (saC (sS (sT1 rfl) sB0 sF0) (saC (sS (sT1 rfl) sB0 sF0) (saC (sS (sT1 rfl) sB0 sF0) (saC (sS (sA (sT1 rfl) (sT1 rfl)) sB0 sF0) (saC (sS (sT1 rfl) (sB1 rfl) sF0) (saC (sS (sT1 rfl) sB0 sF0) (saC (sS (sT1 rfl) sB0 sF0) (saC (sS (sT1 rfl) sB0 sF0) (saC (sS (sT1 rfl) sB0 sF0) (saC (sS (sA (sT1 rfl) (sT1 rfl)) sB0 sF0) (saC (sS (sT1 rfl) (sB1 rfl) sF0) (saC (sS (sA (sT1 rfl) (sT1 rfl)) sB0 sF0) (saC (sS (sT1 rfl) sB0 sF0) saN)))))))))))))) ?_
            refine thenN ?_
            refine AW_ret ?_
            refine blR ?_
            refine thenR ?_
            obtain ⟨r', hro, hr⟩ := map_inr hr
            refine thenR (loopOut hro (fun he => ?_))
            rw [he] at hr
            refine blR ?_
            refine thenR ?_
            obtain rfl := Option.some.inj hr
            exact ⟨res1 rfl (rvT rfl), (sub_keep (sub_keep sub_nil))⟩
          · have hr := hr.trans (cond_f h)
            clear h
            refine AW_skip ?_
            refine blN ?_
            refine thenN ?_
            refine AW_region ?_
            refine AL_cons (LR_move (at_tmp 5 _) rfl) (sS (sT1 rfl) sB0 sF0) ?_
            refine AL_cons (LR_bin (at_tmp 18 _) (at_c (v' := I64 1) rfl) (sub_I64 x2 1) rfl) (sS (sA (sT1 rfl) sT0) sB0 sF0) ?_
            refine AL_cons (LR_assign (at_tmp 19 _) rfl) (sS (sT1 rfl) sB0 sF0) ?_
            refine AL_nil ?_
            exact thenN (loopNext (x' := w64 (x2 - 1)) hr (weakB ((sT rfl (sT rfl (sT rfl sT0)))) (sub_keep (sub_keep sub_nil)) rfl))
      · have hr := hr.trans (cond_f h)
        clear h
        refine AW_exit ?_
        refine thenX ?_
        obtain ⟨r', hro, hr⟩ := map_inr hr
        refine thenX (loopOut hro (fun he => ?_))
        rw [he] at hr
        refine blH ?_
        refine thenN ?_
        refine AW_seq1 ?_
        refine AW_region ?_
        refine AL_cons (LR_assign (at_c (v' := Bl false) rfl) rfl) (sS sT0 sB0 sF0) ?_
        refine AL_nil ?_
        refine thenN ?_
        refine AW_ret ?_
        obtain rfl := Option.some.inj hr
        exact ⟨res1 rfl (rvT rfl), (sub_keep (sub_keep sub_nil))⟩
/-- (*parse/slow.big).subMul -/
def F367_1 (N : Nat) (b0_0 : Int) (b1_0 : Int) (b1_1 : Nat → BitVec 64) (x1 : BitVec 64) (x2 : Nat → BitVec 64) : Option (Bool × Int × (Nat → BitVec 64) × Int × (Nat → BitVec 64)) := some ((x1 != (0#64), b0_0, x2, b1_0, b1_1))
def F367_4 (N : Nat) (b0_0 : Int) (b1_0 : Int) (b1_1 : Nat → BitVec 64) (a2 : BitVec 64) (x5 : Int) (x8 : BitVec 64) (x9 : BitVec 64) (x10 : Nat → BitVec 64) : Option ((BitVec 64 × BitVec 64 × Int × (Nat → BitVec 64)) ⊕ (Bool × Int × (Nat → BitVec 64) × Int × (Nat → BitVec 64))) := some (.inl ((x8, x9, w64 (x5 + 1), x10)))
def F367_10 (N : Nat) (b0_0 : Int) (b1_0 : Int) (b1_1 : Nat → BitVec 64) (a2 : BitVec 64) (x5 : Int) (x14 : BitVec 64) (x17 : Bool) (x18 : Nat → BitVec 64) : Option ((BitVec 64 × BitVec 64 × Int × (Nat → BitVec 64)) ⊕ (Bool × Int × (Nat → BitVec 64) × Int × (Nat → BitVec 64))) := bif x17 then F367_4 N b0_0 b1_0 b1_1 a2 x5 x14 (1#64) x18 else F367_4 N b0_0 b1_0 b1_1 a2 x5 x14 (0#64) x18
def F367_9 (N : Nat) (b0_0 : Int) (b1_0 : Int) (b1_1 : Nat → BitVec 64) (a2 : BitVec 64) (x4 : BitVec 64) (x5 : Int) (x6 : Nat → BitVec 64) (x14 : BitVec 64) (x16 : BitVec 64) (x17 : Bool) : Option ((BitVec 64 × BitVec 64 × Int × (Nat → BitVec 64)) ⊕ (Bool × Int × (Nat → BitVec 64) × Int × (Nat → BitVec 64))) := bif (decide (0 ≤ x5) && decide (x5 < (52 : Int))) then F367_10 N b0_0 b1_0 b1_1 a2 x5 x14 x17 (upd x6 x5.toNat (x16 - x4)) else none
def F367_8 (N : Nat) (b0_0 : Int) (b1_0 : Int) (b1_1 : Nat → BitVec 64) (a2 : BitVec 64) (x4 : BitVec 64) (x5 : Int) (x6 : Nat → BitVec 64) (x14 : BitVec 64) (x15 : BitVec 64) (x16 : BitVec 64) : Option ((BitVec 64 × BitVec 64 × Int × (Nat → BitVec 64)) ⊕ (Bool × Int × (Nat → BitVec 64) × Int × (Nat → BitVec 64))) := bif decide ((x6 x5.toNat).toNat < x15.toNat) then bif (decide (0 ≤ x5) && decide (x5 < (52 : Int))) then F367_9 N b0_0 b1_0 b1_1 a2 x4 x5 x6 x14 x16 true else none else bif (decide (0 ≤ x5) && decide (x5 < (52 : Int))) then F367_9 N b0_0 b1_0 b1_1 a2 x4 x5 x6 x14 x16 (decide (x16.toNat < x4.toNat)) else none
def F367_7 (N : Nat) (b0_0 : Int) (b1_0 : Int) (b1_1 : Nat → BitVec 64) (a2 : BitVec 64) (x4 : BitVec 64) (x5 : Int) (x6 : Nat → BitVec 64) (x14 : BitVec 64) (x15 : BitVec 64) : Option ((BitVec 64 × BitVec 64 × Int × (Nat → BitVec 64)) ⊕ (Bool × Int × (Nat → BitVec 64) × Int × (Nat → BitVec 64))) := bif (decide (0 ≤ x5) && decide (x5 < (52 : Int))) then F367_8 N b0_0 b1_0 b1_1 a2 x4 x5 x6 x14 x15 ((x6 x5.toNat) - x15) else none
def F367_6 (N : Nat) (b0_0 : Int) (b1_0 : Int) (b1_1 : Nat → BitVec 64) (a2 : BitVec 64) (x3 : BitVec 64) (x4 : BitVec 64) (x5 : Int) (x6 : Nat → BitVec 64) (x12 : BitVec 64) (x13 : BitVec 64) : Option ((BitVec 64 × BitVec 64 × Int × (Nat → BitVec 64)) ⊕ (Bool × Int × (Nat → BitVec 64) × Int × (Nat → BitVec 64))) := lt (F166 x12 x13 (0#64) x3) fun y47 => F367_7 N b0_0 b1_0 b1_1 a2 x4 x5 x6 y47.1 y47.2.1
def F367_5 (N : Nat) (b0_0 : Int) (b1_0 : Int) (b1_1 : Nat → BitVec 64) (a2 : BitVec 64) (x3 : BitVec 64) (x4 : BitVec 64) (x5 : Int) (x6 : Nat → BitVec 64) (x11 : Bool) : Option ((BitVec 64 × BitVec 64 × Int × (Nat → BitVec 64)) ⊕ (Bool × Int × (Nat → BitVec 64) × Int × (Nat → BitVec 64))) := bif x11 then (F367_1 N b0_0 b1_0 b1_1 x4 x6).map Sum.inr else bif (decide (0 ≤ x5) && decide (x5 < (52 : Int))) then lt (F165 (b1_1 x5.toNat) a2) fun y48 => F367_6 N b0_0 b1_0 b1_1 a2 x3 x4 x5 x6 y48.1 y48.2 else none
def F367_3 (N : Nat) (b0_0 : Int) (b1_0 : Int) (b1_1 : Nat → BitVec 64) (a2 : BitVec 64) (x3 : BitVec 64) (x4 : BitVec 64) (x5 : Int) (x6 : Nat → BitVec 64) (x7 : Bool) : Option ((BitVec 64 × BitVec 64 × Int × (Nat → BitVec 64)) ⊕ (Bool × Int × (Nat → BitVec 64) × Int × (Nat → BitVec 64))) := bif x7 then F367_5 N b0_0 b1_0 b1_1 a2 x3 x4 x5 x6 (((decide (x5 ≥ b0_0)) && (decide (x5 ≥ b1_0))) && ((x3 ||| x4) == (0#64))) else (F367_1 N b0_0 b1_0 b1_1 x4 x6).map Sum.inr
def F367_L2b (N : Nat) (b0_0 : Int) (b1_0 : Int) (b1_1 : Nat → BitVec 64) (a2 : BitVec 64) (x3 : BitVec 64) (x4 : BitVec 64) (x5 : Int) (x6 : Nat → BitVec 64) : Option ((BitVec 64 × BitVec 64 × Int × (Nat → BitVec 64)) ⊕ (Bool × Int × (Nat → BitVec 64) × Int × (Nat → BitVec 64))) := F367_3 N b0_0 b1_0 b1_1 a2 x3 x4 x5 x6 (decide (x5 < 52))
def F367_L2 (N : Nat) (b0_0 : Int) (b1_0 : Int) (b1_1 : Nat → BitVec 64) (a2 : BitVec 64) : (BitVec 64 × BitVec 64 × Int × (Nat → BitVec 64)) → Option ((BitVec 64 × BitVec 64 × Int × (Nat → BitVec 64)) ⊕ (Bool × Int × (Nat → BitVec 64) × Int × (Nat → BitVec 64))) := fun v => F367_L2b N b0_0 b1_0 b1_1 a2 v.1 v.2.1 v.2.2.1 v.2.2.2
def F367 (N : Nat) (b0_0 : Int) (b0_1 : Nat → BitVec 64) (b1_0 : Int) (b1_1 : Nat → BitVec 64) (a2 : BitVec 64) : Option (Bool × Int × (Nat → BitVec 64) × Int × (Nat → BitVec 64)) := iterL (F367_L2 N b0_0 b1_0 b1_1 a2) N (0#64, 0#64, 0, b0_1)
theorem C367 (N : Nat) (b0_0 : Int) (b0_1 : Nat → BitVec 64) (b1_0 : Int) (b1_1 : Nat → BitVec 64) (a2 : BitVec 64) (r : Bool × Int × (Nat → BitVec 64) × Int × (Nat → BitVec 64)) (hr : some r = F367 N b0_0 b0_1 b1_0 b1_1 a2) : FnB Hfaa.prog 367 [.inr (.inl (0, 0)), .inr (.inl (1, 0)), .inl (is (U64 a2))] [(0, pb 261 (is (I64 b0_0) :: (ar U64 52 b0_1 ++ []))), (1, pb 261 (is (I64 b1_0) :: (ar U64 52 b1_1 ++ [])))] (is (Bl r.1)) [(0, pb 261 (is (I64 r.2.1) :: (ar U64 52 r.2.2.1 ++ []))), (1, pb 261 (is (I64 r.2.2.2.1) :: (ar U64 52 r.2.2.2.2 ++ [])))] := by
  refine fnB_intro Hfaa.func367 rfl rfl rfl rfl rfl ⟨hf_pb _ _, hf_pb _ _, trivial⟩ ?_
  intro bn0 w0 H0
  refine AW_seq1 ?_
  refine AW_region ?_
  refine AL_cons (LR_assign (at_c (v' := Bl false) rfl) rfl) (sS sT0 sB0 sF0) ?_
  refine AL_nil ?_
  refine thenN ?_
  refine AW_seq1 ?_
  refine AW_region ?_
  refine AL_cons (LR_assign (at_c (v' := U64 (0#64)) rfl) rfl) (sS sT0 sB0 sF0) ?_
  refine AL_cons (LR_assign (at_c (v' := U64 (0#64)) rfl) rfl) (sS sT0 sB0 sF0) ?_
  refine AL_nil ?_
  refine thenN ?_
  refine AW_cut (σ := BitVec 64 × (Nat → BitVec 64)) (fun v => ⟨[(8, .inl (is (U64 v.1)))], [(0, pb 261 (is (I64 b0_0) :: (ar U64 52 v.2 ++ []))), (1, pb 261 (is (I64 b1_0) :: (ar U64 52 b1_1 ++ [])))]⟩) (fun v => some r = F367_1 N b0_0 b1_0 b1_1 v.1 v.2) ?_ ?_
  · skip
    refine AW_seq1 ?_
    refine AW_region ?_
    refine AL_cons (LR_assign (at_c (v' := I64 0) rfl) rfl) (sS sT0 sB0 sF0) ?_
    refine AL_nil ?_
    refine thenN ?_
    refine AW_block ?_
    refine AW_iterR (σ := BitVec 64 × BitVec 64 × Int × (Nat → BitVec 64)) (r := r) (x0 := (0#64, 0#64, 0, b0_1)) (emb := fun v => ⟨[(0, .inr (.inl (0, 0))), (1, .inr (.inl (1, 0))), (2, .inl (is (U64 a2))), (7, .inl (is (U64 v.1))), (8, .inl (is (U64 v.2.1))), (9, .inl (is (I64 v.2.2.1)))], [(0, pb 261 (is (I64 b0_0) :: (ar U64 52 v.2.2.2 ++ []))), (1, pb 261 (is (I64 b1_0) :: (ar U64 52 b1_1 ++ [])))]⟩) ?_ hr ?_
    · exact weakB ((sT rfl (sT rfl (sT rfl (sT rfl (sT rfl (sT rfl sT0))))))) (sub_keep (sub_keep sub_nil)) rfl
    rintro ⟨x3, x4, x5, x6⟩ out2 hr
    show AW Hfaa.prog _ _ _ ⟨[(0, .inr (.inl (0, 0))), (1, .inr (.inl (1, 0))), (2, .inl (is (U64 a2))), (7, .inl (is (U64 x3))), (8, .inl (is (U64 x4))), (9, .inl (is (I64 x5)))], [(0, pb 261 (is (I64 b0_0) :: (ar U64 52 x6 ++ []))), (1, pb 261 (is (I64 b1_0) :: (ar U64 52 b1_1 ++ [])))]⟩
    have hr : some out2 = F367_L2b N b0_0 b1_0 b1_1 a2 x3 x4 x5 x6 := hr
    refine AW_seq1 ?_
    refine AW_cut (σ := Bool) (fun v => ⟨[(0, .inr (.inl (0, 0))), (1, .inr (.inl (1, 0))), (2, .inl (is (U64 a2))), (7, .inl (is (U64 x3))), (8, .inl (is (U64 x4))), (9, .inl (is (I64 x5))), (14, .inl (is (Bl v)))], [(0, pb 261 (is (I64 b0_0) :: (ar U64 52 x6 ++ []))), (1, pb 261 (is (I64 b1_0) :: (ar U64 52 b1_1 ++ [])))]⟩) (fun v => some out2 = F367_3 N b0_0 b1_0 b1_1 a2 x3 x4 x5 x6 v) ?_ ?_
    · skip
      refine AW_region ?_
      refine AL_cons (LR_move (at_tmp 9 _) rfl) (sS (sT1 rfl) sB0 sF0) ?_
      refine AL_cons (LR_bin (at_tmp 13 _) (at_c (v' := I64 52) rfl) (lss_I64 x5 52) rfl) (sS (sA (sT1 rfl) sT0) sB0 sF0) ?_
      refine AL_nil ?_
      exact thenN (cutLeaf (v := decide (x5 < 52)) hr (weakB ((sT rfl (sT rfl (sT rfl (sT rfl (sT rfl (sT rfl (sT rfl sT0)))))))) (sub_keep (sub_keep sub_nil)) rfl))
    · rintro x7 hr
      show AW Hfaa.prog _ _ _ ⟨[(0, .inr (.inl (0, 0))), (1, .inr (.inl (1, 0))), (2, .inl (is (U64 a2))), (7, .inl (is (U64 x3))), (8, .inl (is (U64 x4))), (9, .inl (is (I64 x5))), (14, .inl (is (Bl x7)))], [(0, pb 261 (is (I64 b0_0) :: (ar U64 52 x6 ++ []))), (1, pb 261 (is (I64 b1_0) :: (ar U64 52 b1_1 ++ [])))]⟩
      have hr : some out2 = F367_3 N b0_0 b1_0 b1_1 a2 x3 x4 x5 x6 x7 := hr
      refine AW_condT (b := x7) rfl (fun h => ?_) (fun h => ?_)
      · have hr := hr.trans (cond_t h)
        clear h
        refine AW_skip ?_
        refine thenN ?_
        refine AW_cut (σ := BitVec 64 × BitVec 64 × (Nat → BitVec 64)) (fun v => ⟨[(0, .inr (.inl (0, 0))), (1, .inr (.inl (1, 0))), (2, .inl (is (U64 a2))), (9, .inl (is (I64 x5))), (7, .inl (is (U64 v.1))), (8, .inl (is (U64 v.2.1)))], [(0, pb 261 (is (I64 b0_0) :: (ar U64 52 v.2.2 ++ []))), (1, pb 261 (is (I64 b1_0) :: (ar U64 52 b1_1 ++ [])))]⟩) (fun v => some out2 = F367_4 N b0_0 b1_0 b1_1 a2 x5 v.1 v.2.1 v.2.2) ?_ ?_
        · skip
          refine AW_block ?_
          refine AW_seq1 ?_
          refine AW_cut (σ := Bool) (fun v => ⟨[(0, .inr (.inl (0, 0))), (1, .inr (.inl (1, 0))), (2, .inl (is (U64 a2))), (7, .inl (is (U64 x3))), (8, .inl (is (U64 x4))), (9, .inl (is (I64 x5))), (36, .inl (is (Bl v)))], [(0, pb 261 (is (I64 b0_0) :: (ar U64 52 x6 ++ []))), (1, pb 261 (is (I64 b1_0) :: (ar U64 52 b1_1 ++ [])))]⟩) (fun v => some out2 = F367_5 N b0_0 b1_0 b1_1 a2 x3 x4 x5 x6 v) ?_ ?_
          · skip
            refine AW_region ?_
            refine AL_cons (LR_move (at_tmp 9 _) rfl) (sS (sT1 rfl) sB0 sF0) ?_
            refine AL_cons (LR_move (at_tmp 0 _) rfl) (sS (sT1 rfl) sB0 sF0) ?_
            refine AL_cons (LR_nilCheck (at_tmp 18 _) rfl) (sS (sT1 rfl) sB0 sF0) ?_
            refine AL_cons (LR_fieldAddr (off := 0) (o := 0) (at_tmp 19 _) (fun b w => fa261_0 b 0 w) rfl) (sS (sT1 rfl) sB0 sF0) ?_
            refine AL_cons (LR_load (at_tmp 20 _) na3 g0 rfl) (sS (sT1 rfl) (sB1 rfl) sF0) ?_
            refine AL_cons (LR_bin (at_tmp 17 _) (at_tmp 21 _) (geq_I64 x5 b0_0) rfl) (sS (sA (sT1 rfl) (sT1 rfl)) sB0 sF0) ?_
            refine AL_cons (LR_move (at_tmp 22 _) rfl) (sS (sT1 rfl) sB0 sF0) ?_
            refine AL_cutAt 7 ⟨[(0, .inr (.inl (0, 0))), (1, .inr (.inl (1, 0))), (2, .inl (is (U64 a2))), (7, .inl (is (U64 x3))), (8, .inl (is (U64 x4))), (9, .inl (is (I64 x5))), (14, .inl (is (Bl x7))), (17, .inl (is (I64 x5))), (18, .inr (.inl (0, 0))), (19, .inr (.inl (0, 0))), (20, .inr (.inl (0, 0))), (21, .inl (is (I64 b0_0))), (22, .inl (is (Bl (decide (x5 ≥ b0_0))))), (23, .inl (is (Bl (decide (x5 ≥ b0_0))))), (30, .inl (is (Bl ((decide (x5 ≥ b0_0)) && (decide (x5 ≥ b1_0))))))], [(0, pb 261 (is (I64 b0_0) :: (ar U64 52 x6 ++ []))), (1, pb 261 (is (I64 b1_0) :: (ar U64 52 b1_1 ++ [])))]⟩ ?_ ?_
            · cases hb : decide (x5 ≥ b0_0)
              · skip
                refine AL_cons (LR_off (b := false) rfl rfl rfl rfl) (sS (sT1 rfl) sB0 sF0) ?_
                refine AL_cons (LR_off (b := false) rfl rfl rfl rfl) (sS (sT1 rfl) sB0 sF0) ?_
                refine AL_cons (LR_off (b := false) rfl rfl rfl rfl) (sS (sT1 rfl) sB0 sF0) ?_
                refine AL_cons (LR_off (b := false) rfl rfl rfl rfl) (sS (sT1 rfl) sB0 sF0) ?_
                refine AL_cons (LR_off (b := false) rfl rfl rfl rfl) (sS (sT1 rfl) sB0 sF0) ?_
                refine AL_cons (LR_off (b := false) rfl rfl rfl rfl) (sS (sT1 rfl) sB0 sF0) ?_
                refine AL_cons (LR_pick (b := false) (at_tmp 23 _) (at_tmp 29 _) (at_c (v' := Bl false) rfl) rfl) (sS (sA (sT1 rfl) (sA (sT1 rfl) sT0)) sB0 sF0) ?_
                exact AL_nil ⟨rfl, weakB ((sT rfl (sT rfl (sT rfl (sT rfl (sT rfl (sT rfl (sT rfl (sT rfl (sT rfl (sT rfl (sT rfl (sT rfl (sT rfl (sT rfl (sT rfl sT0)))))))))))))))) (sub_keep (sub_keep sub_nil)) rfl⟩
              · skip
                refine AL_cons (LR_on rfl rfl rfl (LR_move (at_tmp 9 _) rfl)) (sS (sT rfl (sT1 rfl)) sB0 sF0) ?_
                refine AL_cons (LR_on rfl rfl rfl (LR_move (at_tmp 1 _) rfl)) (sS (sT rfl (sT1 rfl)) sB0 sF0) ?_
                refine AL_cons (LR_on rfl rfl rfl (LR_nilCheck (at_tmp 25 _) rfl)) (sS (sT rfl (sT1 rfl)) sB0 sF0) ?_
                refine AL_cons (LR_on rfl rfl rfl (LR_fieldAddr (off := 0) (o := 0) (at_tmp 26 _) (fun b w => fa261_0 b 0 w) rfl)) (sS (sT rfl (sT1 rfl)) sB0 sF0) ?_
                refine AL_cons (LR_on rfl rfl rfl (LR_load (at_tmp 27 _) na3 g0 rfl)) (sS (sT rfl (sT1 rfl)) (sB1 rfl) sF0) ?_
                refine AL_cons (LR_on rfl rfl rfl (LR_bin (at_tmp 24 _) (at_tmp 28 _) (geq_I64 x5 b1_0) rfl)) (sS (sT rfl (sA (sT1 rfl) (sT1 rfl))) sB0 sF0) ?_
                refine AL_cons (LR_pick (b := true) (at_tmp 23 _) (at_tmp 29 _) (at_c (v' := Bl false) rfl) rfl) (sS (sA (sT1 rfl) (sA (sT1 rfl) sT0)) sB0 sF0) ?_
                exact AL_nil ⟨rfl, weakB ((sT rfl (sT rfl (sT rfl (sT rfl (sT rfl (sT rfl (sT rfl (sT rfl (sT rfl (sT rfl (sT rfl (sT rfl (sT rfl (sT rfl (sT rfl sT0)))))))))))))))) (sub_keep (sub_keep sub_nil)) rfl⟩
            refine AL_cons (LR_move (at_tmp 30 _) rfl) (sS (sT1 rfl) sB0 sF0) ?_
            refine AL_cutAt 5 ⟨[(0, .inr (.inl (0, 0))), (1, .inr (.inl (1, 0))), (2, .inl (is (U64 a2))), (7, .inl (is (U64 x3))), (8, .inl (is (U64 x4))), (9, .inl (is (I64 x5))), (14, .inl (is (Bl x7))), (17, .inl (is (I64 x5))), (18, .inr (.inl (0, 0))), (19, .inr (.inl (0, 0))), (20, .inr (.inl (0, 0))), (21, .inl (is (I64 b0_0))), (22, .inl (is (Bl (decide (x5 ≥ b0_0))))), (23, .inl (is (Bl (decide (x5 ≥ b0_0))))), (30, .inl (is (Bl ((decide (x5 ≥ b0_0)) && (decide (x5 ≥ b1_0)))))), (31, .inl (is (Bl ((decide (x5 ≥ b0_0)) && (decide (x5 ≥ b1_0)))))), (36, .inl (is (Bl (((decide (x5 ≥ b0_0)) && (decide (x5 ≥ b1_0))) && ((x3 ||| x4) == (0#64))))))], [(0, pb 261 (is (I64 b0_0) :: (ar U64 52 x6 ++ []))), (1, pb 261 (is (I64 b1_0) :: (ar U64 52 b1_1 ++ [])))]⟩ ?_ ?_
            · cases hb : (decide (x5 ≥ b0_0)) && (decide (x5 ≥ b1_0))
              · skip
                refine AL_cons (LR_off (b := false) rfl rfl rfl rfl) (sS (sT1 rfl) sB0 sF0) ?_
                refine AL_cons (LR_off (b := false) rfl rfl rfl rfl) (sS (sT1 rfl) sB0 sF0) ?_
                refine AL_cons (LR_off (b := false) rfl rfl rfl rfl) (sS (sT1 rfl) sB0 sF0) ?_
                refine AL_cons (LR_off (b := false) rfl rfl rfl rfl) (sS (sT1 rfl) sB0 sF0) ?_
                refine AL_cons (LR_pick (b := false) (at_tmp 31 _) (at_tmp 35 _) (at_c (v' := Bl false) rfl) rfl) (sS (sA (sT1 rfl) (sA (sT1 rfl) sT0)) sB0 sF0) ?_
                exact AL_nil ⟨rfl, weakB ((sT rfl (sT rfl (sT rfl (sT rfl (sT rfl (sT rfl (sT rfl (sT rfl (sT rfl (sT rfl (sT rfl (sT rfl (sT rfl (sT rfl (sT rfl (sT rfl (sT rfl sT0)))))))))))))))))) (sub_keep (sub_keep sub_nil)) rfl⟩
              · skip
                refine AL_cons (LR_on rfl rfl rfl (LR_move (at_tmp 7 _) rfl)) (sS (sT rfl (sT1 rfl)) sB0 sF0) ?_
                refine AL_cons (LR_on rfl rfl rfl (LR_move (at_tmp 8 _) rfl)) (sS (sT rfl (sT1 rfl)) sB0 sF0) ?_
                refine AL_cons (LR_on rfl rfl rfl (LR_bin (at_tmp 32 _) (at_tmp 33 _) (or_U64 x3 x4) rfl)) (sS (sT rfl (sA (sT1 rfl) (sT1 rfl))) sB0 sF0) ?_
                refine AL_cons (LR_on rfl rfl rfl (LR_bin (at_tmp 34 _) (at_c (v' := U64 (0#64)) rfl) (eql_U64 (x3 ||| x4) (0#64)) rfl)) (sS (sT rfl (sA (sT1 rfl) sT0)) sB0 sF0) ?_
                refine AL_cons (LR_pick (b := true) (at_tmp 31 _) (at_tmp 35 _) (at_c (v' := Bl false) rfl) rfl) (sS (sA (sT1 rfl) (sA (sT1 rfl) sT0)) sB0 sF0) ?_
                exact AL_nil ⟨rfl, weakB ((sT rfl (sT rfl (sT rfl (sT rfl (sT rfl (sT rfl (sT rfl (sT rfl (sT rfl (sT rfl (sT rfl (sT rfl (sT rfl (sT rfl (sT rfl (sT rfl (sT rfl sT0)))))))))))))))))) (sub_keep (sub_keep sub_nil)) rfl⟩
            refine AL_nil ?_
            exact thenN (cutLeaf (v := ((decide (x5 ≥ b0_0)) && (decide (x5 ≥ b1_0))) && ((x3 ||| x4) == (0#64))) hr (weakB ((sT rfl (sT rfl (sT rfl (sT rfl (sT rfl (sT rfl (sT rfl sT0)))))))) (sub_keep (sub_keep sub_nil)) rfl))
          · rintro x11 hr
            show AW Hfaa.prog _ _ _ ⟨[(0, .inr (.inl (0, 0))), (1, .inr (.inl (1, 0))), (2, .inl (is (U64 a2))), (7, .inl (is (U64 x3))), (8, .inl (is (U64 x4))), (9, .inl (is (I64 x5))), (36, .inl (is (Bl x11)))], [(0, pb 261 (is (I64 b0_0) :: (ar U64 52 x6 ++ []))), (1, pb 261 (is (I64 b1_0) :: (ar U64 52 b1_1 ++ [])))]⟩
            have hr : some out2 = F367_5 N b0_0 b1_0 b1_1 a2 x3 x4 x5 x6 x11 := hr
            refine AW_condT (b := x11) rfl (fun h => ?_) (fun h => ?_)
            · have hr := hr.trans (cond_t h)
              clear h
              refine AW_exit ?_
              refine thenX ?_
              refine blO (by decide) ?_
              refine thenX ?_
              obtain ⟨r', hro, hr⟩ := map_inr hr
              refine thenX (loopOut hro (fun he => ?_))
              rw [he] at hr
              refine blH ?_
              exact thenN (cutLeaf (v := (x4, x6)) hr (weakB ((sT rfl sT0)) (sub_keep (sub_keep sub_nil)) rfl))
            · have hr := hr.trans (cond_f h)
              clear h
              refine AW_skip ?_
              refine thenN ?_
              refine AW_cut (σ := BitVec 64 × BitVec 64) (fun v => ⟨[(0, .inr (.inl (0, 0))), (1, .inr (.inl (1, 0))), (2, .inl (is (U64 a2))), (7, .inl (is (U64 x3))), (8, .inl (is (U64 x4))), (9, .inl (is (I64 x5))), (10, .inr (.inl (10, 0)))], [(0, pb 261 (is (I64 b0_0) :: (ar U64 52 x6 ++ []))), (1, pb 261 (is (I64 b1_0) :: (ar U64 52 b1_1 ++ []))), (10, pb 42 [is (U64 v.1), is (U64 v.2)])]⟩) (fun v => some out2 = F367_6 N b0_0 b1_0 b1_1 a2 x3 x4 x5 x6 v.1 v.2) ?_ ?_
              · skip
                refine AW_region ?_
                refine AL_cons (LR_move (at_tmp 1 _) rfl) (sS (sT1 rfl) sB0 sF0) ?_
                refine AL_cons (LR_move (at_tmp 9 _) rfl) (sS (sT1 rfl) sB0 sF0) ?_
                refine AL_cons (LR_nilCheck (at_tmp 37 _) rfl) (sS (sT1 rfl) sB0 sF0) ?_
                refine AL_cons (LR_fieldAddr (off := 0) (o := 1) (at_tmp 39 _) (fun b w => fa261_1 b 0 w) rfl) (sS (sT1 rfl) sB0 sF0) ?_
                obtain ⟨hg168, hr⟩ := guard_some hr
                refine AL_cons (LR_indexAddr (o := x5.toNat + 1) Hfaa.underlying259 sz30 (at_tmp 40 _) (at_tmp 38 _) (dand hg168) (by first | rfl | omega) rfl) (sS (sA (sT1 rfl) (sT1 rfl)) sB0 sF0) ?_
                refine AL_cons (LR_load (at_tmp 41 _) na30 (gS (gA (ltn (dand hg168)))) rfl) (sS (sT1 rfl) (sB1 rfl) sF0) ?_
                refine AL_cons (LR_move (at_tmp 2 _) rfl) (sS (sT1 rfl) sB0 sF0) ?_
                obtain ⟨y48, hy48, hr⟩ := lt_some hr
                refine AL_cons (LR_call Hfaa.func165 rfl rfl (C165 (b1_1 x5.toNat) a2 y48 hy48) (all_cons (at_tmp 42 _) (all_cons (at_tmp 43 _) all_nil)) rfl) (sS (sA (sT1 rfl) (sA (sT1 rfl) sT0)) sB0 sF0) ?_
                refine AL_cons (zl42 rfl) (sS sT0 sB0 (sF1 rfl)) ?_
                refine AL_cons (LR_store (at_tmp 10 _) (at_tmp 44 _) (cells_agg _) (onC (one_is rfl) (onC (one_is rfl) onN)) sz42 rfl rfl) (sS (sA (sT1 rfl) (sT1 rfl)) (sB1 rfl) sF0) ?_
                refine AL_nil ?_
                exact thenN (cutLeaf (v := (y48.1, y48.2)) hr (weakB ((sT rfl (sT rfl (sT rfl (sT rfl (sT rfl (sT rfl (sT rfl sT0)))))))) (sub_keep (sub_keep (sub_keep sub_nil))) rfl))
              · rintro ⟨x12, x13⟩ hr
                show AW Hfaa.prog _ _ _ ⟨[(0, .inr (.inl (0, 0))), (1, .inr (.inl (1, 0))), (2, .inl (is (U64 a2))), (7, .inl (is (U64 x3))), (8, .inl (is (U64 x4))), (9, .inl (is (I64 x5))), (10, .inr (.inl (10, 0)))], [(0, pb 261 (is (I64 b0_0) :: (ar U64 52 x6 ++ []))), (1, pb 261 (is (I64 b1_0) :: (ar U64 52 b1_1 ++ []))), (10, pb 42 [is (U64 x12), is (U64 x13)])]⟩
                have hr : some out2 = F367_6 N b0_0 b1_0 b1_1 a2 x3 x4 x5 x6 x12 x13 := hr
                refine AW_cut (σ := BitVec 64 × BitVec 64) (fun v => ⟨[(0, .inr (.inl (0, 0))), (1, .inr (.inl (1, 0))), (2, .inl (is (U64 a2))), (8, .inl (is (U64 x4))), (9, .inl (is (I64 x5))), (10, .inr (.inl (10, 0)))], [(0, pb 261 (is (I64 b0_0) :: (ar U64 52 x6 ++ []))), (1, pb 261 (is (I64 b1_0) :: (ar U64 52 b1_1 ++ []))), (10, pb 42 [is (U64 v.1), is (U64 v.2)])]⟩) (fun v => some out2 = F367_7 N b0_0 b1_0 b1_1 a2 x4 x5 x6 v.1 v.2) ?_ ?_
                · skip
                  refine AW_region ?_
                  refine AL_cons (LR_loads (at_tmp 10 _) ag42 sz42 rfl rfl rfl) (sS (sT1 rfl) (sB1 rfl) sF0) ?_
                  refine AL_cons (LR_move (at_tmp 7 _) rfl) (sS (sT1 rfl) sB0 sF0) ?_
                  refine AL_cons (bl42 (parts_cons (i := 1) (off := 1) (at_tmp 47 _) (cells_one (one_is rfl)) rfl rfl parts_nil) rfl rfl) (sS (sA (sT1 rfl) sT0) sB0 sF0) ?_
                  obtain ⟨y47, hy47, hr⟩ := lt_some hr
                  refine AL_cons (LR_call Hfaa.func166 rfl rfl (C166 x12 x13 (0#64) x3 y47 hy47) (all_cons (at_tmp 46 _) (all_cons (at_tmp 48 _) all_nil)) rfl) (sS (sA (sT1 rfl) (sA (sT1 rfl) sT0)) sB0 sF0) ?_
                  refine AL_cons (LR_move (at_tmp 49 _) rfl) (sS (sT1 rfl) sB0 sF0) ?_
                  refine AL_cons (LR_extract (at_tmp 45 _) rfl rfl) (sS (sT1 rfl) sB0 sF0) ?_
                  refine AL_cons (LR_extract (at_tmp 45 _) rfl rfl) (sS (sT1 rfl) sB0 sF0) ?_
                  refine AL_cons (LR_store (at_tmp 10 _) (at_tmp 50 _) (cells_agg _) (onC (one_is rfl) (onC (one_is rfl) onN)) sz42 rfl rfl) (sS (sA (sT1 rfl) (sT1 rfl)) (sB1 rfl) sF0) ?_
                  refine AL_nil ?_
                  exact thenN (cutLeaf (v := (y47.1, y47.2.1)) hr (weakB ((sT rfl (sT rfl (sT rfl (sT rfl (sT rfl (sT rfl sT0))))))) (sub_keep (sub_keep (sub_keep sub_nil))) rfl))
                · rintro ⟨x14, x15⟩ hr
                  show AW Hfaa.prog _ _ _ ⟨[(0, .inr (.inl (0, 0))), (1, .inr (.inl (1, 0))), (2, .inl (is (U64 a2))), (8, .inl (is (U64 x4))), (9, .inl (is (I64 x5))), (10, .inr (.inl (10, 0)))], [(0, pb 261 (is (I64 b0_0) :: (ar U64 52 x6 ++ []))), (1, pb 261 (is (I64 b1_0) :: (ar U64 52 b1_1 ++ []))), (10, pb 42 [is (U64 x14), is (U64 x15)])]⟩
                  have hr : some out2 = F367_7 N b0_0 b1_0 b1_1 a2 x4 x5 x6 x14 x15 := hr
                  refine AW_seq1 ?_
                  refine AW_region ?_
                  refine AL_cons (LR_fieldAddr (off := 0) (o := 0) (at_tmp 10 _) (fun b w => fa42_0 b 0 w) rfl) (sS (sT1 rfl) sB0 sF0) ?_
                  refine AL_cons (LR_load (at_tmp 52 _) na30 rfl rfl) (sS (sT1 rfl) (sB1 rfl) sF0) ?_
                  refine AL_cons (LR_assign (at_tmp 53 _) rfl) (sS (sT1 rfl) sB0 sF0) ?_
                  refine AL_nil ?_
                  refine thenN ?_
                  refine AW_cut (σ := BitVec 64) (fun v => ⟨[(0, .inr (.inl (0, 0))), (1, .inr (.inl (1, 0))), (2, .inl (is (U64 a2))), (8, .inl (is (U64 x4))), (9, .inl (is (I64 x5))), (10, .inr (.inl (10, 0))), (7, .inl (is (U64 x14))), (11, .inl (is (U64 v)))], [(0, pb 261 (is (I64 b0_0) :: (ar U64 52 x6 ++ []))), (1, pb 261 (is (I64 b1_0) :: (ar U64 52 b1_1 ++ []))), (10, pb 42 [is (U64 x14), is (U64 x15)])]⟩) (fun v => some out2 = F367_8 N b0_0 b1_0 b1_1 a2 x4 x5 x6 x14 x15 v) ?_ ?_
                  · skip
                    obtain ⟨hg167, hr⟩ := guard_some hr
                    refine AW_draw mixed
                      (lrC (LR_move (at_tmp 0 _) rfl)
                      (lrC (LR_move (at_tmp 9 _) rfl)
                      (lrC (LR_nilCheck (at_tmp 54 _) rfl)
                      (lrC (LR_fieldAddr (off := 0) (o := 1) (at_tmp 56 _) (fun b w => fa261_1 b 0 w) rfl)
                      (lrC (LR_indexAddr (o := x5.toNat + 1) Hfaa.underlying259 sz30 (at_tmp 57 _) (at_tmp 55 _) (dand hg167) (by first | rfl | omega) rfl)
                      (lrC (LR_load (at_tmp 58 _) na30 (gS (gA (ltn (dand hg167)))) rfl)
                      (lrC (LR_fieldAddr (off := 0) (o := 1) (at_tmp 10 _) (fun b w => fa42_1 b 0 w) rfl)
                      (lrC (LR_load (at_tmp 60 _) na30 rfl rfl)
                      (lrC (LR_bin (at_tmp 59 _) (at_tmp 61 _) (sub_U64 (x6 x5.toNat) x15) rfl)
                      (lrC (LR_assign (at_tmp 62 _) rfl)
                      lrN))))))))))
                      (by kernel_rfl)
                      (saC (sS (sT1 rfl) sB0 sF0) (saC (sS (sT1 rfl) sB0 sF0) (saC (sS (sT1 rfl) sB0 sF0) (saC (sS (sT1 rfl) sB0 sF0) (saC (sS (sA (sT1 rfl) (sT1 rfl)) sB0 sF0) (saC (sS (sT1 rfl) (sB1 rfl) sF0) (saC (sS (sT1 rfl) sB0 sF0) (saC (sS (sT1 rfl) (sB1 rfl) sF0) (saC (sS (sA (sT1 rfl) (sT1 rfl)) sB0 sF0) (saC (sS (sT1 rfl) sB0 sF0) saN)))))))))) ?_
                    exact thenN (cutLeaf (v := (x6 x5.toNat) - x15) hr (weakB ((sT rfl (sT rfl (sT rfl (sT rfl (sT rfl (sT rfl (sT rfl (sT rfl sT0))))))))) (sub_keep (sub_keep (sub_keep sub_nil))) rfl))
                  · rintro x16 hr
                    show AW Hfaa.prog _ _ _ ⟨[(0, .inr (.inl (0, 0))), (1, .inr (.inl (1, 0))), (2, .inl (is (U64 a2))), (8, .inl (is (U64 x4))), (9, .inl (is (I64 x5))), (10, .inr (.inl (10, 0))), (7, .inl (is (U64 x14))), (11, .inl (is (U64 x16)))], [(0, pb 261 (is (I64 b0_0) :: (ar U64 52 x6 ++ []))), (1, pb 261 (is (I64 b1_0) :: (ar U64 52 b1_1 ++ []))), (10, pb 42 [is (U64 x14), is (U64 x15)])]⟩
                    have hr : some out2 = F367_8 N b0_0 b1_0 b1_1 a2 x4 x5 x6 x14 x15 x16 := hr
                    refine AW_cut (σ := Bool) (fun v => ⟨[(0, .inr (.inl (0, 0))), (1, .inr (.inl (1, 0))), (2, .inl (is (U64 a2))), (8, .inl (is (U64 x4))), (9, .inl (is (I64 x5))), (7, .inl (is (U64 x14))), (11, .inl (is (U64 x16))), (12, .inl (is (Bl v)))], [(0, pb 261 (is (I64 b0_0) :: (ar U64 52 x6 ++ []))), (1, pb 261 (is (I64 b1_0) :: (ar U64 52 b1_1 ++ [])))]⟩) (fun v => some out2 = F367_9 N b0_0 b1_0 b1_1 a2 x4 x5 x6 x14 x16 v) ?_ ?_
                    · skip
                      rcases bool_em (decide ((x6 x5.toNat).toNat < x15.toNat)) with hb24 | hb24
                      · have hr := hr.trans (cond_f hb24)
                        obtain ⟨hg165, hr⟩ := guard_some hr
                        refine AW_draw mixed
                          (lrC (LR_move (at_tmp 0 _) rfl)
                          (lrC (LR_move (at_tmp 9 _) rfl)
                          (lrC (LR_nilCheck (at_tmp 63 _) rfl)
                          (lrC (LR_fieldAddr (off := 0) (o := 1) (at_tmp 65 _) (fun b w => fa261_1 b 0 w) rfl)
                          (lrC (LR_indexAddr (o := x5.toNat + 1) Hfaa.underlying259 sz30 (at_tmp 66 _) (at_tmp 64 _) (dand hg165) (by first | rfl | omega) rfl)
                          (lrC (LR_load (at_tmp 67 _) na30 (gS (gA (ltn (dand hg165)))) rfl)
                          (lrC (LR_fieldAddr (off := 0) (o := 1) (at_tmp 10 _) (fun b w => fa42_1 b 0 w) rfl)
                          (lrC (LR_load (at_tmp 69 _) na30 rfl rfl)
                          (lrC (LR_asB (LR_bin (at_tmp 68 _) (at_tmp 70 _) (lss_U64 (x6 x5.toNat) x15) rfl) hb24)
                          (lrC (LR_move (at_tmp 71 _) rfl)
                          (lrC (LR_on rfl rfl rfl (LR_move (at_tmp 11 _) rfl))
                          (lrC (LR_on rfl rfl rfl (LR_move (at_tmp 8 _) rfl))
                          (lrC (LR_on rfl rfl rfl (LR_bin (at_tmp 73 _) (at_tmp 74 _) (lss_U64 x16 x4) rfl))
                          (lrC (LR_pick (b := false) (at_tmp 72 _) (at_c (v' := Bl true) rfl) (at_tmp 75 _) rfl)
                          (lrC (LR_assign (at_tmp 76 _) rfl)
                          lrN)))))))))))))))
                          (by kernel_rfl)
                          (saC (sS (sT1 rfl) sB0 sF0) (saC (sS (sT1 rfl) sB0 sF0) (saC (sS (sT1 rfl) sB0 sF0) (saC (sS (sT1 rfl) sB0 sF0) (saC (sS (sA (sT1 rfl) (sT1 rfl)) sB0 sF0) (saC (sS (sT1 rfl) (sB1 rfl) sF0) (saC (sS (sT1 rfl) sB0 sF0) (saC (sS (sT1 rfl) (sB1 rfl) sF0) (saC (sS (sA (sT1 rfl) (sT1 rfl)) sB0 sF0) (saC (sS (sT1 rfl) sB0 sF0) (saC (sS (sT rfl (sT1 rfl)) sB0 sF0) (saC (sS (sT rfl (sT1 rfl)) sB0 sF0) (saC (sS (sT rfl (sA (sT1 rfl) (sT1 rfl))) sB0 sF0) (saC (sS (sA (sT1 rfl) (sA sT0 (sT1 rfl))) sB0 sF0) (saC (sS (sT1 rfl) sB0 sF0) saN))))))))))))))) ?_
                        exact thenN (cutLeaf (v := decide (x16.toNat < x4.toNat)) hr (weakB ((sT rfl (sT rfl (sT rfl (sT rfl (sT rfl (sT rfl (sT rfl (sT rfl sT0))))))))) (sub_keep (sub_keep (sub_drop sub_nil))) rfl))
                      · have hr := hr.trans (cond_t hb24)
                        obtain ⟨hg166, hr⟩ := guard_some hr
                        refine AW_draw mixed
                          (lrC (LR_move (at_tmp 0 _) rfl)
                          (lrC (LR_move (at_tmp 9 _) rfl)
                          (lrC (LR_nilCheck (at_tmp 63 _) rfl)
                          (lrC (LR_fieldAddr (off := 0) (o := 1) (at_tmp 65 _) (fun b w => fa261_1 b 0 w) rfl)
                          (lrC (LR_indexAddr (o := x5.toNat + 1) Hfaa.underlying259 sz30 (at_tmp 66 _) (at_tmp 64 _) (dand hg166) (by first | rfl | omega) rfl)
                          (lrC (LR_load (at_tmp 67 _) na30 (gS (gA (ltn (dand hg166)))) rfl)
                          (lrC (LR_fieldAddr (off := 0) (o := 1) (at_tmp 10 _) (fun b w => fa42_1 b 0 w) rfl)
                          (lrC (LR_load (at_tmp 69 _) na30 rfl rfl)
                          (lrC (LR_asB (LR_bin (at_tmp 68 _) (at_tmp 70 _) (lss_U64 (x6 x5.toNat) x15) rfl) hb24)
                          (lrC (LR_move (at_tmp 71 _) rfl)
                          (lrC (LR_off (b := true) rfl rfl rfl rfl)
                          (lrC (LR_off (b := true) rfl rfl rfl rfl)
                          (lrC (LR_off (b := true) rfl rfl rfl rfl)
                          (lrC (LR_pick (b := true) (at_tmp 72 _) (at_c (v' := Bl true) rfl) (at_tmp 75 _) rfl)
                          (lrC (LR_assign (at_tmp 76 _) rfl)
                          lrN)))))))))))))))
                          (by kernel_rfl)
                          (saC (sS (sT1 rfl) sB0 sF0) (saC (sS (sT1 rfl) sB0 sF0) (saC (sS (sT1 rfl) sB0 sF0) (saC (sS (sT1 rfl) sB0 sF0) (saC (sS (sA (sT1 rfl) (sT1 rfl)) sB0 sF0) (saC (sS (sT1 rfl) (sB1 rfl) sF0) (saC (sS (sT1 rfl) sB0 sF0) (saC (sS (sT1 rfl) (sB1 rfl) sF0) (saC (sS (sA (sT1 rfl) (sT1 rfl)) sB0 sF0) (saC (sS (sT1 rfl) sB0 sF0) (saC (sS (sT1 rfl) sB0 sF0) (saC (sS (sT1 rfl) sB0 sF0) (saC (sS (sT1 rfl) sB0 sF0) (saC (sS (sA (sT1 rfl) (sA sT0 (sT1 rfl))) sB0 sF0) (saC (sS (sT1 rfl) sB0 sF0) saN))))))))))))))) ?_
                        exact thenN (cutLeaf (v := true) hr (weakB ((sT rfl (sT rfl (sT rfl (sT rfl (sT rfl (sT rfl (sT rfl (sT rfl sT0))))))))) (sub_keep (sub_keep (sub_drop sub_nil))) rfl))
                    · rintro x17 hr
                      show AW Hfaa.prog _ _ _ ⟨[(0, .inr (.inl (0, 0))), (1, .inr (.inl (1, 0))), (2, .inl (is (U64 a2))), (8, .inl (is (U64 x4))), (9, .inl (is (I64 x5))), (7, .inl (is (U64 x14))), (11, .inl (is (U64 x16))), (12, .inl (is (Bl x17)))], [(0, pb 261 (is (I64 b0_0) :: (ar U64 52 x6 ++ []))), (1, pb 261 (is (I64 b1_0) :: (ar U64 52 b1_1 ++ [])))]⟩
                      have hr : some out2 = F367_9 N b0_0 b1_0 b1_1 a2 x4 x5 x6 x14 x16 x17 := hr
                      refine AW_cut (σ := (Nat → BitVec 64)) (fun v => ⟨[(0, .inr (.inl (0, 0))), (1, .inr (.inl (1, 0))), (2, .inl (is (U64 a2))), (9, .inl (is (I64 x5))), (7, .inl (is (U64 x14))), (12, .inl (is (Bl x17)))], [(0, pb 261 (is (I64 b0_0) :: (ar U64 52 v ++ []))), (1, pb 261 (is (I64 b1_0) :: (ar U64 52 b1_1 ++ [])))]⟩) (fun v => some out2 = F367_10 N b0_0 b1_0 b1_1 a2 x5 x14 x17 v) ?_ ?_
                      · skip
                        refine AW_region ?_
                        refine AL_cons (LR_move (at_tmp 0 _) rfl) (sS (sT1 rfl) sB0 sF0) ?_
                        refine AL_cons (LR_move (at_tmp 9 _) rfl) (sS (sT1 rfl) sB0 sF0) ?_
                        refine AL_cons (LR_move (at_tmp 11 _) rfl) (sS (sT1 rfl) sB0 sF0) ?_
                        refine AL_cons (LR_move (at_tmp 8 _) rfl) (sS (sT1 rfl) sB0 sF0) ?_
                        refine AL_cons (LR_bin (at_tmp 79 _) (at_tmp 80 _) (sub_U64 x16 x4) rfl) (sS (sA (sT1 rfl) (sT1 rfl)) sB0 sF0) ?_
                        refine AL_cons (LR_nilCheck (at_tmp 77 _) rfl) (sS (sT1 rfl) sB0 sF0) ?_
                        refine AL_cons (LR_fieldAddr (off := 0) (o := 1) (at_tmp 82 _) (fun b w => fa261_1 b 0 w) rfl) (sS (sT1 rfl) sB0 sF0) ?_
                        obtain ⟨hg162, hr⟩ := guard_some hr
                        refine AL_cons (LR_indexAddr (o := x5.toNat + 1) Hfaa.underlying259 sz30 (at_tmp 83 _) (at_tmp 78 _) (dand hg162) (by first | rfl | omega) rfl) (sS (sA (sT1 rfl) (sT1 rfl)) sB0 sF0) ?_
                        refine AL_cons (LR_storeA (at_tmp 84 _) (at_tmp 81 _) (cells_one (one_is rfl)) (onC (one_is rfl) onN) sz30 rfl (ble_dyn (lnC (lnA ln0)) (by have := (ltn (dand hg162)); omega)) (stS (stA (ltn (dand hg162))))) (sS (sA (sT1 rfl) (sT1 rfl)) (sB1 rfl) sF0) ?_
                        refine AL_nil ?_
                        exact thenN (cutLeaf (v := upd x6 x5.toNat (x16 - x4)) hr (weakB ((sT rfl (sT rfl (sT rfl (sT rfl (sT rfl (sT rfl sT0))))))) (sub_keep (sub_keep sub_nil)) rfl))
                      · rintro x18 hr
                        show AW Hfaa.prog _ _ _ ⟨[(0, .inr (.inl (0, 0))), (1, .inr (.inl (1, 0))), (2, .inl (is (U64 a2))), (9, .inl (is (I64 x5))), (7, .inl (is (U64 x14))), (12, .inl (is (Bl x17)))], [(0, pb 261 (is (I64 b0_0) :: (ar U64 52 x18 ++ []))), (1, pb 261 (is (I64 b1_0) :: (ar U64 52 b1_1 ++ [])))]⟩
                        have hr : some out2 = F367_10 N b0_0 b1_0 b1_1 a2 x5 x14 x17 x18 := hr
                        refine AW_seq1 ?_
                        refine AW_region ?_
                        refine AL_cons (LR_assign (at_c (v' := U64 (0#64)) rfl) rfl) (sS sT0 sB0 sF0) ?_
                        refine AL_nil ?_
                        refine thenN ?_
                        refine AW_seq1 ?_
                        refine AW_region ?_
                        refine AL_cons (LR_move (at_tmp 12 _) rfl) (sS (sT1 rfl) sB0 sF0) ?_
                        refine AL_nil ?_
                        refine thenN ?_
                        refine AW_condT (b := x17) rfl (fun h => ?_) (fun h => ?_)
                        · have hr := hr.trans (cond_t h)
                          clear h
                          refine AW_region ?_
                          refine AL_cons (LR_assign (at_c (v' := U64 (1#64)) rfl) rfl) (sS sT0 sB0 sF0) ?_
                          refine AL_nil ?_
                          refine blN ?_
                          exact thenN (cutLeaf (v := (x14, 1#64, x18)) hr (weakB ((sT rfl (sT rfl (sT rfl (sT rfl (sT rfl (sT rfl sT0))))))) (sub_keep (sub_keep sub_nil)) rfl))
                        · have hr := hr.trans (cond_f h)
                          clear h
                          refine AW_skip ?_
                          refine blN ?_
                          exact thenN (cutLeaf (v := (x14, 0#64, x18)) hr (weakB ((sT rfl (sT rfl (sT rfl (sT rfl (sT rfl (sT rfl sT0))))))) (sub_keep (sub_keep sub_nil)) rfl))
        · rintro ⟨x8, x9, x10⟩ hr
          show AW Hfaa.prog _ _ _ ⟨[(0, .inr (.inl (0, 0))), (1, .inr (.inl (1, 0))), (2, .inl (is (U64 a2))), (9, .inl (is (I64 x5))), (7, .inl (is (U64 x8))), (8, .inl (is (U64 x9)))], [(0, pb 261 (is (I64 b0_0) :: (ar U64 52 x10 ++ []))), (1, pb 261 (is (I64 b1_0) :: (ar U64 52 b1_1 ++ [])))]⟩
          have hr : some out2 = F367_4 N b0_0 b1_0 b1_1 a2 x5 x8 x9 x10 := hr
          refine AW_region ?_
          refine AL_cons (LR_move (at_tmp 9 _) rfl) (sS (sT1 rfl) sB0 sF0) ?_
          refine AL_cons (LR_bin (at_tmp 15 _) (at_c (v' := I64 1) rfl) (add_I64 x5 1) rfl) (sS (sA (sT1 rfl) sT0) sB0 sF0) ?_
          refine AL_cons (LR_assign (at_tmp 16 _) rfl) (sS (sT1 rfl) sB0 sF0) ?_
          refine AL_nil ?_
          exact thenN (loopNext (x' := (x8, x9, w64 (x5 + 1), x10)) hr (weakB ((sT rfl (sT rfl (sT rfl (sT rfl (sT rfl (sT rfl sT0))))))) (sub_keep (sub_keep sub_nil)) rfl))
      · have hr := hr.trans (cond_f h)
        clear h
        refine AW_exit ?_
        refine thenX ?_
        obtain ⟨r', hro, hr⟩ := map_inr hr
        refine thenX (loopOut hro (fun he => ?_))
        rw [he] at hr
        refine blH ?_
        exact thenN (cutLeaf (v := (x4, x6)) hr (weakB ((sT rfl sT0)) (sub_keep (sub_keep sub_nil)) rfl))
  · rintro ⟨x1, x2⟩ hr
    show AW Hfaa.prog _ _ _ ⟨[(8, .inl (is (U64 x1)))], [(0, pb 261 (is (I64 b0_0) :: (ar U64 52 x2 ++ []))), (1, pb 261 (is (I64 b1_0) :: (ar U64 52 b1_1 ++ [])))]⟩
    have hr : some r = F367_1 N b0_0 b1_0 b1_1 x1 x2 := hr
    refine AW_seq1 ?_
    refine AW_region ?_
    refine AL_cons (LR_move (at_tmp 8 _) rfl) (sS (sT1 rfl) sB0 sF0) ?_
    refine AL_cons (LR_bin (at_tmp 86 _) (at_c (v' := U64 (0#64)) rfl) (neq_U64 x1 (0#64)) rfl) (sS (sA (sT1 rfl) sT0) sB0 sF0) ?_
    refine AL_cons (LR_assign (at_tmp 87 _) rfl) (sS (sT1 rfl) sB0 sF0) ?_
    refine AL_nil ?_
    refine thenN ?_
    refine AW_ret ?_
    obtain rfl := Option.some.inj hr
    exact ⟨res1 rfl (rvT rfl), (sub_keep (sub_keep sub_nil))⟩
/-- (*parse/slow.big).add -/
def F368_1 (N : Nat) (b0_0 : Int) (b1_0 : Int) (b1_1 : Nat → BitVec 64) (x1 : Bool) (x2 : Nat → BitVec 64) : Option (Bool × Int × (Nat → BitVec 64) × Int × (Nat → BitVec 64)) := some (x1, b0_0, x2, b1_0, b1_1)
def F368_4 (N : Nat) (b0_0 : Int) (b1_0 : Int) (b1_1 : Nat → BitVec 64) (x4 : Int) (x7 : Bool) (x8 : Nat → BitVec 64) : Option ((Bool × Int × (Nat → BitVec 64)) ⊕ (Bool × Int × (Nat → BitVec 64) × Int × (Nat → BitVec 64))) := some (.inl ((x7, w64 (x4 + 1), x8)))
def F368_8 (N : Nat) (b0_0 : Int) (b1_0 : Int) (b1_1 : Nat → BitVec 64) (x4 : Int) (x12 : BitVec 64) (x13 : BitVec 64) (x14 : Nat → BitVec 64) : Option ((Bool × Int × (Nat → BitVec 64)) ⊕ (Bool × Int × (Nat → BitVec 64) × Int × (Nat → BitVec 64))) := F368_4 N b0_0 b1_0 b1_1 x4 (x12 != (0#64)) x14
def F368_7 (N : Nat) (b0_0 : Int) (b1_0 : Int) (b1_1 : Nat → BitVec 64) (x4 : Int) (x5 : Nat → BitVec 64) (x12 : BitVec 64) (x13 : BitVec 64) : Option ((Bool × Int × (Nat → BitVec 64)) ⊕ (Bool × Int × (Nat → BitVec 64) × Int × (Nat → BitVec 64))) := bif (decide (0 ≤ x4) && decide (x4 < (52 : Int))) then F368_8 N b0_0 b1_0 b1_1 x4 x12 x13 (upd x5 x4.toNat x13) else none
def F368_6 (N : Nat) (b0_0 : Int) (b1_0 : Int) (b1_1 : Nat → BitVec 64) (x4 : Int) (x5 : Nat → BitVec 64) (x10 : BitVec 64) (x11 : BitVec 64) : Option ((Bool × Int × (Nat → BitVec 64)) ⊕ (Bool × Int × (Nat → BitVec 64) × Int × (Nat → BitVec 64))) := bif (decide (0 ≤ x4) && decide (x4 < (52 : Int))) then lt (F166 x10 x11 (0#64) (b1_1 x4.toNat)) fun y47 => F368_7 N b0_0 b1_0 b1_1 x4 x5 y47.1 y47.2.1 else none
def F368_5 (N : Nat) (b0_0 : Int) (b1_0 : Int) (b1_1 : Nat → BitVec 64) (x3 : Bool) (x4 : Int) (x5 : Nat → BitVec 64) (x9 : BitVec 64) : Option ((Bool × Int × (Nat → BitVec 64)) ⊕ (Bool × Int × (Nat → BitVec 64) × Int × (Nat → BitVec 64))) := bif x3 then lt (F166 (0#64) x9 (0#64) (1#64)) fun y48 => F368_6 N b0_0 b1_0 b1_1 x4 x5 y48.1 y48.2.1 else F368_6 N b0_0 b1_0 b1_1 x4 x5 (0#64) x9
def F368_3 (N : Nat) (b0_0 : Int) (b1_0 : Int) (b1_1 : Nat → BitVec 64) (x3 : Bool) (x4 : Int) (x5 : Nat → BitVec 64) (x6 : Bool) : Option ((Bool × Int × (Nat → BitVec 64)) ⊕ (Bool × Int × (Nat → BitVec 64) × Int × (Nat → BitVec 64))) := bif x6 then bif (decide (0 ≤ x4) && decide (x4 < (52 : Int))) then F368_5 N b0_0 b1_0 b1_1 x3 x4 x5 (x5 x4.toNat) else none else (F368_1 N b0_0 b1_0 b1_1 x3 x5).map Sum.inr
def F368_L2b (N : Nat) (b0_0 : Int) (b1_0 : Int) (b1_1 : Nat → BitVec 64) (x3 : Bool) (x4 : Int) (x5 : Nat → BitVec 64) : Option ((Bool × Int × (Nat → BitVec 64)) ⊕ (Bool × Int × (Nat → BitVec 64) × Int × (Nat → BitVec 64))) := F368_3 N b0_0 b1_0 b1_1 x3 x4 x5 (decide (x4 < 52))
def F368_L2 (N : Nat) (b0_0 : Int) (b1_0 : Int) (b1_1 : Nat → BitVec 64) : (Bool × Int × (Nat → BitVec 64)) → Option ((Bool × Int × (Nat → BitVec 64)) ⊕ (Bool × Int × (Nat → BitVec 64) × Int × (Nat → BitVec 64))) := fun v => F368_L2b N b0_0 b1_0 b1_1 v.1 v.2.1 v.2.2
def F368 (N : Nat) (b0_0 : Int) (b0_1 : Nat → BitVec 64) (b1_0 : Int) (b1_1 : Nat → BitVec 64) : Option (Bool × Int × (Nat → BitVec 64) × Int × (Nat → BitVec 64)) := iterL (F368_L2 N b0_0 b1_0 b1_1) N (false, 0, b0_1)
theorem C368 (N : Nat) (b0_0 : Int) (b0_1 : Nat → BitVec 64) (b1_0 : Int) (b1_1 : Nat → BitVec 64) (r : Bool × Int × (Nat → BitVec 64) × Int × (Nat → BitVec 64)) (hr : some r = F368 N b0_0 b0_1 b1_0 b1_1) : FnB Hfaa.prog 368 [.inr (.inl (0, 0)), .inr (.inl (1, 0))] [(0, pb 261 (is (I64 b0_0) :: (ar U64 52 b0_1 ++ []))), (1, pb 261 (is (I64 b1_0) :: (ar U64 52 b1_1 ++ [])))] (is (Bl r.1)) [(0, pb 261 (is (I64 r.2.1) :: (ar U64 52 r.2.2.1 ++ []))), (1, pb 261 (is (I64 r.2.2.2.1) :: (ar U64 52 r.2.2.2.2 ++ [])))] := by
  refine fnB_intro Hfaa.func368 rfl rfl rfl rfl rfl ⟨hf_pb _ _, hf_pb _ _, trivial⟩ ?_
  intro bn0 w0 H0
  refine AW_seq1 ?_
  refine AW_region ?_
  refine AL_cons (LR_assign (at_c (v' := Bl false) rfl) rfl) (sS sT0 sB0 sF0) ?_
  refine AL_nil ?_
  refine thenN ?_
  refine AW_seq1 ?_
  refine AW_region ?_
  refine AL_cons (LR_assign (at_c (v' := Bl false) rfl) rfl) (sS sT0 sB0 sF0) ?_
  refine AL_nil ?_
  refine thenN ?_
  refine AW_cut (σ := Bool × (Nat → BitVec 64)) (fun v => ⟨[(5, .inl (is (Bl v.1)))], [(0, pb 261 (is (I64 b0_0) :: (ar U64 52 v.2 ++ []))), (1, pb 261 (is (I64 b1_0) :: (ar U64 52 b1_1 ++ [])))]⟩) (fun v => some r = F368_1 N b0_0 b1_0 b1_1 v.1 v.2) ?_ ?_
  · skip
    refine AW_seq1 ?_
    refine AW_region ?_
    refine AL_cons (LR_assign (at_c (v' := I64 0) rfl) rfl) (sS sT0 sB0 sF0) ?_
    refine AL_nil ?_
    refine thenN ?_
    refine AW_block ?_
    refine AW_iterR (σ := Bool × Int × (Nat → BitVec 64)) (r := r) (x0 := (false, 0, b0_1)) (emb := fun v => ⟨[(0, .inr (.inl (0, 0))), (1, .inr (.inl (1, 0))), (5, .inl (is (Bl v.1))), (6, .inl (is (I64 v.2.1)))], [(0, pb 261 (is (I64 b0_0) :: (ar U64 52 v.2.2 ++ []))), (1, pb 261 (is (I64 b1_0) :: (ar U64 52 b1_1 ++ [])))]⟩) ?_ hr ?_
    · exact weakB ((sT rfl (sT rfl (sT rfl (sT rfl sT0))))) (sub_keep (sub_keep sub_nil)) rfl
    rintro ⟨x3, x4, x5⟩ out2 hr
    show AW Hfaa.prog _ _ _ ⟨[(0, .inr (.inl (0, 0))), (1, .inr (.inl (1, 0))), (5, .inl (is (Bl x3))), (6, .inl (is (I64 x4)))], [(0, pb 261 (is (I64 b0_0) :: (ar U64 52 x5 ++ []))), (1, pb 261 (is (I64 b1_0) :: (ar U64 52 b1_1 ++ [])))]⟩
    have hr : some out2 = F368_L2b N b0_0 b1_0 b1_1 x3 x4 x5 := hr
    refine AW_seq1 ?_
    refine AW_cut (σ := Bool) (fun v => ⟨[(0, .inr (.inl (0, 0))), (1, .inr (.inl (1, 0))), (5, .inl (is (Bl x3))), (6, .inl (is (I64 x4))), (9, .inl (is (Bl v)))], [(0, pb 261 (is (I64 b0_0) :: (ar U64 52 x5 ++ []))), (1, pb 261 (is (I64 b1_0) :: (ar U64 52 b1_1 ++ [])))]⟩) (fun v => some out2 = F368_3 N b0_0 b1_0 b1_1 x3 x4 x5 v) ?_ ?_
    · skip
      refine AW_region ?_
      refine AL_cons (LR_move (at_tmp 6 _) rfl) (sS (sT1 rfl) sB0 sF0) ?_
      refine AL_cons (LR_bin (at_tmp 8 _) (at_c (v' := I64 52) rfl) (lss_I64 x4 52) rfl) (sS (sA (sT1 rfl) sT0) sB0 sF0) ?_
      refine AL_nil ?_
      exact thenN (cutLeaf (v := decide (x4 < 52)) hr (weakB ((sT rfl (sT rfl (sT rfl (sT rfl (sT rfl sT0)))))) (sub_keep (sub_keep sub_nil)) rfl))
    · rintro x6 hr
      show AW Hfaa.prog _ _ _ ⟨[(0, .inr (.inl (0, 0))), (1, .inr (.inl (1, 0))), (5, .inl (is (Bl x3))), (6, .inl (is (I64 x4))), (9, .inl (is (Bl x6)))], [(0, pb 261 (is (I64 b0_0) :: (ar U64 52 x5 ++ []))), (1, pb 261 (is (I64 b1_0) :: (ar U64 52 b1_1 ++ [])))]⟩
      have hr : some out2 = F368_3 N b0_0 b1_0 b1_1 x3 x4 x5 x6 := hr
      refine AW_condT (b := x6) rfl (fun h => ?_) (fun h => ?_)
      · have hr := hr.trans (cond_t h)
        clear h
        refine AW_skip ?_
        refine thenN ?_
        refine AW_cut (σ := Bool × (Nat → BitVec 64)) (fun v => ⟨[(0, .inr (.inl (0, 0))), (1, .inr (.inl (1, 0))), (6, .inl (is (I64 x4))), (5, .inl (is (Bl v.1)))], [(0, pb 261 (is (I64 b0_0) :: (ar U64 52 v.2 ++ []))), (1, pb 261 (is (I64 b1_0) :: (ar U64 52 b1_1 ++ [])))]⟩) (fun v => some out2 = F368_4 N b0_0 b1_0 b1_1 x4 v.1 v.2) ?_ ?_
        · skip
          refine AW_block ?_
          refine AW_cut (σ := BitVec 64) (fun v => ⟨[(0, .inr (.inl (0, 0))), (1, .inr (.inl (1, 0))), (5, .inl (is (Bl x3))), (6, .inl (is (I64 x4))), (7, .inr (.inl (7, 0)))], [(0, pb 261 (is (I64 b0_0) :: (ar U64 52 x5 ++ []))), (1, pb 261 (is (I64 b1_0) :: (ar U64 52 b1_1 ++ []))), (7, pb 42 [is (U64 (0#64)), is (U64 v)])]⟩) (fun v => some out2 = F368_5 N b0_0 b1_0 b1_1 x3 x4 x5 v) ?_ ?_
          · skip
            refine AW_region ?_
            refine AL_cons (LR_move (at_tmp 0 _) rfl) (sS (sT1 rfl) sB0 sF0) ?_
            refine AL_cons (LR_move (at_tmp 6 _) rfl) (sS (sT1 rfl) sB0 sF0) ?_
            refine AL_cons (LR_nilCheck (at_tmp 12 _) rfl) (sS (sT1 rfl) sB0 sF0) ?_
            refine AL_cons (LR_fieldAddr (off := 0) (o := 1) (at_tmp 14 _) (fun b w => fa261_1 b 0 w) rfl) (sS (sT1 rfl) sB0 sF0) ?_
            obtain ⟨hg72, hr⟩ := guard_some hr
            refine AL_cons (LR_indexAddr (o := x4.toNat + 1) Hfaa.underlying259 sz30 (at_tmp 15 _) (at_tmp 13 _) (dand hg72) (by first | rfl | omega) rfl) (sS (sA (sT1 rfl) (sT1 rfl)) sB0 sF0) ?_
            refine AL_cons (LR_load (at_tmp 16 _) na30 (gS (gA (ltn (dand hg72)))) rfl) (sS (sT1 rfl) (sB1 rfl) sF0) ?_
            refine AL_cons (bl42 (parts_cons (i := 1) (off := 1) (at_tmp 17 _) (cells_one (one_is rfl)) rfl rfl parts_nil) rfl rfl) (sS (sA (sT1 rfl) sT0) sB0 sF0) ?_
            refine AL_cons (zl42 rfl) (sS sT0 sB0 (sF1 rfl)) ?_
            refine AL_cons (LR_store (at_tmp 7 _) (at_tmp 18 _) (cells_agg _) (onC (one_is rfl) (onC (one_is rfl) onN)) sz42 rfl rfl) (sS (sA (sT1 rfl) (sT1 rfl)) (sB1 rfl) sF0) ?_
            refine AL_nil ?_
            exact thenN (cutLeaf (v := x5 x4.toNat) hr (weakB ((sT rfl (sT rfl (sT rfl (sT rfl (sT rfl sT0)))))) (sub_keep (sub_keep (sub_keep sub_nil))) rfl))
          · rintro x9 hr
            show AW Hfaa.prog _ _ _ ⟨[(0, .inr (.inl (0, 0))), (1, .inr (.inl (1, 0))), (5, .inl (is (Bl x3))), (6, .inl (is (I64 x4))), (7, .inr (.inl (7, 0)))], [(0, pb 261 (is (I64 b0_0) :: (ar U64 52 x5 ++ []))), (1, pb 261 (is (I64 b1_0) :: (ar U64 52 b1_1 ++ []))), (7, pb 42 [is (U64 (0#64)), is (U64 x9)])]⟩
            have hr : some out2 = F368_5 N b0_0 b1_0 b1_1 x3 x4 x5 x9 := hr
            refine AW_cut (σ := BitVec 64 × BitVec 64) (fun v => ⟨[(0, .inr (.inl (0, 0))), (1, .inr (.inl (1, 0))), (6, .inl (is (I64 x4))), (7, .inr (.inl (7, 0)))], [(0, pb 261 (is (I64 b0_0) :: (ar U64 52 x5 ++ []))), (1, pb 261 (is (I64 b1_0) :: (ar U64 52 b1_1 ++ []))), (7, pb 42 [is (U64 v.1), is (U64 v.2)])]⟩) (fun v => some out2 = F368_6 N b0_0 b1_0 b1_1 x4 x5 v.1 v.2) ?_ ?_
            · skip
              refine AW_seq1 ?_
              refine AW_region ?_
              refine AL_cons (LR_move (at_tmp 5 _) rfl) (sS (sT1 rfl) sB0 sF0) ?_
              refine AL_nil ?_
              refine thenN ?_
              refine AW_condT (b := x3) rfl (fun h => ?_) (fun h => ?_)
              · have hr := hr.trans (cond_t h)
                clear h
                refine AW_region ?_
                refine AL_cons (LR_loads (at_tmp 7 _) ag42 sz42 rfl rfl rfl) (sS (sT1 rfl) (sB1 rfl) sF0) ?_
                refine AL_cons (bl42 (parts_cons (i := 1) (off := 1) (at_c (v' := U64 (1#64)) rfl) (cells_one (one_is rfl)) rfl rfl parts_nil) rfl rfl) (sS (sA sT0 sT0) sB0 sF0) ?_
                obtain ⟨y48, hy48, hr⟩ := lt_some hr
                refine AL_cons (LR_call Hfaa.func166 rfl rfl (C166 (0#64) x9 (0#64) (1#64) y48 hy48) (all_cons (at_tmp 21 _) (all_cons (at_tmp 22 _) all_nil)) rfl) (sS (sA (sT1 rfl) (sA (sT1 rfl) sT0)) sB0 sF0) ?_
                refine AL_cons (LR_move (at_tmp 23 _) rfl) (sS (sT1 rfl) sB0 sF0) ?_
                refine AL_cons (LR_extract (at_tmp 20 _) rfl rfl) (sS (sT1 rfl) sB0 sF0) ?_
                refine AL_cons (LR_extract (at_tmp 20 _) rfl rfl) (sS (sT1 rfl) sB0 sF0) ?_
                refine AL_cons (LR_store (at_tmp 7 _) (at_tmp 24 _) (cells_agg _) (onC (one_is rfl) (onC (one_is rfl) onN)) sz42 rfl rfl) (sS (sA (sT1 rfl) (sT1 rfl)) (sB1 rfl) sF0) ?_
                refine AL_nil ?_
                exact thenN (cutLeaf (v := (y48.1, y48.2.1)) hr (weakB ((sT rfl (sT rfl (sT rfl (sT rfl sT0))))) (sub_keep (sub_keep (sub_keep sub_nil))) rfl))
              · have hr := hr.trans (cond_f h)
                clear h
                refine AW_skip ?_
                exact thenN (cutLeaf (v := (0#64, x9)) hr (weakB ((sT rfl (sT rfl (sT rfl (sT rfl sT0))))) (sub_keep (sub_keep (sub_keep sub_nil))) rfl))
            · rintro ⟨x10, x11⟩ hr
              show AW Hfaa.prog _ _ _ ⟨[(0, .inr (.inl (0, 0))), (1, .inr (.inl (1, 0))), (6, .inl (is (I64 x4))), (7, .inr (.inl (7, 0)))], [(0, pb 261 (is (I64 b0_0) :: (ar U64 52 x5 ++ []))), (1, pb 261 (is (I64 b1_0) :: (ar U64 52 b1_1 ++ []))), (7, pb 42 [is (U64 x10), is (U64 x11)])]⟩
              have hr : some out2 = F368_6 N b0_0 b1_0 b1_1 x4 x5 x10 x11 := hr
              refine AW_cut (σ := BitVec 64 × BitVec 64) (fun v => ⟨[(0, .inr (.inl (0, 0))), (1, .inr (.inl (1, 0))), (6, .inl (is (I64 x4))), (7, .inr (.inl (7, 0)))], [(0, pb 261 (is (I64 b0_0) :: (ar U64 52 x5 ++ []))), (1, pb 261 (is (I64 b1_0) :: (ar U64 52 b1_1 ++ []))), (7, pb 42 [is (U64 v.1), is (U64 v.2)])]⟩) (fun v => some out2 = F368_7 N b0_0 b1_0 b1_1 x4 x5 v.1 v.2) ?_ ?_
              · skip
                obtain ⟨hg71, hr⟩ := guard_some hr
                obtain ⟨y47, hy47, hr⟩ := lt_some hr
                refine AW_draw mixed
                  (lrC (LR_loads (at_tmp 7 _) ag42 sz42 rfl rfl rfl)
                  (lrC (LR_move (at_tmp 1 _) rfl)
                  (lrC (LR_move (at_tmp 6 _) rfl)
                  (lrC (LR_nilCheck (at_tmp 28 _) rfl)
                  (lrC (LR_fieldAddr (off := 0) (o := 1) (at_tmp 30 _) (fun b w => fa261_1 b 0 w) rfl)
                  (lrC (LR_indexAddr (o := x4.toNat + 1) Hfaa.underlying259 sz30 (at_tmp 31 _) (at_tmp 29 _) (dand hg71) (by first | rfl | omega) rfl)
                  (lrC (LR_load (at_tmp 32 _) na30 (gS (gA (ltn (dand hg71)))) rfl)
                  (lrC (bl42 (parts_cons (i := 1) (off := 1) (at_tmp 33 _) (cells_one (one_is rfl)) rfl rfl parts_nil) rfl rfl)
                  (lrC (LR_call Hfaa.func166 rfl rfl (C166 x10 x11 (0#64) (b1_1 x4.toNat) y47 hy47) (all_cons (at_tmp 27 _) (all_cons (at_tmp 34 _) all_nil)) rfl)
                  (lrC (LR_move (at_tmp 35 _) rfl)
                  (lrC (LR_extract (at_tmp 26 _) rfl rfl)
                  (lrC (LR_extract (at_tmp 26 _) rfl rfl)
                  (lrC (LR_store (at_tmp 7 _) (at_tmp 36 _) (cells_agg _) (onC (one_is rfl) (onC (one_is rfl) onN)) sz42 rfl rfl)
                  lrN)))))))))))))
                  (by kernel_rfl)
                  (saC (sS (sT1 rfl) (sB1 rfl) sF0) (saC (sS (sT1 rfl) sB0 sF0) (saC (sS (sT1 rfl) sB0 sF0) (saC (sS (sT1 rfl) sB0 sF0) (saC (sS (sT1 rfl) sB0 sF0) (saC (sS (sA (sT1 rfl) (sT1 rfl)) sB0 sF0) (saC (sS (sT1 rfl) (sB1 rfl) sF0) (saC (sS (sA (sT1 rfl) sT0) sB0 sF0) (saC (sS (sA (sT1 rfl) (sA (sT1 rfl) sT0)) sB0 sF0) (saC (sS (sT1 rfl) sB0 sF0) (saC (sS (sT1 rfl) sB0 sF0) (saC (sS (sT1 rfl) sB0 sF0) (saC (sS (sA (sT1 rfl) (sT1 rfl)) (sB1 rfl) sF0) saN))))))))))))) ?_
                exact thenN (cutLeaf (v := (y47.1, y47.2.1)) hr (weakB ((sT rfl (sT rfl (sT rfl (sT rfl sT0))))) (sub_keep (sub_keep (sub_keep sub_nil))) rfl))
              · rintro ⟨x12, x13⟩ hr
                show AW Hfaa.prog _ _ _ ⟨[(0, .inr (.inl (0, 0))), (1, .inr (.inl (1, 0))), (6, .inl (is (I64 x4))), (7, .inr (.inl (7, 0)))], [(0, pb 261 (is (I64 b0_0) :: (ar U64 52 x5 ++ []))), (1, pb 261 (is (I64 b1_0) :: (ar U64 52 b1_1 ++ []))), (7, pb 42 [is (U64 x12), is (U64 x13)])]⟩
                have hr : some out2 = F368_7 N b0_0 b1_0 b1_1 x4 x5 x12 x13 := hr
                refine AW_cut (σ := (Nat → BitVec 64)) (fun v => ⟨[(0, .inr (.inl (0, 0))), (1, .inr (.inl (1, 0))), (6, .inl (is (I64 x4))), (7, .inr (.inl (7, 0)))], [(0, pb 261 (is (I64 b0_0) :: (ar U64 52 v ++ []))), (1, pb 261 (is (I64 b1_0) :: (ar U64 52 b1_1 ++ []))), (7, pb 42 [is (U64 x12), is (U64 x13)])]⟩) (fun v => some out2 = F368_8 N b0_0 b1_0 b1_1 x4 x12 x13 v) ?_ ?_
                · skip
                  obtain ⟨hg70, hr⟩ := guard_some hr
                  refine AW_draw mixed
                    (lrC (LR_move (at_tmp 0 _) rfl)
                    (lrC (LR_move (at_tmp 6 _) rfl)
                    (lrC (LR_fieldAddr (off := 0) (o := 1) (at_tmp 7 _) (fun b w => fa42_1 b 0 w) rfl)
                    (lrC (LR_load (at_tmp 40 _) na30 rfl rfl)
                    (lrC (LR_nilCheck (at_tmp 38 _) rfl)
                    (lrC (LR_fieldAddr (off := 0) (o := 1) (at_tmp 42 _) (fun b w => fa261_1 b 0 w) rfl)
                    (lrC (LR_indexAddr (o := x4.toNat + 1) Hfaa.underlying259 sz30 (at_tmp 43 _) (at_tmp 39 _) (dand hg70) (by first | rfl | omega) rfl)
                    (lrC (LR_storeA (at_tmp 44 _) (at_tmp 41 _) (cells_one (one_is rfl)) (onC (one_is rfl) onN) sz30 rfl (ble_dyn (lnC (lnA ln0)) (by have := (ltn (dand hg70)); omega)) (stS (stA (ltn (dand hg70)))))
                    lrN))))))))
                    (by kernel_rfl)
                    (saC (sS (sT1 rfl) sB0 sF0) (saC (sS (sT1 rfl) sB0 sF0) (saC (sS (sT1 rfl) sB0 sF0) (saC (sS (sT1 rfl) (sB1 rfl) sF0) (saC (sS (sT1 rfl) sB0 sF0) (saC (sS (sT1 rfl) sB0 sF0) (saC (sS (sA (sT1 rfl) (sT1 rfl)) sB0 sF0) (saC (sS (sA (sT1 rfl) (sT1 rfl)) (sB1 rfl) sF0) saN)))))))) ?_
                  exact thenN (cutLeaf (v := upd x5 x4.toNat x13) hr (weakB ((sT rfl (sT rfl (sT rfl (sT rfl sT0))))) (sub_keep (sub_keep (sub_keep sub_nil))) rfl))
                · rintro x14 hr
                  show AW Hfaa.prog _ _ _ ⟨[(0, .inr (.inl (0, 0))), (1, .inr (.inl (1, 0))), (6, .inl (is (I64 x4))), (7, .inr (.inl (7, 0)))], [(0, pb 261 (is (I64 b0_0) :: (ar U64 52 x14 ++ []))), (1, pb 261 (is (I64 b1_0) :: (ar U64 52 b1_1 ++ []))), (7, pb 42 [is (U64 x12), is (U64 x13)])]⟩
                  have hr : some out2 = F368_8 N b0_0 b1_0 b1_1 x4 x12 x13 x14 := hr
                  refine AW_region ?_
                  refine AL_cons (LR_fieldAddr (off := 0) (o := 0) (at_tmp 7 _) (fun b w => fa42_0 b 0 w) rfl) (sS (sT1 rfl) sB0 sF0) ?_
                  refine AL_cons (LR_load (at_tmp 45 _) na30 rfl rfl) (sS (sT1 rfl) (sB1 rfl) sF0) ?_
                  refine AL_cons (LR_bin (at_tmp 46 _) (at_c (v' := U64 (0#64)) rfl) (neq_U64 x12 (0#64)) rfl) (sS (sA (sT1 rfl) sT0) sB0 sF0) ?_
                  refine AL_cons (LR_assign (at_tmp 47 _) rfl) (sS (sT1 rfl) sB0 sF0) ?_
                  refine AL_nil ?_
                  refine blN ?_
                  exact thenN (cutLeaf (v := (x12 != (0#64), x14)) hr (weakB ((sT rfl (sT rfl (sT rfl (sT rfl sT0))))) (sub_keep (sub_keep (sub_drop sub_nil))) rfl))
        · rintro ⟨x7, x8⟩ hr
          show AW Hfaa.prog _ _ _ ⟨[(0, .inr (.inl (0, 0))), (1, .inr (.inl (1, 0))), (6, .inl (is (I64 x4))), (5, .inl (is (Bl x7)))], [(0, pb 261 (is (I64 b0_0) :: (ar U64 52 x8 ++ []))), (1, pb 261 (is (I64 b1_0) :: (ar U64 52 b1_1 ++ [])))]⟩
          have hr : some out2 = F368_4 N b0_0 b1_0 b1_1 x4 x7 x8 := hr
          refine AW_region ?_
          refine AL_cons (LR_move (at_tmp 6 _) rfl) (sS (sT1 rfl) sB0 sF0) ?_
          refine AL_cons (LR_bin (at_tmp 10 _) (at_c (v' := I64 1) rfl) (add_I64 x4 1) rfl) (sS (sA (sT1 rfl) sT0) sB0 sF0) ?_
          refine AL_cons (LR_assign (at_tmp 11 _) rfl) (sS (sT1 rfl) sB0 sF0) ?_
          refine AL_nil ?_
          exact thenN (loopNext (x' := (x7, w64 (x4 + 1), x8)) hr (weakB ((sT rfl (sT rfl (sT rfl (sT rfl sT0))))) (sub_keep (sub_keep sub_nil)) rfl))
      · have hr := hr.trans (cond_f h)
        clear h
        refine AW_exit ?_
        refine thenX ?_
        obtain ⟨r', hro, hr⟩ := map_inr hr
        refine thenX (loopOut hro (fun he => ?_))
        rw [he] at hr
        refine blH ?_
        exact thenN (cutLeaf (v := (x3, x5)) hr (weakB ((sT rfl sT0)) (sub_keep (sub_keep sub_nil)) rfl))
  · rintro ⟨x1, x2⟩ hr
    show AW Hfaa.prog _ _ _ ⟨[(5, .inl (is (Bl x1)))], [(0, pb 261 (is (I64 b0_0) :: (ar U64 52 x2 ++ []))), (1, pb 261 (is (I64 b1_0) :: (ar U64 52 b1_1 ++ [])))]⟩
    have hr : some r = F368_1 N b0_0 b1_0 b1_1 x1 x2 := hr
    refine AW_seq1 ?_
    refine AW_region ?_
    refine AL_cons (LR_move (at_tmp 5 _) rfl) (sS (sT1 rfl) sB0 sF0) ?_
    refine AL_cons (LR_assign (at_tmp 48 _) rfl) (sS (sT1 rfl) sB0 sF0) ?_
    refine AL_nil ?_
    refine thenN ?_
    refine AW_ret ?_
    obtain rfl := Option.some.inj hr
    exact ⟨res1 rfl (rvT rfl), (sub_keep (sub_keep sub_nil))⟩
end Go.Proofs.YfwaawGreat
