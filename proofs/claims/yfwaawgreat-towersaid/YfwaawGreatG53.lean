import Derived.Test.YfwaawGreatG1
import Derived.Test.YfwaawGreatG2
import Derived.Test.YfwaawGreatG20
import Derived.Test.YfwaawGreatG25
namespace Go.Proofs.YfwaawGreat
open Go.Aw
set_option linter.unusedVariables false
set_option maxRecDepth 100000
set_option maxHeartbeats 1000000
/-- soft.PackFlags -/
def F179_1 (N : Nat) (a0_0 : BitVec 8) (a0_1 : BitVec 8) (a1 : BitVec 8) (a2 : Bool) (a3 : Int) (a4 : BitVec 64) (x1 : Bool) : Option (BitVec 64 × BitVec 8) := bif x1 then some (0#64, 0#8) else (F215 N a0_0 a0_1 a1 a2 (min (max a3 (-20000)) 20000) a4).bind fun y5 => some (y5.1, y5.2)
def F179 (N : Nat) (a0_0 : BitVec 8) (a0_1 : BitVec 8) (a1 : BitVec 8) (a2 : Bool) (a3 : Int) (a4 : BitVec 64) : Option (BitVec 64 × BitVec 8) := lt (F40 a0_0 a0_1) fun y6 => F179_1 N a0_0 a0_1 a1 a2 a3 a4 (!y6)
theorem C179 (N : Nat) (a0_0 : BitVec 8) (a0_1 : BitVec 8) (a1 : BitVec 8) (a2 : Bool) (a3 : Int) (a4 : BitVec 64) (r : BitVec 64 × BitVec 8) (hr : some r = F179 N a0_0 a0_1 a1 a2 a3 a4) : Aw.Fn Hfaa.prog 179 [agg [is (U8 a0_0), is (U8 a0_1)], is (U8 a1), is (Bl a2), is (I16 a3), is (U64 a4)] (tup [is (U64 r.1), is (U8 r.2)]) := by
  refine fn_intro Hfaa.func179 rfl rfl rfl ?_
  intro bn0 w0 H0
  refine AW_seq1 ?_
  refine AW_region ?_
  refine AL_cons (LR_box (at_tmp 0 _) (cells_agg _) rfl) (sS (sT1 rfl) sB0 (sF1 rfl)) ?_
  refine AL_cons (LR_assign (at_c (v' := U64 (0#64)) rfl) rfl) (sS sT0 sB0 sF0) ?_
  refine AL_cons (LR_assign (at_c (v' := U8 (0#8)) rfl) rfl) (sS sT0 sB0 sF0) ?_
  refine AL_nil ?_
  refine thenN ?_
  refine AW_seq1 ?_
  refine AW_cut (σ := Bool) (fun v => ⟨[(1, .inl (is (U8 a1))), (2, .inl (is (Bl a2))), (3, .inl (is (I16 a3))), (4, .inl (is (U64 a4))), (5, .inr (.inl (5, 0))), (14, .inl (is (Bl v)))], [(5, pb 23 [is (U8 a0_0), is (U8 a0_1)])]⟩) (fun v => some r = F179_1 N a0_0 a0_1 a1 a2 a3 a4 v) ?_ ?_
  · skip
    refine AW_region ?_
    refine AL_cons (LR_loads (at_tmp 5 _) ag23 sz23 rfl rfl rfl) (sS (sT1 rfl) (sB1 rfl) sF0) ?_
    obtain ⟨y6, hy6, hr⟩ := lt_some hr
    refine AL_cons (LR_call Hfaa.func40 rfl rfl (C40 a0_0 a0_1 y6 hy6) (all_cons (at_tmp 12 _) all_nil) rfl) (sS (sA (sT1 rfl) sT0) sB0 sF0) ?_
    refine AL_cons (LR_un (at_tmp 13 _) (not_Bl y6) rfl) (sS (sT1 rfl) sB0 sF0) ?_
    refine AL_nil ?_
    exact thenN (cutLeaf (v := !y6) hr (weak0 ((sT rfl (sT rfl (sT rfl (sT rfl (sT rfl (sT rfl sT0))))))) (sub_keep sub_nil)))
  · rintro x1 hr
    show AW Hfaa.prog _ _ _ ⟨[(1, .inl (is (U8 a1))), (2, .inl (is (Bl a2))), (3, .inl (is (I16 a3))), (4, .inl (is (U64 a4))), (5, .inr (.inl (5, 0))), (14, .inl (is (Bl x1)))], [(5, pb 23 [is (U8 a0_0), is (U8 a0_1)])]⟩
    have hr : some r = F179_1 N a0_0 a0_1 a1 a2 a3 a4 x1 := hr
    refine AW_condT (b := x1) rfl (fun h => ?_) (fun h => ?_)
    · have hr := hr.trans (cond_t h)
      clear h
      refine AW_seq1 ?_
      refine AW_region ?_
      refine AL_cons (LR_assign (at_c (v' := U64 (0#64)) rfl) rfl) (sS sT0 sB0 sF0) ?_
      refine AL_cons (LR_assign (at_c (v' := U8 (0#8)) rfl) rfl) (sS sT0 sB0 sF0) ?_
      refine AL_nil ?_
      refine thenN ?_
      refine AW_ret ?_
      refine thenR ?_
      obtain rfl := Option.some.inj hr
      exact res2 rfl (rvT rfl) (rvT rfl)
    · have hr := hr.trans (cond_f h)
      clear h
      refine AW_skip ?_
      refine thenN ?_
      refine AW_seq1 ?_
      refine AW_region ?_
      refine AL_cons (LR_loads (at_tmp 5 _) ag23 sz23 rfl rfl rfl) (sS (sT1 rfl) (sB1 rfl) sF0) ?_
      refine AL_cons (LR_move (at_tmp 1 _) rfl) (sS (sT1 rfl) sB0 sF0) ?_
      refine AL_cons (LR_move (at_tmp 2 _) rfl) (sS (sT1 rfl) sB0 sF0) ?_
      refine AL_cons (LR_move (at_tmp 3 _) rfl) (sS (sT1 rfl) sB0 sF0) ?_
      refine AL_cons (LR_bi2 (vx := I16 a3) (vy := I16 (-20000)) (v := I16 (max a3 (-20000))) (at_tmp 18 _) (at_c (v' := I16 (-20000)) rfl) (fun cs w => max_I .i16 a3 (-20000) cs w) rfl) (sS (sA (sT1 rfl) sT0) sB0 sF0) ?_
      refine AL_cons (LR_bi2 (vx := I16 (max a3 (-20000))) (vy := I16 20000) (v := I16 (min (max a3 (-20000)) 20000)) (at_tmp 19 _) (at_c (v' := I16 20000) rfl) (fun cs w => min_I .i16 (max a3 (-20000)) 20000 cs w) rfl) (sS (sA (sT1 rfl) sT0) sB0 sF0) ?_
      refine AL_cons (LR_move (at_tmp 4 _) rfl) (sS (sT1 rfl) sB0 sF0) ?_
      obtain ⟨y5, hy5, hr⟩ := bind_some hr
      refine AL_cons (LR_call Hfaa.func215 rfl rfl (C215 N a0_0 a0_1 a1 a2 (min (max a3 (-20000)) 20000) a4 y5 hy5) (all_cons (at_tmp 15 _) (all_cons (at_tmp 16 _) (all_cons (at_tmp 17 _) (all_cons (at_tmp 20 _) (all_cons (at_tmp 21 _) all_nil))))) rfl) (sS (sA (sT1 rfl) (sA (sT1 rfl) (sA (sT1 rfl) (sA (sT1 rfl) (sA (sT1 rfl) sT0))))) sB0 sF0) ?_
      refine AL_cons (LR_extract (at_tmp 22 _) rfl rfl) (sS (sT1 rfl) sB0 sF0) ?_
      refine AL_cons (LR_extract (at_tmp 22 _) rfl rfl) (sS (sT1 rfl) sB0 sF0) ?_
      refine AL_cons (LR_assign (at_tmp 23 _) rfl) (sS (sT1 rfl) sB0 sF0) ?_
      refine AL_cons (LR_assign (at_tmp 24 _) rfl) (sS (sT1 rfl) sB0 sF0) ?_
      refine AL_nil ?_
      refine thenN ?_
      refine AW_ret ?_
      obtain rfl := Option.some.inj hr
      exact res2 rfl (rvT rfl) (rvT rfl)
/-- hexa.BitsFlags -/
def F213_3 (N : Nat) (a0_0 : BitVec 8) (a0_1 : BitVec 8) (a1 : BitVec 8) (a2_0 : Bool) (a2_1 : List UInt8) (a2_2 : Int) (x6 : BitVec 64) (x7 : Int) : Option (BitVec 64 × BitVec 8) := (F179 N a0_0 a0_1 a1 a2_0 x7 x6).bind fun y14 => some (y14.1, y14.2)
def F213_6 (N : Nat) (a0_0 : BitVec 8) (a0_1 : BitVec 8) (a1 : BitVec 8) (a2_0 : Bool) (a2_1 : List UInt8) (a2_2 : Int) (x10 : Int) (x12 : BitVec 64) (x13 : Int) : Option ((BitVec 64 × Int × Int) ⊕ (BitVec 64 × BitVec 8)) := some (.inl ((x12, x13, w64 (x10 + 1))))
def F213_9 (N : Nat) (a0_0 : BitVec 8) (a0_1 : BitVec 8) (a1 : BitVec 8) (a2_0 : Bool) (a2_1 : List UInt8) (a2_2 : Int) (x9 : Int) (x10 : Int) (x16 : BitVec 64) : Option ((BitVec 64 × Int × Int) ⊕ (BitVec 64 × BitVec 8)) := F213_6 N a0_0 a0_1 a1 a2_0 a2_1 a2_2 x10 x16 x9
def F213_11 (N : Nat) (a0_0 : BitVec 8) (a0_1 : BitVec 8) (a1 : BitVec 8) (a2_0 : Bool) (a2_1 : List UInt8) (a2_2 : Int) (x8 : BitVec 64) (x10 : Int) (x17 : Int) (x18 : Bool) : Option ((BitVec 64 × Int × Int) ⊕ (BitVec 64 × BitVec 8)) := bif x18 then F213_6 N a0_0 a0_1 a1 a2_0 a2_1 a2_2 x10 (x8 ||| (1#64)) x17 else F213_6 N a0_0 a0_1 a1 a2_0 a2_1 a2_2 x10 x8 x17
def F213_10 (N : Nat) (a0_0 : BitVec 8) (a0_1 : BitVec 8) (a1 : BitVec 8) (a2_0 : Bool) (a2_1 : List UInt8) (a2_2 : Int) (x8 : BitVec 64) (x10 : Int) (x14 : BitVec 64) (x17 : Int) : Option ((BitVec 64 × Int × Int) ⊕ (BitVec 64 × BitVec 8)) := F213_11 N a0_0 a0_1 a1 a2_0 a2_1 a2_2 x8 x10 x17 (x14 != (0#64))
def F213_8 (N : Nat) (a0_0 : BitVec 8) (a0_1 : BitVec 8) (a1 : BitVec 8) (a2_0 : Bool) (a2_1 : List UInt8) (a2_2 : Int) (x8 : BitVec 64) (x9 : Int) (x10 : Int) (x14 : BitVec 64) (x15 : Bool) : Option ((BitVec 64 × Int × Int) ⊕ (BitVec 64 × BitVec 8)) := bif x15 then F213_9 N a0_0 a0_1 a1 a2_0 a2_1 a2_2 x9 x10 ((x8 <<< 4) ||| x14) else F213_10 N a0_0 a0_1 a1 a2_0 a2_1 a2_2 x8 x10 x14 (w16 (x9 + 4))
def F213_7 (N : Nat) (a0_0 : BitVec 8) (a0_1 : BitVec 8) (a1 : BitVec 8) (a2_0 : Bool) (a2_1 : List UInt8) (a2_2 : Int) (x8 : BitVec 64) (x9 : Int) (x10 : Int) (x14 : BitVec 64) : Option ((BitVec 64 × Int × Int) ⊕ (BitVec 64 × BitVec 8)) := F213_8 N a0_0 a0_1 a1 a2_0 a2_1 a2_2 x8 x9 x10 x14 ((x8 >>> 60) == (0#64))
def F213_5 (N : Nat) (a0_0 : BitVec 8) (a0_1 : BitVec 8) (a1 : BitVec 8) (a2_0 : Bool) (a2_1 : List UInt8) (a2_2 : Int) (x8 : BitVec 64) (x9 : Int) (x10 : Int) (x11 : Bool) : Option ((BitVec 64 × Int × Int) ⊕ (BitVec 64 × BitVec 8)) := bif x11 then bif (decide (0 ≤ (x10 : Int)) && decide ((x10 : Int) < (a2_1.length : Int))) then lt (F285 (w32 (((a2_1.getD ((x10 : Int)).toNat 0).toBitVec).toNat : Int))) fun y22 => F213_7 N a0_0 a0_1 a1 a2_0 a2_1 a2_2 x8 x9 x10 (BitVec.ofInt 64 y22) else none else (F213_3 N a0_0 a0_1 a1 a2_0 a2_1 a2_2 x8 x9).map Sum.inr
def F213_L4b (N : Nat) (a0_0 : BitVec 8) (a0_1 : BitVec 8) (a1 : BitVec 8) (a2_0 : Bool) (a2_1 : List UInt8) (a2_2 : Int) (x8 : BitVec 64) (x9 : Int) (x10 : Int) : Option ((BitVec 64 × Int × Int) ⊕ (BitVec 64 × BitVec 8)) := F213_5 N a0_0 a0_1 a1 a2_0 a2_1 a2_2 x8 x9 x10 (decide (x10 < (a2_1.length : Int)))
def F213_L4 (N : Nat) (a0_0 : BitVec 8) (a0_1 : BitVec 8) (a1 : BitVec 8) (a2_0 : Bool) (a2_1 : List UInt8) (a2_2 : Int) : (BitVec 64 × Int × Int) → Option ((BitVec 64 × Int × Int) ⊕ (BitVec 64 × BitVec 8)) := fun v => F213_L4b N a0_0 a0_1 a1 a2_0 a2_1 a2_2 v.1 v.2.1 v.2.2
def F213_2 (N : Nat) (a0_0 : BitVec 8) (a0_1 : BitVec 8) (a1 : BitVec 8) (a2_0 : Bool) (a2_1 : List UInt8) (a2_2 : Int) (x5 : Bool) : Option (BitVec 64 × BitVec 8) := bif x5 then some (0#64, 0#8) else iterL (F213_L4 N a0_0 a0_1 a1 a2_0 a2_1 a2_2) N (0#64, a2_2, 0)
def F213_1 (N : Nat) (a0_0 : BitVec 8) (a0_1 : BitVec 8) (a1 : BitVec 8) (a2_0 : Bool) (a2_1 : List UInt8) (a2_2 : Int) (x1 : Bool) (x2 : Bool) (x3 : List UInt8) (x4 : Int) : Option (BitVec 64 × BitVec 8) := lt (F40 a0_0 a0_1) fun y23 => F213_2 N a0_0 a0_1 a1 a2_0 a2_1 a2_2 (((!y23) || (!x1)) || (!((x2 == a2_0) && (x3 == a2_1) && (x4 == a2_2))))
def F213 (N : Nat) (a0_0 : BitVec 8) (a0_1 : BitVec 8) (a1 : BitVec 8) (a2_0 : Bool) (a2_1 : List UInt8) (a2_2 : Int) : Option (BitVec 64 × BitVec 8) := (F284 N a2_0 a2_1 (w64 a2_2)).bind fun y24 => F213_1 N a0_0 a0_1 a1 a2_0 a2_1 a2_2 y24.2.2.2 y24.1 y24.2.1 y24.2.2.1
theorem C213 (N : Nat) (a0_0 : BitVec 8) (a0_1 : BitVec 8) (a1 : BitVec 8) (a2_0 : Bool) (a2_1 : List UInt8) (a2_2 : Int) (r : BitVec 64 × BitVec 8) (hr : some r = F213 N a0_0 a0_1 a1 a2_0 a2_1 a2_2) : Aw.Fn Hfaa.prog 213 [agg [is (U8 a0_0), is (U8 a0_1)], is (U8 a1), agg [is (Bl a2_0), is (Sv a2_1), is (I16 a2_2)]] (tup [is (U64 r.1), is (U8 r.2)]) := by
  refine fn_intro Hfaa.func213 rfl rfl rfl ?_
  intro bn0 w0 H0
  refine AW_seq1 ?_
  refine AW_region ?_
  refine AL_cons (LR_box (at_tmp 0 _) (cells_agg _) rfl) (sS (sT1 rfl) sB0 (sF1 rfl)) ?_
  refine AL_cons (LR_box (at_tmp 2 _) (cells_agg _) rfl) (sS (sT1 rfl) sB0 (sF1 rfl)) ?_
  refine AL_cons (LR_assign (at_c (v' := U64 (0#64)) rfl) rfl) (sS sT0 sB0 sF0) ?_
  refine AL_cons (LR_assign (at_c (v' := U8 (0#8)) rfl) rfl) (sS sT0 sB0 sF0) ?_
  refine AL_nil ?_
  refine thenN ?_
  refine AW_cut (σ := Bool × Bool × List UInt8 × Int) (fun v => ⟨[(1, .inl (is (U8 a1))), (3, .inr (.inl (3, 0))), (5, .inr (.inl (5, 0))), (8, .inr (.inl (8, 0))), (9, .inl (is (Bl v.1)))], [(3, pb 23 [is (U8 a0_0), is (U8 a0_1)]), (5, pb 151 [is (Bl a2_0), is (Sv a2_1), is (I16 a2_2)]), (8, pb 151 [is (Bl v.2.1), is (Sv v.2.2.1), is (I16 v.2.2.2)])]⟩) (fun v => some r = F213_1 N a0_0 a0_1 a1 a2_0 a2_1 a2_2 v.1 v.2.1 v.2.2.1 v.2.2.2) ?_ ?_
  · skip
    refine AW_region ?_
    refine AL_cons (LR_fieldAddr (off := 0) (o := 0) (at_tmp 5 _) (fun b w => fa151_0 b 0 w) rfl) (sS (sT1 rfl) sB0 sF0) ?_
    refine AL_cons (LR_load (at_tmp 15 _) na4 rfl rfl) (sS (sT1 rfl) (sB1 rfl) sF0) ?_
    refine AL_cons (LR_fieldAddr (off := 0) (o := 1) (at_tmp 5 _) (fun b w => fa151_1 b 0 w) rfl) (sS (sT1 rfl) sB0 sF0) ?_
    refine AL_cons (LR_load (at_tmp 17 _) na9 rfl rfl) (sS (sT1 rfl) (sB1 rfl) sF0) ?_
    refine AL_cons (LR_fieldAddr (off := 0) (o := 2) (at_tmp 5 _) (fun b w => fa151_2 b 0 w) rfl) (sS (sT1 rfl) sB0 sF0) ?_
    refine AL_cons (LR_load (at_tmp 19 _) na44 rfl rfl) (sS (sT1 rfl) (sB1 rfl) sF0) ?_
    refine AL_cons (LR_conv (vx := I16 a2_2) (at_tmp 20 _) (conv_I64 Hfaa.underlying44 Hfaa.underlying3 a2_2) rfl) (sS (sT1 rfl) sB0 sF0) ?_
    obtain ⟨y24, hy24, hr⟩ := bind_some hr
    refine AL_cons (LR_call Hfaa.func284 rfl rfl (C284 N a2_0 a2_1 (w64 a2_2) y24 hy24) (all_cons (at_tmp 16 _) (all_cons (at_tmp 18 _) (all_cons (at_tmp 21 _) all_nil))) rfl) (sS (sA (sT1 rfl) (sA (sT1 rfl) (sA (sT1 rfl) sT0))) sB0 sF0) ?_
    refine AL_cons (LR_move (at_tmp 22 _) rfl) (sS (sT1 rfl) sB0 sF0) ?_
    refine AL_cons (LR_extract (at_tmp 14 _) rfl rfl) (sS (sT1 rfl) sB0 sF0) ?_
    refine AL_cons (LR_extract (at_tmp 14 _) rfl rfl) (sS (sT1 rfl) sB0 sF0) ?_
    refine AL_cons (zl151 rfl) (sS sT0 sB0 (sF1 rfl)) ?_
    refine AL_cons (LR_store (at_tmp 8 _) (at_tmp 23 _) (cells_agg _) (onC (one_is rfl) (onC (one_is rfl) (onC (one_is rfl) onN))) sz151 rfl rfl) (sS (sA (sT1 rfl) (sT1 rfl)) (sB1 rfl) sF0) ?_
    refine AL_cons (LR_assign (at_tmp 24 _) rfl) (sS (sT1 rfl) sB0 sF0) ?_
    refine AL_nil ?_
    exact thenN (cutLeaf (v := (y24.2.2.2, y24.1, y24.2.1, y24.2.2.1)) hr (weak0 ((sT rfl (sT rfl (sT rfl (sT rfl (sT rfl sT0)))))) (sub_keep (sub_keep (sub_keep sub_nil)))))
  · rintro ⟨x1, x2, x3, x4⟩ hr
    show AW Hfaa.prog _ _ _ ⟨[(1, .inl (is (U8 a1))), (3, .inr (.inl (3, 0))), (5, .inr (.inl (5, 0))), (8, .inr (.inl (8, 0))), (9, .inl (is (Bl x1)))], [(3, pb 23 [is (U8 a0_0), is (U8 a0_1)]), (5, pb 151 [is (Bl a2_0), is (Sv a2_1), is (I16 a2_2)]), (8, pb 151 [is (Bl x2), is (Sv x3), is (I16 x4)])]⟩
    have hr : some r = F213_1 N a0_0 a0_1 a1 a2_0 a2_1 a2_2 x1 x2 x3 x4 := hr
    refine AW_seq1 ?_
    refine AW_cut (σ := Bool) (fun v => ⟨[(1, .inl (is (U8 a1))), (3, .inr (.inl (3, 0))), (5, .inr (.inl (5, 0))), (36, .inl (is (Bl v)))], [(3, pb 23 [is (U8 a0_0), is (U8 a0_1)]), (5, pb 151 [is (Bl a2_0), is (Sv a2_1), is (I16 a2_2)])]⟩) (fun v => some r = F213_2 N a0_0 a0_1 a1 a2_0 a2_1 a2_2 v) ?_ ?_
    · skip
      refine AW_region ?_
      refine AL_cons (LR_loads (at_tmp 3 _) ag23 sz23 rfl rfl rfl) (sS (sT1 rfl) (sB1 rfl) sF0) ?_
      obtain ⟨y23, hy23, hr⟩ := lt_some hr
      refine AL_cons (LR_call Hfaa.func40 rfl rfl (C40 a0_0 a0_1 y23 hy23) (all_cons (at_tmp 25 _) all_nil) rfl) (sS (sA (sT1 rfl) sT0) sB0 sF0) ?_
      refine AL_cons (LR_un (at_tmp 26 _) (not_Bl y23) rfl) (sS (sT1 rfl) sB0 sF0) ?_
      refine AL_cons (LR_move (at_tmp 27 _) rfl) (sS (sT1 rfl) sB0 sF0) ?_
      refine AL_cutAt 3 ⟨[(1, .inl (is (U8 a1))), (3, .inr (.inl (3, 0))), (5, .inr (.inl (5, 0))), (8, .inr (.inl (8, 0))), (9, .inl (is (Bl x1))), (25, .inl (agg [is (U8 a0_0), is (U8 a0_1)])), (26, .inl (is (Bl y23))), (27, .inl (is (Bl (!y23)))), (28, .inl (is (Bl (!y23)))), (31, .inl (is (Bl ((!y23) || (!x1)))))], [(3, pb 23 [is (U8 a0_0), is (U8 a0_1)]), (5, pb 151 [is (Bl a2_0), is (Sv a2_1), is (I16 a2_2)]), (8, pb 151 [is (Bl x2), is (Sv x3), is (I16 x4)])]⟩ ?_ ?_
      · cases hb : !y23
        · skip
          refine AL_cons (LR_on rfl rfl rfl (LR_move (at_tmp 9 _) rfl)) (sS (sT rfl (sT1 rfl)) sB0 sF0) ?_
          refine AL_cons (LR_on rfl rfl rfl (LR_un (at_tmp 29 _) (not_Bl x1) rfl)) (sS (sT rfl (sT1 rfl)) sB0 sF0) ?_
          refine AL_cons (LR_pick (b := false) (at_tmp 28 _) (at_c (v' := Bl true) rfl) (at_tmp 30 _) rfl) (sS (sA (sT1 rfl) (sA sT0 (sT1 rfl))) sB0 sF0) ?_
          exact AL_nil ⟨rfl, weak0 ((sT rfl (sT rfl (sT rfl (sT rfl (sT rfl (sT rfl (sT rfl (sT rfl (sT rfl (sT rfl sT0))))))))))) (sub_keep (sub_keep (sub_keep sub_nil)))⟩
        · skip
          refine AL_cons (LR_off (b := true) rfl rfl rfl rfl) (sS (sT1 rfl) sB0 sF0) ?_
          refine AL_cons (LR_off (b := true) rfl rfl rfl rfl) (sS (sT1 rfl) sB0 sF0) ?_
          refine AL_cons (LR_pick (b := true) (at_tmp 28 _) (at_c (v' := Bl true) rfl) (at_tmp 30 _) rfl) (sS (sA (sT1 rfl) (sA sT0 (sT1 rfl))) sB0 sF0) ?_
          exact AL_nil ⟨rfl, weak0 ((sT rfl (sT rfl (sT rfl (sT rfl (sT rfl (sT rfl (sT rfl (sT rfl (sT rfl (sT rfl sT0))))))))))) (sub_keep (sub_keep (sub_keep sub_nil)))⟩
      refine AL_cons (LR_move (at_tmp 31 _) rfl) (sS (sT1 rfl) sB0 sF0) ?_
      refine AL_cutAt 4 ⟨[(1, .inl (is (U8 a1))), (3, .inr (.inl (3, 0))), (5, .inr (.inl (5, 0))), (8, .inr (.inl (8, 0))), (9, .inl (is (Bl x1))), (25, .inl (agg [is (U8 a0_0), is (U8 a0_1)])), (26, .inl (is (Bl y23))), (27, .inl (is (Bl (!y23)))), (28, .inl (is (Bl (!y23)))), (31, .inl (is (Bl ((!y23) || (!x1))))), (32, .inl (is (Bl ((!y23) || (!x1))))), (36, .inl (is (Bl (((!y23) || (!x1)) || (!((x2 == a2_0) && (x3 == a2_1) && (x4 == a2_2)))))))], [(3, pb 23 [is (U8 a0_0), is (U8 a0_1)]), (5, pb 151 [is (Bl a2_0), is (Sv a2_1), is (I16 a2_2)]), (8, pb 151 [is (Bl x2), is (Sv x3), is (I16 x4)])]⟩ ?_ ?_
      · cases hb : (!y23) || (!x1)
        · skip
          refine AL_cons (LR_on rfl rfl rfl (LR_loads (at_tmp 8 _) ag151 sz151 rfl rfl rfl)) (sS (sT rfl (sT1 rfl)) (sB1 rfl) sF0) ?_
          refine AL_cons (LR_on rfl rfl rfl (LR_loads (at_tmp 5 _) ag151 sz151 rfl rfl rfl)) (sS (sT rfl (sT1 rfl)) (sB1 rfl) sF0) ?_
          refine AL_cons (LR_on rfl rfl rfl (LR_binA (at_tmp 33 _) (at_tmp 34 _) (neqA151 x2 x3 x4 a2_0 a2_1 a2_2) rfl)) (sS (sT rfl (sA (sT1 rfl) (sT1 rfl))) sB0 sF0) ?_
          refine AL_cons (LR_pick (b := false) (at_tmp 32 _) (at_c (v' := Bl true) rfl) (at_tmp 35 _) rfl) (sS (sA (sT1 rfl) (sA sT0 (sT1 rfl))) sB0 sF0) ?_
          exact AL_nil ⟨rfl, weak0 ((sT rfl (sT rfl (sT rfl (sT rfl (sT rfl (sT rfl (sT rfl (sT rfl (sT rfl (sT rfl (sT rfl (sT rfl sT0))))))))))))) (sub_keep (sub_keep (sub_keep sub_nil)))⟩
        · skip
          refine AL_cons (LR_off (b := true) rfl rfl rfl rfl) (sS (sT1 rfl) sB0 sF0) ?_
          refine AL_cons (LR_off (b := true) rfl rfl rfl rfl) (sS (sT1 rfl) sB0 sF0) ?_
          refine AL_cons (LR_off (b := true) rfl rfl rfl rfl) (sS (sT1 rfl) sB0 sF0) ?_
          refine AL_cons (LR_pick (b := true) (at_tmp 32 _) (at_c (v' := Bl true) rfl) (at_tmp 35 _) rfl) (sS (sA (sT1 rfl) (sA sT0 (sT1 rfl))) sB0 sF0) ?_
          exact AL_nil ⟨rfl, weak0 ((sT rfl (sT rfl (sT rfl (sT rfl (sT rfl (sT rfl (sT rfl (sT rfl (sT rfl (sT rfl (sT rfl (sT rfl sT0))))))))))))) (sub_keep (sub_keep (sub_keep sub_nil)))⟩
      refine AL_nil ?_
      exact thenN (cutLeaf (v := ((!y23) || (!x1)) || (!((x2 == a2_0) && (x3 == a2_1) && (x4 == a2_2)))) hr (weak0 ((sT rfl (sT rfl (sT rfl (sT rfl sT0))))) (sub_keep (sub_keep (sub_drop sub_nil)))))
    · rintro x5 hr
      show AW Hfaa.prog _ _ _ ⟨[(1, .inl (is (U8 a1))), (3, .inr (.inl (3, 0))), (5, .inr (.inl (5, 0))), (36, .inl (is (Bl x5)))], [(3, pb 23 [is (U8 a0_0), is (U8 a0_1)]), (5, pb 151 [is (Bl a2_0), is (Sv a2_1), is (I16 a2_2)])]⟩
      have hr : some r = F213_2 N a0_0 a0_1 a1 a2_0 a2_1 a2_2 x5 := hr
      refine AW_condT (b := x5) rfl (fun h => ?_) (fun h => ?_)
      · have hr := hr.trans (cond_t h)
        clear h
        refine AW_seq1 ?_
        refine AW_region ?_
        refine AL_cons (LR_assign (at_c (v' := U64 (0#64)) rfl) rfl) (sS sT0 sB0 sF0) ?_
        refine AL_cons (LR_assign (at_c (v' := U8 (0#8)) rfl) rfl) (sS sT0 sB0 sF0) ?_
        refine AL_nil ?_
        refine thenN ?_
        refine AW_ret ?_
        refine thenR ?_
        obtain rfl := Option.some.inj hr
        exact res2 rfl (rvT rfl) (rvT rfl)
      · have hr := hr.trans (cond_f h)
        clear h
        refine AW_skip ?_
        refine thenN ?_
        refine AW_seq1 ?_
        refine AW_draw mixed
          (lrC (LR_fieldAddr (off := 0) (o := 2) (at_tmp 5 _) (fun b w => fa151_2 b 0 w) rfl)
          (lrC (LR_load (at_tmp 37 _) na44 rfl rfl)
          (lrC (LR_assign (at_c (v' := U64 (0#64)) rfl) rfl)
          (lrC (LR_assign (at_tmp 38 _) rfl)
          lrN))))
          (by kernel_rfl)
          (saC (sS (sT1 rfl) sB0 sF0) (saC (sS (sT1 rfl) (sB1 rfl) sF0) (saC (sS sT0 sB0 sF0) (saC (sS (sT1 rfl) sB0 sF0) saN)))) ?_
        refine thenN ?_
        refine AW_cut (σ := BitVec 64 × Int) (fun v => ⟨[(1, .inl (is (U8 a1))), (3, .inr (.inl (3, 0))), (5, .inr (.inl (5, 0))), (10, .inl (is (U64 v.1))), (11, .inl (is (I16 v.2)))], [(3, pb 23 [is (U8 a0_0), is (U8 a0_1)]), (5, pb 151 [is (Bl a2_0), is (Sv a2_1), is (I16 a2_2)])]⟩) (fun v => some r = F213_3 N a0_0 a0_1 a1 a2_0 a2_1 a2_2 v.1 v.2) ?_ ?_
        · skip
          refine AW_seq1 ?_
          refine AW_region ?_
          refine AL_cons (LR_assign (at_c (v' := I64 0) rfl) rfl) (sS sT0 sB0 sF0) ?_
          refine AL_nil ?_
          refine thenN ?_
          refine AW_block ?_
          refine AW_iterR (σ := BitVec 64 × Int × Int) (r := r) (x0 := (0#64, a2_2, 0)) (emb := fun v => ⟨[(1, .inl (is (U8 a1))), (3, .inr (.inl (3, 0))), (5, .inr (.inl (5, 0))), (10, .inl (is (U64 v.1))), (11, .inl (is (I16 v.2.1))), (12, .inl (is (I64 v.2.2)))], [(3, pb 23 [is (U8 a0_0), is (U8 a0_1)]), (5, pb 151 [is (Bl a2_0), is (Sv a2_1), is (I16 a2_2)])]⟩) ?_ hr ?_
          · exact weak0 ((sT rfl (sT rfl (sT rfl (sT rfl (sT rfl (sT rfl sT0))))))) (sub_keep (sub_keep sub_nil))
          rintro ⟨x8, x9, x10⟩ out2 hr
          show AW Hfaa.prog _ _ _ ⟨[(1, .inl (is (U8 a1))), (3, .inr (.inl (3, 0))), (5, .inr (.inl (5, 0))), (10, .inl (is (U64 x8))), (11, .inl (is (I16 x9))), (12, .inl (is (I64 x10)))], [(3, pb 23 [is (U8 a0_0), is (U8 a0_1)]), (5, pb 151 [is (Bl a2_0), is (Sv a2_1), is (I16 a2_2)])]⟩
          have hr : some out2 = F213_L4b N a0_0 a0_1 a1 a2_0 a2_1 a2_2 x8 x9 x10 := hr
          refine AW_seq1 ?_
          refine AW_cut (σ := Bool) (fun v => ⟨[(1, .inl (is (U8 a1))), (3, .inr (.inl (3, 0))), (5, .inr (.inl (5, 0))), (10, .inl (is (U64 x8))), (11, .inl (is (I16 x9))), (12, .inl (is (I64 x10))), (43, .inl (is (Bl v)))], [(3, pb 23 [is (U8 a0_0), is (U8 a0_1)]), (5, pb 151 [is (Bl a2_0), is (Sv a2_1), is (I16 a2_2)])]⟩) (fun v => some out2 = F213_5 N a0_0 a0_1 a1 a2_0 a2_1 a2_2 x8 x9 x10 v) ?_ ?_
          · skip
            refine AW_region ?_
            refine AL_cons (LR_move (at_tmp 12 _) rfl) (sS (sT1 rfl) sB0 sF0) ?_
            refine AL_cons (LR_fieldAddr (off := 0) (o := 1) (at_tmp 5 _) (fun b w => fa151_1 b 0 w) rfl) (sS (sT1 rfl) sB0 sF0) ?_
            refine AL_cons (LR_load (at_tmp 40 _) na9 rfl rfl) (sS (sT1 rfl) (sB1 rfl) sF0) ?_
            refine AL_cons (LR_bi1 (at_tmp 41 _) (len_S Hfaa.underlying9 a2_1) rfl) (sS (sT1 rfl) sB0 sF0) ?_
            refine AL_cons (LR_bin (at_tmp 39 _) (at_tmp 42 _) (lss_I64 x10 (a2_1.length : Int)) rfl) (sS (sA (sT1 rfl) (sT1 rfl)) sB0 sF0) ?_
            refine AL_nil ?_
            exact thenN (cutLeaf (v := decide (x10 < (a2_1.length : Int))) hr (weak0 ((sT rfl (sT rfl (sT rfl (sT rfl (sT rfl (sT rfl (sT rfl sT0)))))))) (sub_keep (sub_keep sub_nil))))
          · rintro x11 hr
            show AW Hfaa.prog _ _ _ ⟨[(1, .inl (is (U8 a1))), (3, .inr (.inl (3, 0))), (5, .inr (.inl (5, 0))), (10, .inl (is (U64 x8))), (11, .inl (is (I16 x9))), (12, .inl (is (I64 x10))), (43, .inl (is (Bl x11)))], [(3, pb 23 [is (U8 a0_0), is (U8 a0_1)]), (5, pb 151 [is (Bl a2_0), is (Sv a2_1), is (I16 a2_2)])]⟩
            have hr : some out2 = F213_5 N a0_0 a0_1 a1 a2_0 a2_1 a2_2 x8 x9 x10 x11 := hr
            refine AW_condT (b := x11) rfl (fun h => ?_) (fun h => ?_)
            · have hr := hr.trans (cond_t h)
              clear h
              refine AW_skip ?_
              refine thenN ?_
              refine AW_cut (σ := BitVec 64 × Int) (fun v => ⟨[(1, .inl (is (U8 a1))), (3, .inr (.inl (3, 0))), (5, .inr (.inl (5, 0))), (10, .inl (is (U64 v.1))), (11, .inl (is (I16 v.2))), (12, .inl (is (I64 x10)))], [(3, pb 23 [is (U8 a0_0), is (U8 a0_1)]), (5, pb 151 [is (Bl a2_0), is (Sv a2_1), is (I16 a2_2)])]⟩) (fun v => some out2 = F213_6 N a0_0 a0_1 a1 a2_0 a2_1 a2_2 x10 v.1 v.2) ?_ ?_
              · skip
                refine AW_block ?_
                refine AW_cut (σ := BitVec 64) (fun v => ⟨[(1, .inl (is (U8 a1))), (3, .inr (.inl (3, 0))), (5, .inr (.inl (5, 0))), (10, .inl (is (U64 x8))), (11, .inl (is (I16 x9))), (12, .inl (is (I64 x10))), (13, .inl (is (U64 v)))], [(3, pb 23 [is (U8 a0_0), is (U8 a0_1)]), (5, pb 151 [is (Bl a2_0), is (Sv a2_1), is (I16 a2_2)])]⟩) (fun v => some out2 = F213_7 N a0_0 a0_1 a1 a2_0 a2_1 a2_2 x8 x9 x10 v) ?_ ?_
                · skip
                  refine AW_region ?_
                  refine AL_cons (LR_fieldAddr (off := 0) (o := 1) (at_tmp 5 _) (fun b w => fa151_1 b 0 w) rfl) (sS (sT1 rfl) sB0 sF0) ?_
                  refine AL_cons (LR_load (at_tmp 46 _) na9 rfl rfl) (sS (sT1 rfl) (sB1 rfl) sF0) ?_
                  refine AL_cons (LR_move (at_tmp 12 _) rfl) (sS (sT1 rfl) sB0 sF0) ?_
                  obtain ⟨hg16, hr⟩ := guard_some hr
                  refine AL_cons (LR_indexS (i := (x10 : Int)) Hfaa.underlying9 (at_tmp 47 _) (at_tmp 48 _) (dand hg16) rfl) (sS (sA (sT1 rfl) (sT1 rfl)) sB0 sF0) ?_
                  refine AL_cons (LR_conv (vx := U8 ((a2_1.getD ((x10 : Int)).toNat 0).toBitVec)) (at_tmp 49 _) (conv_I32 Hfaa.underlying5 Hfaa.underlying21 (((a2_1.getD ((x10 : Int)).toNat 0).toBitVec).toNat : Int)) rfl) (sS (sT1 rfl) sB0 sF0) ?_
                  obtain ⟨y22, hy22, hr⟩ := lt_some hr
                  refine AL_cons (LR_call Hfaa.func285 rfl rfl (C285 (w32 (((a2_1.getD ((x10 : Int)).toNat 0).toBitVec).toNat : Int)) y22 hy22) (all_cons (at_tmp 50 _) all_nil) rfl) (sS (sA (sT1 rfl) sT0) sB0 sF0) ?_
                  refine AL_cons (LR_conv (vx := I64 y22) (at_tmp 51 _) (conv_U64 Hfaa.underlying3 Hfaa.underlying30 y22) rfl) (sS (sT1 rfl) sB0 sF0) ?_
                  refine AL_cons (LR_assign (at_tmp 52 _) rfl) (sS (sT1 rfl) sB0 sF0) ?_
                  refine AL_nil ?_
                  exact thenN (cutLeaf (v := BitVec.ofInt 64 y22) hr (weak0 ((sT rfl (sT rfl (sT rfl (sT rfl (sT rfl (sT rfl (sT rfl sT0)))))))) (sub_keep (sub_keep sub_nil))))
                · rintro x14 hr
                  show AW Hfaa.prog _ _ _ ⟨[(1, .inl (is (U8 a1))), (3, .inr (.inl (3, 0))), (5, .inr (.inl (5, 0))), (10, .inl (is (U64 x8))), (11, .inl (is (I16 x9))), (12, .inl (is (I64 x10))), (13, .inl (is (U64 x14)))], [(3, pb 23 [is (U8 a0_0), is (U8 a0_1)]), (5, pb 151 [is (Bl a2_0), is (Sv a2_1), is (I16 a2_2)])]⟩
                  have hr : some out2 = F213_7 N a0_0 a0_1 a1 a2_0 a2_1 a2_2 x8 x9 x10 x14 := hr
                  refine AW_seq1 ?_
                  refine AW_cut (σ := Bool) (fun v => ⟨[(1, .inl (is (U8 a1))), (3, .inr (.inl (3, 0))), (5, .inr (.inl (5, 0))), (10, .inl (is (U64 x8))), (11, .inl (is (I16 x9))), (12, .inl (is (I64 x10))), (13, .inl (is (U64 x14))), (55, .inl (is (Bl v)))], [(3, pb 23 [is (U8 a0_0), is (U8 a0_1)]), (5, pb 151 [is (Bl a2_0), is (Sv a2_1), is (I16 a2_2)])]⟩) (fun v => some out2 = F213_8 N a0_0 a0_1 a1 a2_0 a2_1 a2_2 x8 x9 x10 x14 v) ?_ ?_
                  · skip
                    refine AW_region ?_
                    refine AL_cons (LR_move (at_tmp 10 _) rfl) (sS (sT1 rfl) sB0 sF0) ?_
                    refine AL_cons (LR_bin (at_tmp 53 _) (at_c (v' := U64 (60#64)) rfl) (shr_U64 x8 ((60#64).toNat : Int) (Int.natCast_nonneg _)) rfl) (sS (sA (sT1 rfl) sT0) sB0 sF0) ?_
                    refine AL_cons (LR_bin (at_tmp 54 _) (at_c (v' := U64 (0#64)) rfl) (eql_U64 (x8 >>> 60) (0#64)) rfl) (sS (sA (sT1 rfl) sT0) sB0 sF0) ?_
                    refine AL_nil ?_
                    exact thenN (cutLeaf (v := (x8 >>> 60) == (0#64)) hr (weak0 ((sT rfl (sT rfl (sT rfl (sT rfl (sT rfl (sT rfl (sT rfl (sT rfl sT0))))))))) (sub_keep (sub_keep sub_nil))))
                  · rintro x15 hr
                    show AW Hfaa.prog _ _ _ ⟨[(1, .inl (is (U8 a1))), (3, .inr (.inl (3, 0))), (5, .inr (.inl (5, 0))), (10, .inl (is (U64 x8))), (11, .inl (is (I16 x9))), (12, .inl (is (I64 x10))), (13, .inl (is (U64 x14))), (55, .inl (is (Bl x15)))], [(3, pb 23 [is (U8 a0_0), is (U8 a0_1)]), (5, pb 151 [is (Bl a2_0), is (Sv a2_1), is (I16 a2_2)])]⟩
                    have hr : some out2 = F213_8 N a0_0 a0_1 a1 a2_0 a2_1 a2_2 x8 x9 x10 x14 x15 := hr
                    refine AW_condT (b := x15) rfl (fun h => ?_) (fun h => ?_)
                    · have hr := hr.trans (cond_t h)
                      clear h
                      refine AW_cut (σ := BitVec 64) (fun v => ⟨[(1, .inl (is (U8 a1))), (3, .inr (.inl (3, 0))), (5, .inr (.inl (5, 0))), (10, .inl (is (U64 v))), (11, .inl (is (I16 x9))), (12, .inl (is (I64 x10)))], [(3, pb 23 [is (U8 a0_0), is (U8 a0_1)]), (5, pb 151 [is (Bl a2_0), is (Sv a2_1), is (I16 a2_2)])]⟩) (fun v => some out2 = F213_9 N a0_0 a0_1 a1 a2_0 a2_1 a2_2 x9 x10 v) ?_ ?_
                      · skip
                        refine AW_region ?_
                        refine AL_cons (LR_move (at_tmp 10 _) rfl) (sS (sT1 rfl) sB0 sF0) ?_
                        refine AL_cons (LR_bin (at_tmp 56 _) (at_c (v' := U64 (4#64)) rfl) (shl_U64 x8 ((4#64).toNat : Int) (Int.natCast_nonneg _)) rfl) (sS (sA (sT1 rfl) sT0) sB0 sF0) ?_
                        refine AL_cons (LR_move (at_tmp 13 _) rfl) (sS (sT1 rfl) sB0 sF0) ?_
                        refine AL_cons (LR_bin (at_tmp 57 _) (at_tmp 58 _) (or_U64 (x8 <<< 4) x14) rfl) (sS (sA (sT1 rfl) (sT1 rfl)) sB0 sF0) ?_
                        refine AL_cons (LR_assign (at_tmp 59 _) rfl) (sS (sT1 rfl) sB0 sF0) ?_
                        refine AL_nil ?_
                        exact thenN (cutLeaf (v := (x8 <<< 4) ||| x14) hr (weak0 ((sT rfl (sT rfl (sT rfl (sT rfl (sT rfl (sT rfl sT0))))))) (sub_keep (sub_keep sub_nil))))
                      · rintro x16 hr
                        show AW Hfaa.prog _ _ _ ⟨[(1, .inl (is (U8 a1))), (3, .inr (.inl (3, 0))), (5, .inr (.inl (5, 0))), (10, .inl (is (U64 x16))), (11, .inl (is (I16 x9))), (12, .inl (is (I64 x10)))], [(3, pb 23 [is (U8 a0_0), is (U8 a0_1)]), (5, pb 151 [is (Bl a2_0), is (Sv a2_1), is (I16 a2_2)])]⟩
                        have hr : some out2 = F213_9 N a0_0 a0_1 a1 a2_0 a2_1 a2_2 x9 x10 x16 := hr
                        refine AW_exit ?_
                        refine thenX ?_
                        refine blH ?_
                        exact thenN (cutLeaf (v := (x16, x9)) hr (weak0 ((sT rfl (sT rfl (sT rfl (sT rfl (sT rfl (sT rfl sT0))))))) (sub_keep (sub_keep sub_nil))))
                    · have hr := hr.trans (cond_f h)
                      clear h
                      refine AW_skip ?_
                      refine thenN ?_
                      refine AW_cut (σ := Int) (fun v => ⟨[(1, .inl (is (U8 a1))), (3, .inr (.inl (3, 0))), (5, .inr (.inl (5, 0))), (10, .inl (is (U64 x8))), (11, .inl (is (I16 v))), (12, .inl (is (I64 x10))), (13, .inl (is (U64 x14)))], [(3, pb 23 [is (U8 a0_0), is (U8 a0_1)]), (5, pb 151 [is (Bl a2_0), is (Sv a2_1), is (I16 a2_2)])]⟩) (fun v => some out2 = F213_10 N a0_0 a0_1 a1 a2_0 a2_1 a2_2 x8 x10 x14 v) ?_ ?_
                      · skip
                        refine AW_region ?_
                        refine AL_cons (LR_move (at_tmp 11 _) rfl) (sS (sT1 rfl) sB0 sF0) ?_
                        refine AL_cons (LR_bin (at_tmp 60 _) (at_c (v' := I16 4) rfl) (add_I16 x9 4) rfl) (sS (sA (sT1 rfl) sT0) sB0 sF0) ?_
                        refine AL_cons (LR_assign (at_tmp 61 _) rfl) (sS (sT1 rfl) sB0 sF0) ?_
                        refine AL_nil ?_
                        exact thenN (cutLeaf (v := w16 (x9 + 4)) hr (weak0 ((sT rfl (sT rfl (sT rfl (sT rfl (sT rfl (sT rfl (sT rfl sT0)))))))) (sub_keep (sub_keep sub_nil))))
                      · rintro x17 hr
                        show AW Hfaa.prog _ _ _ ⟨[(1, .inl (is (U8 a1))), (3, .inr (.inl (3, 0))), (5, .inr (.inl (5, 0))), (10, .inl (is (U64 x8))), (11, .inl (is (I16 x17))), (12, .inl (is (I64 x10))), (13, .inl (is (U64 x14)))], [(3, pb 23 [is (U8 a0_0), is (U8 a0_1)]), (5, pb 151 [is (Bl a2_0), is (Sv a2_1), is (I16 a2_2)])]⟩
                        have hr : some out2 = F213_10 N a0_0 a0_1 a1 a2_0 a2_1 a2_2 x8 x10 x14 x17 := hr
                        refine AW_cut (σ := Bool) (fun v => ⟨[(1, .inl (is (U8 a1))), (3, .inr (.inl (3, 0))), (5, .inr (.inl (5, 0))), (10, .inl (is (U64 x8))), (11, .inl (is (I16 x17))), (12, .inl (is (I64 x10))), (63, .inl (is (Bl v)))], [(3, pb 23 [is (U8 a0_0), is (U8 a0_1)]), (5, pb 151 [is (Bl a2_0), is (Sv a2_1), is (I16 a2_2)])]⟩) (fun v => some out2 = F213_11 N a0_0 a0_1 a1 a2_0 a2_1 a2_2 x8 x10 x17 v) ?_ ?_
                        · skip
                          refine AW_region ?_
                          refine AL_cons (LR_move (at_tmp 13 _) rfl) (sS (sT1 rfl) sB0 sF0) ?_
                          refine AL_cons (LR_bin (at_tmp 62 _) (at_c (v' := U64 (0#64)) rfl) (neq_U64 x14 (0#64)) rfl) (sS (sA (sT1 rfl) sT0) sB0 sF0) ?_
                          refine AL_nil ?_
                          exact thenN (cutLeaf (v := x14 != (0#64)) hr (weak0 ((sT rfl (sT rfl (sT rfl (sT rfl (sT rfl (sT rfl (sT rfl sT0)))))))) (sub_keep (sub_keep sub_nil))))
                        · rintro x18 hr
                          show AW Hfaa.prog _ _ _ ⟨[(1, .inl (is (U8 a1))), (3, .inr (.inl (3, 0))), (5, .inr (.inl (5, 0))), (10, .inl (is (U64 x8))), (11, .inl (is (I16 x17))), (12, .inl (is (I64 x10))), (63, .inl (is (Bl x18)))], [(3, pb 23 [is (U8 a0_0), is (U8 a0_1)]), (5, pb 151 [is (Bl a2_0), is (Sv a2_1), is (I16 a2_2)])]⟩
                          have hr : some out2 = F213_11 N a0_0 a0_1 a1 a2_0 a2_1 a2_2 x8 x10 x17 x18 := hr
                          refine AW_condT (b := x18) rfl (fun h => ?_) (fun h => ?_)
                          · have hr := hr.trans (cond_t h)
                            clear h
                            refine AW_region ?_
                            refine AL_cons (LR_move (at_tmp 10 _) rfl) (sS (sT1 rfl) sB0 sF0) ?_
                            refine AL_cons (LR_bin (at_tmp 64 _) (at_c (v' := U64 (1#64)) rfl) (or_U64 x8 (1#64)) rfl) (sS (sA (sT1 rfl) sT0) sB0 sF0) ?_
                            refine AL_cons (LR_assign (at_tmp 65 _) rfl) (sS (sT1 rfl) sB0 sF0) ?_
                            refine AL_nil ?_
                            refine blN ?_
                            exact thenN (cutLeaf (v := (x8 ||| (1#64), x17)) hr (weak0 ((sT rfl (sT rfl (sT rfl (sT rfl (sT rfl (sT rfl sT0))))))) (sub_keep (sub_keep sub_nil))))
                          · have hr := hr.trans (cond_f h)
                            clear h
                            refine AW_skip ?_
                            refine blN ?_
                            exact thenN (cutLeaf (v := (x8, x17)) hr (weak0 ((sT rfl (sT rfl (sT rfl (sT rfl (sT rfl (sT rfl sT0))))))) (sub_keep (sub_keep sub_nil))))
              · rintro ⟨x12, x13⟩ hr
                show AW Hfaa.prog _ _ _ ⟨[(1, .inl (is (U8 a1))), (3, .inr (.inl (3, 0))), (5, .inr (.inl (5, 0))), (10, .inl (is (U64 x12))), (11, .inl (is (I16 x13))), (12, .inl (is (I64 x10)))], [(3, pb 23 [is (U8 a0_0), is (U8 a0_1)]), (5, pb 151 [is (Bl a2_0), is (Sv a2_1), is (I16 a2_2)])]⟩
                have hr : some out2 = F213_6 N a0_0 a0_1 a1 a2_0 a2_1 a2_2 x10 x12 x13 := hr
                refine AW_region ?_
                refine AL_cons (LR_move (at_tmp 12 _) rfl) (sS (sT1 rfl) sB0 sF0) ?_
                refine AL_cons (LR_bin (at_tmp 44 _) (at_c (v' := I64 1) rfl) (add_I64 x10 1) rfl) (sS (sA (sT1 rfl) sT0) sB0 sF0) ?_
                refine AL_cons (LR_assign (at_tmp 45 _) rfl) (sS (sT1 rfl) sB0 sF0) ?_
                refine AL_nil ?_
                exact thenN (loopNext (x' := (x12, x13, w64 (x10 + 1))) hr (weak0 ((sT rfl (sT rfl (sT rfl (sT rfl (sT rfl (sT rfl sT0))))))) (sub_keep (sub_keep sub_nil))))
            · have hr := hr.trans (cond_f h)
              clear h
              refine AW_exit ?_
              refine thenX ?_
              obtain ⟨r', hro, hr⟩ := map_inr hr
              refine thenX (loopOut hro (fun he => ?_))
              rw [he] at hr
              refine blH ?_
              exact thenN (cutLeaf (v := (x8, x9)) hr (weak0 ((sT rfl (sT rfl (sT rfl (sT rfl (sT rfl sT0)))))) (sub_keep (sub_keep sub_nil))))
        · rintro ⟨x6, x7⟩ hr
          show AW Hfaa.prog _ _ _ ⟨[(1, .inl (is (U8 a1))), (3, .inr (.inl (3, 0))), (5, .inr (.inl (5, 0))), (10, .inl (is (U64 x6))), (11, .inl (is (I16 x7)))], [(3, pb 23 [is (U8 a0_0), is (U8 a0_1)]), (5, pb 151 [is (Bl a2_0), is (Sv a2_1), is (I16 a2_2)])]⟩
          have hr : some r = F213_3 N a0_0 a0_1 a1 a2_0 a2_1 a2_2 x6 x7 := hr
          refine AW_seq1 ?_
          refine AW_region ?_
          refine AL_cons (LR_loads (at_tmp 3 _) ag23 sz23 rfl rfl rfl) (sS (sT1 rfl) (sB1 rfl) sF0) ?_
          refine AL_cons (LR_move (at_tmp 1 _) rfl) (sS (sT1 rfl) sB0 sF0) ?_
          refine AL_cons (LR_fieldAddr (off := 0) (o := 0) (at_tmp 5 _) (fun b w => fa151_0 b 0 w) rfl) (sS (sT1 rfl) sB0 sF0) ?_
          refine AL_cons (LR_load (at_tmp 68 _) na4 rfl rfl) (sS (sT1 rfl) (sB1 rfl) sF0) ?_
          refine AL_cons (LR_move (at_tmp 11 _) rfl) (sS (sT1 rfl) sB0 sF0) ?_
          refine AL_cons (LR_move (at_tmp 10 _) rfl) (sS (sT1 rfl) sB0 sF0) ?_
          obtain ⟨y14, hy14, hr⟩ := bind_some hr
          refine AL_cons (LR_call Hfaa.func179 rfl rfl (C179 N a0_0 a0_1 a1 a2_0 x7 x6 y14 hy14) (all_cons (at_tmp 66 _) (all_cons (at_tmp 67 _) (all_cons (at_tmp 69 _) (all_cons (at_tmp 70 _) (all_cons (at_tmp 71 _) all_nil))))) rfl) (sS (sA (sT1 rfl) (sA (sT1 rfl) (sA (sT1 rfl) (sA (sT1 rfl) (sA (sT1 rfl) sT0))))) sB0 sF0) ?_
          refine AL_cons (LR_extract (at_tmp 72 _) rfl rfl) (sS (sT1 rfl) sB0 sF0) ?_
          refine AL_cons (LR_extract (at_tmp 72 _) rfl rfl) (sS (sT1 rfl) sB0 sF0) ?_
          refine AL_cons (LR_assign (at_tmp 73 _) rfl) (sS (sT1 rfl) sB0 sF0) ?_
          refine AL_cons (LR_assign (at_tmp 74 _) rfl) (sS (sT1 rfl) sB0 sF0) ?_
          refine AL_nil ?_
          refine thenN ?_
          refine AW_ret ?_
          obtain rfl := Option.some.inj hr
          exact res2 rfl (rvT rfl) (rvT rfl)
/-- hexa.Bits -/
def F109_1 (N : Nat) (x1 : BitVec 64) : Option (BitVec 64) := some x1
def F109 (N : Nat) (a0_0 : BitVec 8) (a0_1 : BitVec 8) (a1 : BitVec 8) (a2_0 : Bool) (a2_1 : List UInt8) (a2_2 : Int) : Option (BitVec 64) := (F213 N a0_0 a0_1 a1 a2_0 a2_1 a2_2).bind fun y2 => F109_1 N y2.1
theorem C109 (N : Nat) (a0_0 : BitVec 8) (a0_1 : BitVec 8) (a1 : BitVec 8) (a2_0 : Bool) (a2_1 : List UInt8) (a2_2 : Int) (r : BitVec 64) (hr : some r = F109 N a0_0 a0_1 a1 a2_0 a2_1 a2_2) : Aw.Fn Hfaa.prog 109 [agg [is (U8 a0_0), is (U8 a0_1)], is (U8 a1), agg [is (Bl a2_0), is (Sv a2_1), is (I16 a2_2)]] (is (U64 r)) := by
  refine fn_intro Hfaa.func109 rfl rfl rfl ?_
  intro bn0 w0 H0
  refine AW_seq1 ?_
  refine AW_region ?_
  refine AL_cons (LR_box (at_tmp 0 _) (cells_agg _) rfl) (sS (sT1 rfl) sB0 (sF1 rfl)) ?_
  refine AL_cons (LR_box (at_tmp 2 _) (cells_agg _) rfl) (sS (sT1 rfl) sB0 (sF1 rfl)) ?_
  refine AL_cons (LR_assign (at_c (v' := U64 (0#64)) rfl) rfl) (sS sT0 sB0 sF0) ?_
  refine AL_nil ?_
  refine thenN ?_
  refine AW_cut (σ := BitVec 64) (fun v => ⟨[(7, .inl (is (U64 v)))], []⟩) (fun v => some r = F109_1 N v) ?_ ?_
  · skip
    refine AW_region ?_
    refine AL_cons (LR_loads (at_tmp 3 _) ag23 sz23 rfl rfl rfl) (sS (sT1 rfl) (sB1 rfl) sF0) ?_
    refine AL_cons (LR_move (at_tmp 1 _) rfl) (sS (sT1 rfl) sB0 sF0) ?_
    refine AL_cons (LR_loads (at_tmp 5 _) ag151 sz151 rfl rfl rfl) (sS (sT1 rfl) (sB1 rfl) sF0) ?_
    obtain ⟨y2, hy2, hr⟩ := bind_some hr
    refine AL_cons (LR_call Hfaa.func213 rfl rfl (C213 N a0_0 a0_1 a1 a2_0 a2_1 a2_2 y2 hy2) (all_cons (at_tmp 10 _) (all_cons (at_tmp 11 _) (all_cons (at_tmp 12 _) all_nil))) rfl) (sS (sA (sT1 rfl) (sA (sT1 rfl) (sA (sT1 rfl) sT0))) sB0 sF0) ?_
    refine AL_cons (LR_move (at_tmp 13 _) rfl) (sS (sT1 rfl) sB0 sF0) ?_
    refine AL_cons (LR_extract (at_tmp 9 _) rfl rfl) (sS (sT1 rfl) sB0 sF0) ?_
    refine AL_cons (LR_extract (at_tmp 9 _) rfl rfl) (sS (sT1 rfl) sB0 sF0) ?_
    refine AL_cons (LR_assign (at_tmp 14 _) rfl) (sS (sT1 rfl) sB0 sF0) ?_
    refine AL_cons (LR_assign (at_tmp 15 _) rfl) (sS (sT1 rfl) sB0 sF0) ?_
    refine AL_nil ?_
    exact thenN (cutLeaf (v := y2.1) hr (weak0 ((sT rfl sT0)) (sub_drop (sub_drop sub_nil))))
  · rintro x1 hr
    show AW Hfaa.prog _ _ _ ⟨[(7, .inl (is (U64 x1)))], []⟩
    have hr : some r = F109_1 N x1 := hr
    refine AW_seq1 ?_
    refine AW_region ?_
    refine AL_cons (LR_move (at_tmp 7 _) rfl) (sS (sT1 rfl) sB0 sF0) ?_
    refine AL_cons (LR_assign (at_tmp 16 _) rfl) (sS (sT1 rfl) sB0 sF0) ?_
    refine AL_nil ?_
    refine thenN ?_
    refine AW_ret ?_
    obtain rfl := Option.some.inj hr
    exact res1 rfl (rvT rfl)
/-- parse/second.head -/
def F203_1 (N : Nat) (x1 : BitVec 64) : Option (BitVec 64) := some x1
def F203_4 (N : Nat) (a0 : List UInt8) (x3 : Int) (x5 : BitVec 64) : Option ((BitVec 64 × Int) ⊕ (BitVec 64)) := some (.inl ((x5, w64 (x3 + 1))))
def F203_3 (N : Nat) (a0 : List UInt8) (x2 : BitVec 64) (x3 : Int) (x4 : Bool) : Option ((BitVec 64 × Int) ⊕ (BitVec 64)) := bif x4 then bif (decide (0 ≤ (x3 : Int)) && decide ((x3 : Int) < (a0.length : Int))) then F203_4 N a0 x3 (((10#64) * x2) + (BitVec.ofInt 64 ((((a0.getD ((x3 : Int)).toNat 0).toBitVec) - (48#8)).toNat : Int))) else none else (F203_1 N x2).map Sum.inr
def F203_L2b (N : Nat) (a0 : List UInt8) (x2 : BitVec 64) (x3 : Int) : Option ((BitVec 64 × Int) ⊕ (BitVec 64)) := F203_3 N a0 x2 x3 ((decide (x3 < (a0.length : Int))) && (decide (x3 < 19)))
def F203_L2 (N : Nat) (a0 : List UInt8) : (BitVec 64 × Int) → Option ((BitVec 64 × Int) ⊕ (BitVec 64)) := fun v => F203_L2b N a0 v.1 v.2
def F203 (N : Nat) (a0 : List UInt8) : Option (BitVec 64) := iterL (F203_L2 N a0) N (0#64, 0)
theorem C203 (N : Nat) (a0 : List UInt8) (r : BitVec 64) (hr : some r = F203 N a0) : Aw.Fn Hfaa.prog 203 [is (Sv a0)] (is (U64 r)) := by
  refine fn_intro Hfaa.func203 rfl rfl rfl ?_
  intro bn0 w0 H0
  refine AW_seq1 ?_
  refine AW_region ?_
  refine AL_cons (LR_assign (at_c (v' := U64 (0#64)) rfl) rfl) (sS sT0 sB0 sF0) ?_
  refine AL_nil ?_
  refine thenN ?_
  refine AW_seq1 ?_
  refine AW_region ?_
  refine AL_cons (LR_assign (at_c (v' := U64 (0#64)) rfl) rfl) (sS sT0 sB0 sF0) ?_
  refine AL_nil ?_
  refine thenN ?_
  refine AW_cut (σ := BitVec 64) (fun v => ⟨[(3, .inl (is (U64 v)))], []⟩) (fun v => some r = F203_1 N v) ?_ ?_
  · skip
    refine AW_seq1 ?_
    refine AW_region ?_
    refine AL_cons (LR_assign (at_c (v' := I64 0) rfl) rfl) (sS sT0 sB0 sF0) ?_
    refine AL_nil ?_
    refine thenN ?_
    refine AW_block ?_
    refine AW_iterR (σ := BitVec 64 × Int) (r := r) (x0 := (0#64, 0)) (emb := fun v => ⟨[(0, .inl (is (Sv a0))), (3, .inl (is (U64 v.1))), (4, .inl (is (I64 v.2)))], []⟩) ?_ hr ?_
    · exact weak0 ((sT rfl (sT rfl (sT rfl sT0)))) sub_nil
    rintro ⟨x2, x3⟩ out2 hr
    show AW Hfaa.prog _ _ _ ⟨[(0, .inl (is (Sv a0))), (3, .inl (is (U64 x2))), (4, .inl (is (I64 x3)))], []⟩
    have hr : some out2 = F203_L2b N a0 x2 x3 := hr
    refine AW_seq1 ?_
    refine AW_cut (σ := Bool) (fun v => ⟨[(0, .inl (is (Sv a0))), (3, .inl (is (U64 x2))), (4, .inl (is (I64 x3))), (12, .inl (is (Bl v)))], []⟩) (fun v => some out2 = F203_3 N a0 x2 x3 v) ?_ ?_
    · skip
      refine AW_region ?_
      refine AL_cons (LR_move (at_tmp 4 _) rfl) (sS (sT1 rfl) sB0 sF0) ?_
      refine AL_cons (LR_move (at_tmp 0 _) rfl) (sS (sT1 rfl) sB0 sF0) ?_
      refine AL_cons (LR_bi1 (at_tmp 6 _) (len_S Hfaa.underlying9 a0) rfl) (sS (sT1 rfl) sB0 sF0) ?_
      refine AL_cons (LR_bin (at_tmp 5 _) (at_tmp 7 _) (lss_I64 x3 (a0.length : Int)) rfl) (sS (sA (sT1 rfl) (sT1 rfl)) sB0 sF0) ?_
      refine AL_cons (LR_move (at_tmp 8 _) rfl) (sS (sT1 rfl) sB0 sF0) ?_
      refine AL_cutAt 3 ⟨[(0, .inl (is (Sv a0))), (3, .inl (is (U64 x2))), (4, .inl (is (I64 x3))), (5, .inl (is (I64 x3))), (6, .inl (is (Sv a0))), (7, .inl (is (I64 (a0.length : Int)))), (8, .inl (is (Bl (decide (x3 < (a0.length : Int)))))), (9, .inl (is (Bl (decide (x3 < (a0.length : Int)))))), (12, .inl (is (Bl ((decide (x3 < (a0.length : Int))) && (decide (x3 < 19))))))], []⟩ ?_ ?_
      · cases hb : decide (x3 < (a0.length : Int))
        · skip
          refine AL_cons (LR_off (b := false) rfl rfl rfl rfl) (sS (sT1 rfl) sB0 sF0) ?_
          refine AL_cons (LR_off (b := false) rfl rfl rfl rfl) (sS (sT1 rfl) sB0 sF0) ?_
          refine AL_cons (LR_pick (b := false) (at_tmp 9 _) (at_tmp 11 _) (at_c (v' := Bl false) rfl) rfl) (sS (sA (sT1 rfl) (sA (sT1 rfl) sT0)) sB0 sF0) ?_
          exact AL_nil ⟨rfl, weak0 ((sT rfl (sT rfl (sT rfl (sT rfl (sT rfl (sT rfl (sT rfl (sT rfl (sT rfl sT0)))))))))) sub_nil⟩
        · skip
          refine AL_cons (LR_on rfl rfl rfl (LR_move (at_tmp 4 _) rfl)) (sS (sT rfl (sT1 rfl)) sB0 sF0) ?_
          refine AL_cons (LR_on rfl rfl rfl (LR_bin (at_tmp 10 _) (at_c (v' := I64 19) rfl) (lss_I64 x3 19) rfl)) (sS (sT rfl (sA (sT1 rfl) sT0)) sB0 sF0) ?_
          refine AL_cons (LR_pick (b := true) (at_tmp 9 _) (at_tmp 11 _) (at_c (v' := Bl false) rfl) rfl) (sS (sA (sT1 rfl) (sA (sT1 rfl) sT0)) sB0 sF0) ?_
          exact AL_nil ⟨rfl, weak0 ((sT rfl (sT rfl (sT rfl (sT rfl (sT rfl (sT rfl (sT rfl (sT rfl (sT rfl sT0)))))))))) sub_nil⟩
      refine AL_nil ?_
      exact thenN (cutLeaf (v := (decide (x3 < (a0.length : Int))) && (decide (x3 < 19))) hr (weak0 ((sT rfl (sT rfl (sT rfl (sT rfl sT0))))) sub_nil))
    · rintro x4 hr
      show AW Hfaa.prog _ _ _ ⟨[(0, .inl (is (Sv a0))), (3, .inl (is (U64 x2))), (4, .inl (is (I64 x3))), (12, .inl (is (Bl x4)))], []⟩
      have hr : some out2 = F203_3 N a0 x2 x3 x4 := hr
      refine AW_condT (b := x4) rfl (fun h => ?_) (fun h => ?_)
      · have hr := hr.trans (cond_t h)
        clear h
        refine AW_skip ?_
        refine thenN ?_
        refine AW_cut (σ := BitVec 64) (fun v => ⟨[(0, .inl (is (Sv a0))), (3, .inl (is (U64 v))), (4, .inl (is (I64 x3)))], []⟩) (fun v => some out2 = F203_4 N a0 x3 v) ?_ ?_
        · skip
          refine AW_block ?_
          refine AW_region ?_
          refine AL_cons (LR_move (at_tmp 3 _) rfl) (sS (sT1 rfl) sB0 sF0) ?_
          refine AL_cons (LR_bin (at_c (v' := U64 (10#64)) rfl) (at_tmp 15 _) (mul_U64 (10#64) x2) rfl) (sS (sA sT0 (sT1 rfl)) sB0 sF0) ?_
          refine AL_cons (LR_move (at_tmp 0 _) rfl) (sS (sT1 rfl) sB0 sF0) ?_
          refine AL_cons (LR_move (at_tmp 4 _) rfl) (sS (sT1 rfl) sB0 sF0) ?_
          obtain ⟨hg8, hr⟩ := guard_some hr
          refine AL_cons (LR_indexS (i := (x3 : Int)) Hfaa.underlying9 (at_tmp 17 _) (at_tmp 18 _) (dand hg8) rfl) (sS (sA (sT1 rfl) (sT1 rfl)) sB0 sF0) ?_
          refine AL_cons (LR_bin (at_tmp 19 _) (at_c (v' := U8 (48#8)) rfl) (sub_U8 ((a0.getD ((x3 : Int)).toNat 0).toBitVec) (48#8)) rfl) (sS (sA (sT1 rfl) sT0) sB0 sF0) ?_
          refine AL_cons (LR_conv (vx := U8 (((a0.getD ((x3 : Int)).toNat 0).toBitVec) - (48#8))) (at_tmp 20 _) (conv_U64 Hfaa.underlying5 Hfaa.underlying30 ((((a0.getD ((x3 : Int)).toNat 0).toBitVec) - (48#8)).toNat : Int)) rfl) (sS (sT1 rfl) sB0 sF0) ?_
          refine AL_cons (LR_bin (at_tmp 16 _) (at_tmp 21 _) (add_U64 ((10#64) * x2) (BitVec.ofInt 64 ((((a0.getD ((x3 : Int)).toNat 0).toBitVec) - (48#8)).toNat : Int))) rfl) (sS (sA (sT1 rfl) (sT1 rfl)) sB0 sF0) ?_
          refine AL_cons (LR_assign (at_tmp 22 _) rfl) (sS (sT1 rfl) sB0 sF0) ?_
          refine AL_nil ?_
          refine blN ?_
          exact thenN (cutLeaf (v := ((10#64) * x2) + (BitVec.ofInt 64 ((((a0.getD ((x3 : Int)).toNat 0).toBitVec) - (48#8)).toNat : Int))) hr (weak0 ((sT rfl (sT rfl (sT rfl sT0)))) sub_nil))
        · rintro x5 hr
          show AW Hfaa.prog _ _ _ ⟨[(0, .inl (is (Sv a0))), (3, .inl (is (U64 x5))), (4, .inl (is (I64 x3)))], []⟩
          have hr : some out2 = F203_4 N a0 x3 x5 := hr
          refine AW_region ?_
          refine AL_cons (LR_move (at_tmp 4 _) rfl) (sS (sT1 rfl) sB0 sF0) ?_
          refine AL_cons (LR_bin (at_tmp 13 _) (at_c (v' := I64 1) rfl) (add_I64 x3 1) rfl) (sS (sA (sT1 rfl) sT0) sB0 sF0) ?_
          refine AL_cons (LR_assign (at_tmp 14 _) rfl) (sS (sT1 rfl) sB0 sF0) ?_
          refine AL_nil ?_
          exact thenN (loopNext (x' := (x5, w64 (x3 + 1))) hr (weak0 ((sT rfl (sT rfl (sT rfl sT0)))) sub_nil))
      · have hr := hr.trans (cond_f h)
        clear h
        refine AW_exit ?_
        refine thenX ?_
        obtain ⟨r', hro, hr⟩ := map_inr hr
        refine thenX (loopOut hro (fun he => ?_))
        rw [he] at hr
        refine blH ?_
        exact thenN (cutLeaf (v := x2) hr (weak0 ((sT rfl sT0)) sub_nil))
  · rintro x1 hr
    show AW Hfaa.prog _ _ _ ⟨[(3, .inl (is (U64 x1)))], []⟩
    have hr : some r = F203_1 N x1 := hr
    refine AW_seq1 ?_
    refine AW_region ?_
    refine AL_cons (LR_move (at_tmp 3 _) rfl) (sS (sT1 rfl) sB0 sF0) ?_
    refine AL_cons (LR_assign (at_tmp 23 _) rfl) (sS (sT1 rfl) sB0 sF0) ?_
    refine AL_nil ?_
    refine thenN ?_
    refine AW_ret ?_
    obtain rfl := Option.some.inj hr
    exact res1 rfl (rvT rfl)
/-- parse/total.share -/
def F204_1 (N : Nat) (x1 : BitVec 64) : Option (BitVec 64 × Bool) := some (x1, true)
def F204_4 (N : Nat) (x3 : Int) (x5 : BitVec 64) : Option ((BitVec 64 × Int) ⊕ (BitVec 64 × Bool)) := some (.inl ((x5, w16 (x3 - 1))))
def F204_5 (N : Nat) (x2 : BitVec 64) (x3 : Int) (x6 : Bool) : Option ((BitVec 64 × Int) ⊕ (BitVec 64 × Bool)) := bif x6 then (some (0#64, false)).map Sum.inr else F204_4 N x3 (x2 / (5#64))
def F204_3 (N : Nat) (x2 : BitVec 64) (x3 : Int) (x4 : Bool) : Option ((BitVec 64 × Int) ⊕ (BitVec 64 × Bool)) := bif x4 then F204_5 N x2 x3 ((x2 % (5#64)) != (0#64)) else (F204_1 N x2).map Sum.inr
def F204_L2b (N : Nat) (x2 : BitVec 64) (x3 : Int) : Option ((BitVec 64 × Int) ⊕ (BitVec 64 × Bool)) := F204_3 N x2 x3 (decide (x3 > 0))
def F204_L2 (N : Nat) : (BitVec 64 × Int) → Option ((BitVec 64 × Int) ⊕ (BitVec 64 × Bool)) := fun v => F204_L2b N v.1 v.2
def F204 (N : Nat) (a0 : BitVec 64) (a1 : Int) : Option (BitVec 64 × Bool) := iterL (F204_L2 N) N (a0, a1)
theorem C204 (N : Nat) (a0 : BitVec 64) (a1 : Int) (r : BitVec 64 × Bool) (hr : some r = F204 N a0 a1) : Aw.Fn Hfaa.prog 204 [is (U64 a0), is (I16 a1)] (tup [is (U64 r.1), is (Bl r.2)]) := by
  refine fn_intro Hfaa.func204 rfl rfl rfl ?_
  intro bn0 w0 H0
  refine AW_seq1 ?_
  refine AW_region ?_
  refine AL_cons (LR_assign (at_c (v' := U64 (0#64)) rfl) rfl) (sS sT0 sB0 sF0) ?_
  refine AL_cons (LR_assign (at_c (v' := Bl false) rfl) rfl) (sS sT0 sB0 sF0) ?_
  refine AL_nil ?_
  refine thenN ?_
  refine AW_cut (σ := BitVec 64) (fun v => ⟨[(0, .inl (is (U64 v)))], []⟩) (fun v => some r = F204_1 N v) ?_ ?_
  · skip
    refine AW_block ?_
    refine AW_iterR (σ := BitVec 64 × Int) (r := r) (x0 := (a0, a1)) (emb := fun v => ⟨[(0, .inl (is (U64 v.1))), (1, .inl (is (I16 v.2)))], []⟩) ?_ hr ?_
    · exact weak0 ((sT rfl (sT rfl sT0))) sub_nil
    rintro ⟨x2, x3⟩ out2 hr
    show AW Hfaa.prog _ _ _ ⟨[(0, .inl (is (U64 x2))), (1, .inl (is (I16 x3)))], []⟩
    have hr : some out2 = F204_L2b N x2 x3 := hr
    refine AW_seq1 ?_
    refine AW_cut (σ := Bool) (fun v => ⟨[(0, .inl (is (U64 x2))), (1, .inl (is (I16 x3))), (7, .inl (is (Bl v)))], []⟩) (fun v => some out2 = F204_3 N x2 x3 v) ?_ ?_
    · skip
      refine AW_region ?_
      refine AL_cons (LR_move (at_tmp 1 _) rfl) (sS (sT1 rfl) sB0 sF0) ?_
      refine AL_cons (LR_bin (at_tmp 6 _) (at_c (v' := I16 0) rfl) (gtr_I16 x3 0) rfl) (sS (sA (sT1 rfl) sT0) sB0 sF0) ?_
      refine AL_nil ?_
      exact thenN (cutLeaf (v := decide (x3 > 0)) hr (weak0 ((sT rfl (sT rfl (sT rfl sT0)))) sub_nil))
    · rintro x4 hr
      show AW Hfaa.prog _ _ _ ⟨[(0, .inl (is (U64 x2))), (1, .inl (is (I16 x3))), (7, .inl (is (Bl x4)))], []⟩
      have hr : some out2 = F204_3 N x2 x3 x4 := hr
      refine AW_condT (b := x4) rfl (fun h => ?_) (fun h => ?_)
      · have hr := hr.trans (cond_t h)
        clear h
        refine AW_skip ?_
        refine thenN ?_
        refine AW_cut (σ := BitVec 64) (fun v => ⟨[(0, .inl (is (U64 v))), (1, .inl (is (I16 x3)))], []⟩) (fun v => some out2 = F204_4 N x3 v) ?_ ?_
        · skip
          refine AW_block ?_
          refine AW_seq1 ?_
          refine AW_cut (σ := Bool) (fun v => ⟨[(0, .inl (is (U64 x2))), (1, .inl (is (I16 x3))), (12, .inl (is (Bl v)))], []⟩) (fun v => some out2 = F204_5 N x2 x3 v) ?_ ?_
          · skip
            refine AW_region ?_
            refine AL_cons (LR_move (at_tmp 0 _) rfl) (sS (sT1 rfl) sB0 sF0) ?_
            refine AL_cons (LR_bin (at_tmp 10 _) (at_c (v' := U64 (5#64)) rfl) (rem_U64 x2 (5#64) (by decide)) rfl) (sS (sA (sT1 rfl) sT0) sB0 sF0) ?_
            refine AL_cons (LR_bin (at_tmp 11 _) (at_c (v' := U64 (0#64)) rfl) (neq_U64 (x2 % (5#64)) (0#64)) rfl) (sS (sA (sT1 rfl) sT0) sB0 sF0) ?_
            refine AL_nil ?_
            exact thenN (cutLeaf (v := (x2 % (5#64)) != (0#64)) hr (weak0 ((sT rfl (sT rfl (sT rfl sT0)))) sub_nil))
          · rintro x6 hr
            show AW Hfaa.prog _ _ _ ⟨[(0, .inl (is (U64 x2))), (1, .inl (is (I16 x3))), (12, .inl (is (Bl x6)))], []⟩
            have hr : some out2 = F204_5 N x2 x3 x6 := hr
            refine AW_condT (b := x6) rfl (fun h => ?_) (fun h => ?_)
            · have hr := hr.trans (cond_t h)
              clear h
              refine AW_seq1 ?_
              refine AW_region ?_
              refine AL_cons (LR_assign (at_c (v' := U64 (0#64)) rfl) rfl) (sS sT0 sB0 sF0) ?_
              refine AL_cons (LR_assign (at_c (v' := Bl false) rfl) rfl) (sS sT0 sB0 sF0) ?_
              refine AL_nil ?_
              refine thenN ?_
              refine AW_ret ?_
              refine thenR ?_
              refine blR ?_
              refine thenR ?_
              obtain ⟨r', hro, hr⟩ := map_inr hr
              refine thenR (loopOut hro (fun he => ?_))
              rw [he] at hr
              refine blR ?_
              refine thenR ?_
              obtain rfl := Option.some.inj hr
              exact res2 rfl (rvT rfl) (rvT rfl)
            · have hr := hr.trans (cond_f h)
              clear h
              refine AW_skip ?_
              refine thenN ?_
              refine AW_region ?_
              refine AL_cons (LR_move (at_tmp 0 _) rfl) (sS (sT1 rfl) sB0 sF0) ?_
              refine AL_cons (LR_bin (at_tmp 13 _) (at_c (v' := U64 (5#64)) rfl) (quo_U64 x2 (5#64) (by decide)) rfl) (sS (sA (sT1 rfl) sT0) sB0 sF0) ?_
              refine AL_cons (LR_assign (at_tmp 14 _) rfl) (sS (sT1 rfl) sB0 sF0) ?_
              refine AL_nil ?_
              refine blN ?_
              exact thenN (cutLeaf (v := x2 / (5#64)) hr (weak0 ((sT rfl (sT rfl sT0))) sub_nil))
        · rintro x5 hr
          show AW Hfaa.prog _ _ _ ⟨[(0, .inl (is (U64 x5))), (1, .inl (is (I16 x3)))], []⟩
          have hr : some out2 = F204_4 N x3 x5 := hr
          refine AW_region ?_
          refine AL_cons (LR_move (at_tmp 1 _) rfl) (sS (sT1 rfl) sB0 sF0) ?_
          refine AL_cons (LR_bin (at_tmp 8 _) (at_c (v' := I16 1) rfl) (sub_I16 x3 1) rfl) (sS (sA (sT1 rfl) sT0) sB0 sF0) ?_
          refine AL_cons (LR_assign (at_tmp 9 _) rfl) (sS (sT1 rfl) sB0 sF0) ?_
          refine AL_nil ?_
          exact thenN (loopNext (x' := (x5, w16 (x3 - 1))) hr (weak0 ((sT rfl (sT rfl sT0))) sub_nil))
      · have hr := hr.trans (cond_f h)
        clear h
        refine AW_exit ?_
        refine thenX ?_
        obtain ⟨r', hro, hr⟩ := map_inr hr
        refine thenX (loopOut hro (fun he => ?_))
        rw [he] at hr
        refine blH ?_
        exact thenN (cutLeaf (v := x2) hr (weak0 ((sT rfl sT0)) sub_nil))
  · rintro x1 hr
    show AW Hfaa.prog _ _ _ ⟨[(0, .inl (is (U64 x1)))], []⟩
    have hr : some r = F204_1 N x1 := hr
    refine AW_seq1 ?_
    refine AW_region ?_
    refine AL_cons (LR_move (at_tmp 0 _) rfl) (sS (sT1 rfl) sB0 sF0) ?_
    refine AL_cons (LR_assign (at_tmp 15 _) rfl) (sS (sT1 rfl) sB0 sF0) ?_
    refine AL_cons (LR_assign (at_c (v' := Bl true) rfl) rfl) (sS sT0 sB0 sF0) ?_
    refine AL_nil ?_
    refine thenN ?_
    refine AW_ret ?_
    obtain rfl := Option.some.inj hr
    exact res2 rfl (rvT rfl) (rvT rfl)
/-- parse/total.pack -/
def F205_9 (N : Nat) (a0_0 : BitVec 8) (a0_1 : BitVec 8) (x5 : Int) (x9 : Int) (x12 : BitVec 64) : Option (BitVec 64) := some (((BitVec.ofInt 64 (w16 (x9 - x5))) <<< a0_1.toNat) + x12)
def F205_10 (N : Nat) (a0_0 : BitVec 8) (a0_1 : BitVec 8) (x5 : Int) (x9 : Int) (x10 : BitVec 64) (x13 : Bool) : Option (BitVec 64) := bif x13 then F205_9 N a0_0 a0_1 x5 x9 (x10 + (1#64)) else F205_9 N a0_0 a0_1 x5 x9 x10
def F205_8 (N : Nat) (a0_0 : BitVec 8) (a0_1 : BitVec 8) (a3 : Bool) (x5 : Int) (x9 : Int) (x10 : BitVec 64) (x11 : BitVec 64) : Option (BitVec 64) := F205_10 N a0_0 a0_1 x5 x9 x10 ((decide ((9223372036854775808#64).toNat < x11.toNat)) || ((x11 == (9223372036854775808#64)) && (a3 || ((x10 &&& (1#64)) == (1#64)))))
def F205_11 (N : Nat) (a0_0 : BitVec 8) (a0_1 : BitVec 8) (a3 : Bool) (x2 : BitVec 64) (x5 : Int) (x8 : Int) (x9 : Int) (x14 : Bool) : Option (BitVec 64) := bif x14 then bif decide (0 ≤ x8) then bif decide (0 ≤ (w16 (64 - x8))) then F205_8 N a0_0 a0_1 a3 x5 x9 (x2 >>> x8.toNat) (x2 <<< (w16 (64 - x8)).toNat) else none else none else F205_8 N a0_0 a0_1 a3 x5 x9 (0#64) (0#64)
def F205_7 (N : Nat) (a0_0 : BitVec 8) (a0_1 : BitVec 8) (a3 : Bool) (x2 : BitVec 64) (x5 : Int) (x8 : Int) (x9 : Int) : Option (BitVec 64) := F205_11 N a0_0 a0_1 a3 x2 x5 x8 x9 (decide (x8 ≤ 64))
def F205_13 (N : Nat) (a0_0 : BitVec 8) (a0_1 : BitVec 8) (a3 : Bool) (x2 : BitVec 64) (x5 : Int) (x16 : Int) : Option (BitVec 64) := F205_7 N a0_0 a0_1 a3 x2 x5 x16 x5
def F205_12 (N : Nat) (a0_0 : BitVec 8) (a0_1 : BitVec 8) (a3 : Bool) (x2 : BitVec 64) (x4 : Int) (x5 : Int) (x7 : Int) (x15 : Bool) : Option (BitVec 64) := bif x15 then F205_13 N a0_0 a0_1 a3 x2 x5 (w16 (x7 + (w16 (x5 - x4)))) else F205_7 N a0_0 a0_1 a3 x2 x5 x7 x4
def F205_6 (N : Nat) (a0_0 : BitVec 8) (a0_1 : BitVec 8) (a3 : Bool) (x2 : BitVec 64) (x4 : Int) (x5 : Int) (x7 : Int) : Option (BitVec 64) := F205_12 N a0_0 a0_1 a3 x2 x4 x5 x7 (decide (x4 < x5))
def F205_5 (N : Nat) (a0_0 : BitVec 8) (a0_1 : BitVec 8) (a3 : Bool) (x2 : BitVec 64) (x4 : Int) (x5 : Int) (x6 : Bool) : Option (BitVec 64) := bif x6 then lt (F67 a0_0 a0_1 false) fun y9 => some y9 else F205_6 N a0_0 a0_1 a3 x2 x4 x5 (w16 (63 - (w16 (a0_1.toNat : Int))))
def F205_4 (N : Nat) (a0_0 : BitVec 8) (a0_1 : BitVec 8) (a3 : Bool) (x2 : BitVec 64) (x4 : Int) (x5 : Int) : Option (BitVec 64) := lt (F71 a0_0 a0_1) fun y10 => F205_5 N a0_0 a0_1 a3 x2 x4 x5 (decide (x4 > y10))
def F205_3 (N : Nat) (a0_0 : BitVec 8) (a0_1 : BitVec 8) (a3 : Bool) (x2 : BitVec 64) (x3 : Int) : Option (BitVec 64) := lt (F71 a0_0 a0_1) fun y11 => F205_4 N a0_0 a0_1 a3 x2 (w16 (x3 + 63)) (w16 (1 - y11))
def F205_2 (N : Nat) (a0_0 : BitVec 8) (a0_1 : BitVec 8) (a2 : Int) (a3 : Bool) (x1 : BitVec 8) (x2 : BitVec 64) : Option (BitVec 64) := F205_3 N a0_0 a0_1 a3 x2 (w16 (a2 - (w16 (x1.toNat : Int))))
def F205_1 (N : Nat) (a0_0 : BitVec 8) (a0_1 : BitVec 8) (a1 : BitVec 64) (a2 : Int) (a3 : Bool) (x1 : BitVec 8) : Option (BitVec 64) := F205_2 N a0_0 a0_1 a2 a3 x1 (a1 <<< x1.toNat)
def F205 (N : Nat) (a0_0 : BitVec 8) (a0_1 : BitVec 8) (a1 : BitVec 64) (a2 : Int) (a3 : Bool) : Option (BitVec 64) := (F164 N a1).bind fun y12 => F205_1 N a0_0 a0_1 a1 a2 a3 y12
theorem C205 (N : Nat) (a0_0 : BitVec 8) (a0_1 : BitVec 8) (a1 : BitVec 64) (a2 : Int) (a3 : Bool) (r : BitVec 64) (hr : some r = F205 N a0_0 a0_1 a1 a2 a3) : Aw.Fn Hfaa.prog 205 [agg [is (U8 a0_0), is (U8 a0_1)], is (U64 a1), is (I16 a2), is (Bl a3)] (is (U64 r)) := by
  refine fn_intro Hfaa.func205 rfl rfl rfl ?_
  intro bn0 w0 H0
  refine AW_seq1 ?_
  refine AW_region ?_
  refine AL_cons (LR_box (at_tmp 0 _) (cells_agg _) rfl) (sS (sT1 rfl) sB0 (sF1 rfl)) ?_
  refine AL_cons (LR_assign (at_c (v' := U64 (0#64)) rfl) rfl) (sS sT0 sB0 sF0) ?_
  refine AL_nil ?_
  refine thenN ?_
  refine AW_cut (σ := BitVec 8) (fun v => ⟨[(1, .inl (is (U64 a1))), (2, .inl (is (I16 a2))), (3, .inl (is (Bl a3))), (4, .inr (.inl (4, 0))), (9, .inl (is (U8 v)))], [(4, pb 23 [is (U8 a0_0), is (U8 a0_1)])]⟩) (fun v => some r = F205_1 N a0_0 a0_1 a1 a2 a3 v) ?_ ?_
  · skip
    refine AW_region ?_
    refine AL_cons (LR_move (at_tmp 1 _) rfl) (sS (sT1 rfl) sB0 sF0) ?_
    obtain ⟨y12, hy12, hr⟩ := bind_some hr
    refine AL_cons (LR_call Hfaa.func164 rfl rfl (C164 N a1 y12 hy12) (all_cons (at_tmp 15 _) all_nil) rfl) (sS (sA (sT1 rfl) sT0) sB0 sF0) ?_
    refine AL_cons (LR_assign (at_tmp 16 _) rfl) (sS (sT1 rfl) sB0 sF0) ?_
    refine AL_nil ?_
    exact thenN (cutLeaf (v := y12) hr (weak0 ((sT rfl (sT rfl (sT rfl (sT rfl (sT rfl sT0)))))) (sub_keep sub_nil)))
  · rintro x1 hr
    show AW Hfaa.prog _ _ _ ⟨[(1, .inl (is (U64 a1))), (2, .inl (is (I16 a2))), (3, .inl (is (Bl a3))), (4, .inr (.inl (4, 0))), (9, .inl (is (U8 x1)))], [(4, pb 23 [is (U8 a0_0), is (U8 a0_1)])]⟩
    have hr : some r = F205_1 N a0_0 a0_1 a1 a2 a3 x1 := hr
    refine AW_cut (σ := BitVec 64) (fun v => ⟨[(1, .inl (is (U64 v))), (2, .inl (is (I16 a2))), (3, .inl (is (Bl a3))), (4, .inr (.inl (4, 0))), (9, .inl (is (U8 x1)))], [(4, pb 23 [is (U8 a0_0), is (U8 a0_1)])]⟩) (fun v => some r = F205_2 N a0_0 a0_1 a2 a3 x1 v) ?_ ?_
    · skip
      refine AW_region ?_
      refine AL_cons (LR_move (at_tmp 1 _) rfl) (sS (sT1 rfl) sB0 sF0) ?_
      refine AL_cons (LR_move (at_tmp 9 _) rfl) (sS (sT1 rfl) sB0 sF0) ?_
      refine AL_cons (LR_bin (at_tmp 17 _) (at_tmp 18 _) (shl_U64 a1 (x1.toNat : Int) (Int.natCast_nonneg _)) rfl) (sS (sA (sT1 rfl) (sT1 rfl)) sB0 sF0) ?_
      refine AL_cons (LR_assign (at_tmp 19 _) rfl) (sS (sT1 rfl) sB0 sF0) ?_
      refine AL_nil ?_
      exact thenN (cutLeaf (v := a1 <<< x1.toNat) hr (weak0 ((sT rfl (sT rfl (sT rfl (sT rfl (sT rfl sT0)))))) (sub_keep sub_nil)))
    · rintro x2 hr
      show AW Hfaa.prog _ _ _ ⟨[(1, .inl (is (U64 x2))), (2, .inl (is (I16 a2))), (3, .inl (is (Bl a3))), (4, .inr (.inl (4, 0))), (9, .inl (is (U8 x1)))], [(4, pb 23 [is (U8 a0_0), is (U8 a0_1)])]⟩
      have hr : some r = F205_2 N a0_0 a0_1 a2 a3 x1 x2 := hr
      refine AW_cut (σ := Int) (fun v => ⟨[(1, .inl (is (U64 x2))), (2, .inl (is (I16 v))), (3, .inl (is (Bl a3))), (4, .inr (.inl (4, 0)))], [(4, pb 23 [is (U8 a0_0), is (U8 a0_1)])]⟩) (fun v => some r = F205_3 N a0_0 a0_1 a3 x2 v) ?_ ?_
      · skip
        refine AW_region ?_
        refine AL_cons (LR_move (at_tmp 2 _) rfl) (sS (sT1 rfl) sB0 sF0) ?_
        refine AL_cons (LR_move (at_tmp 9 _) rfl) (sS (sT1 rfl) sB0 sF0) ?_
        refine AL_cons (LR_conv (vx := U8 x1) (at_tmp 21 _) (conv_I16 Hfaa.underlying5 Hfaa.underlying44 (x1.toNat : Int)) rfl) (sS (sT1 rfl) sB0 sF0) ?_
        refine AL_cons (LR_bin (at_tmp 20 _) (at_tmp 22 _) (sub_I16 a2 (w16 (x1.toNat : Int))) rfl) (sS (sA (sT1 rfl) (sT1 rfl)) sB0 sF0) ?_
        refine AL_cons (LR_assign (at_tmp 23 _) rfl) (sS (sT1 rfl) sB0 sF0) ?_
        refine AL_nil ?_
        exact thenN (cutLeaf (v := w16 (a2 - (w16 (x1.toNat : Int)))) hr (weak0 ((sT rfl (sT rfl (sT rfl (sT rfl sT0))))) (sub_keep sub_nil)))
      · rintro x3 hr
        show AW Hfaa.prog _ _ _ ⟨[(1, .inl (is (U64 x2))), (2, .inl (is (I16 x3))), (3, .inl (is (Bl a3))), (4, .inr (.inl (4, 0)))], [(4, pb 23 [is (U8 a0_0), is (U8 a0_1)])]⟩
        have hr : some r = F205_3 N a0_0 a0_1 a3 x2 x3 := hr
        refine AW_cut (σ := Int × Int) (fun v => ⟨[(1, .inl (is (U64 x2))), (3, .inl (is (Bl a3))), (4, .inr (.inl (4, 0))), (10, .inl (is (I16 v.1))), (11, .inl (is (I16 v.2)))], [(4, pb 23 [is (U8 a0_0), is (U8 a0_1)])]⟩) (fun v => some r = F205_4 N a0_0 a0_1 a3 x2 v.1 v.2) ?_ ?_
        · skip
          refine AW_region ?_
          refine AL_cons (LR_move (at_tmp 2 _) rfl) (sS (sT1 rfl) sB0 sF0) ?_
          refine AL_cons (LR_bin (at_tmp 24 _) (at_c (v' := I16 63) rfl) (add_I16 x3 63) rfl) (sS (sA (sT1 rfl) sT0) sB0 sF0) ?_
          refine AL_cons (LR_loads (at_tmp 4 _) ag23 sz23 rfl rfl rfl) (sS (sT1 rfl) (sB1 rfl) sF0) ?_
          obtain ⟨y11, hy11, hr⟩ := lt_some hr
          refine AL_cons (LR_call Hfaa.func71 rfl rfl (C71 a0_0 a0_1 y11 hy11) (all_cons (at_tmp 26 _) all_nil) rfl) (sS (sA (sT1 rfl) sT0) sB0 sF0) ?_
          refine AL_cons (LR_bin (at_c (v' := I16 1) rfl) (at_tmp 27 _) (sub_I16 1 y11) rfl) (sS (sA sT0 (sT1 rfl)) sB0 sF0) ?_
          refine AL_cons (LR_assign (at_tmp 25 _) rfl) (sS (sT1 rfl) sB0 sF0) ?_
          refine AL_cons (LR_assign (at_tmp 28 _) rfl) (sS (sT1 rfl) sB0 sF0) ?_
          refine AL_nil ?_
          exact thenN (cutLeaf (v := (w16 (x3 + 63), w16 (1 - y11))) hr (weak0 ((sT rfl (sT rfl (sT rfl (sT rfl (sT rfl sT0)))))) (sub_keep sub_nil)))
        · rintro ⟨x4, x5⟩ hr
          show AW Hfaa.prog _ _ _ ⟨[(1, .inl (is (U64 x2))), (3, .inl (is (Bl a3))), (4, .inr (.inl (4, 0))), (10, .inl (is (I16 x4))), (11, .inl (is (I16 x5)))], [(4, pb 23 [is (U8 a0_0), is (U8 a0_1)])]⟩
          have hr : some r = F205_4 N a0_0 a0_1 a3 x2 x4 x5 := hr
          refine AW_seq1 ?_
          refine AW_cut (σ := Bool) (fun v => ⟨[(1, .inl (is (U64 x2))), (3, .inl (is (Bl a3))), (4, .inr (.inl (4, 0))), (10, .inl (is (I16 x4))), (11, .inl (is (I16 x5))), (32, .inl (is (Bl v)))], [(4, pb 23 [is (U8 a0_0), is (U8 a0_1)])]⟩) (fun v => some r = F205_5 N a0_0 a0_1 a3 x2 x4 x5 v) ?_ ?_
          · skip
            refine AW_region ?_
            refine AL_cons (LR_move (at_tmp 10 _) rfl) (sS (sT1 rfl) sB0 sF0) ?_
            refine AL_cons (LR_loads (at_tmp 4 _) ag23 sz23 rfl rfl rfl) (sS (sT1 rfl) (sB1 rfl) sF0) ?_
            obtain ⟨y10, hy10, hr⟩ := lt_some hr
            refine AL_cons (LR_call Hfaa.func71 rfl rfl (C71 a0_0 a0_1 y10 hy10) (all_cons (at_tmp 30 _) all_nil) rfl) (sS (sA (sT1 rfl) sT0) sB0 sF0) ?_
            refine AL_cons (LR_bin (at_tmp 29 _) (at_tmp 31 _) (gtr_I16 x4 y10) rfl) (sS (sA (sT1 rfl) (sT1 rfl)) sB0 sF0) ?_
            refine AL_nil ?_
            exact thenN (cutLeaf (v := decide (x4 > y10)) hr (weak0 ((sT rfl (sT rfl (sT rfl (sT rfl (sT rfl (sT rfl sT0))))))) (sub_keep sub_nil)))
          · rintro x6 hr
            show AW Hfaa.prog _ _ _ ⟨[(1, .inl (is (U64 x2))), (3, .inl (is (Bl a3))), (4, .inr (.inl (4, 0))), (10, .inl (is (I16 x4))), (11, .inl (is (I16 x5))), (32, .inl (is (Bl x6)))], [(4, pb 23 [is (U8 a0_0), is (U8 a0_1)])]⟩
            have hr : some r = F205_5 N a0_0 a0_1 a3 x2 x4 x5 x6 := hr
            refine AW_condT (b := x6) rfl (fun h => ?_) (fun h => ?_)
            · have hr := hr.trans (cond_t h)
              clear h
              refine AW_seq1 ?_
              refine AW_region ?_
              refine AL_cons (LR_loads (at_tmp 4 _) ag23 sz23 rfl rfl rfl) (sS (sT1 rfl) (sB1 rfl) sF0) ?_
              obtain ⟨y9, hy9, hr⟩ := lt_some hr
              refine AL_cons (LR_call Hfaa.func67 rfl rfl (C67 a0_0 a0_1 false y9 hy9) (all_cons (at_tmp 33 _) (all_cons (at_c (v' := Bl false) rfl) all_nil)) rfl) (sS (sA (sT1 rfl) (sA sT0 sT0)) sB0 sF0) ?_
              refine AL_cons (LR_assign (at_tmp 34 _) rfl) (sS (sT1 rfl) sB0 sF0) ?_
              refine AL_nil ?_
              refine thenN ?_
              refine AW_ret ?_
              refine thenR ?_
              obtain rfl := Option.some.inj hr
              exact res1 rfl (rvT rfl)
            · have hr := hr.trans (cond_f h)
              clear h
              refine AW_skip ?_
              refine thenN ?_
              refine AW_cut (σ := Int) (fun v => ⟨[(1, .inl (is (U64 x2))), (3, .inl (is (Bl a3))), (4, .inr (.inl (4, 0))), (10, .inl (is (I16 x4))), (11, .inl (is (I16 x5))), (12, .inl (is (I16 v)))], [(4, pb 23 [is (U8 a0_0), is (U8 a0_1)])]⟩) (fun v => some r = F205_6 N a0_0 a0_1 a3 x2 x4 x5 v) ?_ ?_
              · skip
                refine AW_region ?_
                refine AL_cons (LR_fieldAddr (off := 0) (o := 1) (at_tmp 4 _) (fun b w => fa23_1 b 0 w) rfl) (sS (sT1 rfl) sB0 sF0) ?_
                refine AL_cons (LR_load (at_tmp 35 _) na5 rfl rfl) (sS (sT1 rfl) (sB1 rfl) sF0) ?_
                refine AL_cons (LR_conv (vx := U8 a0_1) (at_tmp 36 _) (conv_I16 Hfaa.underlying5 Hfaa.underlying44 (a0_1.toNat : Int)) rfl) (sS (sT1 rfl) sB0 sF0) ?_
                refine AL_cons (LR_bin (at_c (v' := I16 63) rfl) (at_tmp 37 _) (sub_I16 63 (w16 (a0_1.toNat : Int))) rfl) (sS (sA sT0 (sT1 rfl)) sB0 sF0) ?_
                refine AL_cons (LR_assign (at_tmp 38 _) rfl) (sS (sT1 rfl) sB0 sF0) ?_
                refine AL_nil ?_
                exact thenN (cutLeaf (v := w16 (63 - (w16 (a0_1.toNat : Int)))) hr (weak0 ((sT rfl (sT rfl (sT rfl (sT rfl (sT rfl (sT rfl sT0))))))) (sub_keep sub_nil)))
              · rintro x7 hr
                show AW Hfaa.prog _ _ _ ⟨[(1, .inl (is (U64 x2))), (3, .inl (is (Bl a3))), (4, .inr (.inl (4, 0))), (10, .inl (is (I16 x4))), (11, .inl (is (I16 x5))), (12, .inl (is (I16 x7)))], [(4, pb 23 [is (U8 a0_0), is (U8 a0_1)])]⟩
                have hr : some r = F205_6 N a0_0 a0_1 a3 x2 x4 x5 x7 := hr
                refine AW_cut (σ := Int × Int) (fun v => ⟨[(1, .inl (is (U64 x2))), (3, .inl (is (Bl a3))), (4, .inr (.inl (4, 0))), (11, .inl (is (I16 x5))), (12, .inl (is (I16 v.1))), (10, .inl (is (I16 v.2)))], [(4, pb 23 [is (U8 a0_0), is (U8 a0_1)])]⟩) (fun v => some r = F205_7 N a0_0 a0_1 a3 x2 x5 v.1 v.2) ?_ ?_
                · skip
                  refine AW_cut (σ := Bool) (fun v => ⟨[(1, .inl (is (U64 x2))), (3, .inl (is (Bl a3))), (4, .inr (.inl (4, 0))), (10, .inl (is (I16 x4))), (11, .inl (is (I16 x5))), (12, .inl (is (I16 x7))), (41, .inl (is (Bl v)))], [(4, pb 23 [is (U8 a0_0), is (U8 a0_1)])]⟩) (fun v => some r = F205_12 N a0_0 a0_1 a3 x2 x4 x5 x7 v) ?_ ?_
                  · skip
                    refine AW_region ?_
                    refine AL_cons (LR_move (at_tmp 10 _) rfl) (sS (sT1 rfl) sB0 sF0) ?_
                    refine AL_cons (LR_move (at_tmp 11 _) rfl) (sS (sT1 rfl) sB0 sF0) ?_
                    refine AL_cons (LR_bin (at_tmp 39 _) (at_tmp 40 _) (lss_I16 x4 x5) rfl) (sS (sA (sT1 rfl) (sT1 rfl)) sB0 sF0) ?_
                    refine AL_nil ?_
                    exact thenN (cutLeaf (v := decide (x4 < x5)) hr (weak0 ((sT rfl (sT rfl (sT rfl (sT rfl (sT rfl (sT rfl (sT rfl sT0)))))))) (sub_keep sub_nil)))
                  · rintro x15 hr
                    show AW Hfaa.prog _ _ _ ⟨[(1, .inl (is (U64 x2))), (3, .inl (is (Bl a3))), (4, .inr (.inl (4, 0))), (10, .inl (is (I16 x4))), (11, .inl (is (I16 x5))), (12, .inl (is (I16 x7))), (41, .inl (is (Bl x15)))], [(4, pb 23 [is (U8 a0_0), is (U8 a0_1)])]⟩
                    have hr : some r = F205_12 N a0_0 a0_1 a3 x2 x4 x5 x7 x15 := hr
                    refine AW_condT (b := x15) rfl (fun h => ?_) (fun h => ?_)
                    · have hr := hr.trans (cond_t h)
                      clear h
                      refine AW_cut (σ := Int) (fun v => ⟨[(1, .inl (is (U64 x2))), (3, .inl (is (Bl a3))), (4, .inr (.inl (4, 0))), (11, .inl (is (I16 x5))), (12, .inl (is (I16 v)))], [(4, pb 23 [is (U8 a0_0), is (U8 a0_1)])]⟩) (fun v => some r = F205_13 N a0_0 a0_1 a3 x2 x5 v) ?_ ?_
                      · skip
                        refine AW_region ?_
                        refine AL_cons (LR_move (at_tmp 12 _) rfl) (sS (sT1 rfl) sB0 sF0) ?_
                        refine AL_cons (LR_move (at_tmp 11 _) rfl) (sS (sT1 rfl) sB0 sF0) ?_
                        refine AL_cons (LR_move (at_tmp 10 _) rfl) (sS (sT1 rfl) sB0 sF0) ?_
                        refine AL_cons (LR_bin (at_tmp 43 _) (at_tmp 44 _) (sub_I16 x5 x4) rfl) (sS (sA (sT1 rfl) (sT1 rfl)) sB0 sF0) ?_
                        refine AL_cons (LR_bin (at_tmp 42 _) (at_tmp 45 _) (add_I16 x7 (w16 (x5 - x4))) rfl) (sS (sA (sT1 rfl) (sT1 rfl)) sB0 sF0) ?_
                        refine AL_cons (LR_assign (at_tmp 46 _) rfl) (sS (sT1 rfl) sB0 sF0) ?_
                        refine AL_nil ?_
                        exact thenN (cutLeaf (v := w16 (x7 + (w16 (x5 - x4)))) hr (weak0 ((sT rfl (sT rfl (sT rfl (sT rfl (sT rfl sT0)))))) (sub_keep sub_nil)))
                      · rintro x16 hr
                        show AW Hfaa.prog _ _ _ ⟨[(1, .inl (is (U64 x2))), (3, .inl (is (Bl a3))), (4, .inr (.inl (4, 0))), (11, .inl (is (I16 x5))), (12, .inl (is (I16 x16)))], [(4, pb 23 [is (U8 a0_0), is (U8 a0_1)])]⟩
                        have hr : some r = F205_13 N a0_0 a0_1 a3 x2 x5 x16 := hr
                        refine AW_region ?_
                        refine AL_cons (LR_move (at_tmp 11 _) rfl) (sS (sT1 rfl) sB0 sF0) ?_
                        refine AL_cons (LR_assign (at_tmp 47 _) rfl) (sS (sT1 rfl) sB0 sF0) ?_
                        refine AL_nil ?_
                        exact thenN (cutLeaf (v := (x16, x5)) hr (weak0 ((sT rfl (sT rfl (sT rfl (sT rfl (sT rfl (sT rfl sT0))))))) (sub_keep sub_nil)))
                    · have hr := hr.trans (cond_f h)
                      clear h
                      refine AW_skip ?_
                      exact thenN (cutLeaf (v := (x7, x4)) hr (weak0 ((sT rfl (sT rfl (sT rfl (sT rfl (sT rfl (sT rfl sT0))))))) (sub_keep sub_nil)))
                · rintro ⟨x8, x9⟩ hr
                  show AW Hfaa.prog _ _ _ ⟨[(1, .inl (is (U64 x2))), (3, .inl (is (Bl a3))), (4, .inr (.inl (4, 0))), (11, .inl (is (I16 x5))), (12, .inl (is (I16 x8))), (10, .inl (is (I16 x9)))], [(4, pb 23 [is (U8 a0_0), is (U8 a0_1)])]⟩
                  have hr : some r = F205_7 N a0_0 a0_1 a3 x2 x5 x8 x9 := hr
                  refine AW_seq1 ?_
                  refine AW_region ?_
                  refine AL_cons (LR_assign (at_c (v' := U64 (0#64)) rfl) rfl) (sS sT0 sB0 sF0) ?_
                  refine AL_cons (LR_assign (at_c (v' := U64 (0#64)) rfl) rfl) (sS sT0 sB0 sF0) ?_
                  refine AL_nil ?_
                  refine thenN ?_
                  refine AW_cut (σ := BitVec 64 × BitVec 64) (fun v => ⟨[(3, .inl (is (Bl a3))), (4, .inr (.inl (4, 0))), (11, .inl (is (I16 x5))), (10, .inl (is (I16 x9))), (13, .inl (is (U64 v.1))), (14, .inl (is (U64 v.2)))], [(4, pb 23 [is (U8 a0_0), is (U8 a0_1)])]⟩) (fun v => some r = F205_8 N a0_0 a0_1 a3 x5 x9 v.1 v.2) ?_ ?_
                  · skip
                    refine AW_cut (σ := Bool) (fun v => ⟨[(1, .inl (is (U64 x2))), (3, .inl (is (Bl a3))), (4, .inr (.inl (4, 0))), (11, .inl (is (I16 x5))), (12, .inl (is (I16 x8))), (10, .inl (is (I16 x9))), (13, .inl (is (U64 (0#64)))), (14, .inl (is (U64 (0#64)))), (49, .inl (is (Bl v)))], [(4, pb 23 [is (U8 a0_0), is (U8 a0_1)])]⟩) (fun v => some r = F205_11 N a0_0 a0_1 a3 x2 x5 x8 x9 v) ?_ ?_
                    · skip
                      refine AW_region ?_
                      refine AL_cons (LR_move (at_tmp 12 _) rfl) (sS (sT1 rfl) sB0 sF0) ?_
                      refine AL_cons (LR_bin (at_tmp 48 _) (at_c (v' := I16 64) rfl) (leq_I16 x8 64) rfl) (sS (sA (sT1 rfl) sT0) sB0 sF0) ?_
                      refine AL_nil ?_
                      exact thenN (cutLeaf (v := decide (x8 ≤ 64)) hr (weak0 ((sT rfl (sT rfl (sT rfl (sT rfl (sT rfl (sT rfl (sT rfl (sT rfl (sT rfl sT0)))))))))) (sub_keep sub_nil)))
                    · rintro x14 hr
                      show AW Hfaa.prog _ _ _ ⟨[(1, .inl (is (U64 x2))), (3, .inl (is (Bl a3))), (4, .inr (.inl (4, 0))), (11, .inl (is (I16 x5))), (12, .inl (is (I16 x8))), (10, .inl (is (I16 x9))), (13, .inl (is (U64 (0#64)))), (14, .inl (is (U64 (0#64)))), (49, .inl (is (Bl x14)))], [(4, pb 23 [is (U8 a0_0), is (U8 a0_1)])]⟩
                      have hr : some r = F205_11 N a0_0 a0_1 a3 x2 x5 x8 x9 x14 := hr
                      refine AW_condT (b := x14) rfl (fun h => ?_) (fun h => ?_)
                      · have hr := hr.trans (cond_t h)
                        clear h
                        obtain ⟨hg3, hr⟩ := guard_some hr
                        obtain ⟨hg4, hr⟩ := guard_some hr
                        refine AW_draw mixed
                          (lrC (LR_move (at_tmp 1 _) rfl)
                          (lrC (LR_move (at_tmp 12 _) rfl)
                          (lrC (LR_bin (at_tmp 50 _) (at_tmp 51 _) (shr_U64 x2 x8 (of_decide_eq_true hg3)) rfl)
                          (lrC (LR_move (at_tmp 1 _) rfl)
                          (lrC (LR_move (at_tmp 12 _) rfl)
                          (lrC (LR_bin (at_c (v' := I16 64) rfl) (at_tmp 54 _) (sub_I16 64 x8) rfl)
                          (lrC (LR_bin (at_tmp 53 _) (at_tmp 55 _) (shl_U64 x2 (w16 (64 - x8)) (of_decide_eq_true hg4)) rfl)
                          (lrC (LR_assign (at_tmp 52 _) rfl)
                          (lrC (LR_assign (at_tmp 56 _) rfl)
                          lrN)))))))))
                          (by kernel_rfl)
                          (saC (sS (sT1 rfl) sB0 sF0) (saC (sS (sT1 rfl) sB0 sF0) (saC (sS (sA (sT1 rfl) (sT1 rfl)) sB0 sF0) (saC (sS (sT1 rfl) sB0 sF0) (saC (sS (sT1 rfl) sB0 sF0) (saC (sS (sA sT0 (sT1 rfl)) sB0 sF0) (saC (sS (sA (sT1 rfl) (sT1 rfl)) sB0 sF0) (saC (sS (sT1 rfl) sB0 sF0) (saC (sS (sT1 rfl) sB0 sF0) saN))))))))) ?_
                        exact thenN (cutLeaf (v := (x2 >>> x8.toNat, x2 <<< (w16 (64 - x8)).toNat)) hr (weak0 ((sT rfl (sT rfl (sT rfl (sT rfl (sT rfl (sT rfl sT0))))))) (sub_keep sub_nil)))
                      · have hr := hr.trans (cond_f h)
                        clear h
                        refine AW_skip ?_
                        exact thenN (cutLeaf (v := (0#64, 0#64)) hr (weak0 ((sT rfl (sT rfl (sT rfl (sT rfl (sT rfl (sT rfl sT0))))))) (sub_keep sub_nil)))
                  · rintro ⟨x10, x11⟩ hr
                    show AW Hfaa.prog _ _ _ ⟨[(3, .inl (is (Bl a3))), (4, .inr (.inl (4, 0))), (11, .inl (is (I16 x5))), (10, .inl (is (I16 x9))), (13, .inl (is (U64 x10))), (14, .inl (is (U64 x11)))], [(4, pb 23 [is (U8 a0_0), is (U8 a0_1)])]⟩
                    have hr : some r = F205_8 N a0_0 a0_1 a3 x5 x9 x10 x11 := hr
                    refine AW_cut (σ := BitVec 64) (fun v => ⟨[(4, .inr (.inl (4, 0))), (11, .inl (is (I16 x5))), (10, .inl (is (I16 x9))), (13, .inl (is (U64 v)))], [(4, pb 23 [is (U8 a0_0), is (U8 a0_1)])]⟩) (fun v => some r = F205_9 N a0_0 a0_1 x5 x9 v) ?_ ?_
                    · skip
                      refine AW_cut (σ := Bool) (fun v => ⟨[(4, .inr (.inl (4, 0))), (11, .inl (is (I16 x5))), (10, .inl (is (I16 x9))), (13, .inl (is (U64 x10))), (70, .inl (is (Bl v)))], [(4, pb 23 [is (U8 a0_0), is (U8 a0_1)])]⟩) (fun v => some r = F205_10 N a0_0 a0_1 x5 x9 x10 v) ?_ ?_
                      · skip
                        refine AW_region ?_
                        refine AL_cons (LR_move (at_tmp 14 _) rfl) (sS (sT1 rfl) sB0 sF0) ?_
                        refine AL_cons (LR_bin (at_tmp 57 _) (at_c (v' := U64 (9223372036854775808#64)) rfl) (gtr_U64 x11 (9223372036854775808#64)) rfl) (sS (sA (sT1 rfl) sT0) sB0 sF0) ?_
                        refine AL_cons (LR_move (at_tmp 58 _) rfl) (sS (sT1 rfl) sB0 sF0) ?_
                        refine AL_cutAt 11 ⟨[(3, .inl (is (Bl a3))), (4, .inr (.inl (4, 0))), (11, .inl (is (I16 x5))), (10, .inl (is (I16 x9))), (13, .inl (is (U64 x10))), (14, .inl (is (U64 x11))), (57, .inl (is (U64 x11))), (58, .inl (is (Bl (decide ((9223372036854775808#64).toNat < x11.toNat))))), (59, .inl (is (Bl (decide ((9223372036854775808#64).toNat < x11.toNat))))), (70, .inl (is (Bl ((decide ((9223372036854775808#64).toNat < x11.toNat)) || ((x11 == (9223372036854775808#64)) && (a3 || ((x10 &&& (1#64)) == (1#64))))))))], [(4, pb 23 [is (U8 a0_0), is (U8 a0_1)])]⟩ ?_ ?_
                        · cases hb : decide ((9223372036854775808#64).toNat < x11.toNat)
                          · skip
                            refine AL_cons (LR_on rfl rfl rfl (LR_move (at_tmp 14 _) rfl)) (sS (sT rfl (sT1 rfl)) sB0 sF0) ?_
                            refine AL_cons (LR_on rfl rfl rfl (LR_bin (at_tmp 60 _) (at_c (v' := U64 (9223372036854775808#64)) rfl) (eql_U64 x11 (9223372036854775808#64)) rfl)) (sS (sT rfl (sA (sT1 rfl) sT0)) sB0 sF0) ?_
                            refine AL_cons (LR_on rfl rfl rfl (LR_move (at_tmp 61 _) rfl)) (sS (sT rfl (sT1 rfl)) sB0 sF0) ?_
                            refine AL_cutAt 7 ⟨[(3, .inl (is (Bl a3))), (4, .inr (.inl (4, 0))), (11, .inl (is (I16 x5))), (10, .inl (is (I16 x9))), (13, .inl (is (U64 x10))), (14, .inl (is (U64 x11))), (57, .inl (is (U64 x11))), (58, .inl (is (Bl false))), (59, .inl (is (Bl false))), (60, .inl (is (U64 x11))), (61, .inl (is (Bl (x11 == (9223372036854775808#64))))), (62, .inl (is (Bl (x11 == (9223372036854775808#64))))), (69, .inl (is (Bl ((x11 == (9223372036854775808#64)) && (a3 || ((x10 &&& (1#64)) == (1#64)))))))], [(4, pb 23 [is (U8 a0_0), is (U8 a0_1)])]⟩ ?_ ?_
                            · cases hb : x11 == (9223372036854775808#64)
                              · skip
                                refine AL_cons (LR_off (b := false) rfl rfl rfl rfl) (sS (sT1 rfl) sB0 sF0) ?_
                                refine AL_cons (LR_off (b := false) rfl rfl rfl rfl) (sS (sT1 rfl) sB0 sF0) ?_
                                refine AL_cons (LR_offU rfl rfl rfl rfl) (sS (sT1 rfl) sB0 sF0) ?_
                                refine AL_cons (LR_offU rfl rfl rfl rfl) (sS (sT1 rfl) sB0 sF0) ?_
                                refine AL_cons (LR_offU rfl rfl rfl rfl) (sS (sT1 rfl) sB0 sF0) ?_
                                refine AL_cons (LR_off (b := false) rfl rfl rfl rfl) (sS (sT1 rfl) sB0 sF0) ?_
                                refine AL_cons (LR_on rfl rfl rfl (LR_pick (b := false) (at_tmp 62 _) (at_tmp 68 _) (at_c (v' := Bl false) rfl) rfl)) (sS (sT rfl (sA (sT1 rfl) (sA (sT1 rfl) sT0))) sB0 sF0) ?_
                                exact AL_nil ⟨rfl, weak0 ((sT rfl (sT rfl (sT rfl (sT rfl (sT rfl (sT rfl (sT rfl (sT rfl (sT rfl (sT rfl (sT rfl (sT rfl (sT rfl sT0)))))))))))))) (sub_keep sub_nil)⟩
                              · skip
                                refine AL_cons (LR_on rfl rfl rfl (LR_move (at_tmp 3 _) rfl)) (sS (sT rfl (sT1 rfl)) sB0 sF0) ?_
                                refine AL_cons (LR_on rfl rfl rfl (LR_move (at_tmp 63 _) rfl)) (sS (sT rfl (sT1 rfl)) sB0 sF0) ?_
                                refine AL_cutAt 4 ⟨[(3, .inl (is (Bl a3))), (4, .inr (.inl (4, 0))), (11, .inl (is (I16 x5))), (10, .inl (is (I16 x9))), (13, .inl (is (U64 x10))), (14, .inl (is (U64 x11))), (57, .inl (is (U64 x11))), (58, .inl (is (Bl false))), (59, .inl (is (Bl false))), (60, .inl (is (U64 x11))), (61, .inl (is (Bl true))), (62, .inl (is (Bl true))), (63, .inl (is (Bl a3))), (64, .inl (is (Bl a3))), (68, .inl (is (Bl (a3 || ((x10 &&& (1#64)) == (1#64))))))], [(4, pb 23 [is (U8 a0_0), is (U8 a0_1)])]⟩ ?_ ?_
                                · cases hb : a3
                                  · skip
                                    refine AL_cons (LR_on rfl rfl rfl (LR_move (at_tmp 13 _) rfl)) (sS (sT rfl (sT1 rfl)) sB0 sF0) ?_
                                    refine AL_cons (LR_on rfl rfl rfl (LR_bin (at_tmp 65 _) (at_c (v' := U64 (1#64)) rfl) (and_U64 x10 (1#64)) rfl)) (sS (sT rfl (sA (sT1 rfl) sT0)) sB0 sF0) ?_
                                    refine AL_cons (LR_on rfl rfl rfl (LR_bin (at_tmp 66 _) (at_c (v' := U64 (1#64)) rfl) (eql_U64 (x10 &&& (1#64)) (1#64)) rfl)) (sS (sT rfl (sA (sT1 rfl) sT0)) sB0 sF0) ?_
                                    refine AL_cons (LR_on rfl rfl rfl (LR_pick (b := false) (at_tmp 64 _) (at_c (v' := Bl true) rfl) (at_tmp 67 _) rfl)) (sS (sT rfl (sA (sT1 rfl) (sA sT0 (sT1 rfl)))) sB0 sF0) ?_
                                    exact AL_nil ⟨rfl, weak0 ((sT rfl (sT rfl (sT rfl (sT rfl (sT rfl (sT rfl (sT rfl (sT rfl (sT rfl (sT rfl (sT rfl (sT rfl (sT rfl (sT rfl (sT rfl sT0)))))))))))))))) (sub_keep sub_nil)⟩
                                  · skip
                                    refine AL_cons (LR_off (b := true) rfl rfl rfl rfl) (sS (sT1 rfl) sB0 sF0) ?_
                                    refine AL_cons (LR_off (b := true) rfl rfl rfl rfl) (sS (sT1 rfl) sB0 sF0) ?_
                                    refine AL_cons (LR_off (b := true) rfl rfl rfl rfl) (sS (sT1 rfl) sB0 sF0) ?_
                                    refine AL_cons (LR_on rfl rfl rfl (LR_pick (b := true) (at_tmp 64 _) (at_c (v' := Bl true) rfl) (at_tmp 67 _) rfl)) (sS (sT rfl (sA (sT1 rfl) (sA sT0 (sT1 rfl)))) sB0 sF0) ?_
                                    exact AL_nil ⟨rfl, weak0 ((sT rfl (sT rfl (sT rfl (sT rfl (sT rfl (sT rfl (sT rfl (sT rfl (sT rfl (sT rfl (sT rfl (sT rfl (sT rfl (sT rfl (sT rfl sT0)))))))))))))))) (sub_keep sub_nil)⟩
                                refine AL_cons (LR_on rfl rfl rfl (LR_pick (b := true) (at_tmp 62 _) (at_tmp 68 _) (at_c (v' := Bl false) rfl) rfl)) (sS (sT rfl (sA (sT1 rfl) (sA (sT1 rfl) sT0))) sB0 sF0) ?_
                                exact AL_nil ⟨rfl, weak0 ((sT rfl (sT rfl (sT rfl (sT rfl (sT rfl (sT rfl (sT rfl (sT rfl (sT rfl (sT rfl (sT rfl (sT rfl (sT rfl sT0)))))))))))))) (sub_keep sub_nil)⟩
                            refine AL_cons (LR_pick (b := false) (at_tmp 59 _) (at_c (v' := Bl true) rfl) (at_tmp 69 _) rfl) (sS (sA (sT1 rfl) (sA sT0 (sT1 rfl))) sB0 sF0) ?_
                            exact AL_nil ⟨rfl, weak0 ((sT rfl (sT rfl (sT rfl (sT rfl (sT rfl (sT rfl (sT rfl (sT rfl (sT rfl (sT rfl sT0))))))))))) (sub_keep sub_nil)⟩
                          · skip
                            refine AL_cons (LR_off (b := true) rfl rfl rfl rfl) (sS (sT1 rfl) sB0 sF0) ?_
                            refine AL_cons (LR_off (b := true) rfl rfl rfl rfl) (sS (sT1 rfl) sB0 sF0) ?_
                            refine AL_cons (LR_off (b := true) rfl rfl rfl rfl) (sS (sT1 rfl) sB0 sF0) ?_
                            refine AL_cons (LR_offU rfl rfl rfl rfl) (sS (sT1 rfl) sB0 sF0) ?_
                            refine AL_cons (LR_offU rfl rfl rfl rfl) (sS (sT1 rfl) sB0 sF0) ?_
                            refine AL_cons (LR_offU rfl rfl rfl rfl) (sS (sT1 rfl) sB0 sF0) ?_
                            refine AL_cons (LR_offU rfl rfl rfl rfl) (sS (sT1 rfl) sB0 sF0) ?_
                            refine AL_cons (LR_offU rfl rfl rfl rfl) (sS (sT1 rfl) sB0 sF0) ?_
                            refine AL_cons (LR_offU rfl rfl rfl rfl) (sS (sT1 rfl) sB0 sF0) ?_
                            refine AL_cons (LR_off (b := true) rfl rfl rfl rfl) (sS (sT1 rfl) sB0 sF0) ?_
                            refine AL_cons (LR_pick (b := true) (at_tmp 59 _) (at_c (v' := Bl true) rfl) (at_tmp 69 _) rfl) (sS (sA (sT1 rfl) (sA sT0 (sT1 rfl))) sB0 sF0) ?_
                            exact AL_nil ⟨rfl, weak0 ((sT rfl (sT rfl (sT rfl (sT rfl (sT rfl (sT rfl (sT rfl (sT rfl (sT rfl (sT rfl sT0))))))))))) (sub_keep sub_nil)⟩
                        refine AL_nil ?_
                        exact thenN (cutLeaf (v := (decide ((9223372036854775808#64).toNat < x11.toNat)) || ((x11 == (9223372036854775808#64)) && (a3 || ((x10 &&& (1#64)) == (1#64))))) hr (weak0 ((sT rfl (sT rfl (sT rfl (sT rfl (sT rfl sT0)))))) (sub_keep sub_nil)))
                      · rintro x13 hr
                        show AW Hfaa.prog _ _ _ ⟨[(4, .inr (.inl (4, 0))), (11, .inl (is (I16 x5))), (10, .inl (is (I16 x9))), (13, .inl (is (U64 x10))), (70, .inl (is (Bl x13)))], [(4, pb 23 [is (U8 a0_0), is (U8 a0_1)])]⟩
                        have hr : some r = F205_10 N a0_0 a0_1 x5 x9 x10 x13 := hr
                        refine AW_condT (b := x13) rfl (fun h => ?_) (fun h => ?_)
                        · have hr := hr.trans (cond_t h)
                          clear h
                          refine AW_region ?_
                          refine AL_cons (LR_move (at_tmp 13 _) rfl) (sS (sT1 rfl) sB0 sF0) ?_
                          refine AL_cons (LR_bin (at_tmp 71 _) (at_c (v' := U64 (1#64)) rfl) (add_U64 x10 (1#64)) rfl) (sS (sA (sT1 rfl) sT0) sB0 sF0) ?_
                          refine AL_cons (LR_assign (at_tmp 72 _) rfl) (sS (sT1 rfl) sB0 sF0) ?_
                          refine AL_nil ?_
                          exact thenN (cutLeaf (v := x10 + (1#64)) hr (weak0 ((sT rfl (sT rfl (sT rfl (sT rfl sT0))))) (sub_keep sub_nil)))
                        · have hr := hr.trans (cond_f h)
                          clear h
                          refine AW_skip ?_
                          exact thenN (cutLeaf (v := x10) hr (weak0 ((sT rfl (sT rfl (sT rfl (sT rfl sT0))))) (sub_keep sub_nil)))
                    · rintro x12 hr
                      show AW Hfaa.prog _ _ _ ⟨[(4, .inr (.inl (4, 0))), (11, .inl (is (I16 x5))), (10, .inl (is (I16 x9))), (13, .inl (is (U64 x12)))], [(4, pb 23 [is (U8 a0_0), is (U8 a0_1)])]⟩
                      have hr : some r = F205_9 N a0_0 a0_1 x5 x9 x12 := hr
                      refine AW_seq1 ?_
                      refine AW_region ?_
                      refine AL_cons (LR_move (at_tmp 10 _) rfl) (sS (sT1 rfl) sB0 sF0) ?_
                      refine AL_cons (LR_move (at_tmp 11 _) rfl) (sS (sT1 rfl) sB0 sF0) ?_
                      refine AL_cons (LR_bin (at_tmp 73 _) (at_tmp 74 _) (sub_I16 x9 x5) rfl) (sS (sA (sT1 rfl) (sT1 rfl)) sB0 sF0) ?_
                      refine AL_cons (LR_conv (vx := I16 (w16 (x9 - x5))) (at_tmp 75 _) (conv_U64 Hfaa.underlying44 Hfaa.underlying30 (w16 (x9 - x5))) rfl) (sS (sT1 rfl) sB0 sF0) ?_
                      refine AL_cons (LR_fieldAddr (off := 0) (o := 1) (at_tmp 4 _) (fun b w => fa23_1 b 0 w) rfl) (sS (sT1 rfl) sB0 sF0) ?_
                      refine AL_cons (LR_load (at_tmp 77 _) na5 rfl rfl) (sS (sT1 rfl) (sB1 rfl) sF0) ?_
                      refine AL_cons (LR_bin (at_tmp 76 _) (at_tmp 78 _) (shl_U64 (BitVec.ofInt 64 (w16 (x9 - x5))) (a0_1.toNat : Int) (Int.natCast_nonneg _)) rfl) (sS (sA (sT1 rfl) (sT1 rfl)) sB0 sF0) ?_
                      refine AL_cons (LR_move (at_tmp 13 _) rfl) (sS (sT1 rfl) sB0 sF0) ?_
                      refine AL_cons (LR_bin (at_tmp 79 _) (at_tmp 80 _) (add_U64 ((BitVec.ofInt 64 (w16 (x9 - x5))) <<< a0_1.toNat) x12) rfl) (sS (sA (sT1 rfl) (sT1 rfl)) sB0 sF0) ?_
                      refine AL_cons (LR_assign (at_tmp 81 _) rfl) (sS (sT1 rfl) sB0 sF0) ?_
                      refine AL_nil ?_
                      refine thenN ?_
                      refine AW_ret ?_
                      obtain rfl := Option.some.inj hr
                      exact res1 rfl (rvT rfl)
end Go.Proofs.YfwaawGreat
