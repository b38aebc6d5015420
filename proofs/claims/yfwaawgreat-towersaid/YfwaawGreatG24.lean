import Derived.Test.YfwaawGreatG1
import Derived.Test.YfwaawGreatG2
import Derived.Test.YfwaawGreatG5
import Derived.Test.YfwaawGreatG6
import Derived.Test.YfwaawGreatG7
import Derived.Test.YfwaawGreatG8
import Derived.Test.YfwaawGreatG11
import Derived.Test.YfwaawGreatG13
import Derived.Test.YfwaawGreatG23
namespace Go.Proofs.YfwaawGreat
open Go.Aw
set_option linter.unusedVariables false
set_option maxRecDepth 100000
set_option maxHeartbeats 1000000
/-- calc/ex.Step -/
def F121_17 (N : Nat) (a1_0 : BitVec 8) (a1_1 : BitVec 8) (a2 : BitVec 8) (b3_0 : Nat → BitVec 64) (b3_1 : NS (List UInt8)) (a4_1 : BitVec 8) (x2 : BitVec 64) (x17 : BitVec 8) (x18 : BitVec 8) (x19 : Bool) : Option ((Nat → BitVec 64) × NS (List UInt8)) := bif x19 then (F48 N a1_0 a1_1 x17 x18 a2 x2).bind fun y30 => (F48 N x17 x18 a1_0 a1_1 a2 y30).bind fun y31 => some ((upd b3_0 ((a4_1 &&& (7#8)).toNat) y31, b3_1)) else some (b3_0, b3_1)
def F121_16 (N : Nat) (a1_0 : BitVec 8) (a1_1 : BitVec 8) (a2 : BitVec 8) (b3_0 : Nat → BitVec 64) (b3_1 : NS (List UInt8)) (a4_1 : BitVec 8) (x2 : BitVec 64) (x17 : BitVec 8) (x18 : BitVec 8) : Option ((Nat → BitVec 64) × NS (List UInt8)) := lt (F40 x17 x18) fun y32 => F121_17 N a1_0 a1_1 a2 b3_0 b3_1 a4_1 x2 x17 x18 y32
def F121_19 (N : Nat) (a1_0 : BitVec 8) (a1_1 : BitVec 8) (a2 : BitVec 8) (b3_0 : Nat → BitVec 64) (b3_1 : NS (List UInt8)) (a4_0 : BitVec 8) (a4_1 : BitVec 8) (a4_2 : BitVec 8) (a4_3 : BitVec 8) (a4_4 : BitVec 64) (a4_5 : List UInt8) (x2 : BitVec 64) (x21 : Bool) : Option ((Nat → BitVec 64) × NS (List UInt8)) := bif x21 then (F226 N a1_0 a1_1 x2).bind fun y34 => bif decide (b3_1.2.1 < 4294967296) then some (b3_0, app b3_1 y34) else none else (F227 N a1_0 a1_1 a2 b3_0 b3_1 a4_0 a4_1 a4_2 a4_3 a4_4 a4_5).bind fun y35 => some (y35.1, y35.2)
def F121_18 (N : Nat) (a1_0 : BitVec 8) (a1_1 : BitVec 8) (a2 : BitVec 8) (b3_0 : Nat → BitVec 64) (b3_1 : NS (List UInt8)) (a4_0 : BitVec 8) (a4_1 : BitVec 8) (a4_2 : BitVec 8) (a4_3 : BitVec 8) (a4_4 : BitVec 64) (a4_5 : List UInt8) (x2 : BitVec 64) (x20 : Bool) : Option ((Nat → BitVec 64) × NS (List UInt8)) := bif x20 then (F225 N a1_0 a1_1 a2 b3_0 b3_1 a4_0 a4_1 a4_2 a4_3 a4_4 a4_5).bind fun y33 => some (y33.1, y33.2) else F121_19 N a1_0 a1_1 a2 b3_0 b3_1 a4_0 a4_1 a4_2 a4_3 a4_4 a4_5 x2 (a4_0 == (14#8))
def F121_15 (N : Nat) (a1_0 : BitVec 8) (a1_1 : BitVec 8) (a2 : BitVec 8) (b3_0 : Nat → BitVec 64) (b3_1 : NS (List UInt8)) (a4_0 : BitVec 8) (a4_1 : BitVec 8) (a4_2 : BitVec 8) (a4_3 : BitVec 8) (a4_4 : BitVec 64) (a4_5 : List UInt8) (x2 : BitVec 64) (x16 : Bool) : Option ((Nat → BitVec 64) × NS (List UInt8)) := bif x16 then F121_16 N a1_0 a1_1 a2 b3_0 b3_1 a4_1 x2 (BitVec.ofInt 8 (a4_4.toNat : Int)) (BitVec.ofInt 8 ((a4_4 >>> 8).toNat : Int)) else F121_18 N a1_0 a1_1 a2 b3_0 b3_1 a4_0 a4_1 a4_2 a4_3 a4_4 a4_5 x2 (a4_0 == (13#8))
def F121_14 (N : Nat) (a1_0 : BitVec 8) (a1_1 : BitVec 8) (a2 : BitVec 8) (b3_0 : Nat → BitVec 64) (b3_1 : NS (List UInt8)) (a4_0 : BitVec 8) (a4_1 : BitVec 8) (a4_2 : BitVec 8) (a4_3 : BitVec 8) (a4_4 : BitVec 64) (a4_5 : List UInt8) (x2 : BitVec 64) (x15 : Bool) : Option ((Nat → BitVec 64) × NS (List UInt8)) := bif x15 then (F224 N a1_0 a1_1 x2).bind fun y26 => bif decide (b3_1.2.1 < 4294967296) then some (b3_0, app b3_1 y26) else none else F121_15 N a1_0 a1_1 a2 b3_0 b3_1 a4_0 a4_1 a4_2 a4_3 a4_4 a4_5 x2 (a4_0 == (12#8))
def F121_13 (N : Nat) (a1_0 : BitVec 8) (a1_1 : BitVec 8) (a2 : BitVec 8) (b3_0 : Nat → BitVec 64) (b3_1 : NS (List UInt8)) (a4_0 : BitVec 8) (a4_1 : BitVec 8) (a4_2 : BitVec 8) (a4_3 : BitVec 8) (a4_4 : BitVec 64) (a4_5 : List UInt8) (x2 : BitVec 64) (x14 : Bool) : Option ((Nat → BitVec 64) × NS (List UInt8)) := bif x14 then (F76 N a1_0 a1_1 a2 a4_4).bind fun y25 => some ((upd b3_0 ((a4_1 &&& (7#8)).toNat) y25, b3_1)) else F121_14 N a1_0 a1_1 a2 b3_0 b3_1 a4_0 a4_1 a4_2 a4_3 a4_4 a4_5 x2 (a4_0 == (11#8))
def F121_12 (N : Nat) (a1_0 : BitVec 8) (a1_1 : BitVec 8) (a2 : BitVec 8) (b3_0 : Nat → BitVec 64) (b3_1 : NS (List UInt8)) (a4_0 : BitVec 8) (a4_1 : BitVec 8) (a4_2 : BitVec 8) (a4_3 : BitVec 8) (a4_4 : BitVec 64) (a4_5 : List UInt8) (x2 : BitVec 64) (x13 : Bool) : Option ((Nat → BitVec 64) × NS (List UInt8)) := bif x13 then (F75 N a1_0 a1_1 a2 (w64 (a4_4.toNat : Int))).bind fun y24 => some ((upd b3_0 ((a4_1 &&& (7#8)).toNat) y24, b3_1)) else F121_13 N a1_0 a1_1 a2 b3_0 b3_1 a4_0 a4_1 a4_2 a4_3 a4_4 a4_5 x2 (a4_0 == (10#8))
def F121_11 (N : Nat) (a1_0 : BitVec 8) (a1_1 : BitVec 8) (a2 : BitVec 8) (b3_0 : Nat → BitVec 64) (b3_1 : NS (List UInt8)) (a4_0 : BitVec 8) (a4_1 : BitVec 8) (a4_2 : BitVec 8) (a4_3 : BitVec 8) (a4_4 : BitVec 64) (a4_5 : List UInt8) (x2 : BitVec 64) (x3 : BitVec 64) (x12 : Bool) : Option ((Nat → BitVec 64) × NS (List UInt8)) := bif x12 then (F81 N a1_0 a1_1 x2 x3).bind fun y22 => lt (F223 y22) fun y23 => bif decide (b3_1.2.1 < 4294967296) then some (b3_0, app b3_1 y23) else none else F121_12 N a1_0 a1_1 a2 b3_0 b3_1 a4_0 a4_1 a4_2 a4_3 a4_4 a4_5 x2 (a4_0 == (9#8))
def F121_10 (N : Nat) (a1_0 : BitVec 8) (a1_1 : BitVec 8) (a2 : BitVec 8) (b3_0 : Nat → BitVec 64) (b3_1 : NS (List UInt8)) (a4_0 : BitVec 8) (a4_1 : BitVec 8) (a4_2 : BitVec 8) (a4_3 : BitVec 8) (a4_4 : BitVec 64) (a4_5 : List UInt8) (x2 : BitVec 64) (x3 : BitVec 64) (x11 : Bool) : Option ((Nat → BitVec 64) × NS (List UInt8)) := bif x11 then lt (F222 a1_0 a1_1 x2) fun y19 => lt (F70 a1_0 a1_1) fun y20 => lt (F222 a1_0 a1_1 (y19 &&& ~~~y20)) fun y21 => some ((upd b3_0 ((a4_1 &&& (7#8)).toNat) y21, b3_1)) else F121_11 N a1_0 a1_1 a2 b3_0 b3_1 a4_0 a4_1 a4_2 a4_3 a4_4 a4_5 x2 x3 (a4_0 == (8#8))
def F121_9 (N : Nat) (a1_0 : BitVec 8) (a1_1 : BitVec 8) (a2 : BitVec 8) (b3_0 : Nat → BitVec 64) (b3_1 : NS (List UInt8)) (a4_0 : BitVec 8) (a4_1 : BitVec 8) (a4_2 : BitVec 8) (a4_3 : BitVec 8) (a4_4 : BitVec 64) (a4_5 : List UInt8) (x2 : BitVec 64) (x3 : BitVec 64) (x10 : Bool) : Option ((Nat → BitVec 64) × NS (List UInt8)) := bif x10 then lt (F222 a1_0 a1_1 x2) fun y13 => lt (F70 a1_0 a1_1) fun y14 => lt (F222 a1_0 a1_1 (y13 ^^^ y14)) fun y15 => some ((upd b3_0 ((a4_1 &&& (7#8)).toNat) y15, b3_1)) else F121_10 N a1_0 a1_1 a2 b3_0 b3_1 a4_0 a4_1 a4_2 a4_3 a4_4 a4_5 x2 x3 (a4_0 == (7#8))
def F121_8 (N : Nat) (a1_0 : BitVec 8) (a1_1 : BitVec 8) (a2 : BitVec 8) (b3_0 : Nat → BitVec 64) (b3_1 : NS (List UInt8)) (a4_0 : BitVec 8) (a4_1 : BitVec 8) (a4_2 : BitVec 8) (a4_3 : BitVec 8) (a4_4 : BitVec 64) (a4_5 : List UInt8) (x2 : BitVec 64) (x3 : BitVec 64) (x9 : Bool) : Option ((Nat → BitVec 64) × NS (List UInt8)) := bif x9 then (F74 N a1_0 a1_1 a2 x2).bind fun y9 => some ((upd b3_0 ((a4_1 &&& (7#8)).toNat) y9, b3_1)) else F121_9 N a1_0 a1_1 a2 b3_0 b3_1 a4_0 a4_1 a4_2 a4_3 a4_4 a4_5 x2 x3 (a4_0 == (6#8))
def F121_7 (N : Nat) (a1_0 : BitVec 8) (a1_1 : BitVec 8) (a2 : BitVec 8) (b3_0 : Nat → BitVec 64) (b3_1 : NS (List UInt8)) (a4_0 : BitVec 8) (a4_1 : BitVec 8) (a4_2 : BitVec 8) (a4_3 : BitVec 8) (a4_4 : BitVec 64) (a4_5 : List UInt8) (x2 : BitVec 64) (x3 : BitVec 64) (x8 : Bool) : Option ((Nat → BitVec 64) × NS (List UInt8)) := bif x8 then (F143 N a1_0 a1_1 a2 x2 x3).bind fun y8 => some ((upd b3_0 ((a4_1 &&& (7#8)).toNat) y8, b3_1)) else F121_8 N a1_0 a1_1 a2 b3_0 b3_1 a4_0 a4_1 a4_2 a4_3 a4_4 a4_5 x2 x3 (a4_0 == (5#8))
def F121_6 (N : Nat) (a1_0 : BitVec 8) (a1_1 : BitVec 8) (a2 : BitVec 8) (b3_0 : Nat → BitVec 64) (b3_1 : NS (List UInt8)) (a4_0 : BitVec 8) (a4_1 : BitVec 8) (a4_2 : BitVec 8) (a4_3 : BitVec 8) (a4_4 : BitVec 64) (a4_5 : List UInt8) (x2 : BitVec 64) (x3 : BitVec 64) (x7 : Bool) : Option ((Nat → BitVec 64) × NS (List UInt8)) := bif x7 then (F142 N a1_0 a1_1 a2 x2 x3).bind fun y7 => some ((upd b3_0 ((a4_1 &&& (7#8)).toNat) y7, b3_1)) else F121_7 N a1_0 a1_1 a2 b3_0 b3_1 a4_0 a4_1 a4_2 a4_3 a4_4 a4_5 x2 x3 (a4_0 == (4#8))
def F121_5 (N : Nat) (a1_0 : BitVec 8) (a1_1 : BitVec 8) (a2 : BitVec 8) (b3_0 : Nat → BitVec 64) (b3_1 : NS (List UInt8)) (a4_0 : BitVec 8) (a4_1 : BitVec 8) (a4_2 : BitVec 8) (a4_3 : BitVec 8) (a4_4 : BitVec 64) (a4_5 : List UInt8) (x2 : BitVec 64) (x3 : BitVec 64) (x6 : Bool) : Option ((Nat → BitVec 64) × NS (List UInt8)) := bif x6 then (F141 N a1_0 a1_1 a2 x2 x3).bind fun y6 => some ((upd b3_0 ((a4_1 &&& (7#8)).toNat) y6, b3_1)) else F121_6 N a1_0 a1_1 a2 b3_0 b3_1 a4_0 a4_1 a4_2 a4_3 a4_4 a4_5 x2 x3 (a4_0 == (3#8))
def F121_4 (N : Nat) (a1_0 : BitVec 8) (a1_1 : BitVec 8) (a2 : BitVec 8) (b3_0 : Nat → BitVec 64) (b3_1 : NS (List UInt8)) (a4_0 : BitVec 8) (a4_1 : BitVec 8) (a4_2 : BitVec 8) (a4_3 : BitVec 8) (a4_4 : BitVec 64) (a4_5 : List UInt8) (x2 : BitVec 64) (x3 : BitVec 64) (x5 : Bool) : Option ((Nat → BitVec 64) × NS (List UInt8)) := bif x5 then (F140 N a1_0 a1_1 a2 x2 x3).bind fun y5 => some ((upd b3_0 ((a4_1 &&& (7#8)).toNat) y5, b3_1)) else F121_5 N a1_0 a1_1 a2 b3_0 b3_1 a4_0 a4_1 a4_2 a4_3 a4_4 a4_5 x2 x3 (a4_0 == (2#8))
def F121_3 (N : Nat) (a1_0 : BitVec 8) (a1_1 : BitVec 8) (a2 : BitVec 8) (b3_0 : Nat → BitVec 64) (b3_1 : NS (List UInt8)) (a4_0 : BitVec 8) (a4_1 : BitVec 8) (a4_2 : BitVec 8) (a4_3 : BitVec 8) (a4_4 : BitVec 64) (a4_5 : List UInt8) (x2 : BitVec 64) (x3 : BitVec 64) (x4 : Bool) : Option ((Nat → BitVec 64) × NS (List UInt8)) := bif x4 then lt (F222 a1_0 a1_1 a4_4) fun y4 => some ((upd b3_0 ((a4_1 &&& (7#8)).toNat) y4, b3_1)) else F121_4 N a1_0 a1_1 a2 b3_0 b3_1 a4_0 a4_1 a4_2 a4_3 a4_4 a4_5 x2 x3 (a4_0 == (1#8))
def F121_2 (N : Nat) (a1_0 : BitVec 8) (a1_1 : BitVec 8) (a2 : BitVec 8) (b3_0 : Nat → BitVec 64) (b3_1 : NS (List UInt8)) (a4_0 : BitVec 8) (a4_1 : BitVec 8) (a4_2 : BitVec 8) (a4_3 : BitVec 8) (a4_4 : BitVec 64) (a4_5 : List UInt8) (x2 : BitVec 64) (x3 : BitVec 64) : Option ((Nat → BitVec 64) × NS (List UInt8)) := F121_3 N a1_0 a1_1 a2 b3_0 b3_1 a4_0 a4_1 a4_2 a4_3 a4_4 a4_5 x2 x3 (a4_0 == (0#8))
def F121_1 (N : Nat) (a1_0 : BitVec 8) (a1_1 : BitVec 8) (a2 : BitVec 8) (b3_0 : Nat → BitVec 64) (b3_1 : NS (List UInt8)) (a4_0 : BitVec 8) (a4_1 : BitVec 8) (a4_2 : BitVec 8) (a4_3 : BitVec 8) (a4_4 : BitVec 64) (a4_5 : List UInt8) (x1 : Bool) : Option ((Nat → BitVec 64) × NS (List UInt8)) := bif x1 then some (b3_0, b3_1) else F121_2 N a1_0 a1_1 a2 b3_0 b3_1 a4_0 a4_1 a4_2 a4_3 a4_4 a4_5 (b3_0 ((a4_2 &&& (7#8)).toNat)) (b3_0 ((a4_3 &&& (7#8)).toNat))
def F121 (N : Nat) (a0 : Tab) (a1_0 : BitVec 8) (a1_1 : BitVec 8) (a2 : BitVec 8) (b3_0 : Nat → BitVec 64) (b3_1 : NS (List UInt8)) (a4_0 : BitVec 8) (a4_1 : BitVec 8) (a4_2 : BitVec 8) (a4_3 : BitVec 8) (a4_4 : BitVec 64) (a4_5 : List UInt8) : Option ((Nat → BitVec 64) × NS (List UInt8)) := lt (F40 a1_0 a1_1) fun y36 => F121_1 N a1_0 a1_1 a2 b3_0 b3_1 a4_0 a4_1 a4_2 a4_3 a4_4 a4_5 (!y36)
theorem C121 (N : Nat) (a0 : Tab) (a1_0 : BitVec 8) (a1_1 : BitVec 8) (a2 : BitVec 8) (b3_0 : Nat → BitVec 64) (b3_1 : NS (List UInt8)) (a4_0 : BitVec 8) (a4_1 : BitVec 8) (a4_2 : BitVec 8) (a4_3 : BitVec 8) (a4_4 : BitVec 64) (a4_5 : List UInt8) (r : (Nat → BitVec 64) × NS (List UInt8)) (hr : some r = F121 N a0 a1_0 a1_1 a2 b3_0 b3_1 a4_0 a4_1 a4_2 a4_3 a4_4 a4_5) : FnB Hfaa.prog 121 [.inl (tabp a0), .inl (agg [is (U8 a1_0), is (U8 a1_1)]), .inl (is (U8 a2)), .inr (.inl (3, 0)), .inl (agg [is (U8 a4_0), is (U8 a4_1), is (U8 a4_2), is (U8 a4_3), is (U64 a4_4), is (Sv a4_5)])] [(3, gc 90 (ar U64 8 b3_0 ++ []) ([]) (k1 Sv) 1 b3_1)] (tup []) [(3, gc 90 (ar U64 8 r.1 ++ []) ([]) (k1 Sv) 1 r.2)] := by
  refine fnB_intro Hfaa.func121 rfl rfl rfl rfl rfl ⟨hf_gc _ _ _ _ _ _, trivial⟩ ?_
  intro bn0 w0 H0
  refine AW_seq1 ?_
  refine AW_region ?_
  refine AL_cons (LR_box (at_tmp 1 _) (cells_agg _) rfl) (sS (sT1 rfl) sB0 (sF1 rfl)) ?_
  refine AL_cons (LR_box (at_tmp 4 _) (cells_agg _) rfl) (sS (sT1 rfl) sB0 (sF1 rfl)) ?_
  refine AL_nil ?_
  refine thenN ?_
  refine AW_seq1 ?_
  refine AW_cut (σ := Bool) (fun v => ⟨[(2, .inl (is (U8 a2))), (3, .inr (.inl (3, 0))), (6, .inr (.inl (6, 0))), (9, .inr (.inl (9, 0))), (24, .inl (is (Bl v)))], [(3, gc 90 (ar U64 8 b3_0 ++ []) ([]) (k1 Sv) 1 b3_1), (6, pb 23 [is (U8 a1_0), is (U8 a1_1)]), (9, pb 96 [is (U8 a4_0), is (U8 a4_1), is (U8 a4_2), is (U8 a4_3), is (U64 a4_4), is (Sv a4_5)])]⟩) (fun v => some r = F121_1 N a1_0 a1_1 a2 b3_0 b3_1 a4_0 a4_1 a4_2 a4_3 a4_4 a4_5 v) ?_ ?_
  · skip
    refine AW_region ?_
    refine AL_cons (LR_move (at_tmp 0 _) rfl) (sS (sT1 rfl) sB0 sF0) ?_
    refine AL_cons (LR_binA (at_tmp 14 _) (at_c (v' := .pointer none) rfl) (eqTabNil Hfaa.underlying27 a0) rfl) (sS (sA (sT1 rfl) sT0) sB0 sF0) ?_
    refine AL_cons (LR_move (at_tmp 15 _) rfl) (sS (sT1 rfl) sB0 sF0) ?_
    refine AL_cons (LR_on rfl rfl rfl (LR_move (at_tmp 3 _) rfl)) (sS (sT rfl (sT1 rfl)) sB0 sF0) ?_
    refine AL_cons (LR_on rfl rfl rfl (LR_eqlPtr (at_tmp 17 _) Hfaa.underlying98 rfl)) (sS (sT rfl (sT1 rfl)) sB0 sF0) ?_
    refine AL_cons (LR_pick (b := false) (at_tmp 16 _) (at_c (v' := Bl true) rfl) (at_tmp 18 _) rfl) (sS (sA (sT1 rfl) (sA sT0 (sT1 rfl))) sB0 sF0) ?_
    refine AL_cons (LR_move (at_tmp 19 _) rfl) (sS (sT1 rfl) sB0 sF0) ?_
    refine AL_cons (LR_on rfl rfl rfl (LR_loads (at_tmp 6 _) ag23 sz23 rfl rfl rfl)) (sS (sT rfl (sT1 rfl)) (sB1 rfl) sF0) ?_
    obtain ⟨y36, hy36, hr⟩ := lt_some hr
    refine AL_cons (LR_on rfl rfl rfl (LR_call Hfaa.func40 rfl rfl (C40 a1_0 a1_1 y36 hy36) (all_cons (at_tmp 21 _) all_nil) rfl)) (sS (sT rfl (sA (sT1 rfl) sT0)) sB0 sF0) ?_
    refine AL_cons (LR_on rfl rfl rfl (LR_un (at_tmp 22 _) (not_Bl y36) rfl)) (sS (sT rfl (sT1 rfl)) sB0 sF0) ?_
    refine AL_cons (LR_pick (b := false) (at_tmp 20 _) (at_c (v' := Bl true) rfl) (at_tmp 23 _) rfl) (sS (sA (sT1 rfl) (sA sT0 (sT1 rfl))) sB0 sF0) ?_
    refine AL_nil ?_
    exact thenN (cutLeaf (v := !y36) hr (weakB ((sT rfl (sT rfl (sT rfl (sT rfl (sT rfl sT0)))))) (sub_keep (sub_keep (sub_keep sub_nil))) rfl))
  · rintro x1 hr
    show AW Hfaa.prog _ _ _ ⟨[(2, .inl (is (U8 a2))), (3, .inr (.inl (3, 0))), (6, .inr (.inl (6, 0))), (9, .inr (.inl (9, 0))), (24, .inl (is (Bl x1)))], [(3, gc 90 (ar U64 8 b3_0 ++ []) ([]) (k1 Sv) 1 b3_1), (6, pb 23 [is (U8 a1_0), is (U8 a1_1)]), (9, pb 96 [is (U8 a4_0), is (U8 a4_1), is (U8 a4_2), is (U8 a4_3), is (U64 a4_4), is (Sv a4_5)])]⟩
    have hr : some r = F121_1 N a1_0 a1_1 a2 b3_0 b3_1 a4_0 a4_1 a4_2 a4_3 a4_4 a4_5 x1 := hr
    refine AW_condT (b := x1) rfl (fun h => ?_) (fun h => ?_)
    · have hr := hr.trans (cond_t h)
      clear h
      refine AW_ret ?_
      refine thenR ?_
      obtain rfl := Option.some.inj hr
      exact ⟨res0 rfl , (sub_keep (sub_drop (sub_drop sub_nil)))⟩
    · have hr := hr.trans (cond_f h)
      clear h
      refine AW_skip ?_
      refine thenN ?_
      refine AW_cut (σ := BitVec 64 × BitVec 64) (fun v => ⟨[(2, .inl (is (U8 a2))), (3, .inr (.inl (3, 0))), (6, .inr (.inl (6, 0))), (9, .inr (.inl (9, 0))), (10, .inr (.inl (3, (a4_1 &&& (7#8)).toNat))), (11, .inl (is (U64 v.1))), (12, .inl (is (U64 v.2)))], [(3, gc 90 (ar U64 8 b3_0 ++ []) ([]) (k1 Sv) 1 b3_1), (6, pb 23 [is (U8 a1_0), is (U8 a1_1)]), (9, pb 96 [is (U8 a4_0), is (U8 a4_1), is (U8 a4_2), is (U8 a4_3), is (U64 a4_4), is (Sv a4_5)])]⟩) (fun v => some r = F121_2 N a1_0 a1_1 a2 b3_0 b3_1 a4_0 a4_1 a4_2 a4_3 a4_4 a4_5 v.1 v.2) ?_ ?_
      · skip
        refine AW_opn 3 1015 (fun sv => (ar U64 8 b3_0 ++ (is ( sv) :: []))) rfl rfl (fun _ => by first | rfl | simp) ?_
        intro sv18 hsv18
        refine AW_post ?_
        refine AW_draw mixed
          (lrC (LR_move (at_tmp 3 _) rfl)
          (lrC (LR_fieldAddr (off := 0) (o := 1) (at_tmp 9 _) (fun b w => fa96_1 b 0 w) rfl)
          (lrC (LR_load (at_tmp 26 _) na5 rfl rfl)
          (lrC (LR_bin (at_tmp 27 _) (at_c (v' := U8 (7#8)) rfl) (and_U8 a4_1 (7#8)) rfl)
          (lrC (LR_nilCheck (at_tmp 25 _) rfl)
          (lrC (LR_fieldAddr (off := 0) (o := 0) (at_tmp 29 _) (fun b w => fa90_0 b 0 w) rfl)
          (lrC (LR_indexAddr (o := (a4_1 &&& (7#8)).toNat) Hfaa.underlying35 sz30 (at_tmp 30 _) (at_tmp 28 _) (natIx (and7 a4_1)) (by first | rfl | omega) rfl)
          (lrC (LR_move (at_tmp 3 _) rfl)
          (lrC (LR_fieldAddr (off := 0) (o := 2) (at_tmp 9 _) (fun b w => fa96_2 b 0 w) rfl)
          (lrC (LR_load (at_tmp 33 _) na5 rfl rfl)
          (lrC (LR_bin (at_tmp 34 _) (at_c (v' := U8 (7#8)) rfl) (and_U8 a4_2 (7#8)) rfl)
          (lrC (LR_nilCheck (at_tmp 32 _) rfl)
          (lrC (LR_fieldAddr (off := 0) (o := 0) (at_tmp 36 _) (fun b w => fa90_0 b 0 w) rfl)
          (lrC (LR_indexAddr (o := (a4_2 &&& (7#8)).toNat) Hfaa.underlying35 sz30 (at_tmp 37 _) (at_tmp 35 _) (natIx (and7 a4_2)) (by first | rfl | omega) rfl)
          (lrC (LR_load (at_tmp 38 _) na30 (gA (and7 a4_2)) rfl)
          (lrC (LR_move (at_tmp 3 _) rfl)
          (lrC (LR_fieldAddr (off := 0) (o := 3) (at_tmp 9 _) (fun b w => fa96_3 b 0 w) rfl)
          (lrC (LR_load (at_tmp 41 _) na5 rfl rfl)
          (lrC (LR_bin (at_tmp 42 _) (at_c (v' := U8 (7#8)) rfl) (and_U8 a4_3 (7#8)) rfl)
          (lrC (LR_nilCheck (at_tmp 40 _) rfl)
          (lrC (LR_fieldAddr (off := 0) (o := 0) (at_tmp 44 _) (fun b w => fa90_0 b 0 w) rfl)
          (lrC (LR_indexAddr (o := (a4_3 &&& (7#8)).toNat) Hfaa.underlying35 sz30 (at_tmp 45 _) (at_tmp 43 _) (natIx (and7 a4_3)) (by first | rfl | omega) rfl)
          (lrC (LR_load (at_tmp 46 _) na30 (gA (and7 a4_3)) rfl)
          (lrC (LR_assign (at_tmp 31 _) rfl)
          (lrC (LR_assign (at_tmp 39 _) rfl)
          (lrC (LR_assign (at_tmp 47 _) rfl)
          lrN))))))))))))))))))))))))))
          (by kernel_rfl)
          (saC (sS (sT1 rfl) sB0 sF0) (saC (sS (sT1 rfl) sB0 sF0) (saC (sS (sT1 rfl) (sB1 rfl) sF0) (saC (sS (sA (sT1 rfl) sT0) sB0 sF0) (saC (sS (sT1 rfl) sB0 sF0) (saC (sS (sT1 rfl) sB0 sF0) (saC (sS (sA (sT1 rfl) (sT1 rfl)) sB0 sF0) (saC (sS (sT1 rfl) sB0 sF0) (saC (sS (sT1 rfl) sB0 sF0) (saC (sS (sT1 rfl) (sB1 rfl) sF0) (saC (sS (sA (sT1 rfl) sT0) sB0 sF0) (saC (sS (sT1 rfl) sB0 sF0) (saC (sS (sT1 rfl) sB0 sF0) (saC (sS (sA (sT1 rfl) (sT1 rfl)) sB0 sF0) (saC (sS (sT1 rfl) (sB1 rfl) sF0) (saC (sS (sT1 rfl) sB0 sF0) (saC (sS (sT1 rfl) sB0 sF0) (saC (sS (sT1 rfl) (sB1 rfl) sF0) (saC (sS (sA (sT1 rfl) sT0) sB0 sF0) (saC (sS (sT1 rfl) sB0 sF0) (saC (sS (sT1 rfl) sB0 sF0) (saC (sS (sA (sT1 rfl) (sT1 rfl)) sB0 sF0) (saC (sS (sT1 rfl) (sB1 rfl) sF0) (saC (sS (sT1 rfl) sB0 sF0) (saC (sS (sT1 rfl) sB0 sF0) (saC (sS (sT1 rfl) sB0 sF0) saN)))))))))))))))))))))))))) ?_
        refine ⟨_, (imp_close (k := 3) (r := 1015) (ar U64 8 b3_0 ++ []) ([]) rfl (by first | rfl | simp) rfl rfl rfl rfl), ?_⟩
        exact thenN (cutLeaf (v := (b3_0 ((a4_2 &&& (7#8)).toNat), b3_0 ((a4_3 &&& (7#8)).toNat))) hr (weakB ((sT rfl (sT rfl (sT rfl (sT rfl (sT rfl (sT rfl (sT rfl sT0)))))))) (sub_keep (sub_keep (sub_keep (sub_drop sub_nil)))) rfl))
      · rintro ⟨x2, x3⟩ hr
        show AW Hfaa.prog _ _ _ ⟨[(2, .inl (is (U8 a2))), (3, .inr (.inl (3, 0))), (6, .inr (.inl (6, 0))), (9, .inr (.inl (9, 0))), (10, .inr (.inl (3, (a4_1 &&& (7#8)).toNat))), (11, .inl (is (U64 x2))), (12, .inl (is (U64 x3)))], [(3, gc 90 (ar U64 8 b3_0 ++ []) ([]) (k1 Sv) 1 b3_1), (6, pb 23 [is (U8 a1_0), is (U8 a1_1)]), (9, pb 96 [is (U8 a4_0), is (U8 a4_1), is (U8 a4_2), is (U8 a4_3), is (U64 a4_4), is (Sv a4_5)])]⟩
        have hr : some r = F121_2 N a1_0 a1_1 a2 b3_0 b3_1 a4_0 a4_1 a4_2 a4_3 a4_4 a4_5 x2 x3 := hr
        refine AW_seq1 ?_
        refine AW_region ?_
        refine AL_cons (LR_fieldAddr (off := 0) (o := 0) (at_tmp 9 _) (fun b w => fa96_0 b 0 w) rfl) (sS (sT1 rfl) sB0 sF0) ?_
        refine AL_cons (LR_load (at_tmp 48 _) na5 rfl rfl) (sS (sT1 rfl) (sB1 rfl) sF0) ?_
        refine AL_nil ?_
        refine thenN ?_
        refine AW_block ?_
        refine AW_cut (σ := Bool) (fun v => ⟨[(2, .inl (is (U8 a2))), (3, .inr (.inl (3, 0))), (6, .inr (.inl (6, 0))), (9, .inr (.inl (9, 0))), (10, .inr (.inl (3, (a4_1 &&& (7#8)).toNat))), (11, .inl (is (U64 x2))), (12, .inl (is (U64 x3))), (49, .inl (is (U8 a4_0))), (55, .inl (is (Bl v)))], [(3, gc 90 (ar U64 8 b3_0 ++ []) ([]) (k1 Sv) 1 b3_1), (6, pb 23 [is (U8 a1_0), is (U8 a1_1)]), (9, pb 96 [is (U8 a4_0), is (U8 a4_1), is (U8 a4_2), is (U8 a4_3), is (U64 a4_4), is (Sv a4_5)])]⟩) (fun v => some r = F121_3 N a1_0 a1_1 a2 b3_0 b3_1 a4_0 a4_1 a4_2 a4_3 a4_4 a4_5 x2 x3 v) ?_ ?_
        · skip
          refine AW_region ?_
          refine AL_cons (LR_bin (at_tmp 49 _) (at_c (v' := U8 (0#8)) rfl) (eql_U8 a4_0 (0#8)) rfl) (sS (sA (sT1 rfl) sT0) sB0 sF0) ?_
          refine AL_cons (LR_assign (at_tmp 56 _) rfl) (sS (sT1 rfl) sB0 sF0) ?_
          refine AL_nil ?_
          exact thenN (cutLeaf (v := a4_0 == (0#8)) hr (weakB ((sT rfl (sT rfl (sT rfl (sT rfl (sT rfl (sT rfl (sT rfl (sT rfl (sT rfl sT0)))))))))) (sub_keep (sub_keep (sub_keep sub_nil))) rfl))
        · rintro x4 hr
          show AW Hfaa.prog _ _ _ ⟨[(2, .inl (is (U8 a2))), (3, .inr (.inl (3, 0))), (6, .inr (.inl (6, 0))), (9, .inr (.inl (9, 0))), (10, .inr (.inl (3, (a4_1 &&& (7#8)).toNat))), (11, .inl (is (U64 x2))), (12, .inl (is (U64 x3))), (49, .inl (is (U8 a4_0))), (55, .inl (is (Bl x4)))], [(3, gc 90 (ar U64 8 b3_0 ++ []) ([]) (k1 Sv) 1 b3_1), (6, pb 23 [is (U8 a1_0), is (U8 a1_1)]), (9, pb 96 [is (U8 a4_0), is (U8 a4_1), is (U8 a4_2), is (U8 a4_3), is (U64 a4_4), is (Sv a4_5)])]⟩
          have hr : some r = F121_3 N a1_0 a1_1 a2 b3_0 b3_1 a4_0 a4_1 a4_2 a4_3 a4_4 a4_5 x2 x3 x4 := hr
          refine AW_condT (b := x4) rfl (fun h => ?_) (fun h => ?_)
          · have hr := hr.trans (cond_t h)
            clear h
            refine AW_region ?_
            refine AL_cons (LR_move (at_tmp 10 _) rfl) (sS (sT1 rfl) sB0 sF0) ?_
            refine AL_cons (LR_loads (at_tmp 6 _) ag23 sz23 rfl rfl rfl) (sS (sT1 rfl) (sB1 rfl) sF0) ?_
            refine AL_cons (LR_fieldAddr (off := 0) (o := 4) (at_tmp 9 _) (fun b w => fa96_4 b 0 w) rfl) (sS (sT1 rfl) sB0 sF0) ?_
            refine AL_cons (LR_load (at_tmp 59 _) na30 rfl rfl) (sS (sT1 rfl) (sB1 rfl) sF0) ?_
            obtain ⟨y4, hy4, hr⟩ := lt_some hr
            refine AL_cons (LR_call Hfaa.func222 rfl rfl (C222 a1_0 a1_1 a4_4 y4 hy4) (all_cons (at_tmp 58 _) (all_cons (at_tmp 60 _) all_nil)) rfl) (sS (sA (sT1 rfl) (sA (sT1 rfl) sT0)) sB0 sF0) ?_
            refine AL_cons (LR_nilCheck (at_tmp 57 _) rfl) (sS (sT1 rfl) sB0 sF0) ?_
            refine AL_opn 3 1001 (fun sv => (ar U64 8 b3_0 ++ (is ( sv) :: []))) rfl rfl (fun _ => by first | rfl | simp) ?_
            intro sv1 hsv1
            refine AL_cons (LR_storeA (at_tmp 62 _) (at_tmp 61 _) (cells_one (one_is rfl)) (onC (one_is rfl) onN) sz30 rfl (ble_dyn (lnA (lnC ln0)) (by have := (and7 a4_1); omega)) (stA (and7 a4_1))) (sS (sA (sT1 rfl) (sT1 rfl)) (sB1 rfl) sF0) ?_
            refine AL_imp (imp_close (k := 3) (r := 1001) ((ar U64 8 (upd b3_0 ((a4_1 &&& (7#8)).toNat) y4) ++ [])) ([]) rfl (by first | rfl | simp) rfl rfl rfl rfl) ?_
            refine AL_nil ?_
            refine blN ?_
            obtain rfl := Option.some.inj hr
            exact ⟨res0 rfl , (sub_keep (sub_drop (sub_drop (sub_drop sub_nil))))⟩
          · have hr := hr.trans (cond_f h)
            clear h
            refine AW_cut (σ := Bool) (fun v => ⟨[(2, .inl (is (U8 a2))), (3, .inr (.inl (3, 0))), (6, .inr (.inl (6, 0))), (9, .inr (.inl (9, 0))), (10, .inr (.inl (3, (a4_1 &&& (7#8)).toNat))), (11, .inl (is (U64 x2))), (12, .inl (is (U64 x3))), (49, .inl (is (U8 a4_0))), (63, .inl (is (Bl v)))], [(3, gc 90 (ar U64 8 b3_0 ++ []) ([]) (k1 Sv) 1 b3_1), (6, pb 23 [is (U8 a1_0), is (U8 a1_1)]), (9, pb 96 [is (U8 a4_0), is (U8 a4_1), is (U8 a4_2), is (U8 a4_3), is (U64 a4_4), is (Sv a4_5)])]⟩) (fun v => some r = F121_4 N a1_0 a1_1 a2 b3_0 b3_1 a4_0 a4_1 a4_2 a4_3 a4_4 a4_5 x2 x3 v) ?_ ?_
            · skip
              refine AW_region ?_
              refine AL_cons (LR_bin (at_tmp 49 _) (at_c (v' := U8 (1#8)) rfl) (eql_U8 a4_0 (1#8)) rfl) (sS (sA (sT1 rfl) sT0) sB0 sF0) ?_
              refine AL_cons (LR_assign (at_tmp 64 _) rfl) (sS (sT1 rfl) sB0 sF0) ?_
              refine AL_nil ?_
              exact thenN (cutLeaf (v := a4_0 == (1#8)) hr (weakB ((sT rfl (sT rfl (sT rfl (sT rfl (sT rfl (sT rfl (sT rfl (sT rfl (sT rfl sT0)))))))))) (sub_keep (sub_keep (sub_keep sub_nil))) rfl))
            · rintro x5 hr
              show AW Hfaa.prog _ _ _ ⟨[(2, .inl (is (U8 a2))), (3, .inr (.inl (3, 0))), (6, .inr (.inl (6, 0))), (9, .inr (.inl (9, 0))), (10, .inr (.inl (3, (a4_1 &&& (7#8)).toNat))), (11, .inl (is (U64 x2))), (12, .inl (is (U64 x3))), (49, .inl (is (U8 a4_0))), (63, .inl (is (Bl x5)))], [(3, gc 90 (ar U64 8 b3_0 ++ []) ([]) (k1 Sv) 1 b3_1), (6, pb 23 [is (U8 a1_0), is (U8 a1_1)]), (9, pb 96 [is (U8 a4_0), is (U8 a4_1), is (U8 a4_2), is (U8 a4_3), is (U64 a4_4), is (Sv a4_5)])]⟩
              have hr : some r = F121_4 N a1_0 a1_1 a2 b3_0 b3_1 a4_0 a4_1 a4_2 a4_3 a4_4 a4_5 x2 x3 x5 := hr
              refine AW_condT (b := x5) rfl (fun h => ?_) (fun h => ?_)
              · have hr := hr.trans (cond_t h)
                clear h
                refine AW_region ?_
                refine AL_cons (LR_move (at_tmp 10 _) rfl) (sS (sT1 rfl) sB0 sF0) ?_
                refine AL_cons (LR_loads (at_tmp 6 _) ag23 sz23 rfl rfl rfl) (sS (sT1 rfl) (sB1 rfl) sF0) ?_
                refine AL_cons (LR_move (at_tmp 2 _) rfl) (sS (sT1 rfl) sB0 sF0) ?_
                refine AL_cons (LR_move (at_tmp 11 _) rfl) (sS (sT1 rfl) sB0 sF0) ?_
                refine AL_cons (LR_move (at_tmp 12 _) rfl) (sS (sT1 rfl) sB0 sF0) ?_
                obtain ⟨y5, hy5, hr⟩ := bind_some hr
                refine AL_cons (LR_call Hfaa.func140 rfl rfl (C140 N a1_0 a1_1 a2 x2 x3 y5 hy5) (all_cons (at_tmp 66 _) (all_cons (at_tmp 67 _) (all_cons (at_tmp 68 _) (all_cons (at_tmp 69 _) all_nil)))) rfl) (sS (sA (sT1 rfl) (sA (sT1 rfl) (sA (sT1 rfl) (sA (sT1 rfl) sT0)))) sB0 sF0) ?_
                refine AL_cons (LR_nilCheck (at_tmp 65 _) rfl) (sS (sT1 rfl) sB0 sF0) ?_
                refine AL_opn 3 1002 (fun sv => (ar U64 8 b3_0 ++ (is ( sv) :: []))) rfl rfl (fun _ => by first | rfl | simp) ?_
                intro sv2 hsv2
                refine AL_cons (LR_storeA (at_tmp 71 _) (at_tmp 70 _) (cells_one (one_is rfl)) (onC (one_is rfl) onN) sz30 rfl (ble_dyn (lnA (lnC ln0)) (by have := (and7 a4_1); omega)) (stA (and7 a4_1))) (sS (sA (sT1 rfl) (sT1 rfl)) (sB1 rfl) sF0) ?_
                refine AL_imp (imp_close (k := 3) (r := 1002) ((ar U64 8 (upd b3_0 ((a4_1 &&& (7#8)).toNat) y5) ++ [])) ([]) rfl (by first | rfl | simp) rfl rfl rfl rfl) ?_
                refine AL_nil ?_
                refine blN ?_
                obtain rfl := Option.some.inj hr
                exact ⟨res0 rfl , (sub_keep (sub_drop (sub_drop (sub_drop sub_nil))))⟩
              · have hr := hr.trans (cond_f h)
                clear h
                refine AW_cut (σ := Bool) (fun v => ⟨[(2, .inl (is (U8 a2))), (3, .inr (.inl (3, 0))), (6, .inr (.inl (6, 0))), (9, .inr (.inl (9, 0))), (10, .inr (.inl (3, (a4_1 &&& (7#8)).toNat))), (11, .inl (is (U64 x2))), (12, .inl (is (U64 x3))), (49, .inl (is (U8 a4_0))), (72, .inl (is (Bl v)))], [(3, gc 90 (ar U64 8 b3_0 ++ []) ([]) (k1 Sv) 1 b3_1), (6, pb 23 [is (U8 a1_0), is (U8 a1_1)]), (9, pb 96 [is (U8 a4_0), is (U8 a4_1), is (U8 a4_2), is (U8 a4_3), is (U64 a4_4), is (Sv a4_5)])]⟩) (fun v => some r = F121_5 N a1_0 a1_1 a2 b3_0 b3_1 a4_0 a4_1 a4_2 a4_3 a4_4 a4_5 x2 x3 v) ?_ ?_
                · skip
                  refine AW_region ?_
                  refine AL_cons (LR_bin (at_tmp 49 _) (at_c (v' := U8 (2#8)) rfl) (eql_U8 a4_0 (2#8)) rfl) (sS (sA (sT1 rfl) sT0) sB0 sF0) ?_
                  refine AL_cons (LR_assign (at_tmp 73 _) rfl) (sS (sT1 rfl) sB0 sF0) ?_
                  refine AL_nil ?_
                  exact thenN (cutLeaf (v := a4_0 == (2#8)) hr (weakB ((sT rfl (sT rfl (sT rfl (sT rfl (sT rfl (sT rfl (sT rfl (sT rfl (sT rfl sT0)))))))))) (sub_keep (sub_keep (sub_keep sub_nil))) rfl))
                · rintro x6 hr
                  show AW Hfaa.prog _ _ _ ⟨[(2, .inl (is (U8 a2))), (3, .inr (.inl (3, 0))), (6, .inr (.inl (6, 0))), (9, .inr (.inl (9, 0))), (10, .inr (.inl (3, (a4_1 &&& (7#8)).toNat))), (11, .inl (is (U64 x2))), (12, .inl (is (U64 x3))), (49, .inl (is (U8 a4_0))), (72, .inl (is (Bl x6)))], [(3, gc 90 (ar U64 8 b3_0 ++ []) ([]) (k1 Sv) 1 b3_1), (6, pb 23 [is (U8 a1_0), is (U8 a1_1)]), (9, pb 96 [is (U8 a4_0), is (U8 a4_1), is (U8 a4_2), is (U8 a4_3), is (U64 a4_4), is (Sv a4_5)])]⟩
                  have hr : some r = F121_5 N a1_0 a1_1 a2 b3_0 b3_1 a4_0 a4_1 a4_2 a4_3 a4_4 a4_5 x2 x3 x6 := hr
                  refine AW_condT (b := x6) rfl (fun h => ?_) (fun h => ?_)
                  · have hr := hr.trans (cond_t h)
                    clear h
                    refine AW_region ?_
                    refine AL_cons (LR_move (at_tmp 10 _) rfl) (sS (sT1 rfl) sB0 sF0) ?_
                    refine AL_cons (LR_loads (at_tmp 6 _) ag23 sz23 rfl rfl rfl) (sS (sT1 rfl) (sB1 rfl) sF0) ?_
                    refine AL_cons (LR_move (at_tmp 2 _) rfl) (sS (sT1 rfl) sB0 sF0) ?_
                    refine AL_cons (LR_move (at_tmp 11 _) rfl) (sS (sT1 rfl) sB0 sF0) ?_
                    refine AL_cons (LR_move (at_tmp 12 _) rfl) (sS (sT1 rfl) sB0 sF0) ?_
                    obtain ⟨y6, hy6, hr⟩ := bind_some hr
                    refine AL_cons (LR_call Hfaa.func141 rfl rfl (C141 N a1_0 a1_1 a2 x2 x3 y6 hy6) (all_cons (at_tmp 75 _) (all_cons (at_tmp 76 _) (all_cons (at_tmp 77 _) (all_cons (at_tmp 78 _) all_nil)))) rfl) (sS (sA (sT1 rfl) (sA (sT1 rfl) (sA (sT1 rfl) (sA (sT1 rfl) sT0)))) sB0 sF0) ?_
                    refine AL_cons (LR_nilCheck (at_tmp 74 _) rfl) (sS (sT1 rfl) sB0 sF0) ?_
                    refine AL_opn 3 1003 (fun sv => (ar U64 8 b3_0 ++ (is ( sv) :: []))) rfl rfl (fun _ => by first | rfl | simp) ?_
                    intro sv3 hsv3
                    refine AL_cons (LR_storeA (at_tmp 80 _) (at_tmp 79 _) (cells_one (one_is rfl)) (onC (one_is rfl) onN) sz30 rfl (ble_dyn (lnA (lnC ln0)) (by have := (and7 a4_1); omega)) (stA (and7 a4_1))) (sS (sA (sT1 rfl) (sT1 rfl)) (sB1 rfl) sF0) ?_
                    refine AL_imp (imp_close (k := 3) (r := 1003) ((ar U64 8 (upd b3_0 ((a4_1 &&& (7#8)).toNat) y6) ++ [])) ([]) rfl (by first | rfl | simp) rfl rfl rfl rfl) ?_
                    refine AL_nil ?_
                    refine blN ?_
                    obtain rfl := Option.some.inj hr
                    exact ⟨res0 rfl , (sub_keep (sub_drop (sub_drop (sub_drop sub_nil))))⟩
                  · have hr := hr.trans (cond_f h)
                    clear h
                    refine AW_cut (σ := Bool) (fun v => ⟨[(2, .inl (is (U8 a2))), (3, .inr (.inl (3, 0))), (6, .inr (.inl (6, 0))), (9, .inr (.inl (9, 0))), (10, .inr (.inl (3, (a4_1 &&& (7#8)).toNat))), (11, .inl (is (U64 x2))), (12, .inl (is (U64 x3))), (49, .inl (is (U8 a4_0))), (81, .inl (is (Bl v)))], [(3, gc 90 (ar U64 8 b3_0 ++ []) ([]) (k1 Sv) 1 b3_1), (6, pb 23 [is (U8 a1_0), is (U8 a1_1)]), (9, pb 96 [is (U8 a4_0), is (U8 a4_1), is (U8 a4_2), is (U8 a4_3), is (U64 a4_4), is (Sv a4_5)])]⟩) (fun v => some r = F121_6 N a1_0 a1_1 a2 b3_0 b3_1 a4_0 a4_1 a4_2 a4_3 a4_4 a4_5 x2 x3 v) ?_ ?_
                    · skip
                      refine AW_region ?_
                      refine AL_cons (LR_bin (at_tmp 49 _) (at_c (v' := U8 (3#8)) rfl) (eql_U8 a4_0 (3#8)) rfl) (sS (sA (sT1 rfl) sT0) sB0 sF0) ?_
                      refine AL_cons (LR_assign (at_tmp 82 _) rfl) (sS (sT1 rfl) sB0 sF0) ?_
                      refine AL_nil ?_
                      exact thenN (cutLeaf (v := a4_0 == (3#8)) hr (weakB ((sT rfl (sT rfl (sT rfl (sT rfl (sT rfl (sT rfl (sT rfl (sT rfl (sT rfl sT0)))))))))) (sub_keep (sub_keep (sub_keep sub_nil))) rfl))
                    · rintro x7 hr
                      show AW Hfaa.prog _ _ _ ⟨[(2, .inl (is (U8 a2))), (3, .inr (.inl (3, 0))), (6, .inr (.inl (6, 0))), (9, .inr (.inl (9, 0))), (10, .inr (.inl (3, (a4_1 &&& (7#8)).toNat))), (11, .inl (is (U64 x2))), (12, .inl (is (U64 x3))), (49, .inl (is (U8 a4_0))), (81, .inl (is (Bl x7)))], [(3, gc 90 (ar U64 8 b3_0 ++ []) ([]) (k1 Sv) 1 b3_1), (6, pb 23 [is (U8 a1_0), is (U8 a1_1)]), (9, pb 96 [is (U8 a4_0), is (U8 a4_1), is (U8 a4_2), is (U8 a4_3), is (U64 a4_4), is (Sv a4_5)])]⟩
                      have hr : some r = F121_6 N a1_0 a1_1 a2 b3_0 b3_1 a4_0 a4_1 a4_2 a4_3 a4_4 a4_5 x2 x3 x7 := hr
                      refine AW_condT (b := x7) rfl (fun h => ?_) (fun h => ?_)
                      · have hr := hr.trans (cond_t h)
                        clear h
                        refine AW_region ?_
                        refine AL_cons (LR_move (at_tmp 10 _) rfl) (sS (sT1 rfl) sB0 sF0) ?_
                        refine AL_cons (LR_loads (at_tmp 6 _) ag23 sz23 rfl rfl rfl) (sS (sT1 rfl) (sB1 rfl) sF0) ?_
                        refine AL_cons (LR_move (at_tmp 2 _) rfl) (sS (sT1 rfl) sB0 sF0) ?_
                        refine AL_cons (LR_move (at_tmp 11 _) rfl) (sS (sT1 rfl) sB0 sF0) ?_
                        refine AL_cons (LR_move (at_tmp 12 _) rfl) (sS (sT1 rfl) sB0 sF0) ?_
                        obtain ⟨y7, hy7, hr⟩ := bind_some hr
                        refine AL_cons (LR_call Hfaa.func142 rfl rfl (C142 N a1_0 a1_1 a2 x2 x3 y7 hy7) (all_cons (at_tmp 84 _) (all_cons (at_tmp 85 _) (all_cons (at_tmp 86 _) (all_cons (at_tmp 87 _) all_nil)))) rfl) (sS (sA (sT1 rfl) (sA (sT1 rfl) (sA (sT1 rfl) (sA (sT1 rfl) sT0)))) sB0 sF0) ?_
                        refine AL_cons (LR_nilCheck (at_tmp 83 _) rfl) (sS (sT1 rfl) sB0 sF0) ?_
                        refine AL_opn 3 1004 (fun sv => (ar U64 8 b3_0 ++ (is ( sv) :: []))) rfl rfl (fun _ => by first | rfl | simp) ?_
                        intro sv4 hsv4
                        refine AL_cons (LR_storeA (at_tmp 89 _) (at_tmp 88 _) (cells_one (one_is rfl)) (onC (one_is rfl) onN) sz30 rfl (ble_dyn (lnA (lnC ln0)) (by have := (and7 a4_1); omega)) (stA (and7 a4_1))) (sS (sA (sT1 rfl) (sT1 rfl)) (sB1 rfl) sF0) ?_
                        refine AL_imp (imp_close (k := 3) (r := 1004) ((ar U64 8 (upd b3_0 ((a4_1 &&& (7#8)).toNat) y7) ++ [])) ([]) rfl (by first | rfl | simp) rfl rfl rfl rfl) ?_
                        refine AL_nil ?_
                        refine blN ?_
                        obtain rfl := Option.some.inj hr
                        exact ⟨res0 rfl , (sub_keep (sub_drop (sub_drop (sub_drop sub_nil))))⟩
                      · have hr := hr.trans (cond_f h)
                        clear h
                        refine AW_cut (σ := Bool) (fun v => ⟨[(2, .inl (is (U8 a2))), (3, .inr (.inl (3, 0))), (6, .inr (.inl (6, 0))), (9, .inr (.inl (9, 0))), (10, .inr (.inl (3, (a4_1 &&& (7#8)).toNat))), (11, .inl (is (U64 x2))), (12, .inl (is (U64 x3))), (49, .inl (is (U8 a4_0))), (90, .inl (is (Bl v)))], [(3, gc 90 (ar U64 8 b3_0 ++ []) ([]) (k1 Sv) 1 b3_1), (6, pb 23 [is (U8 a1_0), is (U8 a1_1)]), (9, pb 96 [is (U8 a4_0), is (U8 a4_1), is (U8 a4_2), is (U8 a4_3), is (U64 a4_4), is (Sv a4_5)])]⟩) (fun v => some r = F121_7 N a1_0 a1_1 a2 b3_0 b3_1 a4_0 a4_1 a4_2 a4_3 a4_4 a4_5 x2 x3 v) ?_ ?_
                        · skip
                          refine AW_region ?_
                          refine AL_cons (LR_bin (at_tmp 49 _) (at_c (v' := U8 (4#8)) rfl) (eql_U8 a4_0 (4#8)) rfl) (sS (sA (sT1 rfl) sT0) sB0 sF0) ?_
                          refine AL_cons (LR_assign (at_tmp 91 _) rfl) (sS (sT1 rfl) sB0 sF0) ?_
                          refine AL_nil ?_
                          exact thenN (cutLeaf (v := a4_0 == (4#8)) hr (weakB ((sT rfl (sT rfl (sT rfl (sT rfl (sT rfl (sT rfl (sT rfl (sT rfl (sT rfl sT0)))))))))) (sub_keep (sub_keep (sub_keep sub_nil))) rfl))
                        · rintro x8 hr
                          show AW Hfaa.prog _ _ _ ⟨[(2, .inl (is (U8 a2))), (3, .inr (.inl (3, 0))), (6, .inr (.inl (6, 0))), (9, .inr (.inl (9, 0))), (10, .inr (.inl (3, (a4_1 &&& (7#8)).toNat))), (11, .inl (is (U64 x2))), (12, .inl (is (U64 x3))), (49, .inl (is (U8 a4_0))), (90, .inl (is (Bl x8)))], [(3, gc 90 (ar U64 8 b3_0 ++ []) ([]) (k1 Sv) 1 b3_1), (6, pb 23 [is (U8 a1_0), is (U8 a1_1)]), (9, pb 96 [is (U8 a4_0), is (U8 a4_1), is (U8 a4_2), is (U8 a4_3), is (U64 a4_4), is (Sv a4_5)])]⟩
                          have hr : some r = F121_7 N a1_0 a1_1 a2 b3_0 b3_1 a4_0 a4_1 a4_2 a4_3 a4_4 a4_5 x2 x3 x8 := hr
                          refine AW_condT (b := x8) rfl (fun h => ?_) (fun h => ?_)
                          · have hr := hr.trans (cond_t h)
                            clear h
                            refine AW_region ?_
                            refine AL_cons (LR_move (at_tmp 10 _) rfl) (sS (sT1 rfl) sB0 sF0) ?_
                            refine AL_cons (LR_loads (at_tmp 6 _) ag23 sz23 rfl rfl rfl) (sS (sT1 rfl) (sB1 rfl) sF0) ?_
                            refine AL_cons (LR_move (at_tmp 2 _) rfl) (sS (sT1 rfl) sB0 sF0) ?_
                            refine AL_cons (LR_move (at_tmp 11 _) rfl) (sS (sT1 rfl) sB0 sF0) ?_
                            refine AL_cons (LR_move (at_tmp 12 _) rfl) (sS (sT1 rfl) sB0 sF0) ?_
                            obtain ⟨y8, hy8, hr⟩ := bind_some hr
                            refine AL_cons (LR_call Hfaa.func143 rfl rfl (C143 N a1_0 a1_1 a2 x2 x3 y8 hy8) (all_cons (at_tmp 93 _) (all_cons (at_tmp 94 _) (all_cons (at_tmp 95 _) (all_cons (at_tmp 96 _) all_nil)))) rfl) (sS (sA (sT1 rfl) (sA (sT1 rfl) (sA (sT1 rfl) (sA (sT1 rfl) sT0)))) sB0 sF0) ?_
                            refine AL_cons (LR_nilCheck (at_tmp 92 _) rfl) (sS (sT1 rfl) sB0 sF0) ?_
                            refine AL_opn 3 1005 (fun sv => (ar U64 8 b3_0 ++ (is ( sv) :: []))) rfl rfl (fun _ => by first | rfl | simp) ?_
                            intro sv5 hsv5
                            refine AL_cons (LR_storeA (at_tmp 98 _) (at_tmp 97 _) (cells_one (one_is rfl)) (onC (one_is rfl) onN) sz30 rfl (ble_dyn (lnA (lnC ln0)) (by have := (and7 a4_1); omega)) (stA (and7 a4_1))) (sS (sA (sT1 rfl) (sT1 rfl)) (sB1 rfl) sF0) ?_
                            refine AL_imp (imp_close (k := 3) (r := 1005) ((ar U64 8 (upd b3_0 ((a4_1 &&& (7#8)).toNat) y8) ++ [])) ([]) rfl (by first | rfl | simp) rfl rfl rfl rfl) ?_
                            refine AL_nil ?_
                            refine blN ?_
                            obtain rfl := Option.some.inj hr
                            exact ⟨res0 rfl , (sub_keep (sub_drop (sub_drop (sub_drop sub_nil))))⟩
                          · have hr := hr.trans (cond_f h)
                            clear h
                            refine AW_cut (σ := Bool) (fun v => ⟨[(2, .inl (is (U8 a2))), (3, .inr (.inl (3, 0))), (6, .inr (.inl (6, 0))), (9, .inr (.inl (9, 0))), (10, .inr (.inl (3, (a4_1 &&& (7#8)).toNat))), (11, .inl (is (U64 x2))), (12, .inl (is (U64 x3))), (49, .inl (is (U8 a4_0))), (99, .inl (is (Bl v)))], [(3, gc 90 (ar U64 8 b3_0 ++ []) ([]) (k1 Sv) 1 b3_1), (6, pb 23 [is (U8 a1_0), is (U8 a1_1)]), (9, pb 96 [is (U8 a4_0), is (U8 a4_1), is (U8 a4_2), is (U8 a4_3), is (U64 a4_4), is (Sv a4_5)])]⟩) (fun v => some r = F121_8 N a1_0 a1_1 a2 b3_0 b3_1 a4_0 a4_1 a4_2 a4_3 a4_4 a4_5 x2 x3 v) ?_ ?_
                            · skip
                              refine AW_region ?_
                              refine AL_cons (LR_bin (at_tmp 49 _) (at_c (v' := U8 (5#8)) rfl) (eql_U8 a4_0 (5#8)) rfl) (sS (sA (sT1 rfl) sT0) sB0 sF0) ?_
                              refine AL_cons (LR_assign (at_tmp 100 _) rfl) (sS (sT1 rfl) sB0 sF0) ?_
                              refine AL_nil ?_
                              exact thenN (cutLeaf (v := a4_0 == (5#8)) hr (weakB ((sT rfl (sT rfl (sT rfl (sT rfl (sT rfl (sT rfl (sT rfl (sT rfl (sT rfl sT0)))))))))) (sub_keep (sub_keep (sub_keep sub_nil))) rfl))
                            · rintro x9 hr
                              show AW Hfaa.prog _ _ _ ⟨[(2, .inl (is (U8 a2))), (3, .inr (.inl (3, 0))), (6, .inr (.inl (6, 0))), (9, .inr (.inl (9, 0))), (10, .inr (.inl (3, (a4_1 &&& (7#8)).toNat))), (11, .inl (is (U64 x2))), (12, .inl (is (U64 x3))), (49, .inl (is (U8 a4_0))), (99, .inl (is (Bl x9)))], [(3, gc 90 (ar U64 8 b3_0 ++ []) ([]) (k1 Sv) 1 b3_1), (6, pb 23 [is (U8 a1_0), is (U8 a1_1)]), (9, pb 96 [is (U8 a4_0), is (U8 a4_1), is (U8 a4_2), is (U8 a4_3), is (U64 a4_4), is (Sv a4_5)])]⟩
                              have hr : some r = F121_8 N a1_0 a1_1 a2 b3_0 b3_1 a4_0 a4_1 a4_2 a4_3 a4_4 a4_5 x2 x3 x9 := hr
                              refine AW_condT (b := x9) rfl (fun h => ?_) (fun h => ?_)
                              · have hr := hr.trans (cond_t h)
                                clear h
                                refine AW_region ?_
                                refine AL_cons (LR_move (at_tmp 10 _) rfl) (sS (sT1 rfl) sB0 sF0) ?_
                                refine AL_cons (LR_loads (at_tmp 6 _) ag23 sz23 rfl rfl rfl) (sS (sT1 rfl) (sB1 rfl) sF0) ?_
                                refine AL_cons (LR_move (at_tmp 2 _) rfl) (sS (sT1 rfl) sB0 sF0) ?_
                                refine AL_cons (LR_move (at_tmp 11 _) rfl) (sS (sT1 rfl) sB0 sF0) ?_
                                obtain ⟨y9, hy9, hr⟩ := bind_some hr
                                refine AL_cons (LR_call Hfaa.func74 rfl rfl (C74 N a1_0 a1_1 a2 x2 y9 hy9) (all_cons (at_tmp 102 _) (all_cons (at_tmp 103 _) (all_cons (at_tmp 104 _) all_nil))) rfl) (sS (sA (sT1 rfl) (sA (sT1 rfl) (sA (sT1 rfl) sT0))) sB0 sF0) ?_
                                refine AL_cons (LR_nilCheck (at_tmp 101 _) rfl) (sS (sT1 rfl) sB0 sF0) ?_
                                refine AL_opn 3 1006 (fun sv => (ar U64 8 b3_0 ++ (is ( sv) :: []))) rfl rfl (fun _ => by first | rfl | simp) ?_
                                intro sv6 hsv6
                                refine AL_cons (LR_storeA (at_tmp 106 _) (at_tmp 105 _) (cells_one (one_is rfl)) (onC (one_is rfl) onN) sz30 rfl (ble_dyn (lnA (lnC ln0)) (by have := (and7 a4_1); omega)) (stA (and7 a4_1))) (sS (sA (sT1 rfl) (sT1 rfl)) (sB1 rfl) sF0) ?_
                                refine AL_imp (imp_close (k := 3) (r := 1006) ((ar U64 8 (upd b3_0 ((a4_1 &&& (7#8)).toNat) y9) ++ [])) ([]) rfl (by first | rfl | simp) rfl rfl rfl rfl) ?_
                                refine AL_nil ?_
                                refine blN ?_
                                obtain rfl := Option.some.inj hr
                                exact ⟨res0 rfl , (sub_keep (sub_drop (sub_drop (sub_drop sub_nil))))⟩
                              · have hr := hr.trans (cond_f h)
                                clear h
                                refine AW_cut (σ := Bool) (fun v => ⟨[(2, .inl (is (U8 a2))), (3, .inr (.inl (3, 0))), (6, .inr (.inl (6, 0))), (9, .inr (.inl (9, 0))), (10, .inr (.inl (3, (a4_1 &&& (7#8)).toNat))), (11, .inl (is (U64 x2))), (12, .inl (is (U64 x3))), (49, .inl (is (U8 a4_0))), (107, .inl (is (Bl v)))], [(3, gc 90 (ar U64 8 b3_0 ++ []) ([]) (k1 Sv) 1 b3_1), (6, pb 23 [is (U8 a1_0), is (U8 a1_1)]), (9, pb 96 [is (U8 a4_0), is (U8 a4_1), is (U8 a4_2), is (U8 a4_3), is (U64 a4_4), is (Sv a4_5)])]⟩) (fun v => some r = F121_9 N a1_0 a1_1 a2 b3_0 b3_1 a4_0 a4_1 a4_2 a4_3 a4_4 a4_5 x2 x3 v) ?_ ?_
                                · skip
                                  refine AW_region ?_
                                  refine AL_cons (LR_bin (at_tmp 49 _) (at_c (v' := U8 (6#8)) rfl) (eql_U8 a4_0 (6#8)) rfl) (sS (sA (sT1 rfl) sT0) sB0 sF0) ?_
                                  refine AL_cons (LR_assign (at_tmp 108 _) rfl) (sS (sT1 rfl) sB0 sF0) ?_
                                  refine AL_nil ?_
                                  exact thenN (cutLeaf (v := a4_0 == (6#8)) hr (weakB ((sT rfl (sT rfl (sT rfl (sT rfl (sT rfl (sT rfl (sT rfl (sT rfl (sT rfl sT0)))))))))) (sub_keep (sub_keep (sub_keep sub_nil))) rfl))
                                · rintro x10 hr
                                  show AW Hfaa.prog _ _ _ ⟨[(2, .inl (is (U8 a2))), (3, .inr (.inl (3, 0))), (6, .inr (.inl (6, 0))), (9, .inr (.inl (9, 0))), (10, .inr (.inl (3, (a4_1 &&& (7#8)).toNat))), (11, .inl (is (U64 x2))), (12, .inl (is (U64 x3))), (49, .inl (is (U8 a4_0))), (107, .inl (is (Bl x10)))], [(3, gc 90 (ar U64 8 b3_0 ++ []) ([]) (k1 Sv) 1 b3_1), (6, pb 23 [is (U8 a1_0), is (U8 a1_1)]), (9, pb 96 [is (U8 a4_0), is (U8 a4_1), is (U8 a4_2), is (U8 a4_3), is (U64 a4_4), is (Sv a4_5)])]⟩
                                  have hr : some r = F121_9 N a1_0 a1_1 a2 b3_0 b3_1 a4_0 a4_1 a4_2 a4_3 a4_4 a4_5 x2 x3 x10 := hr
                                  refine AW_condT (b := x10) rfl (fun h => ?_) (fun h => ?_)
                                  · have hr := hr.trans (cond_t h)
                                    clear h
                                    refine AW_opn 3 1007 (fun sv => (ar U64 8 b3_0 ++ (is ( sv) :: []))) rfl rfl (fun _ => by first | rfl | simp) ?_
                                    intro sv7 hsv7
                                    obtain ⟨y13, hy13, hr⟩ := lt_some hr
                                    obtain ⟨y14, hy14, hr⟩ := lt_some hr
                                    obtain ⟨y15, hy15, hr⟩ := lt_some hr
                                    refine AW_post ?_
                                    refine AW_draw mixed
                                      (lrC (LR_move (at_tmp 10 _) rfl)
                                      (lrC (LR_loads (at_tmp 6 _) ag23 sz23 rfl rfl rfl)
                                      (lrC (LR_loads (at_tmp 6 _) ag23 sz23 rfl rfl rfl)
                                      (lrC (LR_move (at_tmp 11 _) rfl)
                                      (lrC (LR_call Hfaa.func222 rfl rfl (C222 a1_0 a1_1 x2 y13 hy13) (all_cons (at_tmp 111 _) (all_cons (at_tmp 112 _) all_nil)) rfl)
                                      (lrC (LR_loads (at_tmp 6 _) ag23 sz23 rfl rfl rfl)
                                      (lrC (LR_call Hfaa.func70 rfl rfl (C70 a1_0 a1_1 y14 hy14) (all_cons (at_tmp 114 _) all_nil) rfl)
                                      (lrC (LR_bin (at_tmp 113 _) (at_tmp 115 _) (xor_U64 y13 y14) rfl)
                                      (lrC (LR_call Hfaa.func222 rfl rfl (C222 a1_0 a1_1 (y13 ^^^ y14) y15 hy15) (all_cons (at_tmp 110 _) (all_cons (at_tmp 116 _) all_nil)) rfl)
                                      (lrC (LR_nilCheck (at_tmp 109 _) rfl)
                                      (lrC (LR_storeA (at_tmp 118 _) (at_tmp 117 _) (cells_one (one_is rfl)) (onC (one_is rfl) onN) sz30 rfl (ble_dyn (lnA (lnC ln0)) (by have := (and7 a4_1); omega)) (stA (and7 a4_1)))
                                      lrN)))))))))))
                                      (by kernel_rfl)
                                      (saC (sS (sT1 rfl) sB0 sF0) (saC (sS (sT1 rfl) (sB1 rfl) sF0) (saC (sS (sT1 rfl) (sB1 rfl) sF0) (saC (sS (sT1 rfl) sB0 sF0) (saC (sS (sA (sT1 rfl) (sA (sT1 rfl) sT0)) sB0 sF0) (saC (sS (sT1 rfl) (sB1 rfl) sF0) (saC (sS (sA (sT1 rfl) sT0) sB0 sF0) (saC (sS (sA (sT1 rfl) (sT1 rfl)) sB0 sF0) (saC (sS (sA (sT1 rfl) (sA (sT1 rfl) sT0)) sB0 sF0) (saC (sS (sT1 rfl) sB0 sF0) (saC (sS (sA (sT1 rfl) (sT1 rfl)) (sB1 rfl) sF0) saN))))))))))) ?_
                                    refine ⟨_, (imp_close (k := 3) (r := 1007) ((ar U64 8 (upd b3_0 ((a4_1 &&& (7#8)).toNat) y15) ++ [])) ([]) rfl (by first | rfl | simp) rfl rfl rfl rfl), ?_⟩
                                    refine blN ?_
                                    obtain rfl := Option.some.inj hr
                                    exact ⟨res0 rfl , (sub_keep (sub_drop (sub_drop (sub_drop sub_nil))))⟩
                                  · have hr := hr.trans (cond_f h)
                                    clear h
                                    refine AW_cut (σ := Bool) (fun v => ⟨[(2, .inl (is (U8 a2))), (3, .inr (.inl (3, 0))), (6, .inr (.inl (6, 0))), (9, .inr (.inl (9, 0))), (10, .inr (.inl (3, (a4_1 &&& (7#8)).toNat))), (11, .inl (is (U64 x2))), (12, .inl (is (U64 x3))), (49, .inl (is (U8 a4_0))), (119, .inl (is (Bl v)))], [(3, gc 90 (ar U64 8 b3_0 ++ []) ([]) (k1 Sv) 1 b3_1), (6, pb 23 [is (U8 a1_0), is (U8 a1_1)]), (9, pb 96 [is (U8 a4_0), is (U8 a4_1), is (U8 a4_2), is (U8 a4_3), is (U64 a4_4), is (Sv a4_5)])]⟩) (fun v => some r = F121_10 N a1_0 a1_1 a2 b3_0 b3_1 a4_0 a4_1 a4_2 a4_3 a4_4 a4_5 x2 x3 v) ?_ ?_
                                    · skip
                                      refine AW_region ?_
                                      refine AL_cons (LR_bin (at_tmp 49 _) (at_c (v' := U8 (7#8)) rfl) (eql_U8 a4_0 (7#8)) rfl) (sS (sA (sT1 rfl) sT0) sB0 sF0) ?_
                                      refine AL_cons (LR_assign (at_tmp 120 _) rfl) (sS (sT1 rfl) sB0 sF0) ?_
                                      refine AL_nil ?_
                                      exact thenN (cutLeaf (v := a4_0 == (7#8)) hr (weakB ((sT rfl (sT rfl (sT rfl (sT rfl (sT rfl (sT rfl (sT rfl (sT rfl (sT rfl sT0)))))))))) (sub_keep (sub_keep (sub_keep sub_nil))) rfl))
                                    · rintro x11 hr
                                      show AW Hfaa.prog _ _ _ ⟨[(2, .inl (is (U8 a2))), (3, .inr (.inl (3, 0))), (6, .inr (.inl (6, 0))), (9, .inr (.inl (9, 0))), (10, .inr (.inl (3, (a4_1 &&& (7#8)).toNat))), (11, .inl (is (U64 x2))), (12, .inl (is (U64 x3))), (49, .inl (is (U8 a4_0))), (119, .inl (is (Bl x11)))], [(3, gc 90 (ar U64 8 b3_0 ++ []) ([]) (k1 Sv) 1 b3_1), (6, pb 23 [is (U8 a1_0), is (U8 a1_1)]), (9, pb 96 [is (U8 a4_0), is (U8 a4_1), is (U8 a4_2), is (U8 a4_3), is (U64 a4_4), is (Sv a4_5)])]⟩
                                      have hr : some r = F121_10 N a1_0 a1_1 a2 b3_0 b3_1 a4_0 a4_1 a4_2 a4_3 a4_4 a4_5 x2 x3 x11 := hr
                                      refine AW_condT (b := x11) rfl (fun h => ?_) (fun h => ?_)
                                      · have hr := hr.trans (cond_t h)
                                        clear h
                                        refine AW_opn 3 1008 (fun sv => (ar U64 8 b3_0 ++ (is ( sv) :: []))) rfl rfl (fun _ => by first | rfl | simp) ?_
                                        intro sv8 hsv8
                                        obtain ⟨y19, hy19, hr⟩ := lt_some hr
                                        obtain ⟨y20, hy20, hr⟩ := lt_some hr
                                        obtain ⟨y21, hy21, hr⟩ := lt_some hr
                                        refine AW_post ?_
                                        refine AW_draw mixed
                                          (lrC (LR_move (at_tmp 10 _) rfl)
                                          (lrC (LR_loads (at_tmp 6 _) ag23 sz23 rfl rfl rfl)
                                          (lrC (LR_loads (at_tmp 6 _) ag23 sz23 rfl rfl rfl)
                                          (lrC (LR_move (at_tmp 11 _) rfl)
                                          (lrC (LR_call Hfaa.func222 rfl rfl (C222 a1_0 a1_1 x2 y19 hy19) (all_cons (at_tmp 123 _) (all_cons (at_tmp 124 _) all_nil)) rfl)
                                          (lrC (LR_loads (at_tmp 6 _) ag23 sz23 rfl rfl rfl)
                                          (lrC (LR_call Hfaa.func70 rfl rfl (C70 a1_0 a1_1 y20 hy20) (all_cons (at_tmp 126 _) all_nil) rfl)
                                          (lrC (LR_bin (at_tmp 125 _) (at_tmp 127 _) (andNot_U64 y19 y20) rfl)
                                          (lrC (LR_call Hfaa.func222 rfl rfl (C222 a1_0 a1_1 (y19 &&& ~~~y20) y21 hy21) (all_cons (at_tmp 122 _) (all_cons (at_tmp 128 _) all_nil)) rfl)
                                          (lrC (LR_nilCheck (at_tmp 121 _) rfl)
                                          (lrC (LR_storeA (at_tmp 130 _) (at_tmp 129 _) (cells_one (one_is rfl)) (onC (one_is rfl) onN) sz30 rfl (ble_dyn (lnA (lnC ln0)) (by have := (and7 a4_1); omega)) (stA (and7 a4_1)))
                                          lrN)))))))))))
                                          (by kernel_rfl)
                                          (saC (sS (sT1 rfl) sB0 sF0) (saC (sS (sT1 rfl) (sB1 rfl) sF0) (saC (sS (sT1 rfl) (sB1 rfl) sF0) (saC (sS (sT1 rfl) sB0 sF0) (saC (sS (sA (sT1 rfl) (sA (sT1 rfl) sT0)) sB0 sF0) (saC (sS (sT1 rfl) (sB1 rfl) sF0) (saC (sS (sA (sT1 rfl) sT0) sB0 sF0) (saC (sS (sA (sT1 rfl) (sT1 rfl)) sB0 sF0) (saC (sS (sA (sT1 rfl) (sA (sT1 rfl) sT0)) sB0 sF0) (saC (sS (sT1 rfl) sB0 sF0) (saC (sS (sA (sT1 rfl) (sT1 rfl)) (sB1 rfl) sF0) saN))))))))))) ?_
                                        refine ⟨_, (imp_close (k := 3) (r := 1008) ((ar U64 8 (upd b3_0 ((a4_1 &&& (7#8)).toNat) y21) ++ [])) ([]) rfl (by first | rfl | simp) rfl rfl rfl rfl), ?_⟩
                                        refine blN ?_
                                        obtain rfl := Option.some.inj hr
                                        exact ⟨res0 rfl , (sub_keep (sub_drop (sub_drop (sub_drop sub_nil))))⟩
                                      · have hr := hr.trans (cond_f h)
                                        clear h
                                        refine AW_cut (σ := Bool) (fun v => ⟨[(2, .inl (is (U8 a2))), (3, .inr (.inl (3, 0))), (6, .inr (.inl (6, 0))), (9, .inr (.inl (9, 0))), (10, .inr (.inl (3, (a4_1 &&& (7#8)).toNat))), (11, .inl (is (U64 x2))), (12, .inl (is (U64 x3))), (49, .inl (is (U8 a4_0))), (131, .inl (is (Bl v)))], [(3, gc 90 (ar U64 8 b3_0 ++ []) ([]) (k1 Sv) 1 b3_1), (6, pb 23 [is (U8 a1_0), is (U8 a1_1)]), (9, pb 96 [is (U8 a4_0), is (U8 a4_1), is (U8 a4_2), is (U8 a4_3), is (U64 a4_4), is (Sv a4_5)])]⟩) (fun v => some r = F121_11 N a1_0 a1_1 a2 b3_0 b3_1 a4_0 a4_1 a4_2 a4_3 a4_4 a4_5 x2 x3 v) ?_ ?_
                                        · skip
                                          refine AW_region ?_
                                          refine AL_cons (LR_bin (at_tmp 49 _) (at_c (v' := U8 (8#8)) rfl) (eql_U8 a4_0 (8#8)) rfl) (sS (sA (sT1 rfl) sT0) sB0 sF0) ?_
                                          refine AL_cons (LR_assign (at_tmp 132 _) rfl) (sS (sT1 rfl) sB0 sF0) ?_
                                          refine AL_nil ?_
                                          exact thenN (cutLeaf (v := a4_0 == (8#8)) hr (weakB ((sT rfl (sT rfl (sT rfl (sT rfl (sT rfl (sT rfl (sT rfl (sT rfl (sT rfl sT0)))))))))) (sub_keep (sub_keep (sub_keep sub_nil))) rfl))
                                        · rintro x12 hr
                                          show AW Hfaa.prog _ _ _ ⟨[(2, .inl (is (U8 a2))), (3, .inr (.inl (3, 0))), (6, .inr (.inl (6, 0))), (9, .inr (.inl (9, 0))), (10, .inr (.inl (3, (a4_1 &&& (7#8)).toNat))), (11, .inl (is (U64 x2))), (12, .inl (is (U64 x3))), (49, .inl (is (U8 a4_0))), (131, .inl (is (Bl x12)))], [(3, gc 90 (ar U64 8 b3_0 ++ []) ([]) (k1 Sv) 1 b3_1), (6, pb 23 [is (U8 a1_0), is (U8 a1_1)]), (9, pb 96 [is (U8 a4_0), is (U8 a4_1), is (U8 a4_2), is (U8 a4_3), is (U64 a4_4), is (Sv a4_5)])]⟩
                                          have hr : some r = F121_11 N a1_0 a1_1 a2 b3_0 b3_1 a4_0 a4_1 a4_2 a4_3 a4_4 a4_5 x2 x3 x12 := hr
                                          refine AW_condT (b := x12) rfl (fun h => ?_) (fun h => ?_)
                                          · have hr := hr.trans (cond_t h)
                                            clear h
                                            refine AW_opn 3 1009 (fun sv => (ar U64 8 b3_0 ++ (is ( sv) :: []))) rfl rfl (fun _ => by first | rfl | simp) ?_
                                            intro sv9 hsv9
                                            obtain ⟨y22, hy22, hr⟩ := bind_some hr
                                            obtain ⟨y23, hy23, hr⟩ := lt_some hr
                                            obtain ⟨hg1, hr⟩ := guard_some hr
                                            refine AW_post ?_
                                            refine AW_drawV 11 1009 mixed (fun sv10 => [(⟨[(133, .inr (.inl (3, 0)))], [], []⟩, ⟨[(145, .inr (.inl (3, 0)))], []⟩), (⟨[(145, .inr (.inl (3, 0)))], [], []⟩, ⟨[(146, .inr (.inl (3, 8)))], []⟩), (⟨[(146, .inr (.inl (3, 8))), (144, .inl (is ( sv10)))], [(3, pb 90 (ar U64 8 b3_0 ++ (is ( sv9) :: [])))], []⟩, ⟨[], [(3, pb 90 (ar U64 8 b3_0 ++ (is ( sv10) :: [])))]⟩)])
                                              (lrC (LR_move (at_tmp 3 _) rfl)
                                              (lrC (LR_move (at_tmp 3 _) rfl)
                                              (lrC (LR_nilCheck (at_tmp 134 _) rfl)
                                              (lrC (LR_fieldAddr (off := 0) (o := 8) (at_tmp 135 _) (fun b w => fa90_1 b 0 w) rfl)
                                              (lrC (LR_load (at_tmp 136 _) na57 (gP g0) rfl)
                                              (lrC (LR_loads (at_tmp 6 _) ag23 sz23 rfl rfl rfl)
                                              (lrC (LR_move (at_tmp 11 _) rfl)
                                              (lrC (LR_move (at_tmp 12 _) rfl)
                                              (lrC (LR_call Hfaa.func81 rfl rfl (C81 N a1_0 a1_1 x2 x3 y22 hy22) (all_cons (at_tmp 138 _) (all_cons (at_tmp 139 _) (all_cons (at_tmp 140 _) all_nil))) rfl)
                                              (lrC (LR_call Hfaa.func223 rfl rfl (C223 y22 y23 hy23) (all_cons (at_tmp 141 _) all_nil) rfl)
                                              (lrC (LR_bs1 Hfaa.underlying57 el9 (fun _ => rfl) (at_tmp 142 _) rfl)
                                              lrN)))))))))))
                                              rfl
                                              (app_opk (K := (k1 Sv)) (r := 1009) (z := b3_1) (u := y23) Hfaa.underlying57 eN9 k1_len (k1_cell fun _ => rfl) (at_tmp 137 _) (at_tmp 143 _) (oneAt_k1 rfl) (of_decide_eq_true hg1) rfl rfl)
                                              (fun sv10 hsv10 => (lrC (LR_nilCheck (at_tmp 133 _) rfl)
                                              (lrC (LR_fieldAddr (off := 0) (o := 8) (at_tmp 145 _) (fun b w => fa90_1 b 0 w) rfl)
                                              (lrC (LR_storeA (at_tmp 146 _) (at_tmp 144 _) (cells_one (one_is hsv10)) (onC (one_is hsv10) onN) sz57 rfl (bleLen (lnA (lnC ln0)) rfl) (stP st0))
                                              lrN))))
                                              (fun sv10 hsv10 => by kernel_rfl)
                                              (fun sv10 hsv10 => (saC (sS (sT1 rfl) sB0 sF0) (saC (sS (sT1 rfl) sB0 sF0) (saC (sS (sT1 rfl) sB0 sF0) (saC (sS (sT1 rfl) sB0 sF0) (saC (sS (sT1 rfl) (sB1 rfl) sF0) (saC (sS (sT1 rfl) (sB1 rfl) sF0) (saC (sS (sT1 rfl) sB0 sF0) (saC (sS (sT1 rfl) sB0 sF0) (saC (sS (sA (sT1 rfl) (sA (sT1 rfl) (sA (sT1 rfl) sT0))) sB0 sF0) (saC (sS (sA (sT1 rfl) sT0) sB0 sF0) (saC (sS (sT1 rfl) sB0 sF0) (saC (sS (sA (sT1 rfl) (sT1 rfl)) (sB1 rfl) sF0) (saC (sS (sT1 rfl) sB0 sF0) (saC (sS (sT1 rfl) sB0 sF0) (saC (sS (sA (sT1 rfl) (sT1 rfl)) (sB1 rfl) sF0) saN))))))))))))))))
                                              (by kernel_rfl) rfl (fun sv10 hsv10 => by kernel_rfl) ?_
                                            intro sv10 hsv10
                                            refine ⟨_, (imp_close (k := 3) (r := 1009) (ar U64 8 b3_0 ++ []) ([]) rfl (by first | rfl | simp) rfl rfl rfl rfl), ?_⟩
                                            refine blN ?_
                                            obtain rfl := Option.some.inj hr
                                            exact ⟨res0 rfl , (sub_keep (sub_drop (sub_drop (sub_drop sub_nil))))⟩
                                          · have hr := hr.trans (cond_f h)
                                            clear h
                                            refine AW_cut (σ := Bool) (fun v => ⟨[(2, .inl (is (U8 a2))), (3, .inr (.inl (3, 0))), (6, .inr (.inl (6, 0))), (9, .inr (.inl (9, 0))), (10, .inr (.inl (3, (a4_1 &&& (7#8)).toNat))), (11, .inl (is (U64 x2))), (49, .inl (is (U8 a4_0))), (147, .inl (is (Bl v)))], [(3, gc 90 (ar U64 8 b3_0 ++ []) ([]) (k1 Sv) 1 b3_1), (6, pb 23 [is (U8 a1_0), is (U8 a1_1)]), (9, pb 96 [is (U8 a4_0), is (U8 a4_1), is (U8 a4_2), is (U8 a4_3), is (U64 a4_4), is (Sv a4_5)])]⟩) (fun v => some r = F121_12 N a1_0 a1_1 a2 b3_0 b3_1 a4_0 a4_1 a4_2 a4_3 a4_4 a4_5 x2 v) ?_ ?_
                                            · skip
                                              refine AW_region ?_
                                              refine AL_cons (LR_bin (at_tmp 49 _) (at_c (v' := U8 (9#8)) rfl) (eql_U8 a4_0 (9#8)) rfl) (sS (sA (sT1 rfl) sT0) sB0 sF0) ?_
                                              refine AL_cons (LR_assign (at_tmp 148 _) rfl) (sS (sT1 rfl) sB0 sF0) ?_
                                              refine AL_nil ?_
                                              exact thenN (cutLeaf (v := a4_0 == (9#8)) hr (weakB ((sT rfl (sT rfl (sT rfl (sT rfl (sT rfl (sT rfl (sT rfl (sT rfl sT0))))))))) (sub_keep (sub_keep (sub_keep sub_nil))) rfl))
                                            · rintro x13 hr
                                              show AW Hfaa.prog _ _ _ ⟨[(2, .inl (is (U8 a2))), (3, .inr (.inl (3, 0))), (6, .inr (.inl (6, 0))), (9, .inr (.inl (9, 0))), (10, .inr (.inl (3, (a4_1 &&& (7#8)).toNat))), (11, .inl (is (U64 x2))), (49, .inl (is (U8 a4_0))), (147, .inl (is (Bl x13)))], [(3, gc 90 (ar U64 8 b3_0 ++ []) ([]) (k1 Sv) 1 b3_1), (6, pb 23 [is (U8 a1_0), is (U8 a1_1)]), (9, pb 96 [is (U8 a4_0), is (U8 a4_1), is (U8 a4_2), is (U8 a4_3), is (U64 a4_4), is (Sv a4_5)])]⟩
                                              have hr : some r = F121_12 N a1_0 a1_1 a2 b3_0 b3_1 a4_0 a4_1 a4_2 a4_3 a4_4 a4_5 x2 x13 := hr
                                              refine AW_condT (b := x13) rfl (fun h => ?_) (fun h => ?_)
                                              · have hr := hr.trans (cond_t h)
                                                clear h
                                                refine AW_region ?_
                                                refine AL_cons (LR_move (at_tmp 10 _) rfl) (sS (sT1 rfl) sB0 sF0) ?_
                                                refine AL_cons (LR_loads (at_tmp 6 _) ag23 sz23 rfl rfl rfl) (sS (sT1 rfl) (sB1 rfl) sF0) ?_
                                                refine AL_cons (LR_move (at_tmp 2 _) rfl) (sS (sT1 rfl) sB0 sF0) ?_
                                                refine AL_cons (LR_fieldAddr (off := 0) (o := 4) (at_tmp 9 _) (fun b w => fa96_4 b 0 w) rfl) (sS (sT1 rfl) sB0 sF0) ?_
                                                refine AL_cons (LR_load (at_tmp 152 _) na30 rfl rfl) (sS (sT1 rfl) (sB1 rfl) sF0) ?_
                                                refine AL_cons (LR_conv (vx := U64 a4_4) (at_tmp 153 _) (conv_I64 Hfaa.underlying30 Hfaa.underlying2 (a4_4.toNat : Int)) rfl) (sS (sT1 rfl) sB0 sF0) ?_
                                                obtain ⟨y24, hy24, hr⟩ := bind_some hr
                                                refine AL_cons (LR_call Hfaa.func75 rfl rfl (C75 N a1_0 a1_1 a2 (w64 (a4_4.toNat : Int)) y24 hy24) (all_cons (at_tmp 150 _) (all_cons (at_tmp 151 _) (all_cons (at_tmp 154 _) all_nil))) rfl) (sS (sA (sT1 rfl) (sA (sT1 rfl) (sA (sT1 rfl) sT0))) sB0 sF0) ?_
                                                refine AL_cons (LR_nilCheck (at_tmp 149 _) rfl) (sS (sT1 rfl) sB0 sF0) ?_
                                                refine AL_opn 3 1010 (fun sv => (ar U64 8 b3_0 ++ (is ( sv) :: []))) rfl rfl (fun _ => by first | rfl | simp) ?_
                                                intro sv11 hsv11
                                                refine AL_cons (LR_storeA (at_tmp 156 _) (at_tmp 155 _) (cells_one (one_is rfl)) (onC (one_is rfl) onN) sz30 rfl (ble_dyn (lnA (lnC ln0)) (by have := (and7 a4_1); omega)) (stA (and7 a4_1))) (sS (sA (sT1 rfl) (sT1 rfl)) (sB1 rfl) sF0) ?_
                                                refine AL_imp (imp_close (k := 3) (r := 1010) ((ar U64 8 (upd b3_0 ((a4_1 &&& (7#8)).toNat) y24) ++ [])) ([]) rfl (by first | rfl | simp) rfl rfl rfl rfl) ?_
                                                refine AL_nil ?_
                                                refine blN ?_
                                                obtain rfl := Option.some.inj hr
                                                exact ⟨res0 rfl , (sub_keep (sub_drop (sub_drop (sub_drop sub_nil))))⟩
                                              · have hr := hr.trans (cond_f h)
                                                clear h
                                                refine AW_cut (σ := Bool) (fun v => ⟨[(2, .inl (is (U8 a2))), (3, .inr (.inl (3, 0))), (6, .inr (.inl (6, 0))), (9, .inr (.inl (9, 0))), (10, .inr (.inl (3, (a4_1 &&& (7#8)).toNat))), (11, .inl (is (U64 x2))), (49, .inl (is (U8 a4_0))), (157, .inl (is (Bl v)))], [(3, gc 90 (ar U64 8 b3_0 ++ []) ([]) (k1 Sv) 1 b3_1), (6, pb 23 [is (U8 a1_0), is (U8 a1_1)]), (9, pb 96 [is (U8 a4_0), is (U8 a4_1), is (U8 a4_2), is (U8 a4_3), is (U64 a4_4), is (Sv a4_5)])]⟩) (fun v => some r = F121_13 N a1_0 a1_1 a2 b3_0 b3_1 a4_0 a4_1 a4_2 a4_3 a4_4 a4_5 x2 v) ?_ ?_
                                                · skip
                                                  refine AW_region ?_
                                                  refine AL_cons (LR_bin (at_tmp 49 _) (at_c (v' := U8 (10#8)) rfl) (eql_U8 a4_0 (10#8)) rfl) (sS (sA (sT1 rfl) sT0) sB0 sF0) ?_
                                                  refine AL_cons (LR_assign (at_tmp 158 _) rfl) (sS (sT1 rfl) sB0 sF0) ?_
                                                  refine AL_nil ?_
                                                  exact thenN (cutLeaf (v := a4_0 == (10#8)) hr (weakB ((sT rfl (sT rfl (sT rfl (sT rfl (sT rfl (sT rfl (sT rfl (sT rfl sT0))))))))) (sub_keep (sub_keep (sub_keep sub_nil))) rfl))
                                                · rintro x14 hr
                                                  show AW Hfaa.prog _ _ _ ⟨[(2, .inl (is (U8 a2))), (3, .inr (.inl (3, 0))), (6, .inr (.inl (6, 0))), (9, .inr (.inl (9, 0))), (10, .inr (.inl (3, (a4_1 &&& (7#8)).toNat))), (11, .inl (is (U64 x2))), (49, .inl (is (U8 a4_0))), (157, .inl (is (Bl x14)))], [(3, gc 90 (ar U64 8 b3_0 ++ []) ([]) (k1 Sv) 1 b3_1), (6, pb 23 [is (U8 a1_0), is (U8 a1_1)]), (9, pb 96 [is (U8 a4_0), is (U8 a4_1), is (U8 a4_2), is (U8 a4_3), is (U64 a4_4), is (Sv a4_5)])]⟩
                                                  have hr : some r = F121_13 N a1_0 a1_1 a2 b3_0 b3_1 a4_0 a4_1 a4_2 a4_3 a4_4 a4_5 x2 x14 := hr
                                                  refine AW_condT (b := x14) rfl (fun h => ?_) (fun h => ?_)
                                                  · have hr := hr.trans (cond_t h)
                                                    clear h
                                                    refine AW_region ?_
                                                    refine AL_cons (LR_move (at_tmp 10 _) rfl) (sS (sT1 rfl) sB0 sF0) ?_
                                                    refine AL_cons (LR_loads (at_tmp 6 _) ag23 sz23 rfl rfl rfl) (sS (sT1 rfl) (sB1 rfl) sF0) ?_
                                                    refine AL_cons (LR_move (at_tmp 2 _) rfl) (sS (sT1 rfl) sB0 sF0) ?_
                                                    refine AL_cons (LR_fieldAddr (off := 0) (o := 4) (at_tmp 9 _) (fun b w => fa96_4 b 0 w) rfl) (sS (sT1 rfl) sB0 sF0) ?_
                                                    refine AL_cons (LR_load (at_tmp 162 _) na30 rfl rfl) (sS (sT1 rfl) (sB1 rfl) sF0) ?_
                                                    obtain ⟨y25, hy25, hr⟩ := bind_some hr
                                                    refine AL_cons (LR_call Hfaa.func76 rfl rfl (C76 N a1_0 a1_1 a2 a4_4 y25 hy25) (all_cons (at_tmp 160 _) (all_cons (at_tmp 161 _) (all_cons (at_tmp 163 _) all_nil))) rfl) (sS (sA (sT1 rfl) (sA (sT1 rfl) (sA (sT1 rfl) sT0))) sB0 sF0) ?_
                                                    refine AL_cons (LR_nilCheck (at_tmp 159 _) rfl) (sS (sT1 rfl) sB0 sF0) ?_
                                                    refine AL_opn 3 1011 (fun sv => (ar U64 8 b3_0 ++ (is ( sv) :: []))) rfl rfl (fun _ => by first | rfl | simp) ?_
                                                    intro sv12 hsv12
                                                    refine AL_cons (LR_storeA (at_tmp 165 _) (at_tmp 164 _) (cells_one (one_is rfl)) (onC (one_is rfl) onN) sz30 rfl (ble_dyn (lnA (lnC ln0)) (by have := (and7 a4_1); omega)) (stA (and7 a4_1))) (sS (sA (sT1 rfl) (sT1 rfl)) (sB1 rfl) sF0) ?_
                                                    refine AL_imp (imp_close (k := 3) (r := 1011) ((ar U64 8 (upd b3_0 ((a4_1 &&& (7#8)).toNat) y25) ++ [])) ([]) rfl (by first | rfl | simp) rfl rfl rfl rfl) ?_
                                                    refine AL_nil ?_
                                                    refine blN ?_
                                                    obtain rfl := Option.some.inj hr
                                                    exact ⟨res0 rfl , (sub_keep (sub_drop (sub_drop (sub_drop sub_nil))))⟩
                                                  · have hr := hr.trans (cond_f h)
                                                    clear h
                                                    refine AW_cut (σ := Bool) (fun v => ⟨[(2, .inl (is (U8 a2))), (3, .inr (.inl (3, 0))), (6, .inr (.inl (6, 0))), (9, .inr (.inl (9, 0))), (10, .inr (.inl (3, (a4_1 &&& (7#8)).toNat))), (11, .inl (is (U64 x2))), (49, .inl (is (U8 a4_0))), (166, .inl (is (Bl v)))], [(3, gc 90 (ar U64 8 b3_0 ++ []) ([]) (k1 Sv) 1 b3_1), (6, pb 23 [is (U8 a1_0), is (U8 a1_1)]), (9, pb 96 [is (U8 a4_0), is (U8 a4_1), is (U8 a4_2), is (U8 a4_3), is (U64 a4_4), is (Sv a4_5)])]⟩) (fun v => some r = F121_14 N a1_0 a1_1 a2 b3_0 b3_1 a4_0 a4_1 a4_2 a4_3 a4_4 a4_5 x2 v) ?_ ?_
                                                    · skip
                                                      refine AW_region ?_
                                                      refine AL_cons (LR_bin (at_tmp 49 _) (at_c (v' := U8 (11#8)) rfl) (eql_U8 a4_0 (11#8)) rfl) (sS (sA (sT1 rfl) sT0) sB0 sF0) ?_
                                                      refine AL_cons (LR_assign (at_tmp 167 _) rfl) (sS (sT1 rfl) sB0 sF0) ?_
                                                      refine AL_nil ?_
                                                      exact thenN (cutLeaf (v := a4_0 == (11#8)) hr (weakB ((sT rfl (sT rfl (sT rfl (sT rfl (sT rfl (sT rfl (sT rfl (sT rfl sT0))))))))) (sub_keep (sub_keep (sub_keep sub_nil))) rfl))
                                                    · rintro x15 hr
                                                      show AW Hfaa.prog _ _ _ ⟨[(2, .inl (is (U8 a2))), (3, .inr (.inl (3, 0))), (6, .inr (.inl (6, 0))), (9, .inr (.inl (9, 0))), (10, .inr (.inl (3, (a4_1 &&& (7#8)).toNat))), (11, .inl (is (U64 x2))), (49, .inl (is (U8 a4_0))), (166, .inl (is (Bl x15)))], [(3, gc 90 (ar U64 8 b3_0 ++ []) ([]) (k1 Sv) 1 b3_1), (6, pb 23 [is (U8 a1_0), is (U8 a1_1)]), (9, pb 96 [is (U8 a4_0), is (U8 a4_1), is (U8 a4_2), is (U8 a4_3), is (U64 a4_4), is (Sv a4_5)])]⟩
                                                      have hr : some r = F121_14 N a1_0 a1_1 a2 b3_0 b3_1 a4_0 a4_1 a4_2 a4_3 a4_4 a4_5 x2 x15 := hr
                                                      refine AW_condT (b := x15) rfl (fun h => ?_) (fun h => ?_)
                                                      · have hr := hr.trans (cond_t h)
                                                        clear h
                                                        refine AW_opn 3 1012 (fun sv => (ar U64 8 b3_0 ++ (is ( sv) :: []))) rfl rfl (fun _ => by first | rfl | simp) ?_
                                                        intro sv13 hsv13
                                                        obtain ⟨y26, hy26, hr⟩ := bind_some hr
                                                        obtain ⟨hg2, hr⟩ := guard_some hr
                                                        refine AW_post ?_
                                                        refine AW_drawV 9 1012 mixed (fun sv14 => [(⟨[(168, .inr (.inl (3, 0)))], [], []⟩, ⟨[(178, .inr (.inl (3, 0)))], []⟩), (⟨[(178, .inr (.inl (3, 0)))], [], []⟩, ⟨[(179, .inr (.inl (3, 8)))], []⟩), (⟨[(179, .inr (.inl (3, 8))), (177, .inl (is ( sv14)))], [(3, pb 90 (ar U64 8 b3_0 ++ (is ( sv13) :: [])))], []⟩, ⟨[], [(3, pb 90 (ar U64 8 b3_0 ++ (is ( sv14) :: [])))]⟩)])
                                                          (lrC (LR_move (at_tmp 3 _) rfl)
                                                          (lrC (LR_move (at_tmp 3 _) rfl)
                                                          (lrC (LR_nilCheck (at_tmp 169 _) rfl)
                                                          (lrC (LR_fieldAddr (off := 0) (o := 8) (at_tmp 170 _) (fun b w => fa90_1 b 0 w) rfl)
                                                          (lrC (LR_load (at_tmp 171 _) na57 (gP g0) rfl)
                                                          (lrC (LR_loads (at_tmp 6 _) ag23 sz23 rfl rfl rfl)
                                                          (lrC (LR_move (at_tmp 11 _) rfl)
                                                          (lrC (LR_call Hfaa.func224 rfl rfl (C224 N a1_0 a1_1 x2 y26 hy26) (all_cons (at_tmp 173 _) (all_cons (at_tmp 174 _) all_nil)) rfl)
                                                          (lrC (LR_bs1 Hfaa.underlying57 el9 (fun _ => rfl) (at_tmp 175 _) rfl)
                                                          lrN)))))))))
                                                          rfl
                                                          (app_opk (K := (k1 Sv)) (r := 1012) (z := b3_1) (u := y26) Hfaa.underlying57 eN9 k1_len (k1_cell fun _ => rfl) (at_tmp 172 _) (at_tmp 176 _) (oneAt_k1 rfl) (of_decide_eq_true hg2) rfl rfl)
                                                          (fun sv14 hsv14 => (lrC (LR_nilCheck (at_tmp 168 _) rfl)
                                                          (lrC (LR_fieldAddr (off := 0) (o := 8) (at_tmp 178 _) (fun b w => fa90_1 b 0 w) rfl)
                                                          (lrC (LR_storeA (at_tmp 179 _) (at_tmp 177 _) (cells_one (one_is hsv14)) (onC (one_is hsv14) onN) sz57 rfl (bleLen (lnA (lnC ln0)) rfl) (stP st0))
                                                          lrN))))
                                                          (fun sv14 hsv14 => by kernel_rfl)
                                                          (fun sv14 hsv14 => (saC (sS (sT1 rfl) sB0 sF0) (saC (sS (sT1 rfl) sB0 sF0) (saC (sS (sT1 rfl) sB0 sF0) (saC (sS (sT1 rfl) sB0 sF0) (saC (sS (sT1 rfl) (sB1 rfl) sF0) (saC (sS (sT1 rfl) (sB1 rfl) sF0) (saC (sS (sT1 rfl) sB0 sF0) (saC (sS (sA (sT1 rfl) (sA (sT1 rfl) sT0)) sB0 sF0) (saC (sS (sT1 rfl) sB0 sF0) (saC (sS (sA (sT1 rfl) (sT1 rfl)) (sB1 rfl) sF0) (saC (sS (sT1 rfl) sB0 sF0) (saC (sS (sT1 rfl) sB0 sF0) (saC (sS (sA (sT1 rfl) (sT1 rfl)) (sB1 rfl) sF0) saN))))))))))))))
                                                          (by kernel_rfl) rfl (fun sv14 hsv14 => by kernel_rfl) ?_
                                                        intro sv14 hsv14
                                                        refine ⟨_, (imp_close (k := 3) (r := 1012) (ar U64 8 b3_0 ++ []) ([]) rfl (by first | rfl | simp) rfl rfl rfl rfl), ?_⟩
                                                        refine blN ?_
                                                        obtain rfl := Option.some.inj hr
                                                        exact ⟨res0 rfl , (sub_keep (sub_drop (sub_drop (sub_drop sub_nil))))⟩
                                                      · have hr := hr.trans (cond_f h)
                                                        clear h
                                                        refine AW_cut (σ := Bool) (fun v => ⟨[(2, .inl (is (U8 a2))), (3, .inr (.inl (3, 0))), (6, .inr (.inl (6, 0))), (9, .inr (.inl (9, 0))), (10, .inr (.inl (3, (a4_1 &&& (7#8)).toNat))), (11, .inl (is (U64 x2))), (49, .inl (is (U8 a4_0))), (180, .inl (is (Bl v)))], [(3, gc 90 (ar U64 8 b3_0 ++ []) ([]) (k1 Sv) 1 b3_1), (6, pb 23 [is (U8 a1_0), is (U8 a1_1)]), (9, pb 96 [is (U8 a4_0), is (U8 a4_1), is (U8 a4_2), is (U8 a4_3), is (U64 a4_4), is (Sv a4_5)])]⟩) (fun v => some r = F121_15 N a1_0 a1_1 a2 b3_0 b3_1 a4_0 a4_1 a4_2 a4_3 a4_4 a4_5 x2 v) ?_ ?_
                                                        · skip
                                                          refine AW_region ?_
                                                          refine AL_cons (LR_bin (at_tmp 49 _) (at_c (v' := U8 (12#8)) rfl) (eql_U8 a4_0 (12#8)) rfl) (sS (sA (sT1 rfl) sT0) sB0 sF0) ?_
                                                          refine AL_cons (LR_assign (at_tmp 181 _) rfl) (sS (sT1 rfl) sB0 sF0) ?_
                                                          refine AL_nil ?_
                                                          exact thenN (cutLeaf (v := a4_0 == (12#8)) hr (weakB ((sT rfl (sT rfl (sT rfl (sT rfl (sT rfl (sT rfl (sT rfl (sT rfl sT0))))))))) (sub_keep (sub_keep (sub_keep sub_nil))) rfl))
                                                        · rintro x16 hr
                                                          show AW Hfaa.prog _ _ _ ⟨[(2, .inl (is (U8 a2))), (3, .inr (.inl (3, 0))), (6, .inr (.inl (6, 0))), (9, .inr (.inl (9, 0))), (10, .inr (.inl (3, (a4_1 &&& (7#8)).toNat))), (11, .inl (is (U64 x2))), (49, .inl (is (U8 a4_0))), (180, .inl (is (Bl x16)))], [(3, gc 90 (ar U64 8 b3_0 ++ []) ([]) (k1 Sv) 1 b3_1), (6, pb 23 [is (U8 a1_0), is (U8 a1_1)]), (9, pb 96 [is (U8 a4_0), is (U8 a4_1), is (U8 a4_2), is (U8 a4_3), is (U64 a4_4), is (Sv a4_5)])]⟩
                                                          have hr : some r = F121_15 N a1_0 a1_1 a2 b3_0 b3_1 a4_0 a4_1 a4_2 a4_3 a4_4 a4_5 x2 x16 := hr
                                                          refine AW_condT (b := x16) rfl (fun h => ?_) (fun h => ?_)
                                                          · have hr := hr.trans (cond_t h)
                                                            clear h
                                                            refine AW_cut (σ := BitVec 8 × BitVec 8) (fun v => ⟨[(2, .inl (is (U8 a2))), (6, .inr (.inl (6, 0))), (10, .inr (.inl (3, (a4_1 &&& (7#8)).toNat))), (11, .inl (is (U64 x2))), (13, .inr (.inl (13, 0)))], [(3, gc 90 (ar U64 8 b3_0 ++ []) ([]) (k1 Sv) 1 b3_1), (6, pb 23 [is (U8 a1_0), is (U8 a1_1)]), (13, pb 23 [is (U8 v.1), is (U8 v.2)])]⟩) (fun v => some r = F121_16 N a1_0 a1_1 a2 b3_0 b3_1 a4_1 x2 v.1 v.2) ?_ ?_
                                                            · skip
                                                              refine AW_region ?_
                                                              refine AL_cons (LR_fieldAddr (off := 0) (o := 4) (at_tmp 9 _) (fun b w => fa96_4 b 0 w) rfl) (sS (sT1 rfl) sB0 sF0) ?_
                                                              refine AL_cons (LR_load (at_tmp 182 _) na30 rfl rfl) (sS (sT1 rfl) (sB1 rfl) sF0) ?_
                                                              refine AL_cons (LR_conv (vx := U64 a4_4) (at_tmp 183 _) (conv_U8 Hfaa.underlying30 Hfaa.underlying5 (a4_4.toNat : Int)) rfl) (sS (sT1 rfl) sB0 sF0) ?_
                                                              refine AL_cons (LR_fieldAddr (off := 0) (o := 4) (at_tmp 9 _) (fun b w => fa96_4 b 0 w) rfl) (sS (sT1 rfl) sB0 sF0) ?_
                                                              refine AL_cons (LR_load (at_tmp 185 _) na30 rfl rfl) (sS (sT1 rfl) (sB1 rfl) sF0) ?_
                                                              refine AL_cons (LR_bin (at_tmp 186 _) (at_c (v' := U64 (8#64)) rfl) (shr_U64 a4_4 ((8#64).toNat : Int) (Int.natCast_nonneg _)) rfl) (sS (sA (sT1 rfl) sT0) sB0 sF0) ?_
                                                              refine AL_cons (LR_conv (vx := U64 (a4_4 >>> 8)) (at_tmp 187 _) (conv_U8 Hfaa.underlying30 Hfaa.underlying5 ((a4_4 >>> 8).toNat : Int)) rfl) (sS (sT1 rfl) sB0 sF0) ?_
                                                              refine AL_cons (bl23 (parts_cons (i := 0) (off := 0) (at_tmp 184 _) (cells_one (one_is rfl)) rfl rfl (parts_cons (i := 1) (off := 1) (at_tmp 188 _) (cells_one (one_is rfl)) rfl rfl parts_nil)) rfl rfl) (sS (sA (sT1 rfl) (sA (sT1 rfl) sT0)) sB0 sF0) ?_
                                                              refine AL_cons (zl23 rfl) (sS sT0 sB0 (sF1 rfl)) ?_
                                                              refine AL_cons (LR_store (at_tmp 13 _) (at_tmp 189 _) (cells_agg _) (onC (one_is rfl) (onC (one_is rfl) onN)) sz23 rfl rfl) (sS (sA (sT1 rfl) (sT1 rfl)) (sB1 rfl) sF0) ?_
                                                              refine AL_nil ?_
                                                              exact thenN (cutLeaf (v := (BitVec.ofInt 8 (a4_4.toNat : Int), BitVec.ofInt 8 ((a4_4 >>> 8).toNat : Int))) hr (weakB ((sT rfl (sT rfl (sT rfl (sT rfl (sT rfl sT0)))))) (sub_keep (sub_keep (sub_drop (sub_keep sub_nil)))) rfl))
                                                            · rintro ⟨x17, x18⟩ hr
                                                              show AW Hfaa.prog _ _ _ ⟨[(2, .inl (is (U8 a2))), (6, .inr (.inl (6, 0))), (10, .inr (.inl (3, (a4_1 &&& (7#8)).toNat))), (11, .inl (is (U64 x2))), (13, .inr (.inl (13, 0)))], [(3, gc 90 (ar U64 8 b3_0 ++ []) ([]) (k1 Sv) 1 b3_1), (6, pb 23 [is (U8 a1_0), is (U8 a1_1)]), (13, pb 23 [is (U8 x17), is (U8 x18)])]⟩
                                                              have hr : some r = F121_16 N a1_0 a1_1 a2 b3_0 b3_1 a4_1 x2 x17 x18 := hr
                                                              refine AW_cut (σ := Bool) (fun v => ⟨[(2, .inl (is (U8 a2))), (6, .inr (.inl (6, 0))), (10, .inr (.inl (3, (a4_1 &&& (7#8)).toNat))), (11, .inl (is (U64 x2))), (13, .inr (.inl (13, 0))), (191, .inl (is (Bl v)))], [(3, gc 90 (ar U64 8 b3_0 ++ []) ([]) (k1 Sv) 1 b3_1), (6, pb 23 [is (U8 a1_0), is (U8 a1_1)]), (13, pb 23 [is (U8 x17), is (U8 x18)])]⟩) (fun v => some r = F121_17 N a1_0 a1_1 a2 b3_0 b3_1 a4_1 x2 x17 x18 v) ?_ ?_
                                                              · skip
                                                                refine AW_region ?_
                                                                refine AL_cons (LR_loads (at_tmp 13 _) ag23 sz23 rfl rfl rfl) (sS (sT1 rfl) (sB1 rfl) sF0) ?_
                                                                obtain ⟨y32, hy32, hr⟩ := lt_some hr
                                                                refine AL_cons (LR_call Hfaa.func40 rfl rfl (C40 x17 x18 y32 hy32) (all_cons (at_tmp 190 _) all_nil) rfl) (sS (sA (sT1 rfl) sT0) sB0 sF0) ?_
                                                                refine AL_nil ?_
                                                                exact thenN (cutLeaf (v := y32) hr (weakB ((sT rfl (sT rfl (sT rfl (sT rfl (sT rfl (sT rfl sT0))))))) (sub_keep (sub_keep (sub_keep sub_nil))) rfl))
                                                              · rintro x19 hr
                                                                show AW Hfaa.prog _ _ _ ⟨[(2, .inl (is (U8 a2))), (6, .inr (.inl (6, 0))), (10, .inr (.inl (3, (a4_1 &&& (7#8)).toNat))), (11, .inl (is (U64 x2))), (13, .inr (.inl (13, 0))), (191, .inl (is (Bl x19)))], [(3, gc 90 (ar U64 8 b3_0 ++ []) ([]) (k1 Sv) 1 b3_1), (6, pb 23 [is (U8 a1_0), is (U8 a1_1)]), (13, pb 23 [is (U8 x17), is (U8 x18)])]⟩
                                                                have hr : some r = F121_17 N a1_0 a1_1 a2 b3_0 b3_1 a4_1 x2 x17 x18 x19 := hr
                                                                refine AW_condT (b := x19) rfl (fun h => ?_) (fun h => ?_)
                                                                · have hr := hr.trans (cond_t h)
                                                                  clear h
                                                                  refine AW_opn 3 1013 (fun sv => (ar U64 8 b3_0 ++ (is ( sv) :: []))) rfl rfl (fun _ => by first | rfl | simp) ?_
                                                                  intro sv15 hsv15
                                                                  obtain ⟨y30, hy30, hr⟩ := bind_some hr
                                                                  obtain ⟨y31, hy31, hr⟩ := bind_some hr
                                                                  refine AW_post ?_
                                                                  refine AW_draw mixed
                                                                    (lrC (LR_move (at_tmp 10 _) rfl)
                                                                    (lrC (LR_loads (at_tmp 13 _) ag23 sz23 rfl rfl rfl)
                                                                    (lrC (LR_loads (at_tmp 6 _) ag23 sz23 rfl rfl rfl)
                                                                    (lrC (LR_move (at_tmp 2 _) rfl)
                                                                    (lrC (LR_loads (at_tmp 6 _) ag23 sz23 rfl rfl rfl)
                                                                    (lrC (LR_loads (at_tmp 13 _) ag23 sz23 rfl rfl rfl)
                                                                    (lrC (LR_move (at_tmp 2 _) rfl)
                                                                    (lrC (LR_move (at_tmp 11 _) rfl)
                                                                    (lrC (LR_call Hfaa.func48 rfl rfl (C48 N a1_0 a1_1 x17 x18 a2 x2 y30 hy30) (all_cons (at_tmp 196 _) (all_cons (at_tmp 197 _) (all_cons (at_tmp 198 _) (all_cons (at_tmp 199 _) all_nil)))) rfl)
                                                                    (lrC (LR_call Hfaa.func48 rfl rfl (C48 N x17 x18 a1_0 a1_1 a2 y30 y31 hy31) (all_cons (at_tmp 193 _) (all_cons (at_tmp 194 _) (all_cons (at_tmp 195 _) (all_cons (at_tmp 200 _) all_nil)))) rfl)
                                                                    (lrC (LR_nilCheck (at_tmp 192 _) rfl)
                                                                    (lrC (LR_storeA (at_tmp 202 _) (at_tmp 201 _) (cells_one (one_is rfl)) (onC (one_is rfl) onN) sz30 rfl (ble_dyn (lnA (lnC ln0)) (by have := (and7 a4_1); omega)) (stA (and7 a4_1)))
                                                                    lrN))))))))))))
                                                                    (by kernel_rfl)
                                                                    (saC (sS (sT1 rfl) sB0 sF0) (saC (sS (sT1 rfl) (sB1 rfl) sF0) (saC (sS (sT1 rfl) (sB1 rfl) sF0) (saC (sS (sT1 rfl) sB0 sF0) (saC (sS (sT1 rfl) (sB1 rfl) sF0) (saC (sS (sT1 rfl) (sB1 rfl) sF0) (saC (sS (sT1 rfl) sB0 sF0) (saC (sS (sT1 rfl) sB0 sF0) (saC (sS (sA (sT1 rfl) (sA (sT1 rfl) (sA (sT1 rfl) (sA (sT1 rfl) sT0)))) sB0 sF0) (saC (sS (sA (sT1 rfl) (sA (sT1 rfl) (sA (sT1 rfl) (sA (sT1 rfl) sT0)))) sB0 sF0) (saC (sS (sT1 rfl) sB0 sF0) (saC (sS (sA (sT1 rfl) (sT1 rfl)) (sB1 rfl) sF0) saN)))))))))))) ?_
                                                                  refine ⟨_, (imp_close (k := 3) (r := 1013) ((ar U64 8 (upd b3_0 ((a4_1 &&& (7#8)).toNat) y31) ++ [])) ([]) rfl (by first | rfl | simp) rfl rfl rfl rfl), ?_⟩
                                                                  refine blN ?_
                                                                  obtain rfl := Option.some.inj hr
                                                                  exact ⟨res0 rfl , (sub_keep (sub_drop (sub_drop (sub_drop sub_nil))))⟩
                                                                · have hr := hr.trans (cond_f h)
                                                                  clear h
                                                                  refine AW_skip ?_
                                                                  refine blN ?_
                                                                  obtain rfl := Option.some.inj hr
                                                                  exact ⟨res0 rfl , (sub_keep (sub_drop (sub_drop sub_nil)))⟩
                                                          · have hr := hr.trans (cond_f h)
                                                            clear h
                                                            refine AW_cut (σ := Bool) (fun v => ⟨[(2, .inl (is (U8 a2))), (3, .inr (.inl (3, 0))), (6, .inr (.inl (6, 0))), (9, .inr (.inl (9, 0))), (11, .inl (is (U64 x2))), (49, .inl (is (U8 a4_0))), (203, .inl (is (Bl v)))], [(3, gc 90 (ar U64 8 b3_0 ++ []) ([]) (k1 Sv) 1 b3_1), (6, pb 23 [is (U8 a1_0), is (U8 a1_1)]), (9, pb 96 [is (U8 a4_0), is (U8 a4_1), is (U8 a4_2), is (U8 a4_3), is (U64 a4_4), is (Sv a4_5)])]⟩) (fun v => some r = F121_18 N a1_0 a1_1 a2 b3_0 b3_1 a4_0 a4_1 a4_2 a4_3 a4_4 a4_5 x2 v) ?_ ?_
                                                            · skip
                                                              refine AW_region ?_
                                                              refine AL_cons (LR_bin (at_tmp 49 _) (at_c (v' := U8 (13#8)) rfl) (eql_U8 a4_0 (13#8)) rfl) (sS (sA (sT1 rfl) sT0) sB0 sF0) ?_
                                                              refine AL_cons (LR_assign (at_tmp 204 _) rfl) (sS (sT1 rfl) sB0 sF0) ?_
                                                              refine AL_nil ?_
                                                              exact thenN (cutLeaf (v := a4_0 == (13#8)) hr (weakB ((sT rfl (sT rfl (sT rfl (sT rfl (sT rfl (sT rfl (sT rfl sT0)))))))) (sub_keep (sub_keep (sub_keep sub_nil))) rfl))
                                                            · rintro x20 hr
                                                              show AW Hfaa.prog _ _ _ ⟨[(2, .inl (is (U8 a2))), (3, .inr (.inl (3, 0))), (6, .inr (.inl (6, 0))), (9, .inr (.inl (9, 0))), (11, .inl (is (U64 x2))), (49, .inl (is (U8 a4_0))), (203, .inl (is (Bl x20)))], [(3, gc 90 (ar U64 8 b3_0 ++ []) ([]) (k1 Sv) 1 b3_1), (6, pb 23 [is (U8 a1_0), is (U8 a1_1)]), (9, pb 96 [is (U8 a4_0), is (U8 a4_1), is (U8 a4_2), is (U8 a4_3), is (U64 a4_4), is (Sv a4_5)])]⟩
                                                              have hr : some r = F121_18 N a1_0 a1_1 a2 b3_0 b3_1 a4_0 a4_1 a4_2 a4_3 a4_4 a4_5 x2 x20 := hr
                                                              refine AW_condT (b := x20) rfl (fun h => ?_) (fun h => ?_)
                                                              · have hr := hr.trans (cond_t h)
                                                                clear h
                                                                refine AW_region ?_
                                                                refine AL_cons (LR_loads (at_tmp 6 _) ag23 sz23 rfl rfl rfl) (sS (sT1 rfl) (sB1 rfl) sF0) ?_
                                                                refine AL_cons (LR_move (at_tmp 2 _) rfl) (sS (sT1 rfl) sB0 sF0) ?_
                                                                refine AL_cons (LR_move (at_tmp 3 _) rfl) (sS (sT1 rfl) sB0 sF0) ?_
                                                                refine AL_cons (LR_loads (at_tmp 9 _) ag96 sz96 rfl rfl rfl) (sS (sT1 rfl) (sB1 rfl) sF0) ?_
                                                                obtain ⟨y33, hy33, hr⟩ := bind_some hr
                                                                refine AL_cons (LR_callB [(2, 3)] [(3, 2)] Hfaa.func225 rfl rfl (C225 N a1_0 a1_1 a2 b3_0 b3_1 a4_0 a4_1 a4_2 a4_3 a4_4 a4_5 y33 hy33) (aTC (at_tmp 205 _) (aTC (at_tmp 206 _) (aTC (at_tmp 207 _) (aTC (at_tmp 208 _) aT0)))) rfl rfl rfl rfl rfl) (sS (sA (sT1 rfl) (sA (sT1 rfl) (sA (sT1 rfl) (sA (sT1 rfl) sT0)))) (sB1 rfl) sF0) ?_
                                                                refine AL_nil ?_
                                                                refine blN ?_
                                                                obtain rfl := Option.some.inj hr
                                                                exact ⟨res0 rfl , (sub_keep (sub_drop (sub_drop sub_nil)))⟩
                                                              · have hr := hr.trans (cond_f h)
                                                                clear h
                                                                refine AW_cut (σ := Bool) (fun v => ⟨[(2, .inl (is (U8 a2))), (3, .inr (.inl (3, 0))), (6, .inr (.inl (6, 0))), (9, .inr (.inl (9, 0))), (11, .inl (is (U64 x2))), (210, .inl (is (Bl v)))], [(3, gc 90 (ar U64 8 b3_0 ++ []) ([]) (k1 Sv) 1 b3_1), (6, pb 23 [is (U8 a1_0), is (U8 a1_1)]), (9, pb 96 [is (U8 a4_0), is (U8 a4_1), is (U8 a4_2), is (U8 a4_3), is (U64 a4_4), is (Sv a4_5)])]⟩) (fun v => some r = F121_19 N a1_0 a1_1 a2 b3_0 b3_1 a4_0 a4_1 a4_2 a4_3 a4_4 a4_5 x2 v) ?_ ?_
                                                                · skip
                                                                  refine AW_region ?_
                                                                  refine AL_cons (LR_bin (at_tmp 49 _) (at_c (v' := U8 (14#8)) rfl) (eql_U8 a4_0 (14#8)) rfl) (sS (sA (sT1 rfl) sT0) sB0 sF0) ?_
                                                                  refine AL_cons (LR_assign (at_tmp 211 _) rfl) (sS (sT1 rfl) sB0 sF0) ?_
                                                                  refine AL_nil ?_
                                                                  exact thenN (cutLeaf (v := a4_0 == (14#8)) hr (weakB ((sT rfl (sT rfl (sT rfl (sT rfl (sT rfl (sT rfl sT0))))))) (sub_keep (sub_keep (sub_keep sub_nil))) rfl))
                                                                · rintro x21 hr
                                                                  show AW Hfaa.prog _ _ _ ⟨[(2, .inl (is (U8 a2))), (3, .inr (.inl (3, 0))), (6, .inr (.inl (6, 0))), (9, .inr (.inl (9, 0))), (11, .inl (is (U64 x2))), (210, .inl (is (Bl x21)))], [(3, gc 90 (ar U64 8 b3_0 ++ []) ([]) (k1 Sv) 1 b3_1), (6, pb 23 [is (U8 a1_0), is (U8 a1_1)]), (9, pb 96 [is (U8 a4_0), is (U8 a4_1), is (U8 a4_2), is (U8 a4_3), is (U64 a4_4), is (Sv a4_5)])]⟩
                                                                  have hr : some r = F121_19 N a1_0 a1_1 a2 b3_0 b3_1 a4_0 a4_1 a4_2 a4_3 a4_4 a4_5 x2 x21 := hr
                                                                  refine AW_condT (b := x21) rfl (fun h => ?_) (fun h => ?_)
                                                                  · have hr := hr.trans (cond_t h)
                                                                    clear h
                                                                    refine AW_opn 3 1014 (fun sv => (ar U64 8 b3_0 ++ (is ( sv) :: []))) rfl rfl (fun _ => by first | rfl | simp) ?_
                                                                    intro sv16 hsv16
                                                                    obtain ⟨y34, hy34, hr⟩ := bind_some hr
                                                                    obtain ⟨hg3, hr⟩ := guard_some hr
                                                                    refine AW_post ?_
                                                                    refine AW_drawV 9 1014 mixed (fun sv17 => [(⟨[(212, .inr (.inl (3, 0)))], [], []⟩, ⟨[(222, .inr (.inl (3, 0)))], []⟩), (⟨[(222, .inr (.inl (3, 0)))], [], []⟩, ⟨[(223, .inr (.inl (3, 8)))], []⟩), (⟨[(223, .inr (.inl (3, 8))), (221, .inl (is ( sv17)))], [(3, pb 90 (ar U64 8 b3_0 ++ (is ( sv16) :: [])))], []⟩, ⟨[], [(3, pb 90 (ar U64 8 b3_0 ++ (is ( sv17) :: [])))]⟩)])
                                                                      (lrC (LR_move (at_tmp 3 _) rfl)
                                                                      (lrC (LR_move (at_tmp 3 _) rfl)
                                                                      (lrC (LR_nilCheck (at_tmp 213 _) rfl)
                                                                      (lrC (LR_fieldAddr (off := 0) (o := 8) (at_tmp 214 _) (fun b w => fa90_1 b 0 w) rfl)
                                                                      (lrC (LR_load (at_tmp 215 _) na57 (gP g0) rfl)
                                                                      (lrC (LR_loads (at_tmp 6 _) ag23 sz23 rfl rfl rfl)
                                                                      (lrC (LR_move (at_tmp 11 _) rfl)
                                                                      (lrC (LR_call Hfaa.func226 rfl rfl (C226 N a1_0 a1_1 x2 y34 hy34) (all_cons (at_tmp 217 _) (all_cons (at_tmp 218 _) all_nil)) rfl)
                                                                      (lrC (LR_bs1 Hfaa.underlying57 el9 (fun _ => rfl) (at_tmp 219 _) rfl)
                                                                      lrN)))))))))
                                                                      rfl
                                                                      (app_opk (K := (k1 Sv)) (r := 1014) (z := b3_1) (u := y34) Hfaa.underlying57 eN9 k1_len (k1_cell fun _ => rfl) (at_tmp 216 _) (at_tmp 220 _) (oneAt_k1 rfl) (of_decide_eq_true hg3) rfl rfl)
                                                                      (fun sv17 hsv17 => (lrC (LR_nilCheck (at_tmp 212 _) rfl)
                                                                      (lrC (LR_fieldAddr (off := 0) (o := 8) (at_tmp 222 _) (fun b w => fa90_1 b 0 w) rfl)
                                                                      (lrC (LR_storeA (at_tmp 223 _) (at_tmp 221 _) (cells_one (one_is hsv17)) (onC (one_is hsv17) onN) sz57 rfl (bleLen (lnA (lnC ln0)) rfl) (stP st0))
                                                                      lrN))))
                                                                      (fun sv17 hsv17 => by kernel_rfl)
                                                                      (fun sv17 hsv17 => (saC (sS (sT1 rfl) sB0 sF0) (saC (sS (sT1 rfl) sB0 sF0) (saC (sS (sT1 rfl) sB0 sF0) (saC (sS (sT1 rfl) sB0 sF0) (saC (sS (sT1 rfl) (sB1 rfl) sF0) (saC (sS (sT1 rfl) (sB1 rfl) sF0) (saC (sS (sT1 rfl) sB0 sF0) (saC (sS (sA (sT1 rfl) (sA (sT1 rfl) sT0)) sB0 sF0) (saC (sS (sT1 rfl) sB0 sF0) (saC (sS (sA (sT1 rfl) (sT1 rfl)) (sB1 rfl) sF0) (saC (sS (sT1 rfl) sB0 sF0) (saC (sS (sT1 rfl) sB0 sF0) (saC (sS (sA (sT1 rfl) (sT1 rfl)) (sB1 rfl) sF0) saN))))))))))))))
                                                                      (by kernel_rfl) rfl (fun sv17 hsv17 => by kernel_rfl) ?_
                                                                    intro sv17 hsv17
                                                                    refine ⟨_, (imp_close (k := 3) (r := 1014) (ar U64 8 b3_0 ++ []) ([]) rfl (by first | rfl | simp) rfl rfl rfl rfl), ?_⟩
                                                                    refine blN ?_
                                                                    obtain rfl := Option.some.inj hr
                                                                    exact ⟨res0 rfl , (sub_keep (sub_drop (sub_drop (sub_drop sub_nil))))⟩
                                                                  · have hr := hr.trans (cond_f h)
                                                                    clear h
                                                                    refine AW_region ?_
                                                                    refine AL_cons (LR_loads (at_tmp 6 _) ag23 sz23 rfl rfl rfl) (sS (sT1 rfl) (sB1 rfl) sF0) ?_
                                                                    refine AL_cons (LR_move (at_tmp 2 _) rfl) (sS (sT1 rfl) sB0 sF0) ?_
                                                                    refine AL_cons (LR_move (at_tmp 3 _) rfl) (sS (sT1 rfl) sB0 sF0) ?_
                                                                    refine AL_cons (LR_loads (at_tmp 9 _) ag96 sz96 rfl rfl rfl) (sS (sT1 rfl) (sB1 rfl) sF0) ?_
                                                                    obtain ⟨y35, hy35, hr⟩ := bind_some hr
                                                                    refine AL_cons (LR_callB [(2, 3)] [(3, 2)] Hfaa.func227 rfl rfl (C227 N a1_0 a1_1 a2 b3_0 b3_1 a4_0 a4_1 a4_2 a4_3 a4_4 a4_5 y35 hy35) (aTC (at_tmp 50 _) (aTC (at_tmp 51 _) (aTC (at_tmp 52 _) (aTC (at_tmp 53 _) aT0)))) rfl rfl rfl rfl rfl) (sS (sA (sT1 rfl) (sA (sT1 rfl) (sA (sT1 rfl) (sA (sT1 rfl) sT0)))) (sB1 rfl) sF0) ?_
                                                                    refine AL_nil ?_
                                                                    refine blN ?_
                                                                    obtain rfl := Option.some.inj hr
                                                                    exact ⟨res0 rfl , (sub_keep (sub_drop (sub_drop sub_nil)))⟩
end Go.Proofs.YfwaawGreat
