import Derived.Test.YfwaawGreatG34
import Derived.Test.YfwaawGreatG58
import Derived.Test.YfwaawGreatG59
import Derived.Test.YfwaawGreatG60
import Derived.Test.YfwaawGreatG61
import Derived.Test.YfwaawGreatG65
namespace Go.Proofs.YfwaawGreat
open Go.Aw
set_option linter.unusedVariables false
set_option maxRecDepth 100000
set_option maxHeartbeats 1000000
/-- calc/na.Step -/
def F123_12 (N : Nat) (a0 : Tab) (a1_0 : BitVec 8) (a1_1 : BitVec 8) (a2 : BitVec 8) (b3_0 : Nat → BitVec 64) (b3_1 : NS (List UInt8)) (a4_0 : BitVec 8) (a4_1 : BitVec 8) (a4_2 : BitVec 8) (a4_3 : BitVec 8) (a4_4 : BitVec 64) (a4_5 : List UInt8) (x2 : BitVec 64) (x13 : Bool) : Option ((Nat → BitVec 64) × NS (List UInt8)) := bif x13 then (F242 N a0 a1_0 a1_1 x2).bind fun y16 => bif decide (b3_1.2.1 < 4294967296) then some (b3_0, app b3_1 y16) else none else (F243 N a0 a1_0 a1_1 a2 b3_0 b3_1 a4_0 a4_1 a4_2 a4_3 a4_4 a4_5).bind fun y17 => some (y17.1, y17.2)
def F123_11 (N : Nat) (a0 : Tab) (a1_0 : BitVec 8) (a1_1 : BitVec 8) (a2 : BitVec 8) (b3_0 : Nat → BitVec 64) (b3_1 : NS (List UInt8)) (a4_0 : BitVec 8) (a4_1 : BitVec 8) (a4_2 : BitVec 8) (a4_3 : BitVec 8) (a4_4 : BitVec 64) (a4_5 : List UInt8) (x2 : BitVec 64) (x12 : Bool) : Option ((Nat → BitVec 64) × NS (List UInt8)) := bif x12 then (F241 N a0 a1_0 a1_1 a2 b3_0 b3_1 a4_0 a4_1 a4_2 a4_3 a4_4 a4_5).bind fun y15 => some (y15.1, y15.2) else F123_12 N a0 a1_0 a1_1 a2 b3_0 b3_1 a4_0 a4_1 a4_2 a4_3 a4_4 a4_5 x2 (a4_0 == (14#8))
def F123_10 (N : Nat) (a0 : Tab) (a1_0 : BitVec 8) (a1_1 : BitVec 8) (a2 : BitVec 8) (b3_0 : Nat → BitVec 64) (b3_1 : NS (List UInt8)) (a4_0 : BitVec 8) (a4_1 : BitVec 8) (a4_2 : BitVec 8) (a4_3 : BitVec 8) (a4_4 : BitVec 64) (a4_5 : List UInt8) (x2 : BitVec 64) (x11 : Bool) : Option ((Nat → BitVec 64) × NS (List UInt8)) := bif x11 then (F240 N a1_0 a1_1 (BitVec.ofInt 8 (a4_4.toNat : Int)) (BitVec.ofInt 8 ((a4_4 >>> 8).toNat : Int)) a2 (b3_0 ((a4_1 &&& (7#8)).toNat)) x2).bind fun y14 => some ((upd b3_0 ((a4_1 &&& (7#8)).toNat) y14, b3_1)) else F123_11 N a0 a1_0 a1_1 a2 b3_0 b3_1 a4_0 a4_1 a4_2 a4_3 a4_4 a4_5 x2 (a4_0 == (13#8))
def F123_9 (N : Nat) (a0 : Tab) (a1_0 : BitVec 8) (a1_1 : BitVec 8) (a2 : BitVec 8) (b3_0 : Nat → BitVec 64) (b3_1 : NS (List UInt8)) (a4_0 : BitVec 8) (a4_1 : BitVec 8) (a4_2 : BitVec 8) (a4_3 : BitVec 8) (a4_4 : BitVec 64) (a4_5 : List UInt8) (x2 : BitVec 64) (x4 : Bool) (x10 : Bool) : Option ((Nat → BitVec 64) × NS (List UInt8)) := bif x10 then (F239 N x4 x2).bind fun y13 => bif decide (b3_1.2.1 < 4294967296) then some (b3_0, app b3_1 y13) else none else F123_10 N a0 a1_0 a1_1 a2 b3_0 b3_1 a4_0 a4_1 a4_2 a4_3 a4_4 a4_5 x2 (a4_0 == (12#8))
def F123_8 (N : Nat) (a0 : Tab) (a1_0 : BitVec 8) (a1_1 : BitVec 8) (a2 : BitVec 8) (b3_0 : Nat → BitVec 64) (b3_1 : NS (List UInt8)) (a4_0 : BitVec 8) (a4_1 : BitVec 8) (a4_2 : BitVec 8) (a4_3 : BitVec 8) (a4_4 : BitVec 64) (a4_5 : List UInt8) (x2 : BitVec 64) (x4 : Bool) (x9 : Bool) : Option ((Nat → BitVec 64) × NS (List UInt8)) := bif x9 then (F238 N x4 (a4_0 == (9#8)) a4_4).bind fun y12 => some ((upd b3_0 ((a4_1 &&& (7#8)).toNat) y12, b3_1)) else F123_9 N a0 a1_0 a1_1 a2 b3_0 b3_1 a4_0 a4_1 a4_2 a4_3 a4_4 a4_5 x2 x4 (a4_0 == (11#8))
def F123_13 (N : Nat) (a0 : Tab) (a1_0 : BitVec 8) (a1_1 : BitVec 8) (a2 : BitVec 8) (b3_0 : Nat → BitVec 64) (b3_1 : NS (List UInt8)) (a4_0 : BitVec 8) (a4_1 : BitVec 8) (a4_2 : BitVec 8) (a4_3 : BitVec 8) (a4_4 : BitVec 64) (a4_5 : List UInt8) (x2 : BitVec 64) (x4 : Bool) (x14 : Bool) : Option ((Nat → BitVec 64) × NS (List UInt8)) := bif x14 then F123_8 N a0 a1_0 a1_1 a2 b3_0 b3_1 a4_0 a4_1 a4_2 a4_3 a4_4 a4_5 x2 x4 x14 else F123_8 N a0 a1_0 a1_1 a2 b3_0 b3_1 a4_0 a4_1 a4_2 a4_3 a4_4 a4_5 x2 x4 (a4_0 == (10#8))
def F123_7 (N : Nat) (a0 : Tab) (a1_0 : BitVec 8) (a1_1 : BitVec 8) (a2 : BitVec 8) (b3_0 : Nat → BitVec 64) (b3_1 : NS (List UInt8)) (a4_0 : BitVec 8) (a4_1 : BitVec 8) (a4_2 : BitVec 8) (a4_3 : BitVec 8) (a4_4 : BitVec 64) (a4_5 : List UInt8) (x2 : BitVec 64) (x3 : BitVec 64) (x4 : Bool) (x8 : Bool) : Option ((Nat → BitVec 64) × NS (List UInt8)) := bif x8 then lt (F237 x4 x2 x3) fun y11 => bif decide (b3_1.2.1 < 4294967296) then some (b3_0, app b3_1 y11) else none else F123_13 N a0 a1_0 a1_1 a2 b3_0 b3_1 a4_0 a4_1 a4_2 a4_3 a4_4 a4_5 x2 x4 (a4_0 == (9#8))
def F123_6 (N : Nat) (a0 : Tab) (a1_0 : BitVec 8) (a1_1 : BitVec 8) (a2 : BitVec 8) (b3_0 : Nat → BitVec 64) (b3_1 : NS (List UInt8)) (a4_0 : BitVec 8) (a4_1 : BitVec 8) (a4_2 : BitVec 8) (a4_3 : BitVec 8) (a4_4 : BitVec 64) (a4_5 : List UInt8) (x2 : BitVec 64) (x3 : BitVec 64) (x4 : Bool) (x7 : Bool) : Option ((Nat → BitVec 64) × NS (List UInt8)) := bif x7 then lt (F234 a1_0 a1_1 x2) fun y9 => (F236 N x4 a4_0 y9).bind fun y10 => some ((upd b3_0 ((a4_1 &&& (7#8)).toNat) y10, b3_1)) else F123_7 N a0 a1_0 a1_1 a2 b3_0 b3_1 a4_0 a4_1 a4_2 a4_3 a4_4 a4_5 x2 x3 x4 (a4_0 == (8#8))
def F123_15 (N : Nat) (a0 : Tab) (a1_0 : BitVec 8) (a1_1 : BitVec 8) (a2 : BitVec 8) (b3_0 : Nat → BitVec 64) (b3_1 : NS (List UInt8)) (a4_0 : BitVec 8) (a4_1 : BitVec 8) (a4_2 : BitVec 8) (a4_3 : BitVec 8) (a4_4 : BitVec 64) (a4_5 : List UInt8) (x2 : BitVec 64) (x3 : BitVec 64) (x4 : Bool) (x16 : Bool) : Option ((Nat → BitVec 64) × NS (List UInt8)) := bif x16 then F123_6 N a0 a1_0 a1_1 a2 b3_0 b3_1 a4_0 a4_1 a4_2 a4_3 a4_4 a4_5 x2 x3 x4 x16 else F123_6 N a0 a1_0 a1_1 a2 b3_0 b3_1 a4_0 a4_1 a4_2 a4_3 a4_4 a4_5 x2 x3 x4 (a4_0 == (7#8))
def F123_14 (N : Nat) (a0 : Tab) (a1_0 : BitVec 8) (a1_1 : BitVec 8) (a2 : BitVec 8) (b3_0 : Nat → BitVec 64) (b3_1 : NS (List UInt8)) (a4_0 : BitVec 8) (a4_1 : BitVec 8) (a4_2 : BitVec 8) (a4_3 : BitVec 8) (a4_4 : BitVec 64) (a4_5 : List UInt8) (x2 : BitVec 64) (x3 : BitVec 64) (x4 : Bool) (x15 : Bool) : Option ((Nat → BitVec 64) × NS (List UInt8)) := bif x15 then F123_6 N a0 a1_0 a1_1 a2 b3_0 b3_1 a4_0 a4_1 a4_2 a4_3 a4_4 a4_5 x2 x3 x4 x15 else F123_15 N a0 a1_0 a1_1 a2 b3_0 b3_1 a4_0 a4_1 a4_2 a4_3 a4_4 a4_5 x2 x3 x4 (a4_0 == (6#8))
def F123_5 (N : Nat) (a0 : Tab) (a1_0 : BitVec 8) (a1_1 : BitVec 8) (a2 : BitVec 8) (b3_0 : Nat → BitVec 64) (b3_1 : NS (List UInt8)) (a4_0 : BitVec 8) (a4_1 : BitVec 8) (a4_2 : BitVec 8) (a4_3 : BitVec 8) (a4_4 : BitVec 64) (a4_5 : List UInt8) (x2 : BitVec 64) (x3 : BitVec 64) (x4 : Bool) (x6 : Bool) : Option ((Nat → BitVec 64) × NS (List UInt8)) := bif x6 then (F235 N x4 (a4_0 - (1#8)) x2 x3).bind fun y6 => some ((upd b3_0 ((a4_1 &&& (7#8)).toNat) y6, b3_1)) else F123_14 N a0 a1_0 a1_1 a2 b3_0 b3_1 a4_0 a4_1 a4_2 a4_3 a4_4 a4_5 x2 x3 x4 (a4_0 == (5#8))
def F123_18 (N : Nat) (a0 : Tab) (a1_0 : BitVec 8) (a1_1 : BitVec 8) (a2 : BitVec 8) (b3_0 : Nat → BitVec 64) (b3_1 : NS (List UInt8)) (a4_0 : BitVec 8) (a4_1 : BitVec 8) (a4_2 : BitVec 8) (a4_3 : BitVec 8) (a4_4 : BitVec 64) (a4_5 : List UInt8) (x2 : BitVec 64) (x3 : BitVec 64) (x4 : Bool) (x19 : Bool) : Option ((Nat → BitVec 64) × NS (List UInt8)) := bif x19 then F123_5 N a0 a1_0 a1_1 a2 b3_0 b3_1 a4_0 a4_1 a4_2 a4_3 a4_4 a4_5 x2 x3 x4 x19 else F123_5 N a0 a1_0 a1_1 a2 b3_0 b3_1 a4_0 a4_1 a4_2 a4_3 a4_4 a4_5 x2 x3 x4 (a4_0 == (4#8))
def F123_17 (N : Nat) (a0 : Tab) (a1_0 : BitVec 8) (a1_1 : BitVec 8) (a2 : BitVec 8) (b3_0 : Nat → BitVec 64) (b3_1 : NS (List UInt8)) (a4_0 : BitVec 8) (a4_1 : BitVec 8) (a4_2 : BitVec 8) (a4_3 : BitVec 8) (a4_4 : BitVec 64) (a4_5 : List UInt8) (x2 : BitVec 64) (x3 : BitVec 64) (x4 : Bool) (x18 : Bool) : Option ((Nat → BitVec 64) × NS (List UInt8)) := bif x18 then F123_5 N a0 a1_0 a1_1 a2 b3_0 b3_1 a4_0 a4_1 a4_2 a4_3 a4_4 a4_5 x2 x3 x4 x18 else F123_18 N a0 a1_0 a1_1 a2 b3_0 b3_1 a4_0 a4_1 a4_2 a4_3 a4_4 a4_5 x2 x3 x4 (a4_0 == (3#8))
def F123_16 (N : Nat) (a0 : Tab) (a1_0 : BitVec 8) (a1_1 : BitVec 8) (a2 : BitVec 8) (b3_0 : Nat → BitVec 64) (b3_1 : NS (List UInt8)) (a4_0 : BitVec 8) (a4_1 : BitVec 8) (a4_2 : BitVec 8) (a4_3 : BitVec 8) (a4_4 : BitVec 64) (a4_5 : List UInt8) (x2 : BitVec 64) (x3 : BitVec 64) (x4 : Bool) (x17 : Bool) : Option ((Nat → BitVec 64) × NS (List UInt8)) := bif x17 then F123_5 N a0 a1_0 a1_1 a2 b3_0 b3_1 a4_0 a4_1 a4_2 a4_3 a4_4 a4_5 x2 x3 x4 x17 else F123_17 N a0 a1_0 a1_1 a2 b3_0 b3_1 a4_0 a4_1 a4_2 a4_3 a4_4 a4_5 x2 x3 x4 (a4_0 == (2#8))
def F123_4 (N : Nat) (a0 : Tab) (a1_0 : BitVec 8) (a1_1 : BitVec 8) (a2 : BitVec 8) (b3_0 : Nat → BitVec 64) (b3_1 : NS (List UInt8)) (a4_0 : BitVec 8) (a4_1 : BitVec 8) (a4_2 : BitVec 8) (a4_3 : BitVec 8) (a4_4 : BitVec 64) (a4_5 : List UInt8) (x2 : BitVec 64) (x3 : BitVec 64) (x4 : Bool) (x5 : Bool) : Option ((Nat → BitVec 64) × NS (List UInt8)) := bif x5 then lt (F234 a1_0 a1_1 a4_4) fun y5 => some ((upd b3_0 ((a4_1 &&& (7#8)).toNat) y5, b3_1)) else F123_16 N a0 a1_0 a1_1 a2 b3_0 b3_1 a4_0 a4_1 a4_2 a4_3 a4_4 a4_5 x2 x3 x4 (a4_0 == (1#8))
def F123_3 (N : Nat) (a0 : Tab) (a1_0 : BitVec 8) (a1_1 : BitVec 8) (a2 : BitVec 8) (b3_0 : Nat → BitVec 64) (b3_1 : NS (List UInt8)) (a4_0 : BitVec 8) (a4_1 : BitVec 8) (a4_2 : BitVec 8) (a4_3 : BitVec 8) (a4_4 : BitVec 64) (a4_5 : List UInt8) (x2 : BitVec 64) (x3 : BitVec 64) (x4 : Bool) : Option ((Nat → BitVec 64) × NS (List UInt8)) := F123_4 N a0 a1_0 a1_1 a2 b3_0 b3_1 a4_0 a4_1 a4_2 a4_3 a4_4 a4_5 x2 x3 x4 (a4_0 == (0#8))
def F123_2 (N : Nat) (a0 : Tab) (a1_0 : BitVec 8) (a1_1 : BitVec 8) (a2 : BitVec 8) (b3_0 : Nat → BitVec 64) (b3_1 : NS (List UInt8)) (a4_0 : BitVec 8) (a4_1 : BitVec 8) (a4_2 : BitVec 8) (a4_3 : BitVec 8) (a4_4 : BitVec 64) (a4_5 : List UInt8) (x2 : BitVec 64) (x3 : BitVec 64) : Option ((Nat → BitVec 64) × NS (List UInt8)) := lt (F13) fun y18 => F123_3 N a0 a1_0 a1_1 a2 b3_0 b3_1 a4_0 a4_1 a4_2 a4_3 a4_4 a4_5 x2 x3 ((a1_0 == y18.1) && (a1_1 == y18.2))
def F123_1 (N : Nat) (a0 : Tab) (a1_0 : BitVec 8) (a1_1 : BitVec 8) (a2 : BitVec 8) (b3_0 : Nat → BitVec 64) (b3_1 : NS (List UInt8)) (a4_0 : BitVec 8) (a4_1 : BitVec 8) (a4_2 : BitVec 8) (a4_3 : BitVec 8) (a4_4 : BitVec 64) (a4_5 : List UInt8) (x1 : Bool) : Option ((Nat → BitVec 64) × NS (List UInt8)) := bif x1 then some (b3_0, b3_1) else F123_2 N a0 a1_0 a1_1 a2 b3_0 b3_1 a4_0 a4_1 a4_2 a4_3 a4_4 a4_5 (b3_0 ((a4_2 &&& (7#8)).toNat)) (b3_0 ((a4_3 &&& (7#8)).toNat))
def F123 (N : Nat) (a0 : Tab) (a1_0 : BitVec 8) (a1_1 : BitVec 8) (a2 : BitVec 8) (b3_0 : Nat → BitVec 64) (b3_1 : NS (List UInt8)) (a4_0 : BitVec 8) (a4_1 : BitVec 8) (a4_2 : BitVec 8) (a4_3 : BitVec 8) (a4_4 : BitVec 64) (a4_5 : List UInt8) : Option ((Nat → BitVec 64) × NS (List UInt8)) := bif !((a1_0 == F14.1) && (a1_1 == F14.2)) then bif !((a1_0 == F13.1) && (a1_1 == F13.2)) then F123_1 N a0 a1_0 a1_1 a2 b3_0 b3_1 a4_0 a4_1 a4_2 a4_3 a4_4 a4_5 true else bif a2 != (0#8) then F123_1 N a0 a1_0 a1_1 a2 b3_0 b3_1 a4_0 a4_1 a4_2 a4_3 a4_4 a4_5 (decide (a2.toNat ≤ (4#8).toNat)) else F123_1 N a0 a1_0 a1_1 a2 b3_0 b3_1 a4_0 a4_1 a4_2 a4_3 a4_4 a4_5 false else bif a2 != (0#8) then F123_1 N a0 a1_0 a1_1 a2 b3_0 b3_1 a4_0 a4_1 a4_2 a4_3 a4_4 a4_5 (decide (a2.toNat ≤ (4#8).toNat)) else F123_1 N a0 a1_0 a1_1 a2 b3_0 b3_1 a4_0 a4_1 a4_2 a4_3 a4_4 a4_5 false
theorem C123 (N : Nat) (a0 : Tab) (a1_0 : BitVec 8) (a1_1 : BitVec 8) (a2 : BitVec 8) (b3_0 : Nat → BitVec 64) (b3_1 : NS (List UInt8)) (a4_0 : BitVec 8) (a4_1 : BitVec 8) (a4_2 : BitVec 8) (a4_3 : BitVec 8) (a4_4 : BitVec 64) (a4_5 : List UInt8) (r : (Nat → BitVec 64) × NS (List UInt8)) (hr : some r = F123 N a0 a1_0 a1_1 a2 b3_0 b3_1 a4_0 a4_1 a4_2 a4_3 a4_4 a4_5) : FnB Hfaa.prog 123 [.inl (tabp a0), .inl (agg [is (U8 a1_0), is (U8 a1_1)]), .inl (is (U8 a2)), .inr (.inl (3, 0)), .inl (agg [is (U8 a4_0), is (U8 a4_1), is (U8 a4_2), is (U8 a4_3), is (U64 a4_4), is (Sv a4_5)])] [(3, gc 90 (ar U64 8 b3_0 ++ []) ([]) (k1 Sv) 1 b3_1)] (tup []) [(3, gc 90 (ar U64 8 r.1 ++ []) ([]) (k1 Sv) 1 r.2)] := by
  refine fnB_intro Hfaa.func123 rfl rfl rfl rfl rfl ⟨hf_gc _ _ _ _ _ _, trivial⟩ ?_
  intro bn0 w0 H0
  refine AW_seq1 ?_
  refine AW_region ?_
  refine AL_cons (LR_box (at_tmp 1 _) (cells_agg _) rfl) (sS (sT1 rfl) sB0 (sF1 rfl)) ?_
  refine AL_cons (LR_box (at_tmp 4 _) (cells_agg _) rfl) (sS (sT1 rfl) sB0 (sF1 rfl)) ?_
  refine AL_nil ?_
  refine thenN ?_
  refine AW_seq1 ?_
  refine AW_cut (σ := Bool) (fun v => ⟨[(0, .inl (tabp a0)), (2, .inl (is (U8 a2))), (3, .inr (.inl (3, 0))), (6, .inr (.inl (6, 0))), (9, .inr (.inl (9, 0))), (37, .inl (is (Bl v)))], [(3, gc 90 (ar U64 8 b3_0 ++ []) ([]) (k1 Sv) 1 b3_1), (6, pb 23 [is (U8 a1_0), is (U8 a1_1)]), (9, pb 96 [is (U8 a4_0), is (U8 a4_1), is (U8 a4_2), is (U8 a4_3), is (U64 a4_4), is (Sv a4_5)])]⟩) (fun v => some r = F123_1 N a0 a1_0 a1_1 a2 b3_0 b3_1 a4_0 a4_1 a4_2 a4_3 a4_4 a4_5 v) ?_ ?_
  · skip
    rcases bool_em (!((a1_0 == F14.1) && (a1_1 == F14.2))) with hb13 | hb13
    · have hr := hr.trans (cond_f hb13)
      rcases bool_em (a2 != (0#8)) with hb14 | hb14
      · have hr := hr.trans (cond_f hb14)
        refine AW_draw mixed
          (lrC (LR_move (at_tmp 0 _) rfl)
          (lrC (LR_binA (at_tmp 14 _) (at_c (v' := .pointer none) rfl) (eqTabNil Hfaa.underlying27 a0) rfl)
          (lrC (LR_move (at_tmp 15 _) rfl)
          (lrC (LR_on rfl rfl rfl (LR_move (at_tmp 3 _) rfl))
          (lrC (LR_on rfl rfl rfl (LR_eqlPtr (at_tmp 17 _) Hfaa.underlying98 rfl))
          (lrC (LR_pick (b := false) (at_tmp 16 _) (at_c (v' := Bl true) rfl) (at_tmp 18 _) rfl)
          (lrC (LR_move (at_tmp 19 _) rfl)
          (lrC (LR_on rfl rfl rfl (LR_loads (at_tmp 6 _) ag23 sz23 rfl rfl rfl))
          (lrC (LR_on rfl rfl rfl (LR_call Hfaa.func14 rfl rfl (C14 _ rfl) all_nil rfl))
          (lrC (LR_on rfl rfl rfl (LR_asB (LR_binA (at_tmp 21 _) (at_tmp 22 _) (neqA23 a1_0 a1_1 F14.1 F14.2) rfl) hb13))
          (lrC (LR_on rfl rfl rfl (LR_move (at_tmp 23 _) rfl))
          (lrC (LR_off (b := false) rfl rfl rfl rfl)
          (lrC (LR_off (b := false) rfl rfl rfl rfl)
          (lrC (LR_off (b := false) rfl rfl rfl rfl)
          (lrC (LR_on rfl rfl rfl (LR_pick (b := false) (at_tmp 24 _) (at_tmp 27 _) (at_c (v' := Bl false) rfl) rfl))
          (lrC (LR_pick (b := false) (at_tmp 20 _) (at_c (v' := Bl true) rfl) (at_tmp 28 _) rfl)
          (lrC (LR_move (at_tmp 29 _) rfl)
          (lrC (LR_on rfl rfl rfl (LR_move (at_tmp 2 _) rfl))
          (lrC (LR_on rfl rfl rfl (LR_asB (LR_bin (at_tmp 31 _) (at_c (v' := U8 (0#8)) rfl) (neq_U8 a2 (0#8)) rfl) hb14))
          (lrC (LR_on rfl rfl rfl (LR_move (at_tmp 32 _) rfl))
          (lrC (LR_off (b := false) rfl rfl rfl rfl)
          (lrC (LR_off (b := false) rfl rfl rfl rfl)
          (lrC (LR_on rfl rfl rfl (LR_pick (b := false) (at_tmp 33 _) (at_tmp 35 _) (at_c (v' := Bl false) rfl) rfl))
          (lrC (LR_pick (b := false) (at_tmp 30 _) (at_c (v' := Bl true) rfl) (at_tmp 36 _) rfl)
          lrN))))))))))))))))))))))))
          (by kernel_rfl)
          (saC (sS (sT1 rfl) sB0 sF0) (saC (sS (sA (sT1 rfl) sT0) sB0 sF0) (saC (sS (sT1 rfl) sB0 sF0) (saC (sS (sT rfl (sT1 rfl)) sB0 sF0) (saC (sS (sT rfl (sT1 rfl)) sB0 sF0) (saC (sS (sA (sT1 rfl) (sA sT0 (sT1 rfl))) sB0 sF0) (saC (sS (sT1 rfl) sB0 sF0) (saC (sS (sT rfl (sT1 rfl)) (sB1 rfl) sF0) (saC (sS (sT rfl sT0) sB0 sF0) (saC (sS (sT rfl (sA (sT1 rfl) (sT1 rfl))) sB0 sF0) (saC (sS (sT rfl (sT1 rfl)) sB0 sF0) (saC (sS (sT1 rfl) sB0 sF0) (saC (sS (sT1 rfl) sB0 sF0) (saC (sS (sT1 rfl) sB0 sF0) (saC (sS (sT rfl (sA (sT1 rfl) (sA (sT1 rfl) sT0))) sB0 sF0) (saC (sS (sA (sT1 rfl) (sA sT0 (sT1 rfl))) sB0 sF0) (saC (sS (sT1 rfl) sB0 sF0) (saC (sS (sT rfl (sT1 rfl)) sB0 sF0) (saC (sS (sT rfl (sA (sT1 rfl) sT0)) sB0 sF0) (saC (sS (sT rfl (sT1 rfl)) sB0 sF0) (saC (sS (sT1 rfl) sB0 sF0) (saC (sS (sT1 rfl) sB0 sF0) (saC (sS (sT rfl (sA (sT1 rfl) (sA (sT1 rfl) sT0))) sB0 sF0) (saC (sS (sA (sT1 rfl) (sA sT0 (sT1 rfl))) sB0 sF0) saN)))))))))))))))))))))))) ?_
        exact thenN (cutLeaf (v := false) hr (weakB ((sT rfl (sT rfl (sT rfl (sT rfl (sT rfl (sT rfl sT0))))))) (sub_keep (sub_keep (sub_keep sub_nil))) rfl))
      · have hr := hr.trans (cond_t hb14)
        refine AW_draw mixed
          (lrC (LR_move (at_tmp 0 _) rfl)
          (lrC (LR_binA (at_tmp 14 _) (at_c (v' := .pointer none) rfl) (eqTabNil Hfaa.underlying27 a0) rfl)
          (lrC (LR_move (at_tmp 15 _) rfl)
          (lrC (LR_on rfl rfl rfl (LR_move (at_tmp 3 _) rfl))
          (lrC (LR_on rfl rfl rfl (LR_eqlPtr (at_tmp 17 _) Hfaa.underlying98 rfl))
          (lrC (LR_pick (b := false) (at_tmp 16 _) (at_c (v' := Bl true) rfl) (at_tmp 18 _) rfl)
          (lrC (LR_move (at_tmp 19 _) rfl)
          (lrC (LR_on rfl rfl rfl (LR_loads (at_tmp 6 _) ag23 sz23 rfl rfl rfl))
          (lrC (LR_on rfl rfl rfl (LR_call Hfaa.func14 rfl rfl (C14 _ rfl) all_nil rfl))
          (lrC (LR_on rfl rfl rfl (LR_asB (LR_binA (at_tmp 21 _) (at_tmp 22 _) (neqA23 a1_0 a1_1 F14.1 F14.2) rfl) hb13))
          (lrC (LR_on rfl rfl rfl (LR_move (at_tmp 23 _) rfl))
          (lrC (LR_off (b := false) rfl rfl rfl rfl)
          (lrC (LR_off (b := false) rfl rfl rfl rfl)
          (lrC (LR_off (b := false) rfl rfl rfl rfl)
          (lrC (LR_on rfl rfl rfl (LR_pick (b := false) (at_tmp 24 _) (at_tmp 27 _) (at_c (v' := Bl false) rfl) rfl))
          (lrC (LR_pick (b := false) (at_tmp 20 _) (at_c (v' := Bl true) rfl) (at_tmp 28 _) rfl)
          (lrC (LR_move (at_tmp 29 _) rfl)
          (lrC (LR_on rfl rfl rfl (LR_move (at_tmp 2 _) rfl))
          (lrC (LR_on rfl rfl rfl (LR_asB (LR_bin (at_tmp 31 _) (at_c (v' := U8 (0#8)) rfl) (neq_U8 a2 (0#8)) rfl) hb14))
          (lrC (LR_on rfl rfl rfl (LR_move (at_tmp 32 _) rfl))
          (lrC (LR_on rfl rfl rfl (LR_move (at_tmp 2 _) rfl))
          (lrC (LR_on rfl rfl rfl (LR_bin (at_tmp 34 _) (at_c (v' := U8 (4#8)) rfl) (leq_U8 a2 (4#8)) rfl))
          (lrC (LR_on rfl rfl rfl (LR_pick (b := true) (at_tmp 33 _) (at_tmp 35 _) (at_c (v' := Bl false) rfl) rfl))
          (lrC (LR_pick (b := false) (at_tmp 30 _) (at_c (v' := Bl true) rfl) (at_tmp 36 _) rfl)
          lrN))))))))))))))))))))))))
          (by kernel_rfl)
          (saC (sS (sT1 rfl) sB0 sF0) (saC (sS (sA (sT1 rfl) sT0) sB0 sF0) (saC (sS (sT1 rfl) sB0 sF0) (saC (sS (sT rfl (sT1 rfl)) sB0 sF0) (saC (sS (sT rfl (sT1 rfl)) sB0 sF0) (saC (sS (sA (sT1 rfl) (sA sT0 (sT1 rfl))) sB0 sF0) (saC (sS (sT1 rfl) sB0 sF0) (saC (sS (sT rfl (sT1 rfl)) (sB1 rfl) sF0) (saC (sS (sT rfl sT0) sB0 sF0) (saC (sS (sT rfl (sA (sT1 rfl) (sT1 rfl))) sB0 sF0) (saC (sS (sT rfl (sT1 rfl)) sB0 sF0) (saC (sS (sT1 rfl) sB0 sF0) (saC (sS (sT1 rfl) sB0 sF0) (saC (sS (sT1 rfl) sB0 sF0) (saC (sS (sT rfl (sA (sT1 rfl) (sA (sT1 rfl) sT0))) sB0 sF0) (saC (sS (sA (sT1 rfl) (sA sT0 (sT1 rfl))) sB0 sF0) (saC (sS (sT1 rfl) sB0 sF0) (saC (sS (sT rfl (sT1 rfl)) sB0 sF0) (saC (sS (sT rfl (sA (sT1 rfl) sT0)) sB0 sF0) (saC (sS (sT rfl (sT1 rfl)) sB0 sF0) (saC (sS (sT rfl (sT1 rfl)) sB0 sF0) (saC (sS (sT rfl (sA (sT1 rfl) sT0)) sB0 sF0) (saC (sS (sT rfl (sA (sT1 rfl) (sA (sT1 rfl) sT0))) sB0 sF0) (saC (sS (sA (sT1 rfl) (sA sT0 (sT1 rfl))) sB0 sF0) saN)))))))))))))))))))))))) ?_
        exact thenN (cutLeaf (v := decide (a2.toNat ≤ (4#8).toNat)) hr (weakB ((sT rfl (sT rfl (sT rfl (sT rfl (sT rfl (sT rfl sT0))))))) (sub_keep (sub_keep (sub_keep sub_nil))) rfl))
    · have hr := hr.trans (cond_t hb13)
      rcases bool_em (!((a1_0 == F13.1) && (a1_1 == F13.2))) with hb15 | hb15
      · have hr := hr.trans (cond_f hb15)
        rcases bool_em (a2 != (0#8)) with hb16 | hb16
        · have hr := hr.trans (cond_f hb16)
          refine AW_draw mixed
            (lrC (LR_move (at_tmp 0 _) rfl)
            (lrC (LR_binA (at_tmp 14 _) (at_c (v' := .pointer none) rfl) (eqTabNil Hfaa.underlying27 a0) rfl)
            (lrC (LR_move (at_tmp 15 _) rfl)
            (lrC (LR_on rfl rfl rfl (LR_move (at_tmp 3 _) rfl))
            (lrC (LR_on rfl rfl rfl (LR_eqlPtr (at_tmp 17 _) Hfaa.underlying98 rfl))
            (lrC (LR_pick (b := false) (at_tmp 16 _) (at_c (v' := Bl true) rfl) (at_tmp 18 _) rfl)
            (lrC (LR_move (at_tmp 19 _) rfl)
            (lrC (LR_on rfl rfl rfl (LR_loads (at_tmp 6 _) ag23 sz23 rfl rfl rfl))
            (lrC (LR_on rfl rfl rfl (LR_call Hfaa.func14 rfl rfl (C14 _ rfl) all_nil rfl))
            (lrC (LR_on rfl rfl rfl (LR_asB (LR_binA (at_tmp 21 _) (at_tmp 22 _) (neqA23 a1_0 a1_1 F14.1 F14.2) rfl) hb13))
            (lrC (LR_on rfl rfl rfl (LR_move (at_tmp 23 _) rfl))
            (lrC (LR_on rfl rfl rfl (LR_loads (at_tmp 6 _) ag23 sz23 rfl rfl rfl))
            (lrC (LR_on rfl rfl rfl (LR_call Hfaa.func13 rfl rfl (C13 _ rfl) all_nil rfl))
            (lrC (LR_on rfl rfl rfl (LR_asB (LR_binA (at_tmp 25 _) (at_tmp 26 _) (neqA23 a1_0 a1_1 F13.1 F13.2) rfl) hb15))
            (lrC (LR_on rfl rfl rfl (LR_pick (b := true) (at_tmp 24 _) (at_tmp 27 _) (at_c (v' := Bl false) rfl) rfl))
            (lrC (LR_pick (b := false) (at_tmp 20 _) (at_c (v' := Bl true) rfl) (at_tmp 28 _) rfl)
            (lrC (LR_move (at_tmp 29 _) rfl)
            (lrC (LR_on rfl rfl rfl (LR_move (at_tmp 2 _) rfl))
            (lrC (LR_on rfl rfl rfl (LR_asB (LR_bin (at_tmp 31 _) (at_c (v' := U8 (0#8)) rfl) (neq_U8 a2 (0#8)) rfl) hb16))
            (lrC (LR_on rfl rfl rfl (LR_move (at_tmp 32 _) rfl))
            (lrC (LR_off (b := false) rfl rfl rfl rfl)
            (lrC (LR_off (b := false) rfl rfl rfl rfl)
            (lrC (LR_on rfl rfl rfl (LR_pick (b := false) (at_tmp 33 _) (at_tmp 35 _) (at_c (v' := Bl false) rfl) rfl))
            (lrC (LR_pick (b := false) (at_tmp 30 _) (at_c (v' := Bl true) rfl) (at_tmp 36 _) rfl)
            lrN))))))))))))))))))))))))
            (by kernel_rfl)
            (saC (sS (sT1 rfl) sB0 sF0) (saC (sS (sA (sT1 rfl) sT0) sB0 sF0) (saC (sS (sT1 rfl) sB0 sF0) (saC (sS (sT rfl (sT1 rfl)) sB0 sF0) (saC (sS (sT rfl (sT1 rfl)) sB0 sF0) (saC (sS (sA (sT1 rfl) (sA sT0 (sT1 rfl))) sB0 sF0) (saC (sS (sT1 rfl) sB0 sF0) (saC (sS (sT rfl (sT1 rfl)) (sB1 rfl) sF0) (saC (sS (sT rfl sT0) sB0 sF0) (saC (sS (sT rfl (sA (sT1 rfl) (sT1 rfl))) sB0 sF0) (saC (sS (sT rfl (sT1 rfl)) sB0 sF0) (saC (sS (sT rfl (sT1 rfl)) (sB1 rfl) sF0) (saC (sS (sT rfl sT0) sB0 sF0) (saC (sS (sT rfl (sA (sT1 rfl) (sT1 rfl))) sB0 sF0) (saC (sS (sT rfl (sA (sT1 rfl) (sA (sT1 rfl) sT0))) sB0 sF0) (saC (sS (sA (sT1 rfl) (sA sT0 (sT1 rfl))) sB0 sF0) (saC (sS (sT1 rfl) sB0 sF0) (saC (sS (sT rfl (sT1 rfl)) sB0 sF0) (saC (sS (sT rfl (sA (sT1 rfl) sT0)) sB0 sF0) (saC (sS (sT rfl (sT1 rfl)) sB0 sF0) (saC (sS (sT1 rfl) sB0 sF0) (saC (sS (sT1 rfl) sB0 sF0) (saC (sS (sT rfl (sA (sT1 rfl) (sA (sT1 rfl) sT0))) sB0 sF0) (saC (sS (sA (sT1 rfl) (sA sT0 (sT1 rfl))) sB0 sF0) saN)))))))))))))))))))))))) ?_
          exact thenN (cutLeaf (v := false) hr (weakB ((sT rfl (sT rfl (sT rfl (sT rfl (sT rfl (sT rfl sT0))))))) (sub_keep (sub_keep (sub_keep sub_nil))) rfl))
        · have hr := hr.trans (cond_t hb16)
          refine AW_draw mixed
            (lrC (LR_move (at_tmp 0 _) rfl)
            (lrC (LR_binA (at_tmp 14 _) (at_c (v' := .pointer none) rfl) (eqTabNil Hfaa.underlying27 a0) rfl)
            (lrC (LR_move (at_tmp 15 _) rfl)
            (lrC (LR_on rfl rfl rfl (LR_move (at_tmp 3 _) rfl))
            (lrC (LR_on rfl rfl rfl (LR_eqlPtr (at_tmp 17 _) Hfaa.underlying98 rfl))
            (lrC (LR_pick (b := false) (at_tmp 16 _) (at_c (v' := Bl true) rfl) (at_tmp 18 _) rfl)
            (lrC (LR_move (at_tmp 19 _) rfl)
            (lrC (LR_on rfl rfl rfl (LR_loads (at_tmp 6 _) ag23 sz23 rfl rfl rfl))
            (lrC (LR_on rfl rfl rfl (LR_call Hfaa.func14 rfl rfl (C14 _ rfl) all_nil rfl))
            (lrC (LR_on rfl rfl rfl (LR_asB (LR_binA (at_tmp 21 _) (at_tmp 22 _) (neqA23 a1_0 a1_1 F14.1 F14.2) rfl) hb13))
            (lrC (LR_on rfl rfl rfl (LR_move (at_tmp 23 _) rfl))
            (lrC (LR_on rfl rfl rfl (LR_loads (at_tmp 6 _) ag23 sz23 rfl rfl rfl))
            (lrC (LR_on rfl rfl rfl (LR_call Hfaa.func13 rfl rfl (C13 _ rfl) all_nil rfl))
            (lrC (LR_on rfl rfl rfl (LR_asB (LR_binA (at_tmp 25 _) (at_tmp 26 _) (neqA23 a1_0 a1_1 F13.1 F13.2) rfl) hb15))
            (lrC (LR_on rfl rfl rfl (LR_pick (b := true) (at_tmp 24 _) (at_tmp 27 _) (at_c (v' := Bl false) rfl) rfl))
            (lrC (LR_pick (b := false) (at_tmp 20 _) (at_c (v' := Bl true) rfl) (at_tmp 28 _) rfl)
            (lrC (LR_move (at_tmp 29 _) rfl)
            (lrC (LR_on rfl rfl rfl (LR_move (at_tmp 2 _) rfl))
            (lrC (LR_on rfl rfl rfl (LR_asB (LR_bin (at_tmp 31 _) (at_c (v' := U8 (0#8)) rfl) (neq_U8 a2 (0#8)) rfl) hb16))
            (lrC (LR_on rfl rfl rfl (LR_move (at_tmp 32 _) rfl))
            (lrC (LR_on rfl rfl rfl (LR_move (at_tmp 2 _) rfl))
            (lrC (LR_on rfl rfl rfl (LR_bin (at_tmp 34 _) (at_c (v' := U8 (4#8)) rfl) (leq_U8 a2 (4#8)) rfl))
            (lrC (LR_on rfl rfl rfl (LR_pick (b := true) (at_tmp 33 _) (at_tmp 35 _) (at_c (v' := Bl false) rfl) rfl))
            (lrC (LR_pick (b := false) (at_tmp 30 _) (at_c (v' := Bl true) rfl) (at_tmp 36 _) rfl)
            lrN))))))))))))))))))))))))
            (by kernel_rfl)
            (saC (sS (sT1 rfl) sB0 sF0) (saC (sS (sA (sT1 rfl) sT0) sB0 sF0) (saC (sS (sT1 rfl) sB0 sF0) (saC (sS (sT rfl (sT1 rfl)) sB0 sF0) (saC (sS (sT rfl (sT1 rfl)) sB0 sF0) (saC (sS (sA (sT1 rfl) (sA sT0 (sT1 rfl))) sB0 sF0) (saC (sS (sT1 rfl) sB0 sF0) (saC (sS (sT rfl (sT1 rfl)) (sB1 rfl) sF0) (saC (sS (sT rfl sT0) sB0 sF0) (saC (sS (sT rfl (sA (sT1 rfl) (sT1 rfl))) sB0 sF0) (saC (sS (sT rfl (sT1 rfl)) sB0 sF0) (saC (sS (sT rfl (sT1 rfl)) (sB1 rfl) sF0) (saC (sS (sT rfl sT0) sB0 sF0) (saC (sS (sT rfl (sA (sT1 rfl) (sT1 rfl))) sB0 sF0) (saC (sS (sT rfl (sA (sT1 rfl) (sA (sT1 rfl) sT0))) sB0 sF0) (saC (sS (sA (sT1 rfl) (sA sT0 (sT1 rfl))) sB0 sF0) (saC (sS (sT1 rfl) sB0 sF0) (saC (sS (sT rfl (sT1 rfl)) sB0 sF0) (saC (sS (sT rfl (sA (sT1 rfl) sT0)) sB0 sF0) (saC (sS (sT rfl (sT1 rfl)) sB0 sF0) (saC (sS (sT rfl (sT1 rfl)) sB0 sF0) (saC (sS (sT rfl (sA (sT1 rfl) sT0)) sB0 sF0) (saC (sS (sT rfl (sA (sT1 rfl) (sA (sT1 rfl) sT0))) sB0 sF0) (saC (sS (sA (sT1 rfl) (sA sT0 (sT1 rfl))) sB0 sF0) saN)))))))))))))))))))))))) ?_
          exact thenN (cutLeaf (v := decide (a2.toNat ≤ (4#8).toNat)) hr (weakB ((sT rfl (sT rfl (sT rfl (sT rfl (sT rfl (sT rfl sT0))))))) (sub_keep (sub_keep (sub_keep sub_nil))) rfl))
      · have hr := hr.trans (cond_t hb15)
        refine AW_draw mixed
          (lrC (LR_move (at_tmp 0 _) rfl)
          (lrC (LR_binA (at_tmp 14 _) (at_c (v' := .pointer none) rfl) (eqTabNil Hfaa.underlying27 a0) rfl)
          (lrC (LR_move (at_tmp 15 _) rfl)
          (lrC (LR_on rfl rfl rfl (LR_move (at_tmp 3 _) rfl))
          (lrC (LR_on rfl rfl rfl (LR_eqlPtr (at_tmp 17 _) Hfaa.underlying98 rfl))
          (lrC (LR_pick (b := false) (at_tmp 16 _) (at_c (v' := Bl true) rfl) (at_tmp 18 _) rfl)
          (lrC (LR_move (at_tmp 19 _) rfl)
          (lrC (LR_on rfl rfl rfl (LR_loads (at_tmp 6 _) ag23 sz23 rfl rfl rfl))
          (lrC (LR_on rfl rfl rfl (LR_call Hfaa.func14 rfl rfl (C14 _ rfl) all_nil rfl))
          (lrC (LR_on rfl rfl rfl (LR_asB (LR_binA (at_tmp 21 _) (at_tmp 22 _) (neqA23 a1_0 a1_1 F14.1 F14.2) rfl) hb13))
          (lrC (LR_on rfl rfl rfl (LR_move (at_tmp 23 _) rfl))
          (lrC (LR_on rfl rfl rfl (LR_loads (at_tmp 6 _) ag23 sz23 rfl rfl rfl))
          (lrC (LR_on rfl rfl rfl (LR_call Hfaa.func13 rfl rfl (C13 _ rfl) all_nil rfl))
          (lrC (LR_on rfl rfl rfl (LR_asB (LR_binA (at_tmp 25 _) (at_tmp 26 _) (neqA23 a1_0 a1_1 F13.1 F13.2) rfl) hb15))
          (lrC (LR_on rfl rfl rfl (LR_pick (b := true) (at_tmp 24 _) (at_tmp 27 _) (at_c (v' := Bl false) rfl) rfl))
          (lrC (LR_pick (b := false) (at_tmp 20 _) (at_c (v' := Bl true) rfl) (at_tmp 28 _) rfl)
          (lrC (LR_move (at_tmp 29 _) rfl)
          (lrC (LR_off (b := true) rfl rfl rfl rfl)
          (lrC (LR_off (b := true) rfl rfl rfl rfl)
          (lrC (LR_off (b := true) rfl rfl rfl rfl)
          (lrC (LR_offU rfl rfl rfl rfl)
          (lrC (LR_offU rfl rfl rfl rfl)
          (lrC (LR_off (b := true) rfl rfl rfl rfl)
          (lrC (LR_pick (b := true) (at_tmp 30 _) (at_c (v' := Bl true) rfl) (at_tmp 36 _) rfl)
          lrN))))))))))))))))))))))))
          (by kernel_rfl)
          (saC (sS (sT1 rfl) sB0 sF0) (saC (sS (sA (sT1 rfl) sT0) sB0 sF0) (saC (sS (sT1 rfl) sB0 sF0) (saC (sS (sT rfl (sT1 rfl)) sB0 sF0) (saC (sS (sT rfl (sT1 rfl)) sB0 sF0) (saC (sS (sA (sT1 rfl) (sA sT0 (sT1 rfl))) sB0 sF0) (saC (sS (sT1 rfl) sB0 sF0) (saC (sS (sT rfl (sT1 rfl)) (sB1 rfl) sF0) (saC (sS (sT rfl sT0) sB0 sF0) (saC (sS (sT rfl (sA (sT1 rfl) (sT1 rfl))) sB0 sF0) (saC (sS (sT rfl (sT1 rfl)) sB0 sF0) (saC (sS (sT rfl (sT1 rfl)) (sB1 rfl) sF0) (saC (sS (sT rfl sT0) sB0 sF0) (saC (sS (sT rfl (sA (sT1 rfl) (sT1 rfl))) sB0 sF0) (saC (sS (sT rfl (sA (sT1 rfl) (sA (sT1 rfl) sT0))) sB0 sF0) (saC (sS (sA (sT1 rfl) (sA sT0 (sT1 rfl))) sB0 sF0) (saC (sS (sT1 rfl) sB0 sF0) (saC (sS (sT1 rfl) sB0 sF0) (saC (sS (sT1 rfl) sB0 sF0) (saC (sS (sT1 rfl) sB0 sF0) (saC (sS (sT1 rfl) sB0 sF0) (saC (sS (sT1 rfl) sB0 sF0) (saC (sS (sT1 rfl) sB0 sF0) (saC (sS (sA (sT1 rfl) (sA sT0 (sT1 rfl))) sB0 sF0) saN)))))))))))))))))))))))) ?_
        exact thenN (cutLeaf (v := true) hr (weakB ((sT rfl (sT rfl (sT rfl (sT rfl (sT rfl (sT rfl sT0))))))) (sub_keep (sub_keep (sub_keep sub_nil))) rfl))
  · rintro x1 hr
    show AW Hfaa.prog _ _ _ ⟨[(0, .inl (tabp a0)), (2, .inl (is (U8 a2))), (3, .inr (.inl (3, 0))), (6, .inr (.inl (6, 0))), (9, .inr (.inl (9, 0))), (37, .inl (is (Bl x1)))], [(3, gc 90 (ar U64 8 b3_0 ++ []) ([]) (k1 Sv) 1 b3_1), (6, pb 23 [is (U8 a1_0), is (U8 a1_1)]), (9, pb 96 [is (U8 a4_0), is (U8 a4_1), is (U8 a4_2), is (U8 a4_3), is (U64 a4_4), is (Sv a4_5)])]⟩
    have hr : some r = F123_1 N a0 a1_0 a1_1 a2 b3_0 b3_1 a4_0 a4_1 a4_2 a4_3 a4_4 a4_5 x1 := hr
    refine AW_condT (b := x1) rfl (fun h => ?_) (fun h => ?_)
    · have hr := hr.trans (cond_t h)
      clear h
      refine AW_ret ?_
      refine thenR ?_
      obtain rfl := Option.some.inj hr
      exact ⟨res0 rfl , (sub_keep (sub_drop (sub_drop sub_nil)))⟩
    · have hr := hr.trans (cond_f h)
      clear h
      refine AW_skip ?_
      refine thenN ?_
      refine AW_cut (σ := BitVec 64 × BitVec 64) (fun v => ⟨[(0, .inl (tabp a0)), (2, .inl (is (U8 a2))), (3, .inr (.inl (3, 0))), (6, .inr (.inl (6, 0))), (9, .inr (.inl (9, 0))), (10, .inr (.inl (3, (a4_1 &&& (7#8)).toNat))), (11, .inl (is (U64 v.1))), (12, .inl (is (U64 v.2)))], [(3, gc 90 (ar U64 8 b3_0 ++ []) ([]) (k1 Sv) 1 b3_1), (6, pb 23 [is (U8 a1_0), is (U8 a1_1)]), (9, pb 96 [is (U8 a4_0), is (U8 a4_1), is (U8 a4_2), is (U8 a4_3), is (U64 a4_4), is (Sv a4_5)])]⟩) (fun v => some r = F123_2 N a0 a1_0 a1_1 a2 b3_0 b3_1 a4_0 a4_1 a4_2 a4_3 a4_4 a4_5 v.1 v.2) ?_ ?_
      · skip
        refine AW_opn 3 1009 (fun sv => (ar U64 8 b3_0 ++ (is ( sv) :: []))) rfl rfl (fun _ => by first | rfl | simp) ?_
        intro sv12 hsv12
        refine AW_post ?_
        refine AW_draw mixed
          (lrC (LR_move (at_tmp 3 _) rfl)
          (lrC (LR_fieldAddr (off := 0) (o := 1) (at_tmp 9 _) (fun b w => fa96_1 b 0 w) rfl)
          (lrC (LR_load (at_tmp 39 _) na5 rfl rfl)
          (lrC (LR_bin (at_tmp 40 _) (at_c (v' := U8 (7#8)) rfl) (and_U8 a4_1 (7#8)) rfl)
          (lrC (LR_nilCheck (at_tmp 38 _) rfl)
          (lrC (LR_fieldAddr (off := 0) (o := 0) (at_tmp 42 _) (fun b w => fa90_0 b 0 w) rfl)
          (lrC (LR_indexAddr (o := (a4_1 &&& (7#8)).toNat) Hfaa.underlying35 sz30 (at_tmp 43 _) (at_tmp 41 _) (natIx (and7 a4_1)) (by first | rfl | omega) rfl)
          (lrC (LR_move (at_tmp 3 _) rfl)
          (lrC (LR_fieldAddr (off := 0) (o := 2) (at_tmp 9 _) (fun b w => fa96_2 b 0 w) rfl)
          (lrC (LR_load (at_tmp 46 _) na5 rfl rfl)
          (lrC (LR_bin (at_tmp 47 _) (at_c (v' := U8 (7#8)) rfl) (and_U8 a4_2 (7#8)) rfl)
          (lrC (LR_nilCheck (at_tmp 45 _) rfl)
          (lrC (LR_fieldAddr (off := 0) (o := 0) (at_tmp 49 _) (fun b w => fa90_0 b 0 w) rfl)
          (lrC (LR_indexAddr (o := (a4_2 &&& (7#8)).toNat) Hfaa.underlying35 sz30 (at_tmp 50 _) (at_tmp 48 _) (natIx (and7 a4_2)) (by first | rfl | omega) rfl)
          (lrC (LR_load (at_tmp 51 _) na30 (gA (and7 a4_2)) rfl)
          (lrC (LR_move (at_tmp 3 _) rfl)
          (lrC (LR_fieldAddr (off := 0) (o := 3) (at_tmp 9 _) (fun b w => fa96_3 b 0 w) rfl)
          (lrC (LR_load (at_tmp 54 _) na5 rfl rfl)
          (lrC (LR_bin (at_tmp 55 _) (at_c (v' := U8 (7#8)) rfl) (and_U8 a4_3 (7#8)) rfl)
          (lrC (LR_nilCheck (at_tmp 53 _) rfl)
          (lrC (LR_fieldAddr (off := 0) (o := 0) (at_tmp 57 _) (fun b w => fa90_0 b 0 w) rfl)
          (lrC (LR_indexAddr (o := (a4_3 &&& (7#8)).toNat) Hfaa.underlying35 sz30 (at_tmp 58 _) (at_tmp 56 _) (natIx (and7 a4_3)) (by first | rfl | omega) rfl)
          (lrC (LR_load (at_tmp 59 _) na30 (gA (and7 a4_3)) rfl)
          (lrC (LR_assign (at_tmp 44 _) rfl)
          (lrC (LR_assign (at_tmp 52 _) rfl)
          (lrC (LR_assign (at_tmp 60 _) rfl)
          lrN))))))))))))))))))))))))))
          (by kernel_rfl)
          (saC (sS (sT1 rfl) sB0 sF0) (saC (sS (sT1 rfl) sB0 sF0) (saC (sS (sT1 rfl) (sB1 rfl) sF0) (saC (sS (sA (sT1 rfl) sT0) sB0 sF0) (saC (sS (sT1 rfl) sB0 sF0) (saC (sS (sT1 rfl) sB0 sF0) (saC (sS (sA (sT1 rfl) (sT1 rfl)) sB0 sF0) (saC (sS (sT1 rfl) sB0 sF0) (saC (sS (sT1 rfl) sB0 sF0) (saC (sS (sT1 rfl) (sB1 rfl) sF0) (saC (sS (sA (sT1 rfl) sT0) sB0 sF0) (saC (sS (sT1 rfl) sB0 sF0) (saC (sS (sT1 rfl) sB0 sF0) (saC (sS (sA (sT1 rfl) (sT1 rfl)) sB0 sF0) (saC (sS (sT1 rfl) (sB1 rfl) sF0) (saC (sS (sT1 rfl) sB0 sF0) (saC (sS (sT1 rfl) sB0 sF0) (saC (sS (sT1 rfl) (sB1 rfl) sF0) (saC (sS (sA (sT1 rfl) sT0) sB0 sF0) (saC (sS (sT1 rfl) sB0 sF0) (saC (sS (sT1 rfl) sB0 sF0) (saC (sS (sA (sT1 rfl) (sT1 rfl)) sB0 sF0) (saC (sS (sT1 rfl) (sB1 rfl) sF0) (saC (sS (sT1 rfl) sB0 sF0) (saC (sS (sT1 rfl) sB0 sF0) (saC (sS (sT1 rfl) sB0 sF0) saN)))))))))))))))))))))))))) ?_
        refine ⟨_, (imp_close (k := 3) (r := 1009) (ar U64 8 b3_0 ++ []) ([]) rfl (by first | rfl | simp) rfl rfl rfl rfl), ?_⟩
        exact thenN (cutLeaf (v := (b3_0 ((a4_2 &&& (7#8)).toNat), b3_0 ((a4_3 &&& (7#8)).toNat))) hr (weakB ((sT rfl (sT rfl (sT rfl (sT rfl (sT rfl (sT rfl (sT rfl (sT rfl sT0))))))))) (sub_keep (sub_keep (sub_keep (sub_drop sub_nil)))) rfl))
      · rintro ⟨x2, x3⟩ hr
        show AW Hfaa.prog _ _ _ ⟨[(0, .inl (tabp a0)), (2, .inl (is (U8 a2))), (3, .inr (.inl (3, 0))), (6, .inr (.inl (6, 0))), (9, .inr (.inl (9, 0))), (10, .inr (.inl (3, (a4_1 &&& (7#8)).toNat))), (11, .inl (is (U64 x2))), (12, .inl (is (U64 x3)))], [(3, gc 90 (ar U64 8 b3_0 ++ []) ([]) (k1 Sv) 1 b3_1), (6, pb 23 [is (U8 a1_0), is (U8 a1_1)]), (9, pb 96 [is (U8 a4_0), is (U8 a4_1), is (U8 a4_2), is (U8 a4_3), is (U64 a4_4), is (Sv a4_5)])]⟩
        have hr : some r = F123_2 N a0 a1_0 a1_1 a2 b3_0 b3_1 a4_0 a4_1 a4_2 a4_3 a4_4 a4_5 x2 x3 := hr
        refine AW_cut (σ := Bool) (fun v => ⟨[(0, .inl (tabp a0)), (2, .inl (is (U8 a2))), (3, .inr (.inl (3, 0))), (6, .inr (.inl (6, 0))), (9, .inr (.inl (9, 0))), (10, .inr (.inl (3, (a4_1 &&& (7#8)).toNat))), (11, .inl (is (U64 x2))), (12, .inl (is (U64 x3))), (13, .inl (is (Bl v)))], [(3, gc 90 (ar U64 8 b3_0 ++ []) ([]) (k1 Sv) 1 b3_1), (6, pb 23 [is (U8 a1_0), is (U8 a1_1)]), (9, pb 96 [is (U8 a4_0), is (U8 a4_1), is (U8 a4_2), is (U8 a4_3), is (U64 a4_4), is (Sv a4_5)])]⟩) (fun v => some r = F123_3 N a0 a1_0 a1_1 a2 b3_0 b3_1 a4_0 a4_1 a4_2 a4_3 a4_4 a4_5 x2 x3 v) ?_ ?_
        · skip
          obtain ⟨y18, hy18, hr⟩ := lt_some hr
          refine AW_draw mixed
            (lrC (LR_loads (at_tmp 6 _) ag23 sz23 rfl rfl rfl)
            (lrC (LR_call Hfaa.func13 rfl rfl (C13 y18 hy18) all_nil rfl)
            (lrC (LR_binA (at_tmp 61 _) (at_tmp 62 _) (eqlA23 a1_0 a1_1 y18.1 y18.2) rfl)
            (lrC (LR_assign (at_tmp 63 _) rfl)
            lrN))))
            (by kernel_rfl)
            (saC (sS (sT1 rfl) (sB1 rfl) sF0) (saC (sS sT0 sB0 sF0) (saC (sS (sA (sT1 rfl) (sT1 rfl)) sB0 sF0) (saC (sS (sT1 rfl) sB0 sF0) saN)))) ?_
          exact thenN (cutLeaf (v := (a1_0 == y18.1) && (a1_1 == y18.2)) hr (weakB ((sT rfl (sT rfl (sT rfl (sT rfl (sT rfl (sT rfl (sT rfl (sT rfl (sT rfl sT0)))))))))) (sub_keep (sub_keep (sub_keep sub_nil))) rfl))
        · rintro x4 hr
          show AW Hfaa.prog _ _ _ ⟨[(0, .inl (tabp a0)), (2, .inl (is (U8 a2))), (3, .inr (.inl (3, 0))), (6, .inr (.inl (6, 0))), (9, .inr (.inl (9, 0))), (10, .inr (.inl (3, (a4_1 &&& (7#8)).toNat))), (11, .inl (is (U64 x2))), (12, .inl (is (U64 x3))), (13, .inl (is (Bl x4)))], [(3, gc 90 (ar U64 8 b3_0 ++ []) ([]) (k1 Sv) 1 b3_1), (6, pb 23 [is (U8 a1_0), is (U8 a1_1)]), (9, pb 96 [is (U8 a4_0), is (U8 a4_1), is (U8 a4_2), is (U8 a4_3), is (U64 a4_4), is (Sv a4_5)])]⟩
          have hr : some r = F123_3 N a0 a1_0 a1_1 a2 b3_0 b3_1 a4_0 a4_1 a4_2 a4_3 a4_4 a4_5 x2 x3 x4 := hr
          refine AW_seq1 ?_
          refine AW_region ?_
          refine AL_cons (LR_fieldAddr (off := 0) (o := 0) (at_tmp 9 _) (fun b w => fa96_0 b 0 w) rfl) (sS (sT1 rfl) sB0 sF0) ?_
          refine AL_cons (LR_load (at_tmp 64 _) na5 rfl rfl) (sS (sT1 rfl) (sB1 rfl) sF0) ?_
          refine AL_nil ?_
          refine thenN ?_
          refine AW_block ?_
          refine AW_cut (σ := Bool) (fun v => ⟨[(0, .inl (tabp a0)), (2, .inl (is (U8 a2))), (3, .inr (.inl (3, 0))), (6, .inr (.inl (6, 0))), (9, .inr (.inl (9, 0))), (10, .inr (.inl (3, (a4_1 &&& (7#8)).toNat))), (11, .inl (is (U64 x2))), (12, .inl (is (U64 x3))), (13, .inl (is (Bl x4))), (65, .inl (is (U8 a4_0))), (72, .inl (is (Bl v)))], [(3, gc 90 (ar U64 8 b3_0 ++ []) ([]) (k1 Sv) 1 b3_1), (6, pb 23 [is (U8 a1_0), is (U8 a1_1)]), (9, pb 96 [is (U8 a4_0), is (U8 a4_1), is (U8 a4_2), is (U8 a4_3), is (U64 a4_4), is (Sv a4_5)])]⟩) (fun v => some r = F123_4 N a0 a1_0 a1_1 a2 b3_0 b3_1 a4_0 a4_1 a4_2 a4_3 a4_4 a4_5 x2 x3 x4 v) ?_ ?_
          · skip
            refine AW_region ?_
            refine AL_cons (LR_bin (at_tmp 65 _) (at_c (v' := U8 (0#8)) rfl) (eql_U8 a4_0 (0#8)) rfl) (sS (sA (sT1 rfl) sT0) sB0 sF0) ?_
            refine AL_cons (LR_assign (at_tmp 73 _) rfl) (sS (sT1 rfl) sB0 sF0) ?_
            refine AL_nil ?_
            exact thenN (cutLeaf (v := a4_0 == (0#8)) hr (weakB ((sT rfl (sT rfl (sT rfl (sT rfl (sT rfl (sT rfl (sT rfl (sT rfl (sT rfl (sT rfl (sT rfl sT0)))))))))))) (sub_keep (sub_keep (sub_keep sub_nil))) rfl))
          · rintro x5 hr
            show AW Hfaa.prog _ _ _ ⟨[(0, .inl (tabp a0)), (2, .inl (is (U8 a2))), (3, .inr (.inl (3, 0))), (6, .inr (.inl (6, 0))), (9, .inr (.inl (9, 0))), (10, .inr (.inl (3, (a4_1 &&& (7#8)).toNat))), (11, .inl (is (U64 x2))), (12, .inl (is (U64 x3))), (13, .inl (is (Bl x4))), (65, .inl (is (U8 a4_0))), (72, .inl (is (Bl x5)))], [(3, gc 90 (ar U64 8 b3_0 ++ []) ([]) (k1 Sv) 1 b3_1), (6, pb 23 [is (U8 a1_0), is (U8 a1_1)]), (9, pb 96 [is (U8 a4_0), is (U8 a4_1), is (U8 a4_2), is (U8 a4_3), is (U64 a4_4), is (Sv a4_5)])]⟩
            have hr : some r = F123_4 N a0 a1_0 a1_1 a2 b3_0 b3_1 a4_0 a4_1 a4_2 a4_3 a4_4 a4_5 x2 x3 x4 x5 := hr
            refine AW_condT (b := x5) rfl (fun h => ?_) (fun h => ?_)
            · have hr := hr.trans (cond_t h)
              clear h
              refine AW_region ?_
              refine AL_cons (LR_move (at_tmp 10 _) rfl) (sS (sT1 rfl) sB0 sF0) ?_
              refine AL_cons (LR_loads (at_tmp 6 _) ag23 sz23 rfl rfl rfl) (sS (sT1 rfl) (sB1 rfl) sF0) ?_
              refine AL_cons (LR_fieldAddr (off := 0) (o := 4) (at_tmp 9 _) (fun b w => fa96_4 b 0 w) rfl) (sS (sT1 rfl) sB0 sF0) ?_
              refine AL_cons (LR_load (at_tmp 76 _) na30 rfl rfl) (sS (sT1 rfl) (sB1 rfl) sF0) ?_
              obtain ⟨y5, hy5, hr⟩ := lt_some hr
              refine AL_cons (LR_call Hfaa.func234 rfl rfl (C234 a1_0 a1_1 a4_4 y5 hy5) (all_cons (at_tmp 75 _) (all_cons (at_tmp 77 _) all_nil)) rfl) (sS (sA (sT1 rfl) (sA (sT1 rfl) sT0)) sB0 sF0) ?_
              refine AL_cons (LR_nilCheck (at_tmp 74 _) rfl) (sS (sT1 rfl) sB0 sF0) ?_
              refine AL_opn 3 1001 (fun sv => (ar U64 8 b3_0 ++ (is ( sv) :: []))) rfl rfl (fun _ => by first | rfl | simp) ?_
              intro sv1 hsv1
              refine AL_cons (LR_storeA (at_tmp 79 _) (at_tmp 78 _) (cells_one (one_is rfl)) (onC (one_is rfl) onN) sz30 rfl (ble_dyn (lnA (lnC ln0)) (by have := (and7 a4_1); omega)) (stA (and7 a4_1))) (sS (sA (sT1 rfl) (sT1 rfl)) (sB1 rfl) sF0) ?_
              refine AL_imp (imp_close (k := 3) (r := 1001) ((ar U64 8 (upd b3_0 ((a4_1 &&& (7#8)).toNat) y5) ++ [])) ([]) rfl (by first | rfl | simp) rfl rfl rfl rfl) ?_
              refine AL_nil ?_
              refine blN ?_
              obtain rfl := Option.some.inj hr
              exact ⟨res0 rfl , (sub_keep (sub_drop (sub_drop (sub_drop sub_nil))))⟩
            · have hr := hr.trans (cond_f h)
              clear h
              refine AW_cut (σ := Bool) (fun v => ⟨[(0, .inl (tabp a0)), (2, .inl (is (U8 a2))), (3, .inr (.inl (3, 0))), (6, .inr (.inl (6, 0))), (9, .inr (.inl (9, 0))), (10, .inr (.inl (3, (a4_1 &&& (7#8)).toNat))), (11, .inl (is (U64 x2))), (12, .inl (is (U64 x3))), (13, .inl (is (Bl x4))), (65, .inl (is (U8 a4_0))), (80, .inl (is (Bl v)))], [(3, gc 90 (ar U64 8 b3_0 ++ []) ([]) (k1 Sv) 1 b3_1), (6, pb 23 [is (U8 a1_0), is (U8 a1_1)]), (9, pb 96 [is (U8 a4_0), is (U8 a4_1), is (U8 a4_2), is (U8 a4_3), is (U64 a4_4), is (Sv a4_5)])]⟩) (fun v => some r = F123_5 N a0 a1_0 a1_1 a2 b3_0 b3_1 a4_0 a4_1 a4_2 a4_3 a4_4 a4_5 x2 x3 x4 v) ?_ ?_
              · skip
                refine AW_cut (σ := Bool) (fun v => ⟨[(0, .inl (tabp a0)), (2, .inl (is (U8 a2))), (3, .inr (.inl (3, 0))), (6, .inr (.inl (6, 0))), (9, .inr (.inl (9, 0))), (10, .inr (.inl (3, (a4_1 &&& (7#8)).toNat))), (11, .inl (is (U64 x2))), (12, .inl (is (U64 x3))), (13, .inl (is (Bl x4))), (65, .inl (is (U8 a4_0))), (80, .inl (is (Bl v)))], [(3, gc 90 (ar U64 8 b3_0 ++ []) ([]) (k1 Sv) 1 b3_1), (6, pb 23 [is (U8 a1_0), is (U8 a1_1)]), (9, pb 96 [is (U8 a4_0), is (U8 a4_1), is (U8 a4_2), is (U8 a4_3), is (U64 a4_4), is (Sv a4_5)])]⟩) (fun v => some r = F123_16 N a0 a1_0 a1_1 a2 b3_0 b3_1 a4_0 a4_1 a4_2 a4_3 a4_4 a4_5 x2 x3 x4 v) ?_ ?_
                · skip
                  refine AW_region ?_
                  refine AL_cons (LR_bin (at_tmp 65 _) (at_c (v' := U8 (1#8)) rfl) (eql_U8 a4_0 (1#8)) rfl) (sS (sA (sT1 rfl) sT0) sB0 sF0) ?_
                  refine AL_cons (LR_assign (at_tmp 81 _) rfl) (sS (sT1 rfl) sB0 sF0) ?_
                  refine AL_nil ?_
                  exact thenN (cutLeaf (v := a4_0 == (1#8)) hr (weakB ((sT rfl (sT rfl (sT rfl (sT rfl (sT rfl (sT rfl (sT rfl (sT rfl (sT rfl (sT rfl (sT rfl sT0)))))))))))) (sub_keep (sub_keep (sub_keep sub_nil))) rfl))
                · rintro x17 hr
                  show AW Hfaa.prog _ _ _ ⟨[(0, .inl (tabp a0)), (2, .inl (is (U8 a2))), (3, .inr (.inl (3, 0))), (6, .inr (.inl (6, 0))), (9, .inr (.inl (9, 0))), (10, .inr (.inl (3, (a4_1 &&& (7#8)).toNat))), (11, .inl (is (U64 x2))), (12, .inl (is (U64 x3))), (13, .inl (is (Bl x4))), (65, .inl (is (U8 a4_0))), (80, .inl (is (Bl x17)))], [(3, gc 90 (ar U64 8 b3_0 ++ []) ([]) (k1 Sv) 1 b3_1), (6, pb 23 [is (U8 a1_0), is (U8 a1_1)]), (9, pb 96 [is (U8 a4_0), is (U8 a4_1), is (U8 a4_2), is (U8 a4_3), is (U64 a4_4), is (Sv a4_5)])]⟩
                  have hr : some r = F123_16 N a0 a1_0 a1_1 a2 b3_0 b3_1 a4_0 a4_1 a4_2 a4_3 a4_4 a4_5 x2 x3 x4 x17 := hr
                  refine AW_condT (b := x17) rfl (fun h => ?_) (fun h => ?_)
                  · have hr := hr.trans (cond_t h)
                    clear h
                    refine AW_skip ?_
                    exact thenN (cutLeaf (v := x17) hr (weakB ((sT rfl (sT rfl (sT rfl (sT rfl (sT rfl (sT rfl (sT rfl (sT rfl (sT rfl (sT rfl (sT rfl sT0)))))))))))) (sub_keep (sub_keep (sub_keep sub_nil))) rfl))
                  · have hr := hr.trans (cond_f h)
                    clear h
                    refine AW_cut (σ := Bool) (fun v => ⟨[(0, .inl (tabp a0)), (2, .inl (is (U8 a2))), (3, .inr (.inl (3, 0))), (6, .inr (.inl (6, 0))), (9, .inr (.inl (9, 0))), (10, .inr (.inl (3, (a4_1 &&& (7#8)).toNat))), (11, .inl (is (U64 x2))), (12, .inl (is (U64 x3))), (13, .inl (is (Bl x4))), (65, .inl (is (U8 a4_0))), (80, .inl (is (Bl v)))], [(3, gc 90 (ar U64 8 b3_0 ++ []) ([]) (k1 Sv) 1 b3_1), (6, pb 23 [is (U8 a1_0), is (U8 a1_1)]), (9, pb 96 [is (U8 a4_0), is (U8 a4_1), is (U8 a4_2), is (U8 a4_3), is (U64 a4_4), is (Sv a4_5)])]⟩) (fun v => some r = F123_17 N a0 a1_0 a1_1 a2 b3_0 b3_1 a4_0 a4_1 a4_2 a4_3 a4_4 a4_5 x2 x3 x4 v) ?_ ?_
                    · skip
                      refine AW_region ?_
                      refine AL_cons (LR_bin (at_tmp 65 _) (at_c (v' := U8 (2#8)) rfl) (eql_U8 a4_0 (2#8)) rfl) (sS (sA (sT1 rfl) sT0) sB0 sF0) ?_
                      refine AL_cons (LR_assign (at_tmp 82 _) rfl) (sS (sT1 rfl) sB0 sF0) ?_
                      refine AL_nil ?_
                      exact thenN (cutLeaf (v := a4_0 == (2#8)) hr (weakB ((sT rfl (sT rfl (sT rfl (sT rfl (sT rfl (sT rfl (sT rfl (sT rfl (sT rfl (sT rfl (sT rfl sT0)))))))))))) (sub_keep (sub_keep (sub_keep sub_nil))) rfl))
                    · rintro x18 hr
                      show AW Hfaa.prog _ _ _ ⟨[(0, .inl (tabp a0)), (2, .inl (is (U8 a2))), (3, .inr (.inl (3, 0))), (6, .inr (.inl (6, 0))), (9, .inr (.inl (9, 0))), (10, .inr (.inl (3, (a4_1 &&& (7#8)).toNat))), (11, .inl (is (U64 x2))), (12, .inl (is (U64 x3))), (13, .inl (is (Bl x4))), (65, .inl (is (U8 a4_0))), (80, .inl (is (Bl x18)))], [(3, gc 90 (ar U64 8 b3_0 ++ []) ([]) (k1 Sv) 1 b3_1), (6, pb 23 [is (U8 a1_0), is (U8 a1_1)]), (9, pb 96 [is (U8 a4_0), is (U8 a4_1), is (U8 a4_2), is (U8 a4_3), is (U64 a4_4), is (Sv a4_5)])]⟩
                      have hr : some r = F123_17 N a0 a1_0 a1_1 a2 b3_0 b3_1 a4_0 a4_1 a4_2 a4_3 a4_4 a4_5 x2 x3 x4 x18 := hr
                      refine AW_condT (b := x18) rfl (fun h => ?_) (fun h => ?_)
                      · have hr := hr.trans (cond_t h)
                        clear h
                        refine AW_skip ?_
                        exact thenN (cutLeaf (v := x18) hr (weakB ((sT rfl (sT rfl (sT rfl (sT rfl (sT rfl (sT rfl (sT rfl (sT rfl (sT rfl (sT rfl (sT rfl sT0)))))))))))) (sub_keep (sub_keep (sub_keep sub_nil))) rfl))
                      · have hr := hr.trans (cond_f h)
                        clear h
                        refine AW_cut (σ := Bool) (fun v => ⟨[(0, .inl (tabp a0)), (2, .inl (is (U8 a2))), (3, .inr (.inl (3, 0))), (6, .inr (.inl (6, 0))), (9, .inr (.inl (9, 0))), (10, .inr (.inl (3, (a4_1 &&& (7#8)).toNat))), (11, .inl (is (U64 x2))), (12, .inl (is (U64 x3))), (13, .inl (is (Bl x4))), (65, .inl (is (U8 a4_0))), (80, .inl (is (Bl v)))], [(3, gc 90 (ar U64 8 b3_0 ++ []) ([]) (k1 Sv) 1 b3_1), (6, pb 23 [is (U8 a1_0), is (U8 a1_1)]), (9, pb 96 [is (U8 a4_0), is (U8 a4_1), is (U8 a4_2), is (U8 a4_3), is (U64 a4_4), is (Sv a4_5)])]⟩) (fun v => some r = F123_18 N a0 a1_0 a1_1 a2 b3_0 b3_1 a4_0 a4_1 a4_2 a4_3 a4_4 a4_5 x2 x3 x4 v) ?_ ?_
                        · skip
                          refine AW_region ?_
                          refine AL_cons (LR_bin (at_tmp 65 _) (at_c (v' := U8 (3#8)) rfl) (eql_U8 a4_0 (3#8)) rfl) (sS (sA (sT1 rfl) sT0) sB0 sF0) ?_
                          refine AL_cons (LR_assign (at_tmp 83 _) rfl) (sS (sT1 rfl) sB0 sF0) ?_
                          refine AL_nil ?_
                          exact thenN (cutLeaf (v := a4_0 == (3#8)) hr (weakB ((sT rfl (sT rfl (sT rfl (sT rfl (sT rfl (sT rfl (sT rfl (sT rfl (sT rfl (sT rfl (sT rfl sT0)))))))))))) (sub_keep (sub_keep (sub_keep sub_nil))) rfl))
                        · rintro x19 hr
                          show AW Hfaa.prog _ _ _ ⟨[(0, .inl (tabp a0)), (2, .inl (is (U8 a2))), (3, .inr (.inl (3, 0))), (6, .inr (.inl (6, 0))), (9, .inr (.inl (9, 0))), (10, .inr (.inl (3, (a4_1 &&& (7#8)).toNat))), (11, .inl (is (U64 x2))), (12, .inl (is (U64 x3))), (13, .inl (is (Bl x4))), (65, .inl (is (U8 a4_0))), (80, .inl (is (Bl x19)))], [(3, gc 90 (ar U64 8 b3_0 ++ []) ([]) (k1 Sv) 1 b3_1), (6, pb 23 [is (U8 a1_0), is (U8 a1_1)]), (9, pb 96 [is (U8 a4_0), is (U8 a4_1), is (U8 a4_2), is (U8 a4_3), is (U64 a4_4), is (Sv a4_5)])]⟩
                          have hr : some r = F123_18 N a0 a1_0 a1_1 a2 b3_0 b3_1 a4_0 a4_1 a4_2 a4_3 a4_4 a4_5 x2 x3 x4 x19 := hr
                          refine AW_condT (b := x19) rfl (fun h => ?_) (fun h => ?_)
                          · have hr := hr.trans (cond_t h)
                            clear h
                            refine AW_skip ?_
                            exact thenN (cutLeaf (v := x19) hr (weakB ((sT rfl (sT rfl (sT rfl (sT rfl (sT rfl (sT rfl (sT rfl (sT rfl (sT rfl (sT rfl (sT rfl sT0)))))))))))) (sub_keep (sub_keep (sub_keep sub_nil))) rfl))
                          · have hr := hr.trans (cond_f h)
                            clear h
                            refine AW_region ?_
                            refine AL_cons (LR_bin (at_tmp 65 _) (at_c (v' := U8 (4#8)) rfl) (eql_U8 a4_0 (4#8)) rfl) (sS (sA (sT1 rfl) sT0) sB0 sF0) ?_
                            refine AL_cons (LR_assign (at_tmp 84 _) rfl) (sS (sT1 rfl) sB0 sF0) ?_
                            refine AL_nil ?_
                            exact thenN (cutLeaf (v := a4_0 == (4#8)) hr (weakB ((sT rfl (sT rfl (sT rfl (sT rfl (sT rfl (sT rfl (sT rfl (sT rfl (sT rfl (sT rfl (sT rfl sT0)))))))))))) (sub_keep (sub_keep (sub_keep sub_nil))) rfl))
              · rintro x6 hr
                show AW Hfaa.prog _ _ _ ⟨[(0, .inl (tabp a0)), (2, .inl (is (U8 a2))), (3, .inr (.inl (3, 0))), (6, .inr (.inl (6, 0))), (9, .inr (.inl (9, 0))), (10, .inr (.inl (3, (a4_1 &&& (7#8)).toNat))), (11, .inl (is (U64 x2))), (12, .inl (is (U64 x3))), (13, .inl (is (Bl x4))), (65, .inl (is (U8 a4_0))), (80, .inl (is (Bl x6)))], [(3, gc 90 (ar U64 8 b3_0 ++ []) ([]) (k1 Sv) 1 b3_1), (6, pb 23 [is (U8 a1_0), is (U8 a1_1)]), (9, pb 96 [is (U8 a4_0), is (U8 a4_1), is (U8 a4_2), is (U8 a4_3), is (U64 a4_4), is (Sv a4_5)])]⟩
                have hr : some r = F123_5 N a0 a1_0 a1_1 a2 b3_0 b3_1 a4_0 a4_1 a4_2 a4_3 a4_4 a4_5 x2 x3 x4 x6 := hr
                refine AW_condT (b := x6) rfl (fun h => ?_) (fun h => ?_)
                · have hr := hr.trans (cond_t h)
                  clear h
                  refine AW_region ?_
                  refine AL_cons (LR_move (at_tmp 10 _) rfl) (sS (sT1 rfl) sB0 sF0) ?_
                  refine AL_cons (LR_move (at_tmp 13 _) rfl) (sS (sT1 rfl) sB0 sF0) ?_
                  refine AL_cons (LR_fieldAddr (off := 0) (o := 0) (at_tmp 9 _) (fun b w => fa96_0 b 0 w) rfl) (sS (sT1 rfl) sB0 sF0) ?_
                  refine AL_cons (LR_load (at_tmp 87 _) na5 rfl rfl) (sS (sT1 rfl) (sB1 rfl) sF0) ?_
                  refine AL_cons (LR_bin (at_tmp 88 _) (at_c (v' := U8 (1#8)) rfl) (sub_U8 a4_0 (1#8)) rfl) (sS (sA (sT1 rfl) sT0) sB0 sF0) ?_
                  refine AL_cons (LR_move (at_tmp 11 _) rfl) (sS (sT1 rfl) sB0 sF0) ?_
                  refine AL_cons (LR_move (at_tmp 12 _) rfl) (sS (sT1 rfl) sB0 sF0) ?_
                  obtain ⟨y6, hy6, hr⟩ := bind_some hr
                  refine AL_cons (LR_call Hfaa.func235 rfl rfl (C235 N x4 (a4_0 - (1#8)) x2 x3 y6 hy6) (all_cons (at_tmp 86 _) (all_cons (at_tmp 89 _) (all_cons (at_tmp 90 _) (all_cons (at_tmp 91 _) all_nil)))) rfl) (sS (sA (sT1 rfl) (sA (sT1 rfl) (sA (sT1 rfl) (sA (sT1 rfl) sT0)))) sB0 sF0) ?_
                  refine AL_cons (LR_nilCheck (at_tmp 85 _) rfl) (sS (sT1 rfl) sB0 sF0) ?_
                  refine AL_opn 3 1002 (fun sv => (ar U64 8 b3_0 ++ (is ( sv) :: []))) rfl rfl (fun _ => by first | rfl | simp) ?_
                  intro sv2 hsv2
                  refine AL_cons (LR_storeA (at_tmp 93 _) (at_tmp 92 _) (cells_one (one_is rfl)) (onC (one_is rfl) onN) sz30 rfl (ble_dyn (lnA (lnC ln0)) (by have := (and7 a4_1); omega)) (stA (and7 a4_1))) (sS (sA (sT1 rfl) (sT1 rfl)) (sB1 rfl) sF0) ?_
                  refine AL_imp (imp_close (k := 3) (r := 1002) ((ar U64 8 (upd b3_0 ((a4_1 &&& (7#8)).toNat) y6) ++ [])) ([]) rfl (by first | rfl | simp) rfl rfl rfl rfl) ?_
                  refine AL_nil ?_
                  refine blN ?_
                  obtain rfl := Option.some.inj hr
                  exact ⟨res0 rfl , (sub_keep (sub_drop (sub_drop (sub_drop sub_nil))))⟩
                · have hr := hr.trans (cond_f h)
                  clear h
                  refine AW_cut (σ := Bool) (fun v => ⟨[(0, .inl (tabp a0)), (2, .inl (is (U8 a2))), (3, .inr (.inl (3, 0))), (6, .inr (.inl (6, 0))), (9, .inr (.inl (9, 0))), (10, .inr (.inl (3, (a4_1 &&& (7#8)).toNat))), (11, .inl (is (U64 x2))), (12, .inl (is (U64 x3))), (13, .inl (is (Bl x4))), (65, .inl (is (U8 a4_0))), (94, .inl (is (Bl v)))], [(3, gc 90 (ar U64 8 b3_0 ++ []) ([]) (k1 Sv) 1 b3_1), (6, pb 23 [is (U8 a1_0), is (U8 a1_1)]), (9, pb 96 [is (U8 a4_0), is (U8 a4_1), is (U8 a4_2), is (U8 a4_3), is (U64 a4_4), is (Sv a4_5)])]⟩) (fun v => some r = F123_6 N a0 a1_0 a1_1 a2 b3_0 b3_1 a4_0 a4_1 a4_2 a4_3 a4_4 a4_5 x2 x3 x4 v) ?_ ?_
                  · skip
                    refine AW_cut (σ := Bool) (fun v => ⟨[(0, .inl (tabp a0)), (2, .inl (is (U8 a2))), (3, .inr (.inl (3, 0))), (6, .inr (.inl (6, 0))), (9, .inr (.inl (9, 0))), (10, .inr (.inl (3, (a4_1 &&& (7#8)).toNat))), (11, .inl (is (U64 x2))), (12, .inl (is (U64 x3))), (13, .inl (is (Bl x4))), (65, .inl (is (U8 a4_0))), (94, .inl (is (Bl v)))], [(3, gc 90 (ar U64 8 b3_0 ++ []) ([]) (k1 Sv) 1 b3_1), (6, pb 23 [is (U8 a1_0), is (U8 a1_1)]), (9, pb 96 [is (U8 a4_0), is (U8 a4_1), is (U8 a4_2), is (U8 a4_3), is (U64 a4_4), is (Sv a4_5)])]⟩) (fun v => some r = F123_14 N a0 a1_0 a1_1 a2 b3_0 b3_1 a4_0 a4_1 a4_2 a4_3 a4_4 a4_5 x2 x3 x4 v) ?_ ?_
                    · skip
                      refine AW_region ?_
                      refine AL_cons (LR_bin (at_tmp 65 _) (at_c (v' := U8 (5#8)) rfl) (eql_U8 a4_0 (5#8)) rfl) (sS (sA (sT1 rfl) sT0) sB0 sF0) ?_
                      refine AL_cons (LR_assign (at_tmp 95 _) rfl) (sS (sT1 rfl) sB0 sF0) ?_
                      refine AL_nil ?_
                      exact thenN (cutLeaf (v := a4_0 == (5#8)) hr (weakB ((sT rfl (sT rfl (sT rfl (sT rfl (sT rfl (sT rfl (sT rfl (sT rfl (sT rfl (sT rfl (sT rfl sT0)))))))))))) (sub_keep (sub_keep (sub_keep sub_nil))) rfl))
                    · rintro x15 hr
                      show AW Hfaa.prog _ _ _ ⟨[(0, .inl (tabp a0)), (2, .inl (is (U8 a2))), (3, .inr (.inl (3, 0))), (6, .inr (.inl (6, 0))), (9, .inr (.inl (9, 0))), (10, .inr (.inl (3, (a4_1 &&& (7#8)).toNat))), (11, .inl (is (U64 x2))), (12, .inl (is (U64 x3))), (13, .inl (is (Bl x4))), (65, .inl (is (U8 a4_0))), (94, .inl (is (Bl x15)))], [(3, gc 90 (ar U64 8 b3_0 ++ []) ([]) (k1 Sv) 1 b3_1), (6, pb 23 [is (U8 a1_0), is (U8 a1_1)]), (9, pb 96 [is (U8 a4_0), is (U8 a4_1), is (U8 a4_2), is (U8 a4_3), is (U64 a4_4), is (Sv a4_5)])]⟩
                      have hr : some r = F123_14 N a0 a1_0 a1_1 a2 b3_0 b3_1 a4_0 a4_1 a4_2 a4_3 a4_4 a4_5 x2 x3 x4 x15 := hr
                      refine AW_condT (b := x15) rfl (fun h => ?_) (fun h => ?_)
                      · have hr := hr.trans (cond_t h)
                        clear h
                        refine AW_skip ?_
                        exact thenN (cutLeaf (v := x15) hr (weakB ((sT rfl (sT rfl (sT rfl (sT rfl (sT rfl (sT rfl (sT rfl (sT rfl (sT rfl (sT rfl (sT rfl sT0)))))))))))) (sub_keep (sub_keep (sub_keep sub_nil))) rfl))
                      · have hr := hr.trans (cond_f h)
                        clear h
                        refine AW_cut (σ := Bool) (fun v => ⟨[(0, .inl (tabp a0)), (2, .inl (is (U8 a2))), (3, .inr (.inl (3, 0))), (6, .inr (.inl (6, 0))), (9, .inr (.inl (9, 0))), (10, .inr (.inl (3, (a4_1 &&& (7#8)).toNat))), (11, .inl (is (U64 x2))), (12, .inl (is (U64 x3))), (13, .inl (is (Bl x4))), (65, .inl (is (U8 a4_0))), (94, .inl (is (Bl v)))], [(3, gc 90 (ar U64 8 b3_0 ++ []) ([]) (k1 Sv) 1 b3_1), (6, pb 23 [is (U8 a1_0), is (U8 a1_1)]), (9, pb 96 [is (U8 a4_0), is (U8 a4_1), is (U8 a4_2), is (U8 a4_3), is (U64 a4_4), is (Sv a4_5)])]⟩) (fun v => some r = F123_15 N a0 a1_0 a1_1 a2 b3_0 b3_1 a4_0 a4_1 a4_2 a4_3 a4_4 a4_5 x2 x3 x4 v) ?_ ?_
                        · skip
                          refine AW_region ?_
                          refine AL_cons (LR_bin (at_tmp 65 _) (at_c (v' := U8 (6#8)) rfl) (eql_U8 a4_0 (6#8)) rfl) (sS (sA (sT1 rfl) sT0) sB0 sF0) ?_
                          refine AL_cons (LR_assign (at_tmp 96 _) rfl) (sS (sT1 rfl) sB0 sF0) ?_
                          refine AL_nil ?_
                          exact thenN (cutLeaf (v := a4_0 == (6#8)) hr (weakB ((sT rfl (sT rfl (sT rfl (sT rfl (sT rfl (sT rfl (sT rfl (sT rfl (sT rfl (sT rfl (sT rfl sT0)))))))))))) (sub_keep (sub_keep (sub_keep sub_nil))) rfl))
                        · rintro x16 hr
                          show AW Hfaa.prog _ _ _ ⟨[(0, .inl (tabp a0)), (2, .inl (is (U8 a2))), (3, .inr (.inl (3, 0))), (6, .inr (.inl (6, 0))), (9, .inr (.inl (9, 0))), (10, .inr (.inl (3, (a4_1 &&& (7#8)).toNat))), (11, .inl (is (U64 x2))), (12, .inl (is (U64 x3))), (13, .inl (is (Bl x4))), (65, .inl (is (U8 a4_0))), (94, .inl (is (Bl x16)))], [(3, gc 90 (ar U64 8 b3_0 ++ []) ([]) (k1 Sv) 1 b3_1), (6, pb 23 [is (U8 a1_0), is (U8 a1_1)]), (9, pb 96 [is (U8 a4_0), is (U8 a4_1), is (U8 a4_2), is (U8 a4_3), is (U64 a4_4), is (Sv a4_5)])]⟩
                          have hr : some r = F123_15 N a0 a1_0 a1_1 a2 b3_0 b3_1 a4_0 a4_1 a4_2 a4_3 a4_4 a4_5 x2 x3 x4 x16 := hr
                          refine AW_condT (b := x16) rfl (fun h => ?_) (fun h => ?_)
                          · have hr := hr.trans (cond_t h)
                            clear h
                            refine AW_skip ?_
                            exact thenN (cutLeaf (v := x16) hr (weakB ((sT rfl (sT rfl (sT rfl (sT rfl (sT rfl (sT rfl (sT rfl (sT rfl (sT rfl (sT rfl (sT rfl sT0)))))))))))) (sub_keep (sub_keep (sub_keep sub_nil))) rfl))
                          · have hr := hr.trans (cond_f h)
                            clear h
                            refine AW_region ?_
                            refine AL_cons (LR_bin (at_tmp 65 _) (at_c (v' := U8 (7#8)) rfl) (eql_U8 a4_0 (7#8)) rfl) (sS (sA (sT1 rfl) sT0) sB0 sF0) ?_
                            refine AL_cons (LR_assign (at_tmp 97 _) rfl) (sS (sT1 rfl) sB0 sF0) ?_
                            refine AL_nil ?_
                            exact thenN (cutLeaf (v := a4_0 == (7#8)) hr (weakB ((sT rfl (sT rfl (sT rfl (sT rfl (sT rfl (sT rfl (sT rfl (sT rfl (sT rfl (sT rfl (sT rfl sT0)))))))))))) (sub_keep (sub_keep (sub_keep sub_nil))) rfl))
                  · rintro x7 hr
                    show AW Hfaa.prog _ _ _ ⟨[(0, .inl (tabp a0)), (2, .inl (is (U8 a2))), (3, .inr (.inl (3, 0))), (6, .inr (.inl (6, 0))), (9, .inr (.inl (9, 0))), (10, .inr (.inl (3, (a4_1 &&& (7#8)).toNat))), (11, .inl (is (U64 x2))), (12, .inl (is (U64 x3))), (13, .inl (is (Bl x4))), (65, .inl (is (U8 a4_0))), (94, .inl (is (Bl x7)))], [(3, gc 90 (ar U64 8 b3_0 ++ []) ([]) (k1 Sv) 1 b3_1), (6, pb 23 [is (U8 a1_0), is (U8 a1_1)]), (9, pb 96 [is (U8 a4_0), is (U8 a4_1), is (U8 a4_2), is (U8 a4_3), is (U64 a4_4), is (Sv a4_5)])]⟩
                    have hr : some r = F123_6 N a0 a1_0 a1_1 a2 b3_0 b3_1 a4_0 a4_1 a4_2 a4_3 a4_4 a4_5 x2 x3 x4 x7 := hr
                    refine AW_condT (b := x7) rfl (fun h => ?_) (fun h => ?_)
                    · have hr := hr.trans (cond_t h)
                      clear h
                      refine AW_opn 3 1003 (fun sv => (ar U64 8 b3_0 ++ (is ( sv) :: []))) rfl rfl (fun _ => by first | rfl | simp) ?_
                      intro sv3 hsv3
                      obtain ⟨y9, hy9, hr⟩ := lt_some hr
                      obtain ⟨y10, hy10, hr⟩ := bind_some hr
                      refine AW_post ?_
                      refine AW_draw mixed
                        (lrC (LR_move (at_tmp 10 _) rfl)
                        (lrC (LR_move (at_tmp 13 _) rfl)
                        (lrC (LR_fieldAddr (off := 0) (o := 0) (at_tmp 9 _) (fun b w => fa96_0 b 0 w) rfl)
                        (lrC (LR_load (at_tmp 100 _) na5 rfl rfl)
                        (lrC (LR_loads (at_tmp 6 _) ag23 sz23 rfl rfl rfl)
                        (lrC (LR_move (at_tmp 11 _) rfl)
                        (lrC (LR_call Hfaa.func234 rfl rfl (C234 a1_0 a1_1 x2 y9 hy9) (all_cons (at_tmp 102 _) (all_cons (at_tmp 103 _) all_nil)) rfl)
                        (lrC (LR_call Hfaa.func236 rfl rfl (C236 N x4 a4_0 y9 y10 hy10) (all_cons (at_tmp 99 _) (all_cons (at_tmp 101 _) (all_cons (at_tmp 104 _) all_nil))) rfl)
                        (lrC (LR_nilCheck (at_tmp 98 _) rfl)
                        (lrC (LR_storeA (at_tmp 106 _) (at_tmp 105 _) (cells_one (one_is rfl)) (onC (one_is rfl) onN) sz30 rfl (ble_dyn (lnA (lnC ln0)) (by have := (and7 a4_1); omega)) (stA (and7 a4_1)))
                        lrN))))))))))
                        (by kernel_rfl)
                        (saC (sS (sT1 rfl) sB0 sF0) (saC (sS (sT1 rfl) sB0 sF0) (saC (sS (sT1 rfl) sB0 sF0) (saC (sS (sT1 rfl) (sB1 rfl) sF0) (saC (sS (sT1 rfl) (sB1 rfl) sF0) (saC (sS (sT1 rfl) sB0 sF0) (saC (sS (sA (sT1 rfl) (sA (sT1 rfl) sT0)) sB0 sF0) (saC (sS (sA (sT1 rfl) (sA (sT1 rfl) (sA (sT1 rfl) sT0))) sB0 sF0) (saC (sS (sT1 rfl) sB0 sF0) (saC (sS (sA (sT1 rfl) (sT1 rfl)) (sB1 rfl) sF0) saN)))))))))) ?_
                      refine ⟨_, (imp_close (k := 3) (r := 1003) ((ar U64 8 (upd b3_0 ((a4_1 &&& (7#8)).toNat) y10) ++ [])) ([]) rfl (by first | rfl | simp) rfl rfl rfl rfl), ?_⟩
                      refine blN ?_
                      obtain rfl := Option.some.inj hr
                      exact ⟨res0 rfl , (sub_keep (sub_drop (sub_drop (sub_drop sub_nil))))⟩
                    · have hr := hr.trans (cond_f h)
                      clear h
                      refine AW_cut (σ := Bool) (fun v => ⟨[(0, .inl (tabp a0)), (2, .inl (is (U8 a2))), (3, .inr (.inl (3, 0))), (6, .inr (.inl (6, 0))), (9, .inr (.inl (9, 0))), (10, .inr (.inl (3, (a4_1 &&& (7#8)).toNat))), (11, .inl (is (U64 x2))), (12, .inl (is (U64 x3))), (13, .inl (is (Bl x4))), (65, .inl (is (U8 a4_0))), (107, .inl (is (Bl v)))], [(3, gc 90 (ar U64 8 b3_0 ++ []) ([]) (k1 Sv) 1 b3_1), (6, pb 23 [is (U8 a1_0), is (U8 a1_1)]), (9, pb 96 [is (U8 a4_0), is (U8 a4_1), is (U8 a4_2), is (U8 a4_3), is (U64 a4_4), is (Sv a4_5)])]⟩) (fun v => some r = F123_7 N a0 a1_0 a1_1 a2 b3_0 b3_1 a4_0 a4_1 a4_2 a4_3 a4_4 a4_5 x2 x3 x4 v) ?_ ?_
                      · skip
                        refine AW_region ?_
                        refine AL_cons (LR_bin (at_tmp 65 _) (at_c (v' := U8 (8#8)) rfl) (eql_U8 a4_0 (8#8)) rfl) (sS (sA (sT1 rfl) sT0) sB0 sF0) ?_
                        refine AL_cons (LR_assign (at_tmp 108 _) rfl) (sS (sT1 rfl) sB0 sF0) ?_
                        refine AL_nil ?_
                        exact thenN (cutLeaf (v := a4_0 == (8#8)) hr (weakB ((sT rfl (sT rfl (sT rfl (sT rfl (sT rfl (sT rfl (sT rfl (sT rfl (sT rfl (sT rfl (sT rfl sT0)))))))))))) (sub_keep (sub_keep (sub_keep sub_nil))) rfl))
                      · rintro x8 hr
                        show AW Hfaa.prog _ _ _ ⟨[(0, .inl (tabp a0)), (2, .inl (is (U8 a2))), (3, .inr (.inl (3, 0))), (6, .inr (.inl (6, 0))), (9, .inr (.inl (9, 0))), (10, .inr (.inl (3, (a4_1 &&& (7#8)).toNat))), (11, .inl (is (U64 x2))), (12, .inl (is (U64 x3))), (13, .inl (is (Bl x4))), (65, .inl (is (U8 a4_0))), (107, .inl (is (Bl x8)))], [(3, gc 90 (ar U64 8 b3_0 ++ []) ([]) (k1 Sv) 1 b3_1), (6, pb 23 [is (U8 a1_0), is (U8 a1_1)]), (9, pb 96 [is (U8 a4_0), is (U8 a4_1), is (U8 a4_2), is (U8 a4_3), is (U64 a4_4), is (Sv a4_5)])]⟩
                        have hr : some r = F123_7 N a0 a1_0 a1_1 a2 b3_0 b3_1 a4_0 a4_1 a4_2 a4_3 a4_4 a4_5 x2 x3 x4 x8 := hr
                        refine AW_condT (b := x8) rfl (fun h => ?_) (fun h => ?_)
                        · have hr := hr.trans (cond_t h)
                          clear h
                          refine AW_opn 3 1004 (fun sv => (ar U64 8 b3_0 ++ (is ( sv) :: []))) rfl rfl (fun _ => by first | rfl | simp) ?_
                          intro sv4 hsv4
                          obtain ⟨y11, hy11, hr⟩ := lt_some hr
                          obtain ⟨hg1, hr⟩ := guard_some hr
                          refine AW_post ?_
                          refine AW_drawV 10 1004 mixed (fun sv5 => [(⟨[(109, .inr (.inl (3, 0)))], [], []⟩, ⟨[(120, .inr (.inl (3, 0)))], []⟩), (⟨[(120, .inr (.inl (3, 0)))], [], []⟩, ⟨[(121, .inr (.inl (3, 8)))], []⟩), (⟨[(121, .inr (.inl (3, 8))), (119, .inl (is ( sv5)))], [(3, pb 90 (ar U64 8 b3_0 ++ (is ( sv4) :: [])))], []⟩, ⟨[], [(3, pb 90 (ar U64 8 b3_0 ++ (is ( sv5) :: [])))]⟩)])
                            (lrC (LR_move (at_tmp 3 _) rfl)
                            (lrC (LR_move (at_tmp 3 _) rfl)
                            (lrC (LR_nilCheck (at_tmp 110 _) rfl)
                            (lrC (LR_fieldAddr (off := 0) (o := 8) (at_tmp 111 _) (fun b w => fa90_1 b 0 w) rfl)
                            (lrC (LR_load (at_tmp 112 _) na57 (gP g0) rfl)
                            (lrC (LR_move (at_tmp 13 _) rfl)
                            (lrC (LR_move (at_tmp 11 _) rfl)
                            (lrC (LR_move (at_tmp 12 _) rfl)
                            (lrC (LR_call Hfaa.func237 rfl rfl (C237 x4 x2 x3 y11 hy11) (all_cons (at_tmp 114 _) (all_cons (at_tmp 115 _) (all_cons (at_tmp 116 _) all_nil))) rfl)
                            (lrC (LR_bs1 Hfaa.underlying57 el9 (fun _ => rfl) (at_tmp 117 _) rfl)
                            lrN))))))))))
                            rfl
                            (app_opk (K := (k1 Sv)) (r := 1004) (z := b3_1) (u := y11) Hfaa.underlying57 eN9 k1_len (k1_cell fun _ => rfl) (at_tmp 113 _) (at_tmp 118 _) (oneAt_k1 rfl) (of_decide_eq_true hg1) rfl rfl)
                            (fun sv5 hsv5 => (lrC (LR_nilCheck (at_tmp 109 _) rfl)
                            (lrC (LR_fieldAddr (off := 0) (o := 8) (at_tmp 120 _) (fun b w => fa90_1 b 0 w) rfl)
                            (lrC (LR_storeA (at_tmp 121 _) (at_tmp 119 _) (cells_one (one_is hsv5)) (onC (one_is hsv5) onN) sz57 rfl (bleLen (lnA (lnC ln0)) rfl) (stP st0))
                            lrN))))
                            (fun sv5 hsv5 => by kernel_rfl)
                            (fun sv5 hsv5 => (saC (sS (sT1 rfl) sB0 sF0) (saC (sS (sT1 rfl) sB0 sF0) (saC (sS (sT1 rfl) sB0 sF0) (saC (sS (sT1 rfl) sB0 sF0) (saC (sS (sT1 rfl) (sB1 rfl) sF0) (saC (sS (sT1 rfl) sB0 sF0) (saC (sS (sT1 rfl) sB0 sF0) (saC (sS (sT1 rfl) sB0 sF0) (saC (sS (sA (sT1 rfl) (sA (sT1 rfl) (sA (sT1 rfl) sT0))) sB0 sF0) (saC (sS (sT1 rfl) sB0 sF0) (saC (sS (sA (sT1 rfl) (sT1 rfl)) (sB1 rfl) sF0) (saC (sS (sT1 rfl) sB0 sF0) (saC (sS (sT1 rfl) sB0 sF0) (saC (sS (sA (sT1 rfl) (sT1 rfl)) (sB1 rfl) sF0) saN)))))))))))))))
                            (by kernel_rfl) rfl (fun sv5 hsv5 => by kernel_rfl) ?_
                          intro sv5 hsv5
                          refine ⟨_, (imp_close (k := 3) (r := 1004) (ar U64 8 b3_0 ++ []) ([]) rfl (by first | rfl | simp) rfl rfl rfl rfl), ?_⟩
                          refine blN ?_
                          obtain rfl := Option.some.inj hr
                          exact ⟨res0 rfl , (sub_keep (sub_drop (sub_drop (sub_drop sub_nil))))⟩
                        · have hr := hr.trans (cond_f h)
                          clear h
                          refine AW_cut (σ := Bool) (fun v => ⟨[(0, .inl (tabp a0)), (2, .inl (is (U8 a2))), (3, .inr (.inl (3, 0))), (6, .inr (.inl (6, 0))), (9, .inr (.inl (9, 0))), (10, .inr (.inl (3, (a4_1 &&& (7#8)).toNat))), (11, .inl (is (U64 x2))), (13, .inl (is (Bl x4))), (65, .inl (is (U8 a4_0))), (122, .inl (is (Bl v)))], [(3, gc 90 (ar U64 8 b3_0 ++ []) ([]) (k1 Sv) 1 b3_1), (6, pb 23 [is (U8 a1_0), is (U8 a1_1)]), (9, pb 96 [is (U8 a4_0), is (U8 a4_1), is (U8 a4_2), is (U8 a4_3), is (U64 a4_4), is (Sv a4_5)])]⟩) (fun v => some r = F123_8 N a0 a1_0 a1_1 a2 b3_0 b3_1 a4_0 a4_1 a4_2 a4_3 a4_4 a4_5 x2 x4 v) ?_ ?_
                          · skip
                            refine AW_cut (σ := Bool) (fun v => ⟨[(0, .inl (tabp a0)), (2, .inl (is (U8 a2))), (3, .inr (.inl (3, 0))), (6, .inr (.inl (6, 0))), (9, .inr (.inl (9, 0))), (10, .inr (.inl (3, (a4_1 &&& (7#8)).toNat))), (11, .inl (is (U64 x2))), (13, .inl (is (Bl x4))), (65, .inl (is (U8 a4_0))), (122, .inl (is (Bl v)))], [(3, gc 90 (ar U64 8 b3_0 ++ []) ([]) (k1 Sv) 1 b3_1), (6, pb 23 [is (U8 a1_0), is (U8 a1_1)]), (9, pb 96 [is (U8 a4_0), is (U8 a4_1), is (U8 a4_2), is (U8 a4_3), is (U64 a4_4), is (Sv a4_5)])]⟩) (fun v => some r = F123_13 N a0 a1_0 a1_1 a2 b3_0 b3_1 a4_0 a4_1 a4_2 a4_3 a4_4 a4_5 x2 x4 v) ?_ ?_
                            · skip
                              refine AW_region ?_
                              refine AL_cons (LR_bin (at_tmp 65 _) (at_c (v' := U8 (9#8)) rfl) (eql_U8 a4_0 (9#8)) rfl) (sS (sA (sT1 rfl) sT0) sB0 sF0) ?_
                              refine AL_cons (LR_assign (at_tmp 123 _) rfl) (sS (sT1 rfl) sB0 sF0) ?_
                              refine AL_nil ?_
                              exact thenN (cutLeaf (v := a4_0 == (9#8)) hr (weakB ((sT rfl (sT rfl (sT rfl (sT rfl (sT rfl (sT rfl (sT rfl (sT rfl (sT rfl (sT rfl sT0))))))))))) (sub_keep (sub_keep (sub_keep sub_nil))) rfl))
                            · rintro x14 hr
                              show AW Hfaa.prog _ _ _ ⟨[(0, .inl (tabp a0)), (2, .inl (is (U8 a2))), (3, .inr (.inl (3, 0))), (6, .inr (.inl (6, 0))), (9, .inr (.inl (9, 0))), (10, .inr (.inl (3, (a4_1 &&& (7#8)).toNat))), (11, .inl (is (U64 x2))), (13, .inl (is (Bl x4))), (65, .inl (is (U8 a4_0))), (122, .inl (is (Bl x14)))], [(3, gc 90 (ar U64 8 b3_0 ++ []) ([]) (k1 Sv) 1 b3_1), (6, pb 23 [is (U8 a1_0), is (U8 a1_1)]), (9, pb 96 [is (U8 a4_0), is (U8 a4_1), is (U8 a4_2), is (U8 a4_3), is (U64 a4_4), is (Sv a4_5)])]⟩
                              have hr : some r = F123_13 N a0 a1_0 a1_1 a2 b3_0 b3_1 a4_0 a4_1 a4_2 a4_3 a4_4 a4_5 x2 x4 x14 := hr
                              refine AW_condT (b := x14) rfl (fun h => ?_) (fun h => ?_)
                              · have hr := hr.trans (cond_t h)
                                clear h
                                refine AW_skip ?_
                                exact thenN (cutLeaf (v := x14) hr (weakB ((sT rfl (sT rfl (sT rfl (sT rfl (sT rfl (sT rfl (sT rfl (sT rfl (sT rfl (sT rfl sT0))))))))))) (sub_keep (sub_keep (sub_keep sub_nil))) rfl))
                              · have hr := hr.trans (cond_f h)
                                clear h
                                refine AW_region ?_
                                refine AL_cons (LR_bin (at_tmp 65 _) (at_c (v' := U8 (10#8)) rfl) (eql_U8 a4_0 (10#8)) rfl) (sS (sA (sT1 rfl) sT0) sB0 sF0) ?_
                                refine AL_cons (LR_assign (at_tmp 124 _) rfl) (sS (sT1 rfl) sB0 sF0) ?_
                                refine AL_nil ?_
                                exact thenN (cutLeaf (v := a4_0 == (10#8)) hr (weakB ((sT rfl (sT rfl (sT rfl (sT rfl (sT rfl (sT rfl (sT rfl (sT rfl (sT rfl (sT rfl sT0))))))))))) (sub_keep (sub_keep (sub_keep sub_nil))) rfl))
                          · rintro x9 hr
                            show AW Hfaa.prog _ _ _ ⟨[(0, .inl (tabp a0)), (2, .inl (is (U8 a2))), (3, .inr (.inl (3, 0))), (6, .inr (.inl (6, 0))), (9, .inr (.inl (9, 0))), (10, .inr (.inl (3, (a4_1 &&& (7#8)).toNat))), (11, .inl (is (U64 x2))), (13, .inl (is (Bl x4))), (65, .inl (is (U8 a4_0))), (122, .inl (is (Bl x9)))], [(3, gc 90 (ar U64 8 b3_0 ++ []) ([]) (k1 Sv) 1 b3_1), (6, pb 23 [is (U8 a1_0), is (U8 a1_1)]), (9, pb 96 [is (U8 a4_0), is (U8 a4_1), is (U8 a4_2), is (U8 a4_3), is (U64 a4_4), is (Sv a4_5)])]⟩
                            have hr : some r = F123_8 N a0 a1_0 a1_1 a2 b3_0 b3_1 a4_0 a4_1 a4_2 a4_3 a4_4 a4_5 x2 x4 x9 := hr
                            refine AW_condT (b := x9) rfl (fun h => ?_) (fun h => ?_)
                            · have hr := hr.trans (cond_t h)
                              clear h
                              refine AW_region ?_
                              refine AL_cons (LR_move (at_tmp 10 _) rfl) (sS (sT1 rfl) sB0 sF0) ?_
                              refine AL_cons (LR_move (at_tmp 13 _) rfl) (sS (sT1 rfl) sB0 sF0) ?_
                              refine AL_cons (LR_fieldAddr (off := 0) (o := 0) (at_tmp 9 _) (fun b w => fa96_0 b 0 w) rfl) (sS (sT1 rfl) sB0 sF0) ?_
                              refine AL_cons (LR_load (at_tmp 127 _) na5 rfl rfl) (sS (sT1 rfl) (sB1 rfl) sF0) ?_
                              refine AL_cons (LR_bin (at_tmp 128 _) (at_c (v' := U8 (9#8)) rfl) (eql_U8 a4_0 (9#8)) rfl) (sS (sA (sT1 rfl) sT0) sB0 sF0) ?_
                              refine AL_cons (LR_fieldAddr (off := 0) (o := 4) (at_tmp 9 _) (fun b w => fa96_4 b 0 w) rfl) (sS (sT1 rfl) sB0 sF0) ?_
                              refine AL_cons (LR_load (at_tmp 130 _) na30 rfl rfl) (sS (sT1 rfl) (sB1 rfl) sF0) ?_
                              obtain ⟨y12, hy12, hr⟩ := bind_some hr
                              refine AL_cons (LR_call Hfaa.func238 rfl rfl (C238 N x4 (a4_0 == (9#8)) a4_4 y12 hy12) (all_cons (at_tmp 126 _) (all_cons (at_tmp 129 _) (all_cons (at_tmp 131 _) all_nil))) rfl) (sS (sA (sT1 rfl) (sA (sT1 rfl) (sA (sT1 rfl) sT0))) sB0 sF0) ?_
                              refine AL_cons (LR_nilCheck (at_tmp 125 _) rfl) (sS (sT1 rfl) sB0 sF0) ?_
                              refine AL_opn 3 1005 (fun sv => (ar U64 8 b3_0 ++ (is ( sv) :: []))) rfl rfl (fun _ => by first | rfl | simp) ?_
                              intro sv6 hsv6
                              refine AL_cons (LR_storeA (at_tmp 133 _) (at_tmp 132 _) (cells_one (one_is rfl)) (onC (one_is rfl) onN) sz30 rfl (ble_dyn (lnA (lnC ln0)) (by have := (and7 a4_1); omega)) (stA (and7 a4_1))) (sS (sA (sT1 rfl) (sT1 rfl)) (sB1 rfl) sF0) ?_
                              refine AL_imp (imp_close (k := 3) (r := 1005) ((ar U64 8 (upd b3_0 ((a4_1 &&& (7#8)).toNat) y12) ++ [])) ([]) rfl (by first | rfl | simp) rfl rfl rfl rfl) ?_
                              refine AL_nil ?_
                              refine blN ?_
                              obtain rfl := Option.some.inj hr
                              exact ⟨res0 rfl , (sub_keep (sub_drop (sub_drop (sub_drop sub_nil))))⟩
                            · have hr := hr.trans (cond_f h)
                              clear h
                              refine AW_cut (σ := Bool) (fun v => ⟨[(0, .inl (tabp a0)), (2, .inl (is (U8 a2))), (3, .inr (.inl (3, 0))), (6, .inr (.inl (6, 0))), (9, .inr (.inl (9, 0))), (10, .inr (.inl (3, (a4_1 &&& (7#8)).toNat))), (11, .inl (is (U64 x2))), (13, .inl (is (Bl x4))), (65, .inl (is (U8 a4_0))), (134, .inl (is (Bl v)))], [(3, gc 90 (ar U64 8 b3_0 ++ []) ([]) (k1 Sv) 1 b3_1), (6, pb 23 [is (U8 a1_0), is (U8 a1_1)]), (9, pb 96 [is (U8 a4_0), is (U8 a4_1), is (U8 a4_2), is (U8 a4_3), is (U64 a4_4), is (Sv a4_5)])]⟩) (fun v => some r = F123_9 N a0 a1_0 a1_1 a2 b3_0 b3_1 a4_0 a4_1 a4_2 a4_3 a4_4 a4_5 x2 x4 v) ?_ ?_
                              · skip
                                refine AW_region ?_
                                refine AL_cons (LR_bin (at_tmp 65 _) (at_c (v' := U8 (11#8)) rfl) (eql_U8 a4_0 (11#8)) rfl) (sS (sA (sT1 rfl) sT0) sB0 sF0) ?_
                                refine AL_cons (LR_assign (at_tmp 135 _) rfl) (sS (sT1 rfl) sB0 sF0) ?_
                                refine AL_nil ?_
                                exact thenN (cutLeaf (v := a4_0 == (11#8)) hr (weakB ((sT rfl (sT rfl (sT rfl (sT rfl (sT rfl (sT rfl (sT rfl (sT rfl (sT rfl (sT rfl sT0))))))))))) (sub_keep (sub_keep (sub_keep sub_nil))) rfl))
                              · rintro x10 hr
                                show AW Hfaa.prog _ _ _ ⟨[(0, .inl (tabp a0)), (2, .inl (is (U8 a2))), (3, .inr (.inl (3, 0))), (6, .inr (.inl (6, 0))), (9, .inr (.inl (9, 0))), (10, .inr (.inl (3, (a4_1 &&& (7#8)).toNat))), (11, .inl (is (U64 x2))), (13, .inl (is (Bl x4))), (65, .inl (is (U8 a4_0))), (134, .inl (is (Bl x10)))], [(3, gc 90 (ar U64 8 b3_0 ++ []) ([]) (k1 Sv) 1 b3_1), (6, pb 23 [is (U8 a1_0), is (U8 a1_1)]), (9, pb 96 [is (U8 a4_0), is (U8 a4_1), is (U8 a4_2), is (U8 a4_3), is (U64 a4_4), is (Sv a4_5)])]⟩
                                have hr : some r = F123_9 N a0 a1_0 a1_1 a2 b3_0 b3_1 a4_0 a4_1 a4_2 a4_3 a4_4 a4_5 x2 x4 x10 := hr
                                refine AW_condT (b := x10) rfl (fun h => ?_) (fun h => ?_)
                                · have hr := hr.trans (cond_t h)
                                  clear h
                                  refine AW_opn 3 1006 (fun sv => (ar U64 8 b3_0 ++ (is ( sv) :: []))) rfl rfl (fun _ => by first | rfl | simp) ?_
                                  intro sv7 hsv7
                                  obtain ⟨y13, hy13, hr⟩ := bind_some hr
                                  obtain ⟨hg2, hr⟩ := guard_some hr
                                  refine AW_post ?_
                                  refine AW_drawV 9 1006 mixed (fun sv8 => [(⟨[(136, .inr (.inl (3, 0)))], [], []⟩, ⟨[(146, .inr (.inl (3, 0)))], []⟩), (⟨[(146, .inr (.inl (3, 0)))], [], []⟩, ⟨[(147, .inr (.inl (3, 8)))], []⟩), (⟨[(147, .inr (.inl (3, 8))), (145, .inl (is ( sv8)))], [(3, pb 90 (ar U64 8 b3_0 ++ (is ( sv7) :: [])))], []⟩, ⟨[], [(3, pb 90 (ar U64 8 b3_0 ++ (is ( sv8) :: [])))]⟩)])
                                    (lrC (LR_move (at_tmp 3 _) rfl)
                                    (lrC (LR_move (at_tmp 3 _) rfl)
                                    (lrC (LR_nilCheck (at_tmp 137 _) rfl)
                                    (lrC (LR_fieldAddr (off := 0) (o := 8) (at_tmp 138 _) (fun b w => fa90_1 b 0 w) rfl)
                                    (lrC (LR_load (at_tmp 139 _) na57 (gP g0) rfl)
                                    (lrC (LR_move (at_tmp 13 _) rfl)
                                    (lrC (LR_move (at_tmp 11 _) rfl)
                                    (lrC (LR_call Hfaa.func239 rfl rfl (C239 N x4 x2 y13 hy13) (all_cons (at_tmp 141 _) (all_cons (at_tmp 142 _) all_nil)) rfl)
                                    (lrC (LR_bs1 Hfaa.underlying57 el9 (fun _ => rfl) (at_tmp 143 _) rfl)
                                    lrN)))))))))
                                    rfl
                                    (app_opk (K := (k1 Sv)) (r := 1006) (z := b3_1) (u := y13) Hfaa.underlying57 eN9 k1_len (k1_cell fun _ => rfl) (at_tmp 140 _) (at_tmp 144 _) (oneAt_k1 rfl) (of_decide_eq_true hg2) rfl rfl)
                                    (fun sv8 hsv8 => (lrC (LR_nilCheck (at_tmp 136 _) rfl)
                                    (lrC (LR_fieldAddr (off := 0) (o := 8) (at_tmp 146 _) (fun b w => fa90_1 b 0 w) rfl)
                                    (lrC (LR_storeA (at_tmp 147 _) (at_tmp 145 _) (cells_one (one_is hsv8)) (onC (one_is hsv8) onN) sz57 rfl (bleLen (lnA (lnC ln0)) rfl) (stP st0))
                                    lrN))))
                                    (fun sv8 hsv8 => by kernel_rfl)
                                    (fun sv8 hsv8 => (saC (sS (sT1 rfl) sB0 sF0) (saC (sS (sT1 rfl) sB0 sF0) (saC (sS (sT1 rfl) sB0 sF0) (saC (sS (sT1 rfl) sB0 sF0) (saC (sS (sT1 rfl) (sB1 rfl) sF0) (saC (sS (sT1 rfl) sB0 sF0) (saC (sS (sT1 rfl) sB0 sF0) (saC (sS (sA (sT1 rfl) (sA (sT1 rfl) sT0)) sB0 sF0) (saC (sS (sT1 rfl) sB0 sF0) (saC (sS (sA (sT1 rfl) (sT1 rfl)) (sB1 rfl) sF0) (saC (sS (sT1 rfl) sB0 sF0) (saC (sS (sT1 rfl) sB0 sF0) (saC (sS (sA (sT1 rfl) (sT1 rfl)) (sB1 rfl) sF0) saN))))))))))))))
                                    (by kernel_rfl) rfl (fun sv8 hsv8 => by kernel_rfl) ?_
                                  intro sv8 hsv8
                                  refine ⟨_, (imp_close (k := 3) (r := 1006) (ar U64 8 b3_0 ++ []) ([]) rfl (by first | rfl | simp) rfl rfl rfl rfl), ?_⟩
                                  refine blN ?_
                                  obtain rfl := Option.some.inj hr
                                  exact ⟨res0 rfl , (sub_keep (sub_drop (sub_drop (sub_drop sub_nil))))⟩
                                · have hr := hr.trans (cond_f h)
                                  clear h
                                  refine AW_cut (σ := Bool) (fun v => ⟨[(0, .inl (tabp a0)), (2, .inl (is (U8 a2))), (3, .inr (.inl (3, 0))), (6, .inr (.inl (6, 0))), (9, .inr (.inl (9, 0))), (10, .inr (.inl (3, (a4_1 &&& (7#8)).toNat))), (11, .inl (is (U64 x2))), (65, .inl (is (U8 a4_0))), (148, .inl (is (Bl v)))], [(3, gc 90 (ar U64 8 b3_0 ++ []) ([]) (k1 Sv) 1 b3_1), (6, pb 23 [is (U8 a1_0), is (U8 a1_1)]), (9, pb 96 [is (U8 a4_0), is (U8 a4_1), is (U8 a4_2), is (U8 a4_3), is (U64 a4_4), is (Sv a4_5)])]⟩) (fun v => some r = F123_10 N a0 a1_0 a1_1 a2 b3_0 b3_1 a4_0 a4_1 a4_2 a4_3 a4_4 a4_5 x2 v) ?_ ?_
                                  · skip
                                    refine AW_region ?_
                                    refine AL_cons (LR_bin (at_tmp 65 _) (at_c (v' := U8 (12#8)) rfl) (eql_U8 a4_0 (12#8)) rfl) (sS (sA (sT1 rfl) sT0) sB0 sF0) ?_
                                    refine AL_cons (LR_assign (at_tmp 149 _) rfl) (sS (sT1 rfl) sB0 sF0) ?_
                                    refine AL_nil ?_
                                    exact thenN (cutLeaf (v := a4_0 == (12#8)) hr (weakB ((sT rfl (sT rfl (sT rfl (sT rfl (sT rfl (sT rfl (sT rfl (sT rfl (sT rfl sT0)))))))))) (sub_keep (sub_keep (sub_keep sub_nil))) rfl))
                                  · rintro x11 hr
                                    show AW Hfaa.prog _ _ _ ⟨[(0, .inl (tabp a0)), (2, .inl (is (U8 a2))), (3, .inr (.inl (3, 0))), (6, .inr (.inl (6, 0))), (9, .inr (.inl (9, 0))), (10, .inr (.inl (3, (a4_1 &&& (7#8)).toNat))), (11, .inl (is (U64 x2))), (65, .inl (is (U8 a4_0))), (148, .inl (is (Bl x11)))], [(3, gc 90 (ar U64 8 b3_0 ++ []) ([]) (k1 Sv) 1 b3_1), (6, pb 23 [is (U8 a1_0), is (U8 a1_1)]), (9, pb 96 [is (U8 a4_0), is (U8 a4_1), is (U8 a4_2), is (U8 a4_3), is (U64 a4_4), is (Sv a4_5)])]⟩
                                    have hr : some r = F123_10 N a0 a1_0 a1_1 a2 b3_0 b3_1 a4_0 a4_1 a4_2 a4_3 a4_4 a4_5 x2 x11 := hr
                                    refine AW_condT (b := x11) rfl (fun h => ?_) (fun h => ?_)
                                    · have hr := hr.trans (cond_t h)
                                      clear h
                                      refine AW_opn 3 1007 (fun sv => (ar U64 8 b3_0 ++ (is ( sv) :: []))) rfl rfl (fun _ => by first | rfl | simp) ?_
                                      intro sv9 hsv9
                                      obtain ⟨y14, hy14, hr⟩ := bind_some hr
                                      refine AW_post ?_
                                      refine AW_draw mixed
                                        (lrC (LR_move (at_tmp 10 _) rfl)
                                        (lrC (LR_loads (at_tmp 6 _) ag23 sz23 rfl rfl rfl)
                                        (lrC (LR_fieldAddr (off := 0) (o := 4) (at_tmp 9 _) (fun b w => fa96_4 b 0 w) rfl)
                                        (lrC (LR_load (at_tmp 152 _) na30 rfl rfl)
                                        (lrC (LR_conv (vx := U64 a4_4) (at_tmp 153 _) (conv_U8 Hfaa.underlying30 Hfaa.underlying5 (a4_4.toNat : Int)) rfl)
                                        (lrC (LR_fieldAddr (off := 0) (o := 4) (at_tmp 9 _) (fun b w => fa96_4 b 0 w) rfl)
                                        (lrC (LR_load (at_tmp 155 _) na30 rfl rfl)
                                        (lrC (LR_bin (at_tmp 156 _) (at_c (v' := U64 (8#64)) rfl) (shr_U64 a4_4 ((8#64).toNat : Int) (Int.natCast_nonneg _)) rfl)
                                        (lrC (LR_conv (vx := U64 (a4_4 >>> 8)) (at_tmp 157 _) (conv_U8 Hfaa.underlying30 Hfaa.underlying5 ((a4_4 >>> 8).toNat : Int)) rfl)
                                        (lrC (bl23 (parts_cons (i := 0) (off := 0) (at_tmp 154 _) (cells_one (one_is rfl)) rfl rfl (parts_cons (i := 1) (off := 1) (at_tmp 158 _) (cells_one (one_is rfl)) rfl rfl parts_nil)) rfl rfl)
                                        (lrC (LR_move (at_tmp 2 _) rfl)
                                        (lrC (LR_move (at_tmp 10 _) rfl)
                                        (lrC (LR_nilCheck (at_tmp 161 _) rfl)
                                        (lrC (LR_load (at_tmp 162 _) na30 (gA (and7 a4_1)) rfl)
                                        (lrC (LR_move (at_tmp 11 _) rfl)
                                        (lrC (LR_call Hfaa.func240 rfl rfl (C240 N a1_0 a1_1 (BitVec.ofInt 8 (a4_4.toNat : Int)) (BitVec.ofInt 8 ((a4_4 >>> 8).toNat : Int)) a2 (b3_0 ((a4_1 &&& (7#8)).toNat)) x2 y14 hy14) (all_cons (at_tmp 151 _) (all_cons (at_tmp 159 _) (all_cons (at_tmp 160 _) (all_cons (at_tmp 163 _) (all_cons (at_tmp 164 _) all_nil))))) rfl)
                                        (lrC (LR_nilCheck (at_tmp 150 _) rfl)
                                        (lrC (LR_storeA (at_tmp 166 _) (at_tmp 165 _) (cells_one (one_is rfl)) (onC (one_is rfl) onN) sz30 rfl (ble_dyn (lnA (lnC ln0)) (by have := (and7 a4_1); omega)) (stA (and7 a4_1)))
                                        lrN))))))))))))))))))
                                        (by kernel_rfl)
                                        (saC (sS (sT1 rfl) sB0 sF0) (saC (sS (sT1 rfl) (sB1 rfl) sF0) (saC (sS (sT1 rfl) sB0 sF0) (saC (sS (sT1 rfl) (sB1 rfl) sF0) (saC (sS (sT1 rfl) sB0 sF0) (saC (sS (sT1 rfl) sB0 sF0) (saC (sS (sT1 rfl) (sB1 rfl) sF0) (saC (sS (sA (sT1 rfl) sT0) sB0 sF0) (saC (sS (sT1 rfl) sB0 sF0) (saC (sS (sA (sT1 rfl) (sA (sT1 rfl) sT0)) sB0 sF0) (saC (sS (sT1 rfl) sB0 sF0) (saC (sS (sT1 rfl) sB0 sF0) (saC (sS (sT1 rfl) sB0 sF0) (saC (sS (sT1 rfl) (sB1 rfl) sF0) (saC (sS (sT1 rfl) sB0 sF0) (saC (sS (sA (sT1 rfl) (sA (sT1 rfl) (sA (sT1 rfl) (sA (sT1 rfl) (sA (sT1 rfl) sT0))))) sB0 sF0) (saC (sS (sT1 rfl) sB0 sF0) (saC (sS (sA (sT1 rfl) (sT1 rfl)) (sB1 rfl) sF0) saN)))))))))))))))))) ?_
                                      refine ⟨_, (imp_close (k := 3) (r := 1007) ((ar U64 8 (upd b3_0 ((a4_1 &&& (7#8)).toNat) y14) ++ [])) ([]) rfl (by first | rfl | simp) rfl rfl rfl rfl), ?_⟩
                                      refine blN ?_
                                      obtain rfl := Option.some.inj hr
                                      exact ⟨res0 rfl , (sub_keep (sub_drop (sub_drop (sub_drop sub_nil))))⟩
                                    · have hr := hr.trans (cond_f h)
                                      clear h
                                      refine AW_cut (σ := Bool) (fun v => ⟨[(0, .inl (tabp a0)), (2, .inl (is (U8 a2))), (3, .inr (.inl (3, 0))), (6, .inr (.inl (6, 0))), (9, .inr (.inl (9, 0))), (11, .inl (is (U64 x2))), (65, .inl (is (U8 a4_0))), (167, .inl (is (Bl v)))], [(3, gc 90 (ar U64 8 b3_0 ++ []) ([]) (k1 Sv) 1 b3_1), (6, pb 23 [is (U8 a1_0), is (U8 a1_1)]), (9, pb 96 [is (U8 a4_0), is (U8 a4_1), is (U8 a4_2), is (U8 a4_3), is (U64 a4_4), is (Sv a4_5)])]⟩) (fun v => some r = F123_11 N a0 a1_0 a1_1 a2 b3_0 b3_1 a4_0 a4_1 a4_2 a4_3 a4_4 a4_5 x2 v) ?_ ?_
                                      · skip
                                        refine AW_region ?_
                                        refine AL_cons (LR_bin (at_tmp 65 _) (at_c (v' := U8 (13#8)) rfl) (eql_U8 a4_0 (13#8)) rfl) (sS (sA (sT1 rfl) sT0) sB0 sF0) ?_
                                        refine AL_cons (LR_assign (at_tmp 168 _) rfl) (sS (sT1 rfl) sB0 sF0) ?_
                                        refine AL_nil ?_
                                        exact thenN (cutLeaf (v := a4_0 == (13#8)) hr (weakB ((sT rfl (sT rfl (sT rfl (sT rfl (sT rfl (sT rfl (sT rfl (sT rfl sT0))))))))) (sub_keep (sub_keep (sub_keep sub_nil))) rfl))
                                      · rintro x12 hr
                                        show AW Hfaa.prog _ _ _ ⟨[(0, .inl (tabp a0)), (2, .inl (is (U8 a2))), (3, .inr (.inl (3, 0))), (6, .inr (.inl (6, 0))), (9, .inr (.inl (9, 0))), (11, .inl (is (U64 x2))), (65, .inl (is (U8 a4_0))), (167, .inl (is (Bl x12)))], [(3, gc 90 (ar U64 8 b3_0 ++ []) ([]) (k1 Sv) 1 b3_1), (6, pb 23 [is (U8 a1_0), is (U8 a1_1)]), (9, pb 96 [is (U8 a4_0), is (U8 a4_1), is (U8 a4_2), is (U8 a4_3), is (U64 a4_4), is (Sv a4_5)])]⟩
                                        have hr : some r = F123_11 N a0 a1_0 a1_1 a2 b3_0 b3_1 a4_0 a4_1 a4_2 a4_3 a4_4 a4_5 x2 x12 := hr
                                        refine AW_condT (b := x12) rfl (fun h => ?_) (fun h => ?_)
                                        · have hr := hr.trans (cond_t h)
                                          clear h
                                          refine AW_region ?_
                                          refine AL_cons (LR_move (at_tmp 0 _) rfl) (sS (sT1 rfl) sB0 sF0) ?_
                                          refine AL_cons (LR_loads (at_tmp 6 _) ag23 sz23 rfl rfl rfl) (sS (sT1 rfl) (sB1 rfl) sF0) ?_
                                          refine AL_cons (LR_move (at_tmp 2 _) rfl) (sS (sT1 rfl) sB0 sF0) ?_
                                          refine AL_cons (LR_move (at_tmp 3 _) rfl) (sS (sT1 rfl) sB0 sF0) ?_
                                          refine AL_cons (LR_loads (at_tmp 9 _) ag96 sz96 rfl rfl rfl) (sS (sT1 rfl) (sB1 rfl) sF0) ?_
                                          obtain ⟨y15, hy15, hr⟩ := bind_some hr
                                          refine AL_cons (LR_callB [(3, 3)] [(3, 3)] Hfaa.func241 rfl rfl (C241 N a0 a1_0 a1_1 a2 b3_0 b3_1 a4_0 a4_1 a4_2 a4_3 a4_4 a4_5 y15 hy15) (aTC (at_tmp 169 _) (aTC (at_tmp 170 _) (aTC (at_tmp 171 _) (aTC (at_tmp 172 _) (aTC (at_tmp 173 _) aT0))))) rfl rfl rfl rfl rfl) (sS (sA (sT1 rfl) (sA (sT1 rfl) (sA (sT1 rfl) (sA (sT1 rfl) (sA (sT1 rfl) sT0))))) (sB1 rfl) sF0) ?_
                                          refine AL_nil ?_
                                          refine blN ?_
                                          obtain rfl := Option.some.inj hr
                                          exact ⟨res0 rfl , (sub_keep (sub_drop (sub_drop sub_nil)))⟩
                                        · have hr := hr.trans (cond_f h)
                                          clear h
                                          refine AW_cut (σ := Bool) (fun v => ⟨[(0, .inl (tabp a0)), (2, .inl (is (U8 a2))), (3, .inr (.inl (3, 0))), (6, .inr (.inl (6, 0))), (9, .inr (.inl (9, 0))), (11, .inl (is (U64 x2))), (175, .inl (is (Bl v)))], [(3, gc 90 (ar U64 8 b3_0 ++ []) ([]) (k1 Sv) 1 b3_1), (6, pb 23 [is (U8 a1_0), is (U8 a1_1)]), (9, pb 96 [is (U8 a4_0), is (U8 a4_1), is (U8 a4_2), is (U8 a4_3), is (U64 a4_4), is (Sv a4_5)])]⟩) (fun v => some r = F123_12 N a0 a1_0 a1_1 a2 b3_0 b3_1 a4_0 a4_1 a4_2 a4_3 a4_4 a4_5 x2 v) ?_ ?_
                                          · skip
                                            refine AW_region ?_
                                            refine AL_cons (LR_bin (at_tmp 65 _) (at_c (v' := U8 (14#8)) rfl) (eql_U8 a4_0 (14#8)) rfl) (sS (sA (sT1 rfl) sT0) sB0 sF0) ?_
                                            refine AL_cons (LR_assign (at_tmp 176 _) rfl) (sS (sT1 rfl) sB0 sF0) ?_
                                            refine AL_nil ?_
                                            exact thenN (cutLeaf (v := a4_0 == (14#8)) hr (weakB ((sT rfl (sT rfl (sT rfl (sT rfl (sT rfl (sT rfl (sT rfl sT0)))))))) (sub_keep (sub_keep (sub_keep sub_nil))) rfl))
                                          · rintro x13 hr
                                            show AW Hfaa.prog _ _ _ ⟨[(0, .inl (tabp a0)), (2, .inl (is (U8 a2))), (3, .inr (.inl (3, 0))), (6, .inr (.inl (6, 0))), (9, .inr (.inl (9, 0))), (11, .inl (is (U64 x2))), (175, .inl (is (Bl x13)))], [(3, gc 90 (ar U64 8 b3_0 ++ []) ([]) (k1 Sv) 1 b3_1), (6, pb 23 [is (U8 a1_0), is (U8 a1_1)]), (9, pb 96 [is (U8 a4_0), is (U8 a4_1), is (U8 a4_2), is (U8 a4_3), is (U64 a4_4), is (Sv a4_5)])]⟩
                                            have hr : some r = F123_12 N a0 a1_0 a1_1 a2 b3_0 b3_1 a4_0 a4_1 a4_2 a4_3 a4_4 a4_5 x2 x13 := hr
                                            refine AW_condT (b := x13) rfl (fun h => ?_) (fun h => ?_)
                                            · have hr := hr.trans (cond_t h)
                                              clear h
                                              refine AW_opn 3 1008 (fun sv => (ar U64 8 b3_0 ++ (is ( sv) :: []))) rfl rfl (fun _ => by first | rfl | simp) ?_
                                              intro sv10 hsv10
                                              obtain ⟨y16, hy16, hr⟩ := bind_some hr
                                              obtain ⟨hg3, hr⟩ := guard_some hr
                                              refine AW_post ?_
                                              refine AW_drawV 10 1008 mixed (fun sv11 => [(⟨[(177, .inr (.inl (3, 0)))], [], []⟩, ⟨[(188, .inr (.inl (3, 0)))], []⟩), (⟨[(188, .inr (.inl (3, 0)))], [], []⟩, ⟨[(189, .inr (.inl (3, 8)))], []⟩), (⟨[(189, .inr (.inl (3, 8))), (187, .inl (is ( sv11)))], [(3, pb 90 (ar U64 8 b3_0 ++ (is ( sv10) :: [])))], []⟩, ⟨[], [(3, pb 90 (ar U64 8 b3_0 ++ (is ( sv11) :: [])))]⟩)])
                                                (lrC (LR_move (at_tmp 3 _) rfl)
                                                (lrC (LR_move (at_tmp 3 _) rfl)
                                                (lrC (LR_nilCheck (at_tmp 178 _) rfl)
                                                (lrC (LR_fieldAddr (off := 0) (o := 8) (at_tmp 179 _) (fun b w => fa90_1 b 0 w) rfl)
                                                (lrC (LR_load (at_tmp 180 _) na57 (gP g0) rfl)
                                                (lrC (LR_move (at_tmp 0 _) rfl)
                                                (lrC (LR_loads (at_tmp 6 _) ag23 sz23 rfl rfl rfl)
                                                (lrC (LR_move (at_tmp 11 _) rfl)
                                                (lrC (LR_call Hfaa.func242 rfl rfl (C242 N a0 a1_0 a1_1 x2 y16 hy16) (all_cons (at_tmp 182 _) (all_cons (at_tmp 183 _) (all_cons (at_tmp 184 _) all_nil))) rfl)
                                                (lrC (LR_bs1 Hfaa.underlying57 el9 (fun _ => rfl) (at_tmp 185 _) rfl)
                                                lrN))))))))))
                                                rfl
                                                (app_opk (K := (k1 Sv)) (r := 1008) (z := b3_1) (u := y16) Hfaa.underlying57 eN9 k1_len (k1_cell fun _ => rfl) (at_tmp 181 _) (at_tmp 186 _) (oneAt_k1 rfl) (of_decide_eq_true hg3) rfl rfl)
                                                (fun sv11 hsv11 => (lrC (LR_nilCheck (at_tmp 177 _) rfl)
                                                (lrC (LR_fieldAddr (off := 0) (o := 8) (at_tmp 188 _) (fun b w => fa90_1 b 0 w) rfl)
                                                (lrC (LR_storeA (at_tmp 189 _) (at_tmp 187 _) (cells_one (one_is hsv11)) (onC (one_is hsv11) onN) sz57 rfl (bleLen (lnA (lnC ln0)) rfl) (stP st0))
                                                lrN))))
                                                (fun sv11 hsv11 => by kernel_rfl)
                                                (fun sv11 hsv11 => (saC (sS (sT1 rfl) sB0 sF0) (saC (sS (sT1 rfl) sB0 sF0) (saC (sS (sT1 rfl) sB0 sF0) (saC (sS (sT1 rfl) sB0 sF0) (saC (sS (sT1 rfl) (sB1 rfl) sF0) (saC (sS (sT1 rfl) sB0 sF0) (saC (sS (sT1 rfl) (sB1 rfl) sF0) (saC (sS (sT1 rfl) sB0 sF0) (saC (sS (sA (sT1 rfl) (sA (sT1 rfl) (sA (sT1 rfl) sT0))) sB0 sF0) (saC (sS (sT1 rfl) sB0 sF0) (saC (sS (sA (sT1 rfl) (sT1 rfl)) (sB1 rfl) sF0) (saC (sS (sT1 rfl) sB0 sF0) (saC (sS (sT1 rfl) sB0 sF0) (saC (sS (sA (sT1 rfl) (sT1 rfl)) (sB1 rfl) sF0) saN)))))))))))))))
                                                (by kernel_rfl) rfl (fun sv11 hsv11 => by kernel_rfl) ?_
                                              intro sv11 hsv11
                                              refine ⟨_, (imp_close (k := 3) (r := 1008) (ar U64 8 b3_0 ++ []) ([]) rfl (by first | rfl | simp) rfl rfl rfl rfl), ?_⟩
                                              refine blN ?_
                                              obtain rfl := Option.some.inj hr
                                              exact ⟨res0 rfl , (sub_keep (sub_drop (sub_drop (sub_drop sub_nil))))⟩
                                            · have hr := hr.trans (cond_f h)
                                              clear h
                                              refine AW_region ?_
                                              refine AL_cons (LR_move (at_tmp 0 _) rfl) (sS (sT1 rfl) sB0 sF0) ?_
                                              refine AL_cons (LR_loads (at_tmp 6 _) ag23 sz23 rfl rfl rfl) (sS (sT1 rfl) (sB1 rfl) sF0) ?_
                                              refine AL_cons (LR_move (at_tmp 2 _) rfl) (sS (sT1 rfl) sB0 sF0) ?_
                                              refine AL_cons (LR_move (at_tmp 3 _) rfl) (sS (sT1 rfl) sB0 sF0) ?_
                                              refine AL_cons (LR_loads (at_tmp 9 _) ag96 sz96 rfl rfl rfl) (sS (sT1 rfl) (sB1 rfl) sF0) ?_
                                              obtain ⟨y17, hy17, hr⟩ := bind_some hr
                                              refine AL_cons (LR_callB [(3, 3)] [(3, 3)] Hfaa.func243 rfl rfl (C243 N a0 a1_0 a1_1 a2 b3_0 b3_1 a4_0 a4_1 a4_2 a4_3 a4_4 a4_5 y17 hy17) (aTC (at_tmp 66 _) (aTC (at_tmp 67 _) (aTC (at_tmp 68 _) (aTC (at_tmp 69 _) (aTC (at_tmp 70 _) aT0))))) rfl rfl rfl rfl rfl) (sS (sA (sT1 rfl) (sA (sT1 rfl) (sA (sT1 rfl) (sA (sT1 rfl) (sA (sT1 rfl) sT0))))) (sB1 rfl) sF0) ?_
                                              refine AL_nil ?_
                                              refine blN ?_
                                              obtain rfl := Option.some.inj hr
                                              exact ⟨res0 rfl , (sub_keep (sub_drop (sub_drop sub_nil)))⟩
end Go.Proofs.YfwaawGreat
