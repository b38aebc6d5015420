import Derived.Test.YfwaawGreatG16
import Derived.Test.YfwaawGreatG25
import Derived.Test.YfwaawGreatG32
import Derived.Test.YfwaawGreatG43
import Derived.Test.YfwaawGreatG45
import Derived.Test.YfwaawGreatG46
import Derived.Test.YfwaawGreatG47
import Derived.Test.YfwaawGreatG51
import Derived.Test.YfwaawGreatG52
import Derived.Test.YfwaawGreatG53
import Derived.Test.YfwaawGreatG55
namespace Go.Proofs.YfwaawGreat
open Go.Aw
set_option linter.unusedVariables false
set_option maxRecDepth 100000
set_option maxHeartbeats 1000000
/-- calc/so.more -/
def F233_15 (N : Nat) (b3_0 : Nat → BitVec 64) (b3_1 : NS (List UInt8)) (x21 : Bool) : Option ((Nat → BitVec 64) × NS (List UInt8)) := bif x21 then bif decide (b3_1.2.1 < 4294967296) then some ((b3_0, app b3_1 ([116, 111, 111, 32, 98, 105, 103] : List UInt8))) else none else bif decide (b3_1.2.1 < 4294967296) then some ((b3_0, app b3_1 ([119, 114, 111, 110, 103] : List UInt8))) else none
def F233_14 (N : Nat) (a1_0 : BitVec 8) (a1_1 : BitVec 8) (a2 : BitVec 8) (b3_0 : Nat → BitVec 64) (b3_1 : NS (List UInt8)) (a4_1 : BitVec 8) (x14 : BitVec 8) (x15 : Bool) (x16 : List UInt8) (x17 : Int) (x18 : Int) (x19 : Int) (x20 : Bool) : Option ((Nat → BitVec 64) × NS (List UInt8)) := bif x20 then (F109 N a1_0 a1_1 a2 x15 x16 x17).bind fun y17 => some ((upd b3_0 ((a4_1 &&& (7#8)).toNat) y17, b3_1)) else F233_15 N b3_0 b3_1 (x14 == (4#8))
def F233_13 (N : Nat) (a1_0 : BitVec 8) (a1_1 : BitVec 8) (a2 : BitVec 8) (b3_0 : Nat → BitVec 64) (b3_1 : NS (List UInt8)) (a4_1 : BitVec 8) (x14 : BitVec 8) (x15 : Bool) (x16 : List UInt8) (x17 : Int) (x18 : Int) (x19 : Int) : Option ((Nat → BitVec 64) × NS (List UInt8)) := F233_14 N a1_0 a1_1 a2 b3_0 b3_1 a4_1 x14 x15 x16 x17 x18 x19 (x14 == (0#8))
def F233_22 (N : Nat) (b3_0 : Nat → BitVec 64) (b3_1 : NS (List UInt8)) (x28 : BitVec 8) : Option ((Nat → BitVec 64) × NS (List UInt8)) := (F301 N x28).bind fun y27 => bif decide (b3_1.2.1 < 4294967296) then some (b3_0, app b3_1 y27) else none
def F233_24 (N : Nat) (b3_0 : Nat → BitVec 64) (b3_1 : NS (List UInt8)) (x30 : BitVec 8) (x31 : Bool) : Option ((Nat → BitVec 64) × NS (List UInt8)) := bif x31 then (F301 N x30).bind fun y32 => bif decide (b3_1.2.1 < 4294967296) then some (b3_0, app b3_1 y32) else none else some (b3_0, b3_1)
def F233_23 (N : Nat) (a1_0 : BitVec 8) (a1_1 : BitVec 8) (a2 : BitVec 8) (b3_0 : Nat → BitVec 64) (b3_1 : NS (List UInt8)) (a4_0 : BitVec 8) (a4_1 : BitVec 8) (a4_2 : BitVec 8) (a4_3 : BitVec 8) (a4_4 : BitVec 64) (a4_5 : List UInt8) (x1 : BitVec 64) (x29 : Bool) : Option ((Nat → BitVec 64) × NS (List UInt8)) := bif x29 then lt (F228 a1_0 a1_1 x1) fun y33 => (F329 N a1_0 a1_1 a2 a4_4 y33).bind fun y34 => F233_24 N b3_0 b3_1 y34.1 y34.2 else some (b3_0, b3_1)
def F233_21 (N : Nat) (a1_0 : BitVec 8) (a1_1 : BitVec 8) (a2 : BitVec 8) (b3_0 : Nat → BitVec 64) (b3_1 : NS (List UInt8)) (a4_0 : BitVec 8) (a4_1 : BitVec 8) (a4_2 : BitVec 8) (a4_3 : BitVec 8) (a4_4 : BitVec 64) (a4_5 : List UInt8) (x1 : BitVec 64) (x27 : Bool) : Option ((Nat → BitVec 64) × NS (List UInt8)) := bif x27 then lt (F228 a1_0 a1_1 x1) fun y28 => (F110 N a1_0 a1_1 a2 y28 (w64 (a4_4.toNat : Int))).bind fun y29 => F233_22 N b3_0 b3_1 y29.2 else F233_23 N a1_0 a1_1 a2 b3_0 b3_1 a4_0 a4_1 a4_2 a4_3 a4_4 a4_5 x1 (a4_0 == (28#8))
def F233_20 (N : Nat) (a1_0 : BitVec 8) (a1_1 : BitVec 8) (a2 : BitVec 8) (b3_0 : Nat → BitVec 64) (b3_1 : NS (List UInt8)) (a4_0 : BitVec 8) (a4_1 : BitVec 8) (a4_2 : BitVec 8) (a4_3 : BitVec 8) (a4_4 : BitVec 64) (a4_5 : List UInt8) (x1 : BitVec 64) (x26 : Bool) : Option ((Nat → BitVec 64) × NS (List UInt8)) := bif x26 then lt (F328 a1_0 a1_1 x1) fun y23 => (F310 N y23.1 y23.2).bind fun y24 => bif decide (b3_1.2.1 < 4294967296) then some (b3_0, app b3_1 y24) else none else F233_21 N a1_0 a1_1 a2 b3_0 b3_1 a4_0 a4_1 a4_2 a4_3 a4_4 a4_5 x1 (a4_0 == (33#8))
def F233_19 (N : Nat) (a1_0 : BitVec 8) (a1_1 : BitVec 8) (a2 : BitVec 8) (b3_0 : Nat → BitVec 64) (b3_1 : NS (List UInt8)) (a4_0 : BitVec 8) (a4_1 : BitVec 8) (a4_2 : BitVec 8) (a4_3 : BitVec 8) (a4_4 : BitVec 64) (a4_5 : List UInt8) (x1 : BitVec 64) (x25 : Bool) : Option ((Nat → BitVec 64) × NS (List UInt8)) := bif x25 then (F327 N a1_0 a1_1 a2 x1 (w64 (a4_4.toNat : Int))).bind fun y22 => some ((upd b3_0 ((a4_1 &&& (7#8)).toNat) y22, b3_1)) else F233_20 N a1_0 a1_1 a2 b3_0 b3_1 a4_0 a4_1 a4_2 a4_3 a4_4 a4_5 x1 (a4_0 == (32#8))
def F233_18 (N : Nat) (a1_0 : BitVec 8) (a1_1 : BitVec 8) (a2 : BitVec 8) (b3_0 : Nat → BitVec 64) (b3_1 : NS (List UInt8)) (a4_0 : BitVec 8) (a4_1 : BitVec 8) (a4_2 : BitVec 8) (a4_3 : BitVec 8) (a4_4 : BitVec 64) (a4_5 : List UInt8) (x1 : BitVec 64) (x24 : Bool) : Option ((Nat → BitVec 64) × NS (List UInt8)) := bif x24 then (F326 N a1_0 a1_1 a2 a4_5).bind fun y21 => bif decide (b3_1.2.1 < 4294967296) then some (b3_0, app b3_1 y21) else none else F233_19 N a1_0 a1_1 a2 b3_0 b3_1 a4_0 a4_1 a4_2 a4_3 a4_4 a4_5 x1 (a4_0 == (31#8))
def F233_17 (N : Nat) (a1_0 : BitVec 8) (a1_1 : BitVec 8) (a2 : BitVec 8) (b3_0 : Nat → BitVec 64) (b3_1 : NS (List UInt8)) (a4_0 : BitVec 8) (a4_1 : BitVec 8) (a4_2 : BitVec 8) (a4_3 : BitVec 8) (a4_4 : BitVec 64) (a4_5 : List UInt8) (x1 : BitVec 64) (x23 : Bool) : Option ((Nat → BitVec 64) × NS (List UInt8)) := bif x23 then (F325 N a1_0 a1_1 a2 a4_5).bind fun y20 => bif decide (b3_1.2.1 < 4294967296) then some (b3_0, app b3_1 y20) else none else F233_18 N a1_0 a1_1 a2 b3_0 b3_1 a4_0 a4_1 a4_2 a4_3 a4_4 a4_5 x1 (a4_0 == (30#8))
def F233_16 (N : Nat) (a0 : Tab) (a1_0 : BitVec 8) (a1_1 : BitVec 8) (a2 : BitVec 8) (b3_0 : Nat → BitVec 64) (b3_1 : NS (List UInt8)) (a4_0 : BitVec 8) (a4_1 : BitVec 8) (a4_2 : BitVec 8) (a4_3 : BitVec 8) (a4_4 : BitVec 64) (a4_5 : List UInt8) (x1 : BitVec 64) (x22 : Bool) : Option ((Nat → BitVec 64) × NS (List UInt8)) := bif x22 then (F324 N a0 a1_0 a1_1 a2 b3_0 b3_1 a4_0 a4_1 a4_2 a4_3 a4_4 a4_5).bind fun y19 => some (y19.1, y19.2) else F233_17 N a1_0 a1_1 a2 b3_0 b3_1 a4_0 a4_1 a4_2 a4_3 a4_4 a4_5 x1 (a4_0 == (29#8))
def F233_12 (N : Nat) (a0 : Tab) (a1_0 : BitVec 8) (a1_1 : BitVec 8) (a2 : BitVec 8) (b3_0 : Nat → BitVec 64) (b3_1 : NS (List UInt8)) (a4_0 : BitVec 8) (a4_1 : BitVec 8) (a4_2 : BitVec 8) (a4_3 : BitVec 8) (a4_4 : BitVec 64) (a4_5 : List UInt8) (x1 : BitVec 64) (x13 : Bool) : Option ((Nat → BitVec 64) × NS (List UInt8)) := bif x13 then (F323 N a4_5).bind fun y18 => F233_13 N a1_0 a1_1 a2 b3_0 b3_1 a4_1 y18.1 y18.2.1 y18.2.2.1 y18.2.2.2.1 y18.2.2.2.2.1 y18.2.2.2.2.2 else F233_16 N a0 a1_0 a1_1 a2 b3_0 b3_1 a4_0 a4_1 a4_2 a4_3 a4_4 a4_5 x1 (a4_0 == (27#8))
def F233_11 (N : Nat) (a0 : Tab) (a1_0 : BitVec 8) (a1_1 : BitVec 8) (a2 : BitVec 8) (b3_0 : Nat → BitVec 64) (b3_1 : NS (List UInt8)) (a4_0 : BitVec 8) (a4_1 : BitVec 8) (a4_2 : BitVec 8) (a4_3 : BitVec 8) (a4_4 : BitVec 64) (a4_5 : List UInt8) (x1 : BitVec 64) (x12 : Bool) : Option ((Nat → BitVec 64) × NS (List UInt8)) := bif x12 then (F106 N a1_0 a1_1 x1).bind fun y14 => lt (F313 a1_0 a1_1 x1 y14) fun y15 => bif decide (b3_1.2.1 < 4294967296) then some (b3_0, app b3_1 y15) else none else F233_12 N a0 a1_0 a1_1 a2 b3_0 b3_1 a4_0 a4_1 a4_2 a4_3 a4_4 a4_5 x1 (a4_0 == (26#8))
def F233_10 (N : Nat) (a0 : Tab) (a1_0 : BitVec 8) (a1_1 : BitVec 8) (a2 : BitVec 8) (b3_0 : Nat → BitVec 64) (b3_1 : NS (List UInt8)) (a4_0 : BitVec 8) (a4_1 : BitVec 8) (a4_2 : BitVec 8) (a4_3 : BitVec 8) (a4_4 : BitVec 64) (a4_5 : List UInt8) (x1 : BitVec 64) (x11 : Bool) : Option ((Nat → BitVec 64) × NS (List UInt8)) := bif x11 then (F322 N a1_0 a1_1 x1 a4_0 a4_1 a4_2 a4_3 a4_4 a4_5).bind fun y13 => bif decide (b3_1.2.1 < 4294967296) then some (b3_0, app b3_1 y13) else none else F233_11 N a0 a1_0 a1_1 a2 b3_0 b3_1 a4_0 a4_1 a4_2 a4_3 a4_4 a4_5 x1 (a4_0 == (25#8))
def F233_25 (N : Nat) (a0 : Tab) (a1_0 : BitVec 8) (a1_1 : BitVec 8) (a2 : BitVec 8) (b3_0 : Nat → BitVec 64) (b3_1 : NS (List UInt8)) (a4_0 : BitVec 8) (a4_1 : BitVec 8) (a4_2 : BitVec 8) (a4_3 : BitVec 8) (a4_4 : BitVec 64) (a4_5 : List UInt8) (x1 : BitVec 64) (x32 : Bool) : Option ((Nat → BitVec 64) × NS (List UInt8)) := bif x32 then F233_10 N a0 a1_0 a1_1 a2 b3_0 b3_1 a4_0 a4_1 a4_2 a4_3 a4_4 a4_5 x1 x32 else F233_10 N a0 a1_0 a1_1 a2 b3_0 b3_1 a4_0 a4_1 a4_2 a4_3 a4_4 a4_5 x1 (a4_0 == (24#8))
def F233_9 (N : Nat) (a0 : Tab) (a1_0 : BitVec 8) (a1_1 : BitVec 8) (a2 : BitVec 8) (b3_0 : Nat → BitVec 64) (b3_1 : NS (List UInt8)) (a4_0 : BitVec 8) (a4_1 : BitVec 8) (a4_2 : BitVec 8) (a4_3 : BitVec 8) (a4_4 : BitVec 64) (a4_5 : List UInt8) (x1 : BitVec 64) (x2 : BitVec 64) (x10 : Bool) : Option ((Nat → BitVec 64) × NS (List UInt8)) := bif x10 then lt (F228 a1_0 a1_1 x1) fun y8 => lt (F228 a1_0 a1_1 x2) fun y9 => lt (F228 a1_0 a1_1 (b3_0 (((a4_4 >>> 3) &&& (7#64)).toNat))) fun y10 => (F321 N a1_0 a1_1 a2 a4_4 y8 y9 y10).bind fun y11 => (F301 N y11).bind fun y12 => bif decide (b3_1.2.1 < 4294967296) then some (b3_0, app b3_1 y12) else none else F233_25 N a0 a1_0 a1_1 a2 b3_0 b3_1 a4_0 a4_1 a4_2 a4_3 a4_4 a4_5 x1 (a4_0 == (23#8))
def F233_8 (N : Nat) (a0 : Tab) (a1_0 : BitVec 8) (a1_1 : BitVec 8) (a2 : BitVec 8) (b3_0 : Nat → BitVec 64) (b3_1 : NS (List UInt8)) (a4_0 : BitVec 8) (a4_1 : BitVec 8) (a4_2 : BitVec 8) (a4_3 : BitVec 8) (a4_4 : BitVec 64) (a4_5 : List UInt8) (x1 : BitVec 64) (x2 : BitVec 64) (x9 : Bool) : Option ((Nat → BitVec 64) × NS (List UInt8)) := bif x9 then lt (F320 a1_0 a1_1 x1) fun y7 => some ((upd b3_0 ((a4_1 &&& (7#8)).toNat) y7, b3_1)) else F233_9 N a0 a1_0 a1_1 a2 b3_0 b3_1 a4_0 a4_1 a4_2 a4_3 a4_4 a4_5 x1 x2 (a4_0 == (22#8))
def F233_7 (N : Nat) (a0 : Tab) (a1_0 : BitVec 8) (a1_1 : BitVec 8) (a2 : BitVec 8) (b3_0 : Nat → BitVec 64) (b3_1 : NS (List UInt8)) (a4_0 : BitVec 8) (a4_1 : BitVec 8) (a4_2 : BitVec 8) (a4_3 : BitVec 8) (a4_4 : BitVec 64) (a4_5 : List UInt8) (x1 : BitVec 64) (x2 : BitVec 64) (x8 : Bool) : Option ((Nat → BitVec 64) × NS (List UInt8)) := bif x8 then lt (F319 a1_0 a1_1 x1) fun y6 => some ((upd b3_0 ((a4_1 &&& (7#8)).toNat) y6, b3_1)) else F233_8 N a0 a1_0 a1_1 a2 b3_0 b3_1 a4_0 a4_1 a4_2 a4_3 a4_4 a4_5 x1 x2 (a4_0 == (21#8))
def F233_6 (N : Nat) (a0 : Tab) (a1_0 : BitVec 8) (a1_1 : BitVec 8) (a2 : BitVec 8) (b3_0 : Nat → BitVec 64) (b3_1 : NS (List UInt8)) (a4_0 : BitVec 8) (a4_1 : BitVec 8) (a4_2 : BitVec 8) (a4_3 : BitVec 8) (a4_4 : BitVec 64) (a4_5 : List UInt8) (x1 : BitVec 64) (x2 : BitVec 64) (x7 : Bool) : Option ((Nat → BitVec 64) × NS (List UInt8)) := bif x7 then lt (F318 a1_0 a1_1 x1 x2) fun y5 => some ((upd b3_0 ((a4_1 &&& (7#8)).toNat) y5, b3_1)) else F233_7 N a0 a1_0 a1_1 a2 b3_0 b3_1 a4_0 a4_1 a4_2 a4_3 a4_4 a4_5 x1 x2 (a4_0 == (20#8))
def F233_5 (N : Nat) (a0 : Tab) (a1_0 : BitVec 8) (a1_1 : BitVec 8) (a2 : BitVec 8) (b3_0 : Nat → BitVec 64) (b3_1 : NS (List UInt8)) (a4_0 : BitVec 8) (a4_1 : BitVec 8) (a4_2 : BitVec 8) (a4_3 : BitVec 8) (a4_4 : BitVec 64) (a4_5 : List UInt8) (x1 : BitVec 64) (x2 : BitVec 64) (x6 : Bool) : Option ((Nat → BitVec 64) × NS (List UInt8)) := bif x6 then lt (F317 a1_0 a1_1 x1 x2) fun y4 => some ((upd b3_0 ((a4_1 &&& (7#8)).toNat) y4, b3_1)) else F233_6 N a0 a1_0 a1_1 a2 b3_0 b3_1 a4_0 a4_1 a4_2 a4_3 a4_4 a4_5 x1 x2 (a4_0 == (19#8))
def F233_4 (N : Nat) (a0 : Tab) (a1_0 : BitVec 8) (a1_1 : BitVec 8) (a2 : BitVec 8) (b3_0 : Nat → BitVec 64) (b3_1 : NS (List UInt8)) (a4_0 : BitVec 8) (a4_1 : BitVec 8) (a4_2 : BitVec 8) (a4_3 : BitVec 8) (a4_4 : BitVec 64) (a4_5 : List UInt8) (x1 : BitVec 64) (x2 : BitVec 64) (x5 : Bool) : Option ((Nat → BitVec 64) × NS (List UInt8)) := bif x5 then (F316 N a1_0 a1_1 (BitVec.ofInt 8 (a4_4.toNat : Int)) x1).bind fun y3 => some ((upd b3_0 ((a4_1 &&& (7#8)).toNat) y3, b3_1)) else F233_5 N a0 a1_0 a1_1 a2 b3_0 b3_1 a4_0 a4_1 a4_2 a4_3 a4_4 a4_5 x1 x2 (a4_0 == (18#8))
def F233_3 (N : Nat) (a0 : Tab) (a1_0 : BitVec 8) (a1_1 : BitVec 8) (a2 : BitVec 8) (b3_0 : Nat → BitVec 64) (b3_1 : NS (List UInt8)) (a4_0 : BitVec 8) (a4_1 : BitVec 8) (a4_2 : BitVec 8) (a4_3 : BitVec 8) (a4_4 : BitVec 64) (a4_5 : List UInt8) (x1 : BitVec 64) (x2 : BitVec 64) (x4 : Bool) : Option ((Nat → BitVec 64) × NS (List UInt8)) := bif x4 then (F315 N a1_0 a1_1 x1 x2).bind fun y2 => some ((upd b3_0 ((a4_1 &&& (7#8)).toNat) y2, b3_1)) else F233_4 N a0 a1_0 a1_1 a2 b3_0 b3_1 a4_0 a4_1 a4_2 a4_3 a4_4 a4_5 x1 x2 (a4_0 == (17#8))
def F233_2 (N : Nat) (a0 : Tab) (a1_0 : BitVec 8) (a1_1 : BitVec 8) (a2 : BitVec 8) (b3_0 : Nat → BitVec 64) (b3_1 : NS (List UInt8)) (a4_0 : BitVec 8) (a4_1 : BitVec 8) (a4_2 : BitVec 8) (a4_3 : BitVec 8) (a4_4 : BitVec 64) (a4_5 : List UInt8) (x1 : BitVec 64) (x2 : BitVec 64) (x3 : Bool) : Option ((Nat → BitVec 64) × NS (List UInt8)) := bif x3 then (F314 N a1_0 a1_1 a2 x1 x2 (b3_0 ((a4_4 &&& (7#64)).toNat))).bind fun y1 => some ((upd b3_0 ((a4_1 &&& (7#8)).toNat) y1, b3_1)) else F233_3 N a0 a1_0 a1_1 a2 b3_0 b3_1 a4_0 a4_1 a4_2 a4_3 a4_4 a4_5 x1 x2 (a4_0 == (16#8))
def F233_1 (N : Nat) (a0 : Tab) (a1_0 : BitVec 8) (a1_1 : BitVec 8) (a2 : BitVec 8) (b3_0 : Nat → BitVec 64) (b3_1 : NS (List UInt8)) (a4_0 : BitVec 8) (a4_1 : BitVec 8) (a4_2 : BitVec 8) (a4_3 : BitVec 8) (a4_4 : BitVec 64) (a4_5 : List UInt8) (x1 : BitVec 64) (x2 : BitVec 64) : Option ((Nat → BitVec 64) × NS (List UInt8)) := F233_2 N a0 a1_0 a1_1 a2 b3_0 b3_1 a4_0 a4_1 a4_2 a4_3 a4_4 a4_5 x1 x2 (a4_0 == (15#8))
def F233 (N : Nat) (a0 : Tab) (a1_0 : BitVec 8) (a1_1 : BitVec 8) (a2 : BitVec 8) (b3_0 : Nat → BitVec 64) (b3_1 : NS (List UInt8)) (a4_0 : BitVec 8) (a4_1 : BitVec 8) (a4_2 : BitVec 8) (a4_3 : BitVec 8) (a4_4 : BitVec 64) (a4_5 : List UInt8) : Option ((Nat → BitVec 64) × NS (List UInt8)) := F233_1 N a0 a1_0 a1_1 a2 b3_0 b3_1 a4_0 a4_1 a4_2 a4_3 a4_4 a4_5 (b3_0 ((a4_2 &&& (7#8)).toNat)) (b3_0 ((a4_3 &&& (7#8)).toNat))
theorem C233 (N : Nat) (a0 : Tab) (a1_0 : BitVec 8) (a1_1 : BitVec 8) (a2 : BitVec 8) (b3_0 : Nat → BitVec 64) (b3_1 : NS (List UInt8)) (a4_0 : BitVec 8) (a4_1 : BitVec 8) (a4_2 : BitVec 8) (a4_3 : BitVec 8) (a4_4 : BitVec 64) (a4_5 : List UInt8) (r : (Nat → BitVec 64) × NS (List UInt8)) (hr : some r = F233 N a0 a1_0 a1_1 a2 b3_0 b3_1 a4_0 a4_1 a4_2 a4_3 a4_4 a4_5) : FnB Hfaa.prog 233 [.inl (tabp a0), .inl (agg [is (U8 a1_0), is (U8 a1_1)]), .inl (is (U8 a2)), .inr (.inl (3, 0)), .inl (agg [is (U8 a4_0), is (U8 a4_1), is (U8 a4_2), is (U8 a4_3), is (U64 a4_4), is (Sv a4_5)])] [(3, gc 90 (ar U64 8 b3_0 ++ []) ([]) (k1 Sv) 1 b3_1)] (tup []) [(3, gc 90 (ar U64 8 r.1 ++ []) ([]) (k1 Sv) 1 r.2)] := by
  refine fnB_intro Hfaa.func233 rfl rfl rfl rfl rfl ⟨hf_gc _ _ _ _ _ _, trivial⟩ ?_
  intro bn0 w0 H0
  refine AW_seq1 ?_
  refine AW_region ?_
  refine AL_cons (LR_box (at_tmp 1 _) (cells_agg _) rfl) (sS (sT1 rfl) sB0 (sF1 rfl)) ?_
  refine AL_cons (LR_box (at_tmp 4 _) (cells_agg _) rfl) (sS (sT1 rfl) sB0 (sF1 rfl)) ?_
  refine AL_nil ?_
  refine thenN ?_
  refine AW_cut (σ := BitVec 64 × BitVec 64) (fun v => ⟨[(0, .inl (tabp a0)), (2, .inl (is (U8 a2))), (3, .inr (.inl (3, 0))), (6, .inr (.inl (6, 0))), (9, .inr (.inl (9, 0))), (10, .inr (.inl (3, (a4_1 &&& (7#8)).toNat))), (11, .inl (is (U64 v.1))), (12, .inl (is (U64 v.2)))], [(3, gc 90 (ar U64 8 b3_0 ++ []) ([]) (k1 Sv) 1 b3_1), (6, pb 23 [is (U8 a1_0), is (U8 a1_1)]), (9, pb 96 [is (U8 a4_0), is (U8 a4_1), is (U8 a4_2), is (U8 a4_3), is (U64 a4_4), is (Sv a4_5)])]⟩) (fun v => some r = F233_1 N a0 a1_0 a1_1 a2 b3_0 b3_1 a4_0 a4_1 a4_2 a4_3 a4_4 a4_5 v.1 v.2) ?_ ?_
  · skip
    refine AW_opn 3 1020 (fun sv => (ar U64 8 b3_0 ++ (is ( sv) :: []))) rfl rfl (fun _ => by first | rfl | simp) ?_
    intro sv30 hsv30
    refine AW_post ?_
    refine AW_draw mixed
      (lrC (LR_move (at_tmp 3 _) rfl)
      (lrC (LR_fieldAddr (off := 0) (o := 1) (at_tmp 9 _) (fun b w => fa96_1 b 0 w) rfl)
      (lrC (LR_load (at_tmp 19 _) na5 rfl rfl)
      (lrC (LR_bin (at_tmp 20 _) (at_c (v' := U8 (7#8)) rfl) (and_U8 a4_1 (7#8)) rfl)
      (lrC (LR_nilCheck (at_tmp 18 _) rfl)
      (lrC (LR_fieldAddr (off := 0) (o := 0) (at_tmp 22 _) (fun b w => fa90_0 b 0 w) rfl)
      (lrC (LR_indexAddr (o := (a4_1 &&& (7#8)).toNat) Hfaa.underlying35 sz30 (at_tmp 23 _) (at_tmp 21 _) (natIx (and7 a4_1)) (by first | rfl | omega) rfl)
      (lrC (LR_move (at_tmp 3 _) rfl)
      (lrC (LR_fieldAddr (off := 0) (o := 2) (at_tmp 9 _) (fun b w => fa96_2 b 0 w) rfl)
      (lrC (LR_load (at_tmp 26 _) na5 rfl rfl)
      (lrC (LR_bin (at_tmp 27 _) (at_c (v' := U8 (7#8)) rfl) (and_U8 a4_2 (7#8)) rfl)
      (lrC (LR_nilCheck (at_tmp 25 _) rfl)
      (lrC (LR_fieldAddr (off := 0) (o := 0) (at_tmp 29 _) (fun b w => fa90_0 b 0 w) rfl)
      (lrC (LR_indexAddr (o := (a4_2 &&& (7#8)).toNat) Hfaa.underlying35 sz30 (at_tmp 30 _) (at_tmp 28 _) (natIx (and7 a4_2)) (by first | rfl | omega) rfl)
      (lrC (LR_load (at_tmp 31 _) na30 (gA (and7 a4_2)) rfl)
      (lrC (LR_move (at_tmp 3 _) rfl)
      (lrC (LR_fieldAddr (off := 0) (o := 3) (at_tmp 9 _) (fun b w => fa96_3 b 0 w) rfl)
      (lrC (LR_load (at_tmp 34 _) na5 rfl rfl)
      (lrC (LR_bin (at_tmp 35 _) (at_c (v' := U8 (7#8)) rfl) (and_U8 a4_3 (7#8)) rfl)
      (lrC (LR_nilCheck (at_tmp 33 _) rfl)
      (lrC (LR_fieldAddr (off := 0) (o := 0) (at_tmp 37 _) (fun b w => fa90_0 b 0 w) rfl)
      (lrC (LR_indexAddr (o := (a4_3 &&& (7#8)).toNat) Hfaa.underlying35 sz30 (at_tmp 38 _) (at_tmp 36 _) (natIx (and7 a4_3)) (by first | rfl | omega) rfl)
      (lrC (LR_load (at_tmp 39 _) na30 (gA (and7 a4_3)) rfl)
      (lrC (LR_assign (at_tmp 24 _) rfl)
      (lrC (LR_assign (at_tmp 32 _) rfl)
      (lrC (LR_assign (at_tmp 40 _) rfl)
      lrN))))))))))))))))))))))))))
      (by kernel_rfl)
      (saC (sS (sT1 rfl) sB0 sF0) (saC (sS (sT1 rfl) sB0 sF0) (saC (sS (sT1 rfl) (sB1 rfl) sF0) (saC (sS (sA (sT1 rfl) sT0) sB0 sF0) (saC (sS (sT1 rfl) sB0 sF0) (saC (sS (sT1 rfl) sB0 sF0) (saC (sS (sA (sT1 rfl) (sT1 rfl)) sB0 sF0) (saC (sS (sT1 rfl) sB0 sF0) (saC (sS (sT1 rfl) sB0 sF0) (saC (sS (sT1 rfl) (sB1 rfl) sF0) (saC (sS (sA (sT1 rfl) sT0) sB0 sF0) (saC (sS (sT1 rfl) sB0 sF0) (saC (sS (sT1 rfl) sB0 sF0) (saC (sS (sA (sT1 rfl) (sT1 rfl)) sB0 sF0) (saC (sS (sT1 rfl) (sB1 rfl) sF0) (saC (sS (sT1 rfl) sB0 sF0) (saC (sS (sT1 rfl) sB0 sF0) (saC (sS (sT1 rfl) (sB1 rfl) sF0) (saC (sS (sA (sT1 rfl) sT0) sB0 sF0) (saC (sS (sT1 rfl) sB0 sF0) (saC (sS (sT1 rfl) sB0 sF0) (saC (sS (sA (sT1 rfl) (sT1 rfl)) sB0 sF0) (saC (sS (sT1 rfl) (sB1 rfl) sF0) (saC (sS (sT1 rfl) sB0 sF0) (saC (sS (sT1 rfl) sB0 sF0) (saC (sS (sT1 rfl) sB0 sF0) saN)))))))))))))))))))))))))) ?_
    refine ⟨_, (imp_close (k := 3) (r := 1020) (ar U64 8 b3_0 ++ []) ([]) rfl (by first | rfl | simp) rfl rfl rfl rfl), ?_⟩
    exact thenN (cutLeaf (v := (b3_0 ((a4_2 &&& (7#8)).toNat), b3_0 ((a4_3 &&& (7#8)).toNat))) hr (weakB ((sT rfl (sT rfl (sT rfl (sT rfl (sT rfl (sT rfl (sT rfl (sT rfl sT0))))))))) (sub_keep (sub_keep (sub_keep (sub_drop sub_nil)))) rfl))
  · rintro ⟨x1, x2⟩ hr
    show AW Hfaa.prog _ _ _ ⟨[(0, .inl (tabp a0)), (2, .inl (is (U8 a2))), (3, .inr (.inl (3, 0))), (6, .inr (.inl (6, 0))), (9, .inr (.inl (9, 0))), (10, .inr (.inl (3, (a4_1 &&& (7#8)).toNat))), (11, .inl (is (U64 x1))), (12, .inl (is (U64 x2)))], [(3, gc 90 (ar U64 8 b3_0 ++ []) ([]) (k1 Sv) 1 b3_1), (6, pb 23 [is (U8 a1_0), is (U8 a1_1)]), (9, pb 96 [is (U8 a4_0), is (U8 a4_1), is (U8 a4_2), is (U8 a4_3), is (U64 a4_4), is (Sv a4_5)])]⟩
    have hr : some r = F233_1 N a0 a1_0 a1_1 a2 b3_0 b3_1 a4_0 a4_1 a4_2 a4_3 a4_4 a4_5 x1 x2 := hr
    refine AW_seq1 ?_
    refine AW_region ?_
    refine AL_cons (LR_fieldAddr (off := 0) (o := 0) (at_tmp 9 _) (fun b w => fa96_0 b 0 w) rfl) (sS (sT1 rfl) sB0 sF0) ?_
    refine AL_cons (LR_load (at_tmp 41 _) na5 rfl rfl) (sS (sT1 rfl) (sB1 rfl) sF0) ?_
    refine AL_nil ?_
    refine thenN ?_
    refine AW_block ?_
    refine AW_cut (σ := Bool) (fun v => ⟨[(0, .inl (tabp a0)), (2, .inl (is (U8 a2))), (3, .inr (.inl (3, 0))), (6, .inr (.inl (6, 0))), (9, .inr (.inl (9, 0))), (10, .inr (.inl (3, (a4_1 &&& (7#8)).toNat))), (11, .inl (is (U64 x1))), (12, .inl (is (U64 x2))), (42, .inl (is (U8 a4_0))), (43, .inl (is (Bl v)))], [(3, gc 90 (ar U64 8 b3_0 ++ []) ([]) (k1 Sv) 1 b3_1), (6, pb 23 [is (U8 a1_0), is (U8 a1_1)]), (9, pb 96 [is (U8 a4_0), is (U8 a4_1), is (U8 a4_2), is (U8 a4_3), is (U64 a4_4), is (Sv a4_5)])]⟩) (fun v => some r = F233_2 N a0 a1_0 a1_1 a2 b3_0 b3_1 a4_0 a4_1 a4_2 a4_3 a4_4 a4_5 x1 x2 v) ?_ ?_
    · skip
      refine AW_region ?_
      refine AL_cons (LR_bin (at_tmp 42 _) (at_c (v' := U8 (15#8)) rfl) (eql_U8 a4_0 (15#8)) rfl) (sS (sA (sT1 rfl) sT0) sB0 sF0) ?_
      refine AL_cons (LR_assign (at_tmp 44 _) rfl) (sS (sT1 rfl) sB0 sF0) ?_
      refine AL_nil ?_
      exact thenN (cutLeaf (v := a4_0 == (15#8)) hr (weakB ((sT rfl (sT rfl (sT rfl (sT rfl (sT rfl (sT rfl (sT rfl (sT rfl (sT rfl (sT rfl sT0))))))))))) (sub_keep (sub_keep (sub_keep sub_nil))) rfl))
    · rintro x3 hr
      show AW Hfaa.prog _ _ _ ⟨[(0, .inl (tabp a0)), (2, .inl (is (U8 a2))), (3, .inr (.inl (3, 0))), (6, .inr (.inl (6, 0))), (9, .inr (.inl (9, 0))), (10, .inr (.inl (3, (a4_1 &&& (7#8)).toNat))), (11, .inl (is (U64 x1))), (12, .inl (is (U64 x2))), (42, .inl (is (U8 a4_0))), (43, .inl (is (Bl x3)))], [(3, gc 90 (ar U64 8 b3_0 ++ []) ([]) (k1 Sv) 1 b3_1), (6, pb 23 [is (U8 a1_0), is (U8 a1_1)]), (9, pb 96 [is (U8 a4_0), is (U8 a4_1), is (U8 a4_2), is (U8 a4_3), is (U64 a4_4), is (Sv a4_5)])]⟩
      have hr : some r = F233_2 N a0 a1_0 a1_1 a2 b3_0 b3_1 a4_0 a4_1 a4_2 a4_3 a4_4 a4_5 x1 x2 x3 := hr
      refine AW_condT (b := x3) rfl (fun h => ?_) (fun h => ?_)
      · have hr := hr.trans (cond_t h)
        clear h
        refine AW_opn 3 1001 (fun sv => (ar U64 8 b3_0 ++ (is ( sv) :: []))) rfl rfl (fun _ => by first | rfl | simp) ?_
        intro sv1 hsv1
        obtain ⟨y1, hy1, hr⟩ := bind_some hr
        refine AW_post ?_
        refine AW_draw mixed
          (lrC (LR_move (at_tmp 10 _) rfl)
          (lrC (LR_loads (at_tmp 6 _) ag23 sz23 rfl rfl rfl)
          (lrC (LR_move (at_tmp 2 _) rfl)
          (lrC (LR_move (at_tmp 11 _) rfl)
          (lrC (LR_move (at_tmp 12 _) rfl)
          (lrC (LR_move (at_tmp 3 _) rfl)
          (lrC (LR_fieldAddr (off := 0) (o := 4) (at_tmp 9 _) (fun b w => fa96_4 b 0 w) rfl)
          (lrC (LR_load (at_tmp 51 _) na30 rfl rfl)
          (lrC (LR_bin (at_tmp 52 _) (at_c (v' := U64 (7#64)) rfl) (and_U64 a4_4 (7#64)) rfl)
          (lrC (LR_nilCheck (at_tmp 50 _) rfl)
          (lrC (LR_fieldAddr (off := 0) (o := 0) (at_tmp 54 _) (fun b w => fa90_0 b 0 w) rfl)
          (lrC (LR_indexAddr (o := (a4_4 &&& (7#64)).toNat) Hfaa.underlying35 sz30 (at_tmp 55 _) (at_tmp 53 _) (natIx (and7q a4_4)) (by first | rfl | omega) rfl)
          (lrC (LR_load (at_tmp 56 _) na30 (gA (and7q a4_4)) rfl)
          (lrC (LR_call Hfaa.func314 rfl rfl (C314 N a1_0 a1_1 a2 x1 x2 (b3_0 ((a4_4 &&& (7#64)).toNat)) y1 hy1) (all_cons (at_tmp 46 _) (all_cons (at_tmp 47 _) (all_cons (at_tmp 48 _) (all_cons (at_tmp 49 _) (all_cons (at_tmp 57 _) all_nil))))) rfl)
          (lrC (LR_nilCheck (at_tmp 45 _) rfl)
          (lrC (LR_storeA (at_tmp 59 _) (at_tmp 58 _) (cells_one (one_is rfl)) (onC (one_is rfl) onN) sz30 rfl (ble_dyn (lnA (lnC ln0)) (by have := (and7 a4_1); omega)) (stA (and7 a4_1)))
          lrN))))))))))))))))
          (by kernel_rfl)
          (saC (sS (sT1 rfl) sB0 sF0) (saC (sS (sT1 rfl) (sB1 rfl) sF0) (saC (sS (sT1 rfl) sB0 sF0) (saC (sS (sT1 rfl) sB0 sF0) (saC (sS (sT1 rfl) sB0 sF0) (saC (sS (sT1 rfl) sB0 sF0) (saC (sS (sT1 rfl) sB0 sF0) (saC (sS (sT1 rfl) (sB1 rfl) sF0) (saC (sS (sA (sT1 rfl) sT0) sB0 sF0) (saC (sS (sT1 rfl) sB0 sF0) (saC (sS (sT1 rfl) sB0 sF0) (saC (sS (sA (sT1 rfl) (sT1 rfl)) sB0 sF0) (saC (sS (sT1 rfl) (sB1 rfl) sF0) (saC (sS (sA (sT1 rfl) (sA (sT1 rfl) (sA (sT1 rfl) (sA (sT1 rfl) (sA (sT1 rfl) sT0))))) sB0 sF0) (saC (sS (sT1 rfl) sB0 sF0) (saC (sS (sA (sT1 rfl) (sT1 rfl)) (sB1 rfl) sF0) saN)))))))))))))))) ?_
        refine ⟨_, (imp_close (k := 3) (r := 1001) ((ar U64 8 (upd b3_0 ((a4_1 &&& (7#8)).toNat) y1) ++ [])) ([]) rfl (by first | rfl | simp) rfl rfl rfl rfl), ?_⟩
        refine blN ?_
        obtain rfl := Option.some.inj hr
        exact ⟨res0 rfl , (sub_keep (sub_drop (sub_drop (sub_drop sub_nil))))⟩
      · have hr := hr.trans (cond_f h)
        clear h
        refine AW_cut (σ := Bool) (fun v => ⟨[(0, .inl (tabp a0)), (2, .inl (is (U8 a2))), (3, .inr (.inl (3, 0))), (6, .inr (.inl (6, 0))), (9, .inr (.inl (9, 0))), (10, .inr (.inl (3, (a4_1 &&& (7#8)).toNat))), (11, .inl (is (U64 x1))), (12, .inl (is (U64 x2))), (42, .inl (is (U8 a4_0))), (60, .inl (is (Bl v)))], [(3, gc 90 (ar U64 8 b3_0 ++ []) ([]) (k1 Sv) 1 b3_1), (6, pb 23 [is (U8 a1_0), is (U8 a1_1)]), (9, pb 96 [is (U8 a4_0), is (U8 a4_1), is (U8 a4_2), is (U8 a4_3), is (U64 a4_4), is (Sv a4_5)])]⟩) (fun v => some r = F233_3 N a0 a1_0 a1_1 a2 b3_0 b3_1 a4_0 a4_1 a4_2 a4_3 a4_4 a4_5 x1 x2 v) ?_ ?_
        · skip
          refine AW_region ?_
          refine AL_cons (LR_bin (at_tmp 42 _) (at_c (v' := U8 (16#8)) rfl) (eql_U8 a4_0 (16#8)) rfl) (sS (sA (sT1 rfl) sT0) sB0 sF0) ?_
          refine AL_cons (LR_assign (at_tmp 61 _) rfl) (sS (sT1 rfl) sB0 sF0) ?_
          refine AL_nil ?_
          exact thenN (cutLeaf (v := a4_0 == (16#8)) hr (weakB ((sT rfl (sT rfl (sT rfl (sT rfl (sT rfl (sT rfl (sT rfl (sT rfl (sT rfl (sT rfl sT0))))))))))) (sub_keep (sub_keep (sub_keep sub_nil))) rfl))
        · rintro x4 hr
          show AW Hfaa.prog _ _ _ ⟨[(0, .inl (tabp a0)), (2, .inl (is (U8 a2))), (3, .inr (.inl (3, 0))), (6, .inr (.inl (6, 0))), (9, .inr (.inl (9, 0))), (10, .inr (.inl (3, (a4_1 &&& (7#8)).toNat))), (11, .inl (is (U64 x1))), (12, .inl (is (U64 x2))), (42, .inl (is (U8 a4_0))), (60, .inl (is (Bl x4)))], [(3, gc 90 (ar U64 8 b3_0 ++ []) ([]) (k1 Sv) 1 b3_1), (6, pb 23 [is (U8 a1_0), is (U8 a1_1)]), (9, pb 96 [is (U8 a4_0), is (U8 a4_1), is (U8 a4_2), is (U8 a4_3), is (U64 a4_4), is (Sv a4_5)])]⟩
          have hr : some r = F233_3 N a0 a1_0 a1_1 a2 b3_0 b3_1 a4_0 a4_1 a4_2 a4_3 a4_4 a4_5 x1 x2 x4 := hr
          refine AW_condT (b := x4) rfl (fun h => ?_) (fun h => ?_)
          · have hr := hr.trans (cond_t h)
            clear h
            refine AW_region ?_
            refine AL_cons (LR_move (at_tmp 10 _) rfl) (sS (sT1 rfl) sB0 sF0) ?_
            refine AL_cons (LR_loads (at_tmp 6 _) ag23 sz23 rfl rfl rfl) (sS (sT1 rfl) (sB1 rfl) sF0) ?_
            refine AL_cons (LR_move (at_tmp 11 _) rfl) (sS (sT1 rfl) sB0 sF0) ?_
            refine AL_cons (LR_move (at_tmp 12 _) rfl) (sS (sT1 rfl) sB0 sF0) ?_
            obtain ⟨y2, hy2, hr⟩ := bind_some hr
            refine AL_cons (LR_call Hfaa.func315 rfl rfl (C315 N a1_0 a1_1 x1 x2 y2 hy2) (all_cons (at_tmp 63 _) (all_cons (at_tmp 64 _) (all_cons (at_tmp 65 _) all_nil))) rfl) (sS (sA (sT1 rfl) (sA (sT1 rfl) (sA (sT1 rfl) sT0))) sB0 sF0) ?_
            refine AL_cons (LR_nilCheck (at_tmp 62 _) rfl) (sS (sT1 rfl) sB0 sF0) ?_
            refine AL_opn 3 1002 (fun sv => (ar U64 8 b3_0 ++ (is ( sv) :: []))) rfl rfl (fun _ => by first | rfl | simp) ?_
            intro sv2 hsv2
            refine AL_cons (LR_storeA (at_tmp 67 _) (at_tmp 66 _) (cells_one (one_is rfl)) (onC (one_is rfl) onN) sz30 rfl (ble_dyn (lnA (lnC ln0)) (by have := (and7 a4_1); omega)) (stA (and7 a4_1))) (sS (sA (sT1 rfl) (sT1 rfl)) (sB1 rfl) sF0) ?_
            refine AL_imp (imp_close (k := 3) (r := 1002) ((ar U64 8 (upd b3_0 ((a4_1 &&& (7#8)).toNat) y2) ++ [])) ([]) rfl (by first | rfl | simp) rfl rfl rfl rfl) ?_
            refine AL_nil ?_
            refine blN ?_
            obtain rfl := Option.some.inj hr
            exact ⟨res0 rfl , (sub_keep (sub_drop (sub_drop (sub_drop sub_nil))))⟩
          · have hr := hr.trans (cond_f h)
            clear h
            refine AW_cut (σ := Bool) (fun v => ⟨[(0, .inl (tabp a0)), (2, .inl (is (U8 a2))), (3, .inr (.inl (3, 0))), (6, .inr (.inl (6, 0))), (9, .inr (.inl (9, 0))), (10, .inr (.inl (3, (a4_1 &&& (7#8)).toNat))), (11, .inl (is (U64 x1))), (12, .inl (is (U64 x2))), (42, .inl (is (U8 a4_0))), (68, .inl (is (Bl v)))], [(3, gc 90 (ar U64 8 b3_0 ++ []) ([]) (k1 Sv) 1 b3_1), (6, pb 23 [is (U8 a1_0), is (U8 a1_1)]), (9, pb 96 [is (U8 a4_0), is (U8 a4_1), is (U8 a4_2), is (U8 a4_3), is (U64 a4_4), is (Sv a4_5)])]⟩) (fun v => some r = F233_4 N a0 a1_0 a1_1 a2 b3_0 b3_1 a4_0 a4_1 a4_2 a4_3 a4_4 a4_5 x1 x2 v) ?_ ?_
            · skip
              refine AW_region ?_
              refine AL_cons (LR_bin (at_tmp 42 _) (at_c (v' := U8 (17#8)) rfl) (eql_U8 a4_0 (17#8)) rfl) (sS (sA (sT1 rfl) sT0) sB0 sF0) ?_
              refine AL_cons (LR_assign (at_tmp 69 _) rfl) (sS (sT1 rfl) sB0 sF0) ?_
              refine AL_nil ?_
              exact thenN (cutLeaf (v := a4_0 == (17#8)) hr (weakB ((sT rfl (sT rfl (sT rfl (sT rfl (sT rfl (sT rfl (sT rfl (sT rfl (sT rfl (sT rfl sT0))))))))))) (sub_keep (sub_keep (sub_keep sub_nil))) rfl))
            · rintro x5 hr
              show AW Hfaa.prog _ _ _ ⟨[(0, .inl (tabp a0)), (2, .inl (is (U8 a2))), (3, .inr (.inl (3, 0))), (6, .inr (.inl (6, 0))), (9, .inr (.inl (9, 0))), (10, .inr (.inl (3, (a4_1 &&& (7#8)).toNat))), (11, .inl (is (U64 x1))), (12, .inl (is (U64 x2))), (42, .inl (is (U8 a4_0))), (68, .inl (is (Bl x5)))], [(3, gc 90 (ar U64 8 b3_0 ++ []) ([]) (k1 Sv) 1 b3_1), (6, pb 23 [is (U8 a1_0), is (U8 a1_1)]), (9, pb 96 [is (U8 a4_0), is (U8 a4_1), is (U8 a4_2), is (U8 a4_3), is (U64 a4_4), is (Sv a4_5)])]⟩
              have hr : some r = F233_4 N a0 a1_0 a1_1 a2 b3_0 b3_1 a4_0 a4_1 a4_2 a4_3 a4_4 a4_5 x1 x2 x5 := hr
              refine AW_condT (b := x5) rfl (fun h => ?_) (fun h => ?_)
              · have hr := hr.trans (cond_t h)
                clear h
                refine AW_region ?_
                refine AL_cons (LR_move (at_tmp 10 _) rfl) (sS (sT1 rfl) sB0 sF0) ?_
                refine AL_cons (LR_loads (at_tmp 6 _) ag23 sz23 rfl rfl rfl) (sS (sT1 rfl) (sB1 rfl) sF0) ?_
                refine AL_cons (LR_fieldAddr (off := 0) (o := 4) (at_tmp 9 _) (fun b w => fa96_4 b 0 w) rfl) (sS (sT1 rfl) sB0 sF0) ?_
                refine AL_cons (LR_load (at_tmp 72 _) na30 rfl rfl) (sS (sT1 rfl) (sB1 rfl) sF0) ?_
                refine AL_cons (LR_conv (vx := U64 a4_4) (at_tmp 73 _) (conv_U8 Hfaa.underlying30 Hfaa.underlying24 (a4_4.toNat : Int)) rfl) (sS (sT1 rfl) sB0 sF0) ?_
                refine AL_cons (LR_move (at_tmp 11 _) rfl) (sS (sT1 rfl) sB0 sF0) ?_
                obtain ⟨y3, hy3, hr⟩ := bind_some hr
                refine AL_cons (LR_call Hfaa.func316 rfl rfl (C316 N a1_0 a1_1 (BitVec.ofInt 8 (a4_4.toNat : Int)) x1 y3 hy3) (all_cons (at_tmp 71 _) (all_cons (at_tmp 74 _) (all_cons (at_tmp 75 _) all_nil))) rfl) (sS (sA (sT1 rfl) (sA (sT1 rfl) (sA (sT1 rfl) sT0))) sB0 sF0) ?_
                refine AL_cons (LR_nilCheck (at_tmp 70 _) rfl) (sS (sT1 rfl) sB0 sF0) ?_
                refine AL_opn 3 1003 (fun sv => (ar U64 8 b3_0 ++ (is ( sv) :: []))) rfl rfl (fun _ => by first | rfl | simp) ?_
                intro sv3 hsv3
                refine AL_cons (LR_storeA (at_tmp 77 _) (at_tmp 76 _) (cells_one (one_is rfl)) (onC (one_is rfl) onN) sz30 rfl (ble_dyn (lnA (lnC ln0)) (by have := (and7 a4_1); omega)) (stA (and7 a4_1))) (sS (sA (sT1 rfl) (sT1 rfl)) (sB1 rfl) sF0) ?_
                refine AL_imp (imp_close (k := 3) (r := 1003) ((ar U64 8 (upd b3_0 ((a4_1 &&& (7#8)).toNat) y3) ++ [])) ([]) rfl (by first | rfl | simp) rfl rfl rfl rfl) ?_
                refine AL_nil ?_
                refine blN ?_
                obtain rfl := Option.some.inj hr
                exact ⟨res0 rfl , (sub_keep (sub_drop (sub_drop (sub_drop sub_nil))))⟩
              · have hr := hr.trans (cond_f h)
                clear h
                refine AW_cut (σ := Bool) (fun v => ⟨[(0, .inl (tabp a0)), (2, .inl (is (U8 a2))), (3, .inr (.inl (3, 0))), (6, .inr (.inl (6, 0))), (9, .inr (.inl (9, 0))), (10, .inr (.inl (3, (a4_1 &&& (7#8)).toNat))), (11, .inl (is (U64 x1))), (12, .inl (is (U64 x2))), (42, .inl (is (U8 a4_0))), (78, .inl (is (Bl v)))], [(3, gc 90 (ar U64 8 b3_0 ++ []) ([]) (k1 Sv) 1 b3_1), (6, pb 23 [is (U8 a1_0), is (U8 a1_1)]), (9, pb 96 [is (U8 a4_0), is (U8 a4_1), is (U8 a4_2), is (U8 a4_3), is (U64 a4_4), is (Sv a4_5)])]⟩) (fun v => some r = F233_5 N a0 a1_0 a1_1 a2 b3_0 b3_1 a4_0 a4_1 a4_2 a4_3 a4_4 a4_5 x1 x2 v) ?_ ?_
                · skip
                  refine AW_region ?_
                  refine AL_cons (LR_bin (at_tmp 42 _) (at_c (v' := U8 (18#8)) rfl) (eql_U8 a4_0 (18#8)) rfl) (sS (sA (sT1 rfl) sT0) sB0 sF0) ?_
                  refine AL_cons (LR_assign (at_tmp 79 _) rfl) (sS (sT1 rfl) sB0 sF0) ?_
                  refine AL_nil ?_
                  exact thenN (cutLeaf (v := a4_0 == (18#8)) hr (weakB ((sT rfl (sT rfl (sT rfl (sT rfl (sT rfl (sT rfl (sT rfl (sT rfl (sT rfl (sT rfl sT0))))))))))) (sub_keep (sub_keep (sub_keep sub_nil))) rfl))
                · rintro x6 hr
                  show AW Hfaa.prog _ _ _ ⟨[(0, .inl (tabp a0)), (2, .inl (is (U8 a2))), (3, .inr (.inl (3, 0))), (6, .inr (.inl (6, 0))), (9, .inr (.inl (9, 0))), (10, .inr (.inl (3, (a4_1 &&& (7#8)).toNat))), (11, .inl (is (U64 x1))), (12, .inl (is (U64 x2))), (42, .inl (is (U8 a4_0))), (78, .inl (is (Bl x6)))], [(3, gc 90 (ar U64 8 b3_0 ++ []) ([]) (k1 Sv) 1 b3_1), (6, pb 23 [is (U8 a1_0), is (U8 a1_1)]), (9, pb 96 [is (U8 a4_0), is (U8 a4_1), is (U8 a4_2), is (U8 a4_3), is (U64 a4_4), is (Sv a4_5)])]⟩
                  have hr : some r = F233_5 N a0 a1_0 a1_1 a2 b3_0 b3_1 a4_0 a4_1 a4_2 a4_3 a4_4 a4_5 x1 x2 x6 := hr
                  refine AW_condT (b := x6) rfl (fun h => ?_) (fun h => ?_)
                  · have hr := hr.trans (cond_t h)
                    clear h
                    refine AW_region ?_
                    refine AL_cons (LR_move (at_tmp 10 _) rfl) (sS (sT1 rfl) sB0 sF0) ?_
                    refine AL_cons (LR_loads (at_tmp 6 _) ag23 sz23 rfl rfl rfl) (sS (sT1 rfl) (sB1 rfl) sF0) ?_
                    refine AL_cons (LR_move (at_tmp 11 _) rfl) (sS (sT1 rfl) sB0 sF0) ?_
                    refine AL_cons (LR_move (at_tmp 12 _) rfl) (sS (sT1 rfl) sB0 sF0) ?_
                    obtain ⟨y4, hy4, hr⟩ := lt_some hr
                    refine AL_cons (LR_call Hfaa.func317 rfl rfl (C317 a1_0 a1_1 x1 x2 y4 hy4) (all_cons (at_tmp 81 _) (all_cons (at_tmp 82 _) (all_cons (at_tmp 83 _) all_nil))) rfl) (sS (sA (sT1 rfl) (sA (sT1 rfl) (sA (sT1 rfl) sT0))) sB0 sF0) ?_
                    refine AL_cons (LR_nilCheck (at_tmp 80 _) rfl) (sS (sT1 rfl) sB0 sF0) ?_
                    refine AL_opn 3 1004 (fun sv => (ar U64 8 b3_0 ++ (is ( sv) :: []))) rfl rfl (fun _ => by first | rfl | simp) ?_
                    intro sv4 hsv4
                    refine AL_cons (LR_storeA (at_tmp 85 _) (at_tmp 84 _) (cells_one (one_is rfl)) (onC (one_is rfl) onN) sz30 rfl (ble_dyn (lnA (lnC ln0)) (by have := (and7 a4_1); omega)) (stA (and7 a4_1))) (sS (sA (sT1 rfl) (sT1 rfl)) (sB1 rfl) sF0) ?_
                    refine AL_imp (imp_close (k := 3) (r := 1004) ((ar U64 8 (upd b3_0 ((a4_1 &&& (7#8)).toNat) y4) ++ [])) ([]) rfl (by first | rfl | simp) rfl rfl rfl rfl) ?_
                    refine AL_nil ?_
                    refine blN ?_
                    obtain rfl := Option.some.inj hr
                    exact ⟨res0 rfl , (sub_keep (sub_drop (sub_drop (sub_drop sub_nil))))⟩
                  · have hr := hr.trans (cond_f h)
                    clear h
                    refine AW_cut (σ := Bool) (fun v => ⟨[(0, .inl (tabp a0)), (2, .inl (is (U8 a2))), (3, .inr (.inl (3, 0))), (6, .inr (.inl (6, 0))), (9, .inr (.inl (9, 0))), (10, .inr (.inl (3, (a4_1 &&& (7#8)).toNat))), (11, .inl (is (U64 x1))), (12, .inl (is (U64 x2))), (42, .inl (is (U8 a4_0))), (86, .inl (is (Bl v)))], [(3, gc 90 (ar U64 8 b3_0 ++ []) ([]) (k1 Sv) 1 b3_1), (6, pb 23 [is (U8 a1_0), is (U8 a1_1)]), (9, pb 96 [is (U8 a4_0), is (U8 a4_1), is (U8 a4_2), is (U8 a4_3), is (U64 a4_4), is (Sv a4_5)])]⟩) (fun v => some r = F233_6 N a0 a1_0 a1_1 a2 b3_0 b3_1 a4_0 a4_1 a4_2 a4_3 a4_4 a4_5 x1 x2 v) ?_ ?_
                    · skip
                      refine AW_region ?_
                      refine AL_cons (LR_bin (at_tmp 42 _) (at_c (v' := U8 (19#8)) rfl) (eql_U8 a4_0 (19#8)) rfl) (sS (sA (sT1 rfl) sT0) sB0 sF0) ?_
                      refine AL_cons (LR_assign (at_tmp 87 _) rfl) (sS (sT1 rfl) sB0 sF0) ?_
                      refine AL_nil ?_
                      exact thenN (cutLeaf (v := a4_0 == (19#8)) hr (weakB ((sT rfl (sT rfl (sT rfl (sT rfl (sT rfl (sT rfl (sT rfl (sT rfl (sT rfl (sT rfl sT0))))))))))) (sub_keep (sub_keep (sub_keep sub_nil))) rfl))
                    · rintro x7 hr
                      show AW Hfaa.prog _ _ _ ⟨[(0, .inl (tabp a0)), (2, .inl (is (U8 a2))), (3, .inr (.inl (3, 0))), (6, .inr (.inl (6, 0))), (9, .inr (.inl (9, 0))), (10, .inr (.inl (3, (a4_1 &&& (7#8)).toNat))), (11, .inl (is (U64 x1))), (12, .inl (is (U64 x2))), (42, .inl (is (U8 a4_0))), (86, .inl (is (Bl x7)))], [(3, gc 90 (ar U64 8 b3_0 ++ []) ([]) (k1 Sv) 1 b3_1), (6, pb 23 [is (U8 a1_0), is (U8 a1_1)]), (9, pb 96 [is (U8 a4_0), is (U8 a4_1), is (U8 a4_2), is (U8 a4_3), is (U64 a4_4), is (Sv a4_5)])]⟩
                      have hr : some r = F233_6 N a0 a1_0 a1_1 a2 b3_0 b3_1 a4_0 a4_1 a4_2 a4_3 a4_4 a4_5 x1 x2 x7 := hr
                      refine AW_condT (b := x7) rfl (fun h => ?_) (fun h => ?_)
                      · have hr := hr.trans (cond_t h)
                        clear h
                        refine AW_region ?_
                        refine AL_cons (LR_move (at_tmp 10 _) rfl) (sS (sT1 rfl) sB0 sF0) ?_
                        refine AL_cons (LR_loads (at_tmp 6 _) ag23 sz23 rfl rfl rfl) (sS (sT1 rfl) (sB1 rfl) sF0) ?_
                        refine AL_cons (LR_move (at_tmp 11 _) rfl) (sS (sT1 rfl) sB0 sF0) ?_
                        refine AL_cons (LR_move (at_tmp 12 _) rfl) (sS (sT1 rfl) sB0 sF0) ?_
                        obtain ⟨y5, hy5, hr⟩ := lt_some hr
                        refine AL_cons (LR_call Hfaa.func318 rfl rfl (C318 a1_0 a1_1 x1 x2 y5 hy5) (all_cons (at_tmp 89 _) (all_cons (at_tmp 90 _) (all_cons (at_tmp 91 _) all_nil))) rfl) (sS (sA (sT1 rfl) (sA (sT1 rfl) (sA (sT1 rfl) sT0))) sB0 sF0) ?_
                        refine AL_cons (LR_nilCheck (at_tmp 88 _) rfl) (sS (sT1 rfl) sB0 sF0) ?_
                        refine AL_opn 3 1005 (fun sv => (ar U64 8 b3_0 ++ (is ( sv) :: []))) rfl rfl (fun _ => by first | rfl | simp) ?_
                        intro sv5 hsv5
                        refine AL_cons (LR_storeA (at_tmp 93 _) (at_tmp 92 _) (cells_one (one_is rfl)) (onC (one_is rfl) onN) sz30 rfl (ble_dyn (lnA (lnC ln0)) (by have := (and7 a4_1); omega)) (stA (and7 a4_1))) (sS (sA (sT1 rfl) (sT1 rfl)) (sB1 rfl) sF0) ?_
                        refine AL_imp (imp_close (k := 3) (r := 1005) ((ar U64 8 (upd b3_0 ((a4_1 &&& (7#8)).toNat) y5) ++ [])) ([]) rfl (by first | rfl | simp) rfl rfl rfl rfl) ?_
                        refine AL_nil ?_
                        refine blN ?_
                        obtain rfl := Option.some.inj hr
                        exact ⟨res0 rfl , (sub_keep (sub_drop (sub_drop (sub_drop sub_nil))))⟩
                      · have hr := hr.trans (cond_f h)
                        clear h
                        refine AW_cut (σ := Bool) (fun v => ⟨[(0, .inl (tabp a0)), (2, .inl (is (U8 a2))), (3, .inr (.inl (3, 0))), (6, .inr (.inl (6, 0))), (9, .inr (.inl (9, 0))), (10, .inr (.inl (3, (a4_1 &&& (7#8)).toNat))), (11, .inl (is (U64 x1))), (12, .inl (is (U64 x2))), (42, .inl (is (U8 a4_0))), (94, .inl (is (Bl v)))], [(3, gc 90 (ar U64 8 b3_0 ++ []) ([]) (k1 Sv) 1 b3_1), (6, pb 23 [is (U8 a1_0), is (U8 a1_1)]), (9, pb 96 [is (U8 a4_0), is (U8 a4_1), is (U8 a4_2), is (U8 a4_3), is (U64 a4_4), is (Sv a4_5)])]⟩) (fun v => some r = F233_7 N a0 a1_0 a1_1 a2 b3_0 b3_1 a4_0 a4_1 a4_2 a4_3 a4_4 a4_5 x1 x2 v) ?_ ?_
                        · skip
                          refine AW_region ?_
                          refine AL_cons (LR_bin (at_tmp 42 _) (at_c (v' := U8 (20#8)) rfl) (eql_U8 a4_0 (20#8)) rfl) (sS (sA (sT1 rfl) sT0) sB0 sF0) ?_
                          refine AL_cons (LR_assign (at_tmp 95 _) rfl) (sS (sT1 rfl) sB0 sF0) ?_
                          refine AL_nil ?_
                          exact thenN (cutLeaf (v := a4_0 == (20#8)) hr (weakB ((sT rfl (sT rfl (sT rfl (sT rfl (sT rfl (sT rfl (sT rfl (sT rfl (sT rfl (sT rfl sT0))))))))))) (sub_keep (sub_keep (sub_keep sub_nil))) rfl))
                        · rintro x8 hr
                          show AW Hfaa.prog _ _ _ ⟨[(0, .inl (tabp a0)), (2, .inl (is (U8 a2))), (3, .inr (.inl (3, 0))), (6, .inr (.inl (6, 0))), (9, .inr (.inl (9, 0))), (10, .inr (.inl (3, (a4_1 &&& (7#8)).toNat))), (11, .inl (is (U64 x1))), (12, .inl (is (U64 x2))), (42, .inl (is (U8 a4_0))), (94, .inl (is (Bl x8)))], [(3, gc 90 (ar U64 8 b3_0 ++ []) ([]) (k1 Sv) 1 b3_1), (6, pb 23 [is (U8 a1_0), is (U8 a1_1)]), (9, pb 96 [is (U8 a4_0), is (U8 a4_1), is (U8 a4_2), is (U8 a4_3), is (U64 a4_4), is (Sv a4_5)])]⟩
                          have hr : some r = F233_7 N a0 a1_0 a1_1 a2 b3_0 b3_1 a4_0 a4_1 a4_2 a4_3 a4_4 a4_5 x1 x2 x8 := hr
                          refine AW_condT (b := x8) rfl (fun h => ?_) (fun h => ?_)
                          · have hr := hr.trans (cond_t h)
                            clear h
                            refine AW_region ?_
                            refine AL_cons (LR_move (at_tmp 10 _) rfl) (sS (sT1 rfl) sB0 sF0) ?_
                            refine AL_cons (LR_loads (at_tmp 6 _) ag23 sz23 rfl rfl rfl) (sS (sT1 rfl) (sB1 rfl) sF0) ?_
                            refine AL_cons (LR_move (at_tmp 11 _) rfl) (sS (sT1 rfl) sB0 sF0) ?_
                            obtain ⟨y6, hy6, hr⟩ := lt_some hr
                            refine AL_cons (LR_call Hfaa.func319 rfl rfl (C319 a1_0 a1_1 x1 y6 hy6) (all_cons (at_tmp 97 _) (all_cons (at_tmp 98 _) all_nil)) rfl) (sS (sA (sT1 rfl) (sA (sT1 rfl) sT0)) sB0 sF0) ?_
                            refine AL_cons (LR_nilCheck (at_tmp 96 _) rfl) (sS (sT1 rfl) sB0 sF0) ?_
                            refine AL_opn 3 1006 (fun sv => (ar U64 8 b3_0 ++ (is ( sv) :: []))) rfl rfl (fun _ => by first | rfl | simp) ?_
                            intro sv6 hsv6
                            refine AL_cons (LR_storeA (at_tmp 100 _) (at_tmp 99 _) (cells_one (one_is rfl)) (onC (one_is rfl) onN) sz30 rfl (ble_dyn (lnA (lnC ln0)) (by have := (and7 a4_1); omega)) (stA (and7 a4_1))) (sS (sA (sT1 rfl) (sT1 rfl)) (sB1 rfl) sF0) ?_
                            refine AL_imp (imp_close (k := 3) (r := 1006) ((ar U64 8 (upd b3_0 ((a4_1 &&& (7#8)).toNat) y6) ++ [])) ([]) rfl (by first | rfl | simp) rfl rfl rfl rfl) ?_
                            refine AL_nil ?_
                            refine blN ?_
                            obtain rfl := Option.some.inj hr
                            exact ⟨res0 rfl , (sub_keep (sub_drop (sub_drop (sub_drop sub_nil))))⟩
                          · have hr := hr.trans (cond_f h)
                            clear h
                            refine AW_cut (σ := Bool) (fun v => ⟨[(0, .inl (tabp a0)), (2, .inl (is (U8 a2))), (3, .inr (.inl (3, 0))), (6, .inr (.inl (6, 0))), (9, .inr (.inl (9, 0))), (10, .inr (.inl (3, (a4_1 &&& (7#8)).toNat))), (11, .inl (is (U64 x1))), (12, .inl (is (U64 x2))), (42, .inl (is (U8 a4_0))), (101, .inl (is (Bl v)))], [(3, gc 90 (ar U64 8 b3_0 ++ []) ([]) (k1 Sv) 1 b3_1), (6, pb 23 [is (U8 a1_0), is (U8 a1_1)]), (9, pb 96 [is (U8 a4_0), is (U8 a4_1), is (U8 a4_2), is (U8 a4_3), is (U64 a4_4), is (Sv a4_5)])]⟩) (fun v => some r = F233_8 N a0 a1_0 a1_1 a2 b3_0 b3_1 a4_0 a4_1 a4_2 a4_3 a4_4 a4_5 x1 x2 v) ?_ ?_
                            · skip
                              refine AW_region ?_
                              refine AL_cons (LR_bin (at_tmp 42 _) (at_c (v' := U8 (21#8)) rfl) (eql_U8 a4_0 (21#8)) rfl) (sS (sA (sT1 rfl) sT0) sB0 sF0) ?_
                              refine AL_cons (LR_assign (at_tmp 102 _) rfl) (sS (sT1 rfl) sB0 sF0) ?_
                              refine AL_nil ?_
                              exact thenN (cutLeaf (v := a4_0 == (21#8)) hr (weakB ((sT rfl (sT rfl (sT rfl (sT rfl (sT rfl (sT rfl (sT rfl (sT rfl (sT rfl (sT rfl sT0))))))))))) (sub_keep (sub_keep (sub_keep sub_nil))) rfl))
                            · rintro x9 hr
                              show AW Hfaa.prog _ _ _ ⟨[(0, .inl (tabp a0)), (2, .inl (is (U8 a2))), (3, .inr (.inl (3, 0))), (6, .inr (.inl (6, 0))), (9, .inr (.inl (9, 0))), (10, .inr (.inl (3, (a4_1 &&& (7#8)).toNat))), (11, .inl (is (U64 x1))), (12, .inl (is (U64 x2))), (42, .inl (is (U8 a4_0))), (101, .inl (is (Bl x9)))], [(3, gc 90 (ar U64 8 b3_0 ++ []) ([]) (k1 Sv) 1 b3_1), (6, pb 23 [is (U8 a1_0), is (U8 a1_1)]), (9, pb 96 [is (U8 a4_0), is (U8 a4_1), is (U8 a4_2), is (U8 a4_3), is (U64 a4_4), is (Sv a4_5)])]⟩
                              have hr : some r = F233_8 N a0 a1_0 a1_1 a2 b3_0 b3_1 a4_0 a4_1 a4_2 a4_3 a4_4 a4_5 x1 x2 x9 := hr
                              refine AW_condT (b := x9) rfl (fun h => ?_) (fun h => ?_)
                              · have hr := hr.trans (cond_t h)
                                clear h
                                refine AW_region ?_
                                refine AL_cons (LR_move (at_tmp 10 _) rfl) (sS (sT1 rfl) sB0 sF0) ?_
                                refine AL_cons (LR_loads (at_tmp 6 _) ag23 sz23 rfl rfl rfl) (sS (sT1 rfl) (sB1 rfl) sF0) ?_
                                refine AL_cons (LR_move (at_tmp 11 _) rfl) (sS (sT1 rfl) sB0 sF0) ?_
                                obtain ⟨y7, hy7, hr⟩ := lt_some hr
                                refine AL_cons (LR_call Hfaa.func320 rfl rfl (C320 a1_0 a1_1 x1 y7 hy7) (all_cons (at_tmp 104 _) (all_cons (at_tmp 105 _) all_nil)) rfl) (sS (sA (sT1 rfl) (sA (sT1 rfl) sT0)) sB0 sF0) ?_
                                refine AL_cons (LR_nilCheck (at_tmp 103 _) rfl) (sS (sT1 rfl) sB0 sF0) ?_
                                refine AL_opn 3 1007 (fun sv => (ar U64 8 b3_0 ++ (is ( sv) :: []))) rfl rfl (fun _ => by first | rfl | simp) ?_
                                intro sv7 hsv7
                                refine AL_cons (LR_storeA (at_tmp 107 _) (at_tmp 106 _) (cells_one (one_is rfl)) (onC (one_is rfl) onN) sz30 rfl (ble_dyn (lnA (lnC ln0)) (by have := (and7 a4_1); omega)) (stA (and7 a4_1))) (sS (sA (sT1 rfl) (sT1 rfl)) (sB1 rfl) sF0) ?_
                                refine AL_imp (imp_close (k := 3) (r := 1007) ((ar U64 8 (upd b3_0 ((a4_1 &&& (7#8)).toNat) y7) ++ [])) ([]) rfl (by first | rfl | simp) rfl rfl rfl rfl) ?_
                                refine AL_nil ?_
                                refine blN ?_
                                obtain rfl := Option.some.inj hr
                                exact ⟨res0 rfl , (sub_keep (sub_drop (sub_drop (sub_drop sub_nil))))⟩
                              · have hr := hr.trans (cond_f h)
                                clear h
                                refine AW_cut (σ := Bool) (fun v => ⟨[(0, .inl (tabp a0)), (2, .inl (is (U8 a2))), (3, .inr (.inl (3, 0))), (6, .inr (.inl (6, 0))), (9, .inr (.inl (9, 0))), (10, .inr (.inl (3, (a4_1 &&& (7#8)).toNat))), (11, .inl (is (U64 x1))), (12, .inl (is (U64 x2))), (42, .inl (is (U8 a4_0))), (108, .inl (is (Bl v)))], [(3, gc 90 (ar U64 8 b3_0 ++ []) ([]) (k1 Sv) 1 b3_1), (6, pb 23 [is (U8 a1_0), is (U8 a1_1)]), (9, pb 96 [is (U8 a4_0), is (U8 a4_1), is (U8 a4_2), is (U8 a4_3), is (U64 a4_4), is (Sv a4_5)])]⟩) (fun v => some r = F233_9 N a0 a1_0 a1_1 a2 b3_0 b3_1 a4_0 a4_1 a4_2 a4_3 a4_4 a4_5 x1 x2 v) ?_ ?_
                                · skip
                                  refine AW_region ?_
                                  refine AL_cons (LR_bin (at_tmp 42 _) (at_c (v' := U8 (22#8)) rfl) (eql_U8 a4_0 (22#8)) rfl) (sS (sA (sT1 rfl) sT0) sB0 sF0) ?_
                                  refine AL_cons (LR_assign (at_tmp 109 _) rfl) (sS (sT1 rfl) sB0 sF0) ?_
                                  refine AL_nil ?_
                                  exact thenN (cutLeaf (v := a4_0 == (22#8)) hr (weakB ((sT rfl (sT rfl (sT rfl (sT rfl (sT rfl (sT rfl (sT rfl (sT rfl (sT rfl (sT rfl sT0))))))))))) (sub_keep (sub_keep (sub_keep sub_nil))) rfl))
                                · rintro x10 hr
                                  show AW Hfaa.prog _ _ _ ⟨[(0, .inl (tabp a0)), (2, .inl (is (U8 a2))), (3, .inr (.inl (3, 0))), (6, .inr (.inl (6, 0))), (9, .inr (.inl (9, 0))), (10, .inr (.inl (3, (a4_1 &&& (7#8)).toNat))), (11, .inl (is (U64 x1))), (12, .inl (is (U64 x2))), (42, .inl (is (U8 a4_0))), (108, .inl (is (Bl x10)))], [(3, gc 90 (ar U64 8 b3_0 ++ []) ([]) (k1 Sv) 1 b3_1), (6, pb 23 [is (U8 a1_0), is (U8 a1_1)]), (9, pb 96 [is (U8 a4_0), is (U8 a4_1), is (U8 a4_2), is (U8 a4_3), is (U64 a4_4), is (Sv a4_5)])]⟩
                                  have hr : some r = F233_9 N a0 a1_0 a1_1 a2 b3_0 b3_1 a4_0 a4_1 a4_2 a4_3 a4_4 a4_5 x1 x2 x10 := hr
                                  refine AW_condT (b := x10) rfl (fun h => ?_) (fun h => ?_)
                                  · have hr := hr.trans (cond_t h)
                                    clear h
                                    refine AW_opn 3 1008 (fun sv => (ar U64 8 b3_0 ++ (is ( sv) :: []))) rfl rfl (fun _ => by first | rfl | simp) ?_
                                    intro sv8 hsv8
                                    obtain ⟨y8, hy8, hr⟩ := lt_some hr
                                    obtain ⟨y9, hy9, hr⟩ := lt_some hr
                                    obtain ⟨y10, hy10, hr⟩ := lt_some hr
                                    obtain ⟨y11, hy11, hr⟩ := bind_some hr
                                    obtain ⟨y12, hy12, hr⟩ := bind_some hr
                                    obtain ⟨hg1, hr⟩ := guard_some hr
                                    refine AW_post ?_
                                    refine AW_drawV 29 1008 mixed (fun sv9 => [(⟨[(110, .inr (.inl (3, 0)))], [], []⟩, ⟨[(140, .inr (.inl (3, 0)))], []⟩), (⟨[(140, .inr (.inl (3, 0)))], [], []⟩, ⟨[(141, .inr (.inl (3, 8)))], []⟩), (⟨[(141, .inr (.inl (3, 8))), (139, .inl (is ( sv9)))], [(3, pb 90 (ar U64 8 b3_0 ++ (is ( sv8) :: [])))], []⟩, ⟨[], [(3, pb 90 (ar U64 8 b3_0 ++ (is ( sv9) :: [])))]⟩)])
                                      (lrC (LR_move (at_tmp 3 _) rfl)
                                      (lrC (LR_move (at_tmp 3 _) rfl)
                                      (lrC (LR_nilCheck (at_tmp 111 _) rfl)
                                      (lrC (LR_fieldAddr (off := 0) (o := 8) (at_tmp 112 _) (fun b w => fa90_1 b 0 w) rfl)
                                      (lrC (LR_load (at_tmp 113 _) na57 (gP g0) rfl)
                                      (lrC (LR_loads (at_tmp 6 _) ag23 sz23 rfl rfl rfl)
                                      (lrC (LR_move (at_tmp 2 _) rfl)
                                      (lrC (LR_fieldAddr (off := 0) (o := 4) (at_tmp 9 _) (fun b w => fa96_4 b 0 w) rfl)
                                      (lrC (LR_load (at_tmp 117 _) na30 rfl rfl)
                                      (lrC (LR_loads (at_tmp 6 _) ag23 sz23 rfl rfl rfl)
                                      (lrC (LR_move (at_tmp 11 _) rfl)
                                      (lrC (LR_call Hfaa.func228 rfl rfl (C228 a1_0 a1_1 x1 y8 hy8) (all_cons (at_tmp 119 _) (all_cons (at_tmp 120 _) all_nil)) rfl)
                                      (lrC (LR_loads (at_tmp 6 _) ag23 sz23 rfl rfl rfl)
                                      (lrC (LR_move (at_tmp 12 _) rfl)
                                      (lrC (LR_call Hfaa.func228 rfl rfl (C228 a1_0 a1_1 x2 y9 hy9) (all_cons (at_tmp 122 _) (all_cons (at_tmp 123 _) all_nil)) rfl)
                                      (lrC (LR_loads (at_tmp 6 _) ag23 sz23 rfl rfl rfl)
                                      (lrC (LR_move (at_tmp 3 _) rfl)
                                      (lrC (LR_fieldAddr (off := 0) (o := 4) (at_tmp 9 _) (fun b w => fa96_4 b 0 w) rfl)
                                      (lrC (LR_load (at_tmp 127 _) na30 rfl rfl)
                                      (lrC (LR_bin (at_tmp 128 _) (at_c (v' := U64 (3#64)) rfl) (shr_U64 a4_4 ((3#64).toNat : Int) (Int.natCast_nonneg _)) rfl)
                                      (lrC (LR_bin (at_tmp 129 _) (at_c (v' := U64 (7#64)) rfl) (and_U64 (a4_4 >>> 3) (7#64)) rfl)
                                      (lrC (LR_nilCheck (at_tmp 126 _) rfl)
                                      (lrC (LR_fieldAddr (off := 0) (o := 0) (at_tmp 131 _) (fun b w => fa90_0 b 0 w) rfl)
                                      (lrC (LR_indexAddr (o := ((a4_4 >>> 3) &&& (7#64)).toNat) Hfaa.underlying35 sz30 (at_tmp 132 _) (at_tmp 130 _) (natIx (and7q (a4_4 >>> 3))) (by first | rfl | omega) rfl)
                                      (lrC (LR_load (at_tmp 133 _) na30 (gA (and7q (a4_4 >>> 3))) rfl)
                                      (lrC (LR_call Hfaa.func228 rfl rfl (C228 a1_0 a1_1 (b3_0 (((a4_4 >>> 3) &&& (7#64)).toNat)) y10 hy10) (all_cons (at_tmp 125 _) (all_cons (at_tmp 134 _) all_nil)) rfl)
                                      (lrC (LR_call Hfaa.func321 rfl rfl (C321 N a1_0 a1_1 a2 a4_4 y8 y9 y10 y11 hy11) (all_cons (at_tmp 115 _) (all_cons (at_tmp 116 _) (all_cons (at_tmp 118 _) (all_cons (at_tmp 121 _) (all_cons (at_tmp 124 _) (all_cons (at_tmp 135 _) all_nil)))))) rfl)
                                      (lrC (LR_call Hfaa.func301 rfl rfl (C301 N y11 y12 hy12) (all_cons (at_tmp 136 _) all_nil) rfl)
                                      (lrC (LR_bs1 Hfaa.underlying57 el9 (fun _ => rfl) (at_tmp 137 _) rfl)
                                      lrN)))))))))))))))))))))))))))))
                                      rfl
                                      (app_opk (K := (k1 Sv)) (r := 1008) (z := b3_1) (u := y12) Hfaa.underlying57 eN9 k1_len (k1_cell fun _ => rfl) (at_tmp 114 _) (at_tmp 138 _) (oneAt_k1 rfl) (of_decide_eq_true hg1) rfl rfl)
                                      (fun sv9 hsv9 => (lrC (LR_nilCheck (at_tmp 110 _) rfl)
                                      (lrC (LR_fieldAddr (off := 0) (o := 8) (at_tmp 140 _) (fun b w => fa90_1 b 0 w) rfl)
                                      (lrC (LR_storeA (at_tmp 141 _) (at_tmp 139 _) (cells_one (one_is hsv9)) (onC (one_is hsv9) onN) sz57 rfl (bleLen (lnA (lnC ln0)) rfl) (stP st0))
                                      lrN))))
                                      (fun sv9 hsv9 => by kernel_rfl)
                                      (fun sv9 hsv9 => (saC (sS (sT1 rfl) sB0 sF0) (saC (sS (sT1 rfl) sB0 sF0) (saC (sS (sT1 rfl) sB0 sF0) (saC (sS (sT1 rfl) sB0 sF0) (saC (sS (sT1 rfl) (sB1 rfl) sF0) (saC (sS (sT1 rfl) (sB1 rfl) sF0) (saC (sS (sT1 rfl) sB0 sF0) (saC (sS (sT1 rfl) sB0 sF0) (saC (sS (sT1 rfl) (sB1 rfl) sF0) (saC (sS (sT1 rfl) (sB1 rfl) sF0) (saC (sS (sT1 rfl) sB0 sF0) (saC (sS (sA (sT1 rfl) (sA (sT1 rfl) sT0)) sB0 sF0) (saC (sS (sT1 rfl) (sB1 rfl) sF0) (saC (sS (sT1 rfl) sB0 sF0) (saC (sS (sA (sT1 rfl) (sA (sT1 rfl) sT0)) sB0 sF0) (saC (sS (sT1 rfl) (sB1 rfl) sF0) (saC (sS (sT1 rfl) sB0 sF0) (saC (sS (sT1 rfl) sB0 sF0) (saC (sS (sT1 rfl) (sB1 rfl) sF0) (saC (sS (sA (sT1 rfl) sT0) sB0 sF0) (saC (sS (sA (sT1 rfl) sT0) sB0 sF0) (saC (sS (sT1 rfl) sB0 sF0) (saC (sS (sT1 rfl) sB0 sF0) (saC (sS (sA (sT1 rfl) (sT1 rfl)) sB0 sF0) (saC (sS (sT1 rfl) (sB1 rfl) sF0) (saC (sS (sA (sT1 rfl) (sA (sT1 rfl) sT0)) sB0 sF0) (saC (sS (sA (sT1 rfl) (sA (sT1 rfl) (sA (sT1 rfl) (sA (sT1 rfl) (sA (sT1 rfl) (sA (sT1 rfl) sT0)))))) sB0 sF0) (saC (sS (sA (sT1 rfl) sT0) sB0 sF0) (saC (sS (sT1 rfl) sB0 sF0) (saC (sS (sA (sT1 rfl) (sT1 rfl)) (sB1 rfl) sF0) (saC (sS (sT1 rfl) sB0 sF0) (saC (sS (sT1 rfl) sB0 sF0) (saC (sS (sA (sT1 rfl) (sT1 rfl)) (sB1 rfl) sF0) saN))))))))))))))))))))))))))))))))))
                                      (by kernel_rfl) rfl (fun sv9 hsv9 => by kernel_rfl) ?_
                                    intro sv9 hsv9
                                    refine ⟨_, (imp_close (k := 3) (r := 1008) (ar U64 8 b3_0 ++ []) ([]) rfl (by first | rfl | simp) rfl rfl rfl rfl), ?_⟩
                                    refine blN ?_
                                    obtain rfl := Option.some.inj hr
                                    exact ⟨res0 rfl , (sub_keep (sub_drop (sub_drop (sub_drop sub_nil))))⟩
                                  · have hr := hr.trans (cond_f h)
                                    clear h
                                    refine AW_cut (σ := Bool) (fun v => ⟨[(0, .inl (tabp a0)), (2, .inl (is (U8 a2))), (3, .inr (.inl (3, 0))), (6, .inr (.inl (6, 0))), (9, .inr (.inl (9, 0))), (10, .inr (.inl (3, (a4_1 &&& (7#8)).toNat))), (11, .inl (is (U64 x1))), (42, .inl (is (U8 a4_0))), (142, .inl (is (Bl v)))], [(3, gc 90 (ar U64 8 b3_0 ++ []) ([]) (k1 Sv) 1 b3_1), (6, pb 23 [is (U8 a1_0), is (U8 a1_1)]), (9, pb 96 [is (U8 a4_0), is (U8 a4_1), is (U8 a4_2), is (U8 a4_3), is (U64 a4_4), is (Sv a4_5)])]⟩) (fun v => some r = F233_10 N a0 a1_0 a1_1 a2 b3_0 b3_1 a4_0 a4_1 a4_2 a4_3 a4_4 a4_5 x1 v) ?_ ?_
                                    · skip
                                      refine AW_cut (σ := Bool) (fun v => ⟨[(0, .inl (tabp a0)), (2, .inl (is (U8 a2))), (3, .inr (.inl (3, 0))), (6, .inr (.inl (6, 0))), (9, .inr (.inl (9, 0))), (10, .inr (.inl (3, (a4_1 &&& (7#8)).toNat))), (11, .inl (is (U64 x1))), (42, .inl (is (U8 a4_0))), (142, .inl (is (Bl v)))], [(3, gc 90 (ar U64 8 b3_0 ++ []) ([]) (k1 Sv) 1 b3_1), (6, pb 23 [is (U8 a1_0), is (U8 a1_1)]), (9, pb 96 [is (U8 a4_0), is (U8 a4_1), is (U8 a4_2), is (U8 a4_3), is (U64 a4_4), is (Sv a4_5)])]⟩) (fun v => some r = F233_25 N a0 a1_0 a1_1 a2 b3_0 b3_1 a4_0 a4_1 a4_2 a4_3 a4_4 a4_5 x1 v) ?_ ?_
                                      · skip
                                        refine AW_region ?_
                                        refine AL_cons (LR_bin (at_tmp 42 _) (at_c (v' := U8 (23#8)) rfl) (eql_U8 a4_0 (23#8)) rfl) (sS (sA (sT1 rfl) sT0) sB0 sF0) ?_
                                        refine AL_cons (LR_assign (at_tmp 143 _) rfl) (sS (sT1 rfl) sB0 sF0) ?_
                                        refine AL_nil ?_
                                        exact thenN (cutLeaf (v := a4_0 == (23#8)) hr (weakB ((sT rfl (sT rfl (sT rfl (sT rfl (sT rfl (sT rfl (sT rfl (sT rfl (sT rfl sT0)))))))))) (sub_keep (sub_keep (sub_keep sub_nil))) rfl))
                                      · rintro x32 hr
                                        show AW Hfaa.prog _ _ _ ⟨[(0, .inl (tabp a0)), (2, .inl (is (U8 a2))), (3, .inr (.inl (3, 0))), (6, .inr (.inl (6, 0))), (9, .inr (.inl (9, 0))), (10, .inr (.inl (3, (a4_1 &&& (7#8)).toNat))), (11, .inl (is (U64 x1))), (42, .inl (is (U8 a4_0))), (142, .inl (is (Bl x32)))], [(3, gc 90 (ar U64 8 b3_0 ++ []) ([]) (k1 Sv) 1 b3_1), (6, pb 23 [is (U8 a1_0), is (U8 a1_1)]), (9, pb 96 [is (U8 a4_0), is (U8 a4_1), is (U8 a4_2), is (U8 a4_3), is (U64 a4_4), is (Sv a4_5)])]⟩
                                        have hr : some r = F233_25 N a0 a1_0 a1_1 a2 b3_0 b3_1 a4_0 a4_1 a4_2 a4_3 a4_4 a4_5 x1 x32 := hr
                                        refine AW_condT (b := x32) rfl (fun h => ?_) (fun h => ?_)
                                        · have hr := hr.trans (cond_t h)
                                          clear h
                                          refine AW_skip ?_
                                          exact thenN (cutLeaf (v := x32) hr (weakB ((sT rfl (sT rfl (sT rfl (sT rfl (sT rfl (sT rfl (sT rfl (sT rfl (sT rfl sT0)))))))))) (sub_keep (sub_keep (sub_keep sub_nil))) rfl))
                                        · have hr := hr.trans (cond_f h)
                                          clear h
                                          refine AW_region ?_
                                          refine AL_cons (LR_bin (at_tmp 42 _) (at_c (v' := U8 (24#8)) rfl) (eql_U8 a4_0 (24#8)) rfl) (sS (sA (sT1 rfl) sT0) sB0 sF0) ?_
                                          refine AL_cons (LR_assign (at_tmp 144 _) rfl) (sS (sT1 rfl) sB0 sF0) ?_
                                          refine AL_nil ?_
                                          exact thenN (cutLeaf (v := a4_0 == (24#8)) hr (weakB ((sT rfl (sT rfl (sT rfl (sT rfl (sT rfl (sT rfl (sT rfl (sT rfl (sT rfl sT0)))))))))) (sub_keep (sub_keep (sub_keep sub_nil))) rfl))
                                    · rintro x11 hr
                                      show AW Hfaa.prog _ _ _ ⟨[(0, .inl (tabp a0)), (2, .inl (is (U8 a2))), (3, .inr (.inl (3, 0))), (6, .inr (.inl (6, 0))), (9, .inr (.inl (9, 0))), (10, .inr (.inl (3, (a4_1 &&& (7#8)).toNat))), (11, .inl (is (U64 x1))), (42, .inl (is (U8 a4_0))), (142, .inl (is (Bl x11)))], [(3, gc 90 (ar U64 8 b3_0 ++ []) ([]) (k1 Sv) 1 b3_1), (6, pb 23 [is (U8 a1_0), is (U8 a1_1)]), (9, pb 96 [is (U8 a4_0), is (U8 a4_1), is (U8 a4_2), is (U8 a4_3), is (U64 a4_4), is (Sv a4_5)])]⟩
                                      have hr : some r = F233_10 N a0 a1_0 a1_1 a2 b3_0 b3_1 a4_0 a4_1 a4_2 a4_3 a4_4 a4_5 x1 x11 := hr
                                      refine AW_condT (b := x11) rfl (fun h => ?_) (fun h => ?_)
                                      · have hr := hr.trans (cond_t h)
                                        clear h
                                        refine AW_opn 3 1009 (fun sv => (ar U64 8 b3_0 ++ (is ( sv) :: []))) rfl rfl (fun _ => by first | rfl | simp) ?_
                                        intro sv10 hsv10
                                        obtain ⟨y13, hy13, hr⟩ := bind_some hr
                                        obtain ⟨hg2, hr⟩ := guard_some hr
                                        refine AW_post ?_
                                        refine AW_drawV 10 1009 mixed (fun sv11 => [(⟨[(145, .inr (.inl (3, 0)))], [], []⟩, ⟨[(156, .inr (.inl (3, 0)))], []⟩), (⟨[(156, .inr (.inl (3, 0)))], [], []⟩, ⟨[(157, .inr (.inl (3, 8)))], []⟩), (⟨[(157, .inr (.inl (3, 8))), (155, .inl (is ( sv11)))], [(3, pb 90 (ar U64 8 b3_0 ++ (is ( sv10) :: [])))], []⟩, ⟨[], [(3, pb 90 (ar U64 8 b3_0 ++ (is ( sv11) :: [])))]⟩)])
                                          (lrC (LR_move (at_tmp 3 _) rfl)
                                          (lrC (LR_move (at_tmp 3 _) rfl)
                                          (lrC (LR_nilCheck (at_tmp 146 _) rfl)
                                          (lrC (LR_fieldAddr (off := 0) (o := 8) (at_tmp 147 _) (fun b w => fa90_1 b 0 w) rfl)
                                          (lrC (LR_load (at_tmp 148 _) na57 (gP g0) rfl)
                                          (lrC (LR_loads (at_tmp 6 _) ag23 sz23 rfl rfl rfl)
                                          (lrC (LR_move (at_tmp 11 _) rfl)
                                          (lrC (LR_loads (at_tmp 9 _) ag96 sz96 rfl rfl rfl)
                                          (lrC (LR_call Hfaa.func322 rfl rfl (C322 N a1_0 a1_1 x1 a4_0 a4_1 a4_2 a4_3 a4_4 a4_5 y13 hy13) (all_cons (at_tmp 150 _) (all_cons (at_tmp 151 _) (all_cons (at_tmp 152 _) all_nil))) rfl)
                                          (lrC (LR_bs1 Hfaa.underlying57 el9 (fun _ => rfl) (at_tmp 153 _) rfl)
                                          lrN))))))))))
                                          rfl
                                          (app_opk (K := (k1 Sv)) (r := 1009) (z := b3_1) (u := y13) Hfaa.underlying57 eN9 k1_len (k1_cell fun _ => rfl) (at_tmp 149 _) (at_tmp 154 _) (oneAt_k1 rfl) (of_decide_eq_true hg2) rfl rfl)
                                          (fun sv11 hsv11 => (lrC (LR_nilCheck (at_tmp 145 _) rfl)
                                          (lrC (LR_fieldAddr (off := 0) (o := 8) (at_tmp 156 _) (fun b w => fa90_1 b 0 w) rfl)
                                          (lrC (LR_storeA (at_tmp 157 _) (at_tmp 155 _) (cells_one (one_is hsv11)) (onC (one_is hsv11) onN) sz57 rfl (bleLen (lnA (lnC ln0)) rfl) (stP st0))
                                          lrN))))
                                          (fun sv11 hsv11 => by kernel_rfl)
                                          (fun sv11 hsv11 => (saC (sS (sT1 rfl) sB0 sF0) (saC (sS (sT1 rfl) sB0 sF0) (saC (sS (sT1 rfl) sB0 sF0) (saC (sS (sT1 rfl) sB0 sF0) (saC (sS (sT1 rfl) (sB1 rfl) sF0) (saC (sS (sT1 rfl) (sB1 rfl) sF0) (saC (sS (sT1 rfl) sB0 sF0) (saC (sS (sT1 rfl) (sB1 rfl) sF0) (saC (sS (sA (sT1 rfl) (sA (sT1 rfl) (sA (sT1 rfl) sT0))) sB0 sF0) (saC (sS (sT1 rfl) sB0 sF0) (saC (sS (sA (sT1 rfl) (sT1 rfl)) (sB1 rfl) sF0) (saC (sS (sT1 rfl) sB0 sF0) (saC (sS (sT1 rfl) sB0 sF0) (saC (sS (sA (sT1 rfl) (sT1 rfl)) (sB1 rfl) sF0) saN)))))))))))))))
                                          (by kernel_rfl) rfl (fun sv11 hsv11 => by kernel_rfl) ?_
                                        intro sv11 hsv11
                                        refine ⟨_, (imp_close (k := 3) (r := 1009) (ar U64 8 b3_0 ++ []) ([]) rfl (by first | rfl | simp) rfl rfl rfl rfl), ?_⟩
                                        refine blN ?_
                                        obtain rfl := Option.some.inj hr
                                        exact ⟨res0 rfl , (sub_keep (sub_drop (sub_drop (sub_drop sub_nil))))⟩
                                      · have hr := hr.trans (cond_f h)
                                        clear h
                                        refine AW_cut (σ := Bool) (fun v => ⟨[(0, .inl (tabp a0)), (2, .inl (is (U8 a2))), (3, .inr (.inl (3, 0))), (6, .inr (.inl (6, 0))), (9, .inr (.inl (9, 0))), (10, .inr (.inl (3, (a4_1 &&& (7#8)).toNat))), (11, .inl (is (U64 x1))), (42, .inl (is (U8 a4_0))), (158, .inl (is (Bl v)))], [(3, gc 90 (ar U64 8 b3_0 ++ []) ([]) (k1 Sv) 1 b3_1), (6, pb 23 [is (U8 a1_0), is (U8 a1_1)]), (9, pb 96 [is (U8 a4_0), is (U8 a4_1), is (U8 a4_2), is (U8 a4_3), is (U64 a4_4), is (Sv a4_5)])]⟩) (fun v => some r = F233_11 N a0 a1_0 a1_1 a2 b3_0 b3_1 a4_0 a4_1 a4_2 a4_3 a4_4 a4_5 x1 v) ?_ ?_
                                        · skip
                                          refine AW_region ?_
                                          refine AL_cons (LR_bin (at_tmp 42 _) (at_c (v' := U8 (25#8)) rfl) (eql_U8 a4_0 (25#8)) rfl) (sS (sA (sT1 rfl) sT0) sB0 sF0) ?_
                                          refine AL_cons (LR_assign (at_tmp 159 _) rfl) (sS (sT1 rfl) sB0 sF0) ?_
                                          refine AL_nil ?_
                                          exact thenN (cutLeaf (v := a4_0 == (25#8)) hr (weakB ((sT rfl (sT rfl (sT rfl (sT rfl (sT rfl (sT rfl (sT rfl (sT rfl (sT rfl sT0)))))))))) (sub_keep (sub_keep (sub_keep sub_nil))) rfl))
                                        · rintro x12 hr
                                          show AW Hfaa.prog _ _ _ ⟨[(0, .inl (tabp a0)), (2, .inl (is (U8 a2))), (3, .inr (.inl (3, 0))), (6, .inr (.inl (6, 0))), (9, .inr (.inl (9, 0))), (10, .inr (.inl (3, (a4_1 &&& (7#8)).toNat))), (11, .inl (is (U64 x1))), (42, .inl (is (U8 a4_0))), (158, .inl (is (Bl x12)))], [(3, gc 90 (ar U64 8 b3_0 ++ []) ([]) (k1 Sv) 1 b3_1), (6, pb 23 [is (U8 a1_0), is (U8 a1_1)]), (9, pb 96 [is (U8 a4_0), is (U8 a4_1), is (U8 a4_2), is (U8 a4_3), is (U64 a4_4), is (Sv a4_5)])]⟩
                                          have hr : some r = F233_11 N a0 a1_0 a1_1 a2 b3_0 b3_1 a4_0 a4_1 a4_2 a4_3 a4_4 a4_5 x1 x12 := hr
                                          refine AW_condT (b := x12) rfl (fun h => ?_) (fun h => ?_)
                                          · have hr := hr.trans (cond_t h)
                                            clear h
                                            refine AW_opn 3 1010 (fun sv => (ar U64 8 b3_0 ++ (is ( sv) :: []))) rfl rfl (fun _ => by first | rfl | simp) ?_
                                            intro sv12 hsv12
                                            obtain ⟨y14, hy14, hr⟩ := bind_some hr
                                            obtain ⟨y15, hy15, hr⟩ := lt_some hr
                                            obtain ⟨hg3, hr⟩ := guard_some hr
                                            refine AW_post ?_
                                            refine AW_drawV 12 1010 mixed (fun sv13 => [(⟨[(160, .inr (.inl (3, 0)))], [], []⟩, ⟨[(173, .inr (.inl (3, 0)))], []⟩), (⟨[(173, .inr (.inl (3, 0)))], [], []⟩, ⟨[(174, .inr (.inl (3, 8)))], []⟩), (⟨[(174, .inr (.inl (3, 8))), (172, .inl (is ( sv13)))], [(3, pb 90 (ar U64 8 b3_0 ++ (is ( sv12) :: [])))], []⟩, ⟨[], [(3, pb 90 (ar U64 8 b3_0 ++ (is ( sv13) :: [])))]⟩)])
                                              (lrC (LR_move (at_tmp 3 _) rfl)
                                              (lrC (LR_move (at_tmp 3 _) rfl)
                                              (lrC (LR_nilCheck (at_tmp 161 _) rfl)
                                              (lrC (LR_fieldAddr (off := 0) (o := 8) (at_tmp 162 _) (fun b w => fa90_1 b 0 w) rfl)
                                              (lrC (LR_load (at_tmp 163 _) na57 (gP g0) rfl)
                                              (lrC (LR_loads (at_tmp 6 _) ag23 sz23 rfl rfl rfl)
                                              (lrC (LR_move (at_tmp 11 _) rfl)
                                              (lrC (LR_loads (at_tmp 6 _) ag23 sz23 rfl rfl rfl)
                                              (lrC (LR_move (at_tmp 11 _) rfl)
                                              (lrC (LR_call Hfaa.func106 rfl rfl (C106 N a1_0 a1_1 x1 y14 hy14) (all_cons (at_tmp 167 _) (all_cons (at_tmp 168 _) all_nil)) rfl)
                                              (lrC (LR_call Hfaa.func313 rfl rfl (C313 a1_0 a1_1 x1 y14 y15 hy15) (all_cons (at_tmp 165 _) (all_cons (at_tmp 166 _) (all_cons (at_tmp 169 _) all_nil))) rfl)
                                              (lrC (LR_bs1 Hfaa.underlying57 el9 (fun _ => rfl) (at_tmp 170 _) rfl)
                                              lrN))))))))))))
                                              rfl
                                              (app_opk (K := (k1 Sv)) (r := 1010) (z := b3_1) (u := y15) Hfaa.underlying57 eN9 k1_len (k1_cell fun _ => rfl) (at_tmp 164 _) (at_tmp 171 _) (oneAt_k1 rfl) (of_decide_eq_true hg3) rfl rfl)
                                              (fun sv13 hsv13 => (lrC (LR_nilCheck (at_tmp 160 _) rfl)
                                              (lrC (LR_fieldAddr (off := 0) (o := 8) (at_tmp 173 _) (fun b w => fa90_1 b 0 w) rfl)
                                              (lrC (LR_storeA (at_tmp 174 _) (at_tmp 172 _) (cells_one (one_is hsv13)) (onC (one_is hsv13) onN) sz57 rfl (bleLen (lnA (lnC ln0)) rfl) (stP st0))
                                              lrN))))
                                              (fun sv13 hsv13 => by kernel_rfl)
                                              (fun sv13 hsv13 => (saC (sS (sT1 rfl) sB0 sF0) (saC (sS (sT1 rfl) sB0 sF0) (saC (sS (sT1 rfl) sB0 sF0) (saC (sS (sT1 rfl) sB0 sF0) (saC (sS (sT1 rfl) (sB1 rfl) sF0) (saC (sS (sT1 rfl) (sB1 rfl) sF0) (saC (sS (sT1 rfl) sB0 sF0) (saC (sS (sT1 rfl) (sB1 rfl) sF0) (saC (sS (sT1 rfl) sB0 sF0) (saC (sS (sA (sT1 rfl) (sA (sT1 rfl) sT0)) sB0 sF0) (saC (sS (sA (sT1 rfl) (sA (sT1 rfl) (sA (sT1 rfl) sT0))) sB0 sF0) (saC (sS (sT1 rfl) sB0 sF0) (saC (sS (sA (sT1 rfl) (sT1 rfl)) (sB1 rfl) sF0) (saC (sS (sT1 rfl) sB0 sF0) (saC (sS (sT1 rfl) sB0 sF0) (saC (sS (sA (sT1 rfl) (sT1 rfl)) (sB1 rfl) sF0) saN)))))))))))))))))
                                              (by kernel_rfl) rfl (fun sv13 hsv13 => by kernel_rfl) ?_
                                            intro sv13 hsv13
                                            refine ⟨_, (imp_close (k := 3) (r := 1010) (ar U64 8 b3_0 ++ []) ([]) rfl (by first | rfl | simp) rfl rfl rfl rfl), ?_⟩
                                            refine blN ?_
                                            obtain rfl := Option.some.inj hr
                                            exact ⟨res0 rfl , (sub_keep (sub_drop (sub_drop (sub_drop sub_nil))))⟩
                                          · have hr := hr.trans (cond_f h)
                                            clear h
                                            refine AW_cut (σ := Bool) (fun v => ⟨[(0, .inl (tabp a0)), (2, .inl (is (U8 a2))), (3, .inr (.inl (3, 0))), (6, .inr (.inl (6, 0))), (9, .inr (.inl (9, 0))), (10, .inr (.inl (3, (a4_1 &&& (7#8)).toNat))), (11, .inl (is (U64 x1))), (42, .inl (is (U8 a4_0))), (175, .inl (is (Bl v)))], [(3, gc 90 (ar U64 8 b3_0 ++ []) ([]) (k1 Sv) 1 b3_1), (6, pb 23 [is (U8 a1_0), is (U8 a1_1)]), (9, pb 96 [is (U8 a4_0), is (U8 a4_1), is (U8 a4_2), is (U8 a4_3), is (U64 a4_4), is (Sv a4_5)])]⟩) (fun v => some r = F233_12 N a0 a1_0 a1_1 a2 b3_0 b3_1 a4_0 a4_1 a4_2 a4_3 a4_4 a4_5 x1 v) ?_ ?_
                                            · skip
                                              refine AW_region ?_
                                              refine AL_cons (LR_bin (at_tmp 42 _) (at_c (v' := U8 (26#8)) rfl) (eql_U8 a4_0 (26#8)) rfl) (sS (sA (sT1 rfl) sT0) sB0 sF0) ?_
                                              refine AL_cons (LR_assign (at_tmp 176 _) rfl) (sS (sT1 rfl) sB0 sF0) ?_
                                              refine AL_nil ?_
                                              exact thenN (cutLeaf (v := a4_0 == (26#8)) hr (weakB ((sT rfl (sT rfl (sT rfl (sT rfl (sT rfl (sT rfl (sT rfl (sT rfl (sT rfl sT0)))))))))) (sub_keep (sub_keep (sub_keep sub_nil))) rfl))
                                            · rintro x13 hr
                                              show AW Hfaa.prog _ _ _ ⟨[(0, .inl (tabp a0)), (2, .inl (is (U8 a2))), (3, .inr (.inl (3, 0))), (6, .inr (.inl (6, 0))), (9, .inr (.inl (9, 0))), (10, .inr (.inl (3, (a4_1 &&& (7#8)).toNat))), (11, .inl (is (U64 x1))), (42, .inl (is (U8 a4_0))), (175, .inl (is (Bl x13)))], [(3, gc 90 (ar U64 8 b3_0 ++ []) ([]) (k1 Sv) 1 b3_1), (6, pb 23 [is (U8 a1_0), is (U8 a1_1)]), (9, pb 96 [is (U8 a4_0), is (U8 a4_1), is (U8 a4_2), is (U8 a4_3), is (U64 a4_4), is (Sv a4_5)])]⟩
                                              have hr : some r = F233_12 N a0 a1_0 a1_1 a2 b3_0 b3_1 a4_0 a4_1 a4_2 a4_3 a4_4 a4_5 x1 x13 := hr
                                              refine AW_condT (b := x13) rfl (fun h => ?_) (fun h => ?_)
                                              · have hr := hr.trans (cond_t h)
                                                clear h
                                                refine AW_cut (σ := BitVec 8 × Bool × List UInt8 × Int × Int × Int) (fun v => ⟨[(2, .inl (is (U8 a2))), (3, .inr (.inl (3, 0))), (6, .inr (.inl (6, 0))), (10, .inr (.inl (3, (a4_1 &&& (7#8)).toNat))), (13, .inr (.inl (13, 0)))], [(3, gc 90 (ar U64 8 b3_0 ++ []) ([]) (k1 Sv) 1 b3_1), (6, pb 23 [is (U8 a1_0), is (U8 a1_1)]), (13, pb 307 [is (U8 v.1), is (Bl v.2.1), is (Sv v.2.2.1), is (I16 v.2.2.2.1), is (I64 v.2.2.2.2.1), is (I32 v.2.2.2.2.2)])]⟩) (fun v => some r = F233_13 N a1_0 a1_1 a2 b3_0 b3_1 a4_1 v.1 v.2.1 v.2.2.1 v.2.2.2.1 v.2.2.2.2.1 v.2.2.2.2.2) ?_ ?_
                                                · skip
                                                  refine AW_region ?_
                                                  refine AL_cons (LR_fieldAddr (off := 0) (o := 5) (at_tmp 9 _) (fun b w => fa96_5 b 0 w) rfl) (sS (sT1 rfl) sB0 sF0) ?_
                                                  refine AL_cons (LR_load (at_tmp 177 _) na9 rfl rfl) (sS (sT1 rfl) (sB1 rfl) sF0) ?_
                                                  obtain ⟨y18, hy18, hr⟩ := bind_some hr
                                                  refine AL_cons (LR_call Hfaa.func323 rfl rfl (C323 N a4_5 y18 hy18) (all_cons (at_tmp 178 _) all_nil) rfl) (sS (sA (sT1 rfl) sT0) sB0 sF0) ?_
                                                  refine AL_cons (zl307 rfl) (sS sT0 sB0 (sF1 rfl)) ?_
                                                  refine AL_cons (LR_store (at_tmp 13 _) (at_tmp 179 _) (cells_agg _) (onC (one_is rfl) (onC (one_is rfl) (onC (one_is rfl) (onC (one_is rfl) (onC (one_is rfl) (onC (one_is rfl) onN)))))) sz307 rfl rfl) (sS (sA (sT1 rfl) (sT1 rfl)) (sB1 rfl) sF0) ?_
                                                  refine AL_nil ?_
                                                  exact thenN (cutLeaf (v := (y18.1, y18.2.1, y18.2.2.1, y18.2.2.2.1, y18.2.2.2.2.1, y18.2.2.2.2.2)) hr (weakB ((sT rfl (sT rfl (sT rfl (sT rfl (sT rfl sT0)))))) (sub_keep (sub_keep (sub_drop (sub_keep sub_nil)))) rfl))
                                                · rintro ⟨x14, x15, x16, x17, x18, x19⟩ hr
                                                  show AW Hfaa.prog _ _ _ ⟨[(2, .inl (is (U8 a2))), (3, .inr (.inl (3, 0))), (6, .inr (.inl (6, 0))), (10, .inr (.inl (3, (a4_1 &&& (7#8)).toNat))), (13, .inr (.inl (13, 0)))], [(3, gc 90 (ar U64 8 b3_0 ++ []) ([]) (k1 Sv) 1 b3_1), (6, pb 23 [is (U8 a1_0), is (U8 a1_1)]), (13, pb 307 [is (U8 x14), is (Bl x15), is (Sv x16), is (I16 x17), is (I64 x18), is (I32 x19)])]⟩
                                                  have hr : some r = F233_13 N a1_0 a1_1 a2 b3_0 b3_1 a4_1 x14 x15 x16 x17 x18 x19 := hr
                                                  refine AW_seq1 ?_
                                                  refine AW_region ?_
                                                  refine AL_cons (LR_fieldAddr (off := 0) (o := 0) (at_tmp 13 _) (fun b w => fa307_0 b 0 w) rfl) (sS (sT1 rfl) sB0 sF0) ?_
                                                  refine AL_cons (LR_load (at_tmp 180 _) na295 rfl rfl) (sS (sT1 rfl) (sB1 rfl) sF0) ?_
                                                  refine AL_nil ?_
                                                  refine thenN ?_
                                                  refine AW_block ?_
                                                  refine AW_cut (σ := Bool) (fun v => ⟨[(2, .inl (is (U8 a2))), (3, .inr (.inl (3, 0))), (6, .inr (.inl (6, 0))), (10, .inr (.inl (3, (a4_1 &&& (7#8)).toNat))), (13, .inr (.inl (13, 0))), (181, .inl (is (U8 x14))), (191, .inl (is (Bl v)))], [(3, gc 90 (ar U64 8 b3_0 ++ []) ([]) (k1 Sv) 1 b3_1), (6, pb 23 [is (U8 a1_0), is (U8 a1_1)]), (13, pb 307 [is (U8 x14), is (Bl x15), is (Sv x16), is (I16 x17), is (I64 x18), is (I32 x19)])]⟩) (fun v => some r = F233_14 N a1_0 a1_1 a2 b3_0 b3_1 a4_1 x14 x15 x16 x17 x18 x19 v) ?_ ?_
                                                  · skip
                                                    refine AW_region ?_
                                                    refine AL_cons (LR_bin (at_tmp 181 _) (at_c (v' := U8 (0#8)) rfl) (eql_U8 x14 (0#8)) rfl) (sS (sA (sT1 rfl) sT0) sB0 sF0) ?_
                                                    refine AL_cons (LR_assign (at_tmp 192 _) rfl) (sS (sT1 rfl) sB0 sF0) ?_
                                                    refine AL_nil ?_
                                                    exact thenN (cutLeaf (v := x14 == (0#8)) hr (weakB ((sT rfl (sT rfl (sT rfl (sT rfl (sT rfl (sT rfl (sT rfl sT0)))))))) (sub_keep (sub_keep (sub_keep sub_nil))) rfl))
                                                  · rintro x20 hr
                                                    show AW Hfaa.prog _ _ _ ⟨[(2, .inl (is (U8 a2))), (3, .inr (.inl (3, 0))), (6, .inr (.inl (6, 0))), (10, .inr (.inl (3, (a4_1 &&& (7#8)).toNat))), (13, .inr (.inl (13, 0))), (181, .inl (is (U8 x14))), (191, .inl (is (Bl x20)))], [(3, gc 90 (ar U64 8 b3_0 ++ []) ([]) (k1 Sv) 1 b3_1), (6, pb 23 [is (U8 a1_0), is (U8 a1_1)]), (13, pb 307 [is (U8 x14), is (Bl x15), is (Sv x16), is (I16 x17), is (I64 x18), is (I32 x19)])]⟩
                                                    have hr : some r = F233_14 N a1_0 a1_1 a2 b3_0 b3_1 a4_1 x14 x15 x16 x17 x18 x19 x20 := hr
                                                    refine AW_condT (b := x20) rfl (fun h => ?_) (fun h => ?_)
                                                    · have hr := hr.trans (cond_t h)
                                                      clear h
                                                      refine AW_region ?_
                                                      refine AL_cons (LR_move (at_tmp 10 _) rfl) (sS (sT1 rfl) sB0 sF0) ?_
                                                      refine AL_cons (LR_loads (at_tmp 6 _) ag23 sz23 rfl rfl rfl) (sS (sT1 rfl) (sB1 rfl) sF0) ?_
                                                      refine AL_cons (LR_move (at_tmp 2 _) rfl) (sS (sT1 rfl) sB0 sF0) ?_
                                                      refine AL_cons (LR_fieldAddr (off := 0) (o := 1) (at_tmp 13 _) (fun b w => fa307_1 b 0 w) rfl) (sS (sT1 rfl) sB0 sF0) ?_
                                                      refine AL_cons (LR_loads (at_tmp 196 _) ag151 sz151 rfl rfl rfl) (sS (sT1 rfl) (sB1 rfl) sF0) ?_
                                                      obtain ⟨y17, hy17, hr⟩ := bind_some hr
                                                      refine AL_cons (LR_call Hfaa.func109 rfl rfl (C109 N a1_0 a1_1 a2 x15 x16 x17 y17 hy17) (all_cons (at_tmp 194 _) (all_cons (at_tmp 195 _) (all_cons (at_tmp 197 _) all_nil))) rfl) (sS (sA (sT1 rfl) (sA (sT1 rfl) (sA (sT1 rfl) sT0))) sB0 sF0) ?_
                                                      refine AL_cons (LR_nilCheck (at_tmp 193 _) rfl) (sS (sT1 rfl) sB0 sF0) ?_
                                                      refine AL_opn 3 1011 (fun sv => (ar U64 8 b3_0 ++ (is ( sv) :: []))) rfl rfl (fun _ => by first | rfl | simp) ?_
                                                      intro sv14 hsv14
                                                      refine AL_cons (LR_storeA (at_tmp 199 _) (at_tmp 198 _) (cells_one (one_is rfl)) (onC (one_is rfl) onN) sz30 rfl (ble_dyn (lnA (lnC ln0)) (by have := (and7 a4_1); omega)) (stA (and7 a4_1))) (sS (sA (sT1 rfl) (sT1 rfl)) (sB1 rfl) sF0) ?_
                                                      refine AL_imp (imp_close (k := 3) (r := 1011) ((ar U64 8 (upd b3_0 ((a4_1 &&& (7#8)).toNat) y17) ++ [])) ([]) rfl (by first | rfl | simp) rfl rfl rfl rfl) ?_
                                                      refine AL_nil ?_
                                                      refine blN ?_
                                                      refine blN ?_
                                                      obtain rfl := Option.some.inj hr
                                                      exact ⟨res0 rfl , (sub_keep (sub_drop (sub_drop (sub_drop sub_nil))))⟩
                                                    · have hr := hr.trans (cond_f h)
                                                      clear h
                                                      refine AW_cut (σ := Bool) (fun v => ⟨[(3, .inr (.inl (3, 0))), (200, .inl (is (Bl v)))], [(3, gc 90 (ar U64 8 b3_0 ++ []) ([]) (k1 Sv) 1 b3_1)]⟩) (fun v => some r = F233_15 N b3_0 b3_1 v) ?_ ?_
                                                      · skip
                                                        refine AW_region ?_
                                                        refine AL_cons (LR_bin (at_tmp 181 _) (at_c (v' := U8 (4#8)) rfl) (eql_U8 x14 (4#8)) rfl) (sS (sA (sT1 rfl) sT0) sB0 sF0) ?_
                                                        refine AL_cons (LR_assign (at_tmp 201 _) rfl) (sS (sT1 rfl) sB0 sF0) ?_
                                                        refine AL_nil ?_
                                                        exact thenN (cutLeaf (v := x14 == (4#8)) hr (weakB ((sT rfl (sT rfl sT0))) (sub_keep (sub_drop (sub_drop sub_nil))) rfl))
                                                      · rintro x21 hr
                                                        show AW Hfaa.prog _ _ _ ⟨[(3, .inr (.inl (3, 0))), (200, .inl (is (Bl x21)))], [(3, gc 90 (ar U64 8 b3_0 ++ []) ([]) (k1 Sv) 1 b3_1)]⟩
                                                        have hr : some r = F233_15 N b3_0 b3_1 x21 := hr
                                                        refine AW_condT (b := x21) rfl (fun h => ?_) (fun h => ?_)
                                                        · have hr := hr.trans (cond_t h)
                                                          clear h
                                                          refine AW_region ?_
                                                          refine AL_cons (LR_move (at_tmp 3 _) rfl) (sS (sT1 rfl) sB0 sF0) ?_
                                                          refine AL_cons (LR_move (at_tmp 3 _) rfl) (sS (sT1 rfl) sB0 sF0) ?_
                                                          refine AL_cons (LR_nilCheck (at_tmp 203 _) rfl) (sS (sT1 rfl) sB0 sF0) ?_
                                                          refine AL_cons (LR_fieldAddr (off := 0) (o := 8) (at_tmp 204 _) (fun b w => fa90_1 b 0 w) rfl) (sS (sT1 rfl) sB0 sF0) ?_
                                                          refine AL_opn 3 1012 (fun sv => (ar U64 8 b3_0 ++ (is ( sv) :: []))) rfl rfl (fun _ => by first | rfl | simp) ?_
                                                          intro sv15 hsv15
                                                          refine AL_cons (LR_load (at_tmp 205 _) na57 (gP g0) rfl) (sS (sT1 rfl) (sB1 rfl) sF0) ?_
                                                          refine AL_cons (LR_bs1 Hfaa.underlying57 el9 (fun _ => rfl) (at_c (v' := Sv ([116, 111, 111, 32, 98, 105, 103] : List UInt8)) rfl) rfl) (sS sT0 sB0 sF0) ?_
                                                          obtain ⟨hg4, hr⟩ := guard_some hr
                                                          refine AL_consV (app_opk (K := (k1 Sv)) (r := 1012) (z := b3_1) (u := ([116, 111, 111, 32, 98, 105, 103] : List UInt8)) Hfaa.underlying57 eN9 k1_len (k1_cell fun _ => rfl) (at_tmp 206 _) (at_tmp 207 _) (oneAt_k1 rfl) (of_decide_eq_true hg4) rfl rfl) (sS (sA (sT1 rfl) (sT1 rfl)) (sB1 rfl) sF0) rfl ?_
                                                          intro sv16 hsv16
                                                          refine AL_cons (LR_nilCheck (at_tmp 202 _) rfl) (sS (sT1 rfl) sB0 sF0) ?_
                                                          refine AL_cons (LR_fieldAddr (off := 0) (o := 8) (at_tmp 209 _) (fun b w => fa90_1 b 0 w) rfl) (sS (sT1 rfl) sB0 sF0) ?_
                                                          refine AL_cons (LR_storeA (at_tmp 210 _) (at_tmp 208 _) (cells_one (one_is hsv16)) (onC (one_is hsv16) onN) sz57 rfl (bleLen (lnA (lnC ln0)) rfl) (stP st0)) (sS (sA (sT1 rfl) (sT1 rfl)) (sB1 rfl) sF0) ?_
                                                          refine AL_imp (imp_close (k := 3) (r := 1012) (ar U64 8 b3_0 ++ []) ([]) rfl (by first | rfl | simp) rfl rfl rfl rfl) ?_
                                                          refine AL_nil ?_
                                                          refine blN ?_
                                                          refine blN ?_
                                                          obtain rfl := Option.some.inj hr
                                                          exact ⟨res0 rfl , (sub_keep (sub_drop sub_nil))⟩
                                                        · have hr := hr.trans (cond_f h)
                                                          clear h
                                                          refine AW_region ?_
                                                          refine AL_cons (LR_move (at_tmp 3 _) rfl) (sS (sT1 rfl) sB0 sF0) ?_
                                                          refine AL_cons (LR_move (at_tmp 3 _) rfl) (sS (sT1 rfl) sB0 sF0) ?_
                                                          refine AL_cons (LR_nilCheck (at_tmp 183 _) rfl) (sS (sT1 rfl) sB0 sF0) ?_
                                                          refine AL_cons (LR_fieldAddr (off := 0) (o := 8) (at_tmp 184 _) (fun b w => fa90_1 b 0 w) rfl) (sS (sT1 rfl) sB0 sF0) ?_
                                                          refine AL_opn 3 1013 (fun sv => (ar U64 8 b3_0 ++ (is ( sv) :: []))) rfl rfl (fun _ => by first | rfl | simp) ?_
                                                          intro sv17 hsv17
                                                          refine AL_cons (LR_load (at_tmp 185 _) na57 (gP g0) rfl) (sS (sT1 rfl) (sB1 rfl) sF0) ?_
                                                          refine AL_cons (LR_bs1 Hfaa.underlying57 el9 (fun _ => rfl) (at_c (v' := Sv ([119, 114, 111, 110, 103] : List UInt8)) rfl) rfl) (sS sT0 sB0 sF0) ?_
                                                          obtain ⟨hg5, hr⟩ := guard_some hr
                                                          refine AL_consV (app_opk (K := (k1 Sv)) (r := 1013) (z := b3_1) (u := ([119, 114, 111, 110, 103] : List UInt8)) Hfaa.underlying57 eN9 k1_len (k1_cell fun _ => rfl) (at_tmp 186 _) (at_tmp 187 _) (oneAt_k1 rfl) (of_decide_eq_true hg5) rfl rfl) (sS (sA (sT1 rfl) (sT1 rfl)) (sB1 rfl) sF0) rfl ?_
                                                          intro sv18 hsv18
                                                          refine AL_cons (LR_nilCheck (at_tmp 182 _) rfl) (sS (sT1 rfl) sB0 sF0) ?_
                                                          refine AL_cons (LR_fieldAddr (off := 0) (o := 8) (at_tmp 189 _) (fun b w => fa90_1 b 0 w) rfl) (sS (sT1 rfl) sB0 sF0) ?_
                                                          refine AL_cons (LR_storeA (at_tmp 190 _) (at_tmp 188 _) (cells_one (one_is hsv18)) (onC (one_is hsv18) onN) sz57 rfl (bleLen (lnA (lnC ln0)) rfl) (stP st0)) (sS (sA (sT1 rfl) (sT1 rfl)) (sB1 rfl) sF0) ?_
                                                          refine AL_imp (imp_close (k := 3) (r := 1013) (ar U64 8 b3_0 ++ []) ([]) rfl (by first | rfl | simp) rfl rfl rfl rfl) ?_
                                                          refine AL_nil ?_
                                                          refine blN ?_
                                                          refine blN ?_
                                                          obtain rfl := Option.some.inj hr
                                                          exact ⟨res0 rfl , (sub_keep (sub_drop sub_nil))⟩
                                              · have hr := hr.trans (cond_f h)
                                                clear h
                                                refine AW_cut (σ := Bool) (fun v => ⟨[(0, .inl (tabp a0)), (2, .inl (is (U8 a2))), (3, .inr (.inl (3, 0))), (6, .inr (.inl (6, 0))), (9, .inr (.inl (9, 0))), (10, .inr (.inl (3, (a4_1 &&& (7#8)).toNat))), (11, .inl (is (U64 x1))), (42, .inl (is (U8 a4_0))), (211, .inl (is (Bl v)))], [(3, gc 90 (ar U64 8 b3_0 ++ []) ([]) (k1 Sv) 1 b3_1), (6, pb 23 [is (U8 a1_0), is (U8 a1_1)]), (9, pb 96 [is (U8 a4_0), is (U8 a4_1), is (U8 a4_2), is (U8 a4_3), is (U64 a4_4), is (Sv a4_5)])]⟩) (fun v => some r = F233_16 N a0 a1_0 a1_1 a2 b3_0 b3_1 a4_0 a4_1 a4_2 a4_3 a4_4 a4_5 x1 v) ?_ ?_
                                                · skip
                                                  refine AW_region ?_
                                                  refine AL_cons (LR_bin (at_tmp 42 _) (at_c (v' := U8 (27#8)) rfl) (eql_U8 a4_0 (27#8)) rfl) (sS (sA (sT1 rfl) sT0) sB0 sF0) ?_
                                                  refine AL_cons (LR_assign (at_tmp 212 _) rfl) (sS (sT1 rfl) sB0 sF0) ?_
                                                  refine AL_nil ?_
                                                  exact thenN (cutLeaf (v := a4_0 == (27#8)) hr (weakB ((sT rfl (sT rfl (sT rfl (sT rfl (sT rfl (sT rfl (sT rfl (sT rfl (sT rfl sT0)))))))))) (sub_keep (sub_keep (sub_keep sub_nil))) rfl))
                                                · rintro x22 hr
                                                  show AW Hfaa.prog _ _ _ ⟨[(0, .inl (tabp a0)), (2, .inl (is (U8 a2))), (3, .inr (.inl (3, 0))), (6, .inr (.inl (6, 0))), (9, .inr (.inl (9, 0))), (10, .inr (.inl (3, (a4_1 &&& (7#8)).toNat))), (11, .inl (is (U64 x1))), (42, .inl (is (U8 a4_0))), (211, .inl (is (Bl x22)))], [(3, gc 90 (ar U64 8 b3_0 ++ []) ([]) (k1 Sv) 1 b3_1), (6, pb 23 [is (U8 a1_0), is (U8 a1_1)]), (9, pb 96 [is (U8 a4_0), is (U8 a4_1), is (U8 a4_2), is (U8 a4_3), is (U64 a4_4), is (Sv a4_5)])]⟩
                                                  have hr : some r = F233_16 N a0 a1_0 a1_1 a2 b3_0 b3_1 a4_0 a4_1 a4_2 a4_3 a4_4 a4_5 x1 x22 := hr
                                                  refine AW_condT (b := x22) rfl (fun h => ?_) (fun h => ?_)
                                                  · have hr := hr.trans (cond_t h)
                                                    clear h
                                                    refine AW_region ?_
                                                    refine AL_cons (LR_move (at_tmp 0 _) rfl) (sS (sT1 rfl) sB0 sF0) ?_
                                                    refine AL_cons (LR_loads (at_tmp 6 _) ag23 sz23 rfl rfl rfl) (sS (sT1 rfl) (sB1 rfl) sF0) ?_
                                                    refine AL_cons (LR_move (at_tmp 2 _) rfl) (sS (sT1 rfl) sB0 sF0) ?_
                                                    refine AL_cons (LR_move (at_tmp 3 _) rfl) (sS (sT1 rfl) sB0 sF0) ?_
                                                    refine AL_cons (LR_loads (at_tmp 9 _) ag96 sz96 rfl rfl rfl) (sS (sT1 rfl) (sB1 rfl) sF0) ?_
                                                    obtain ⟨y19, hy19, hr⟩ := bind_some hr
                                                    refine AL_cons (LR_callB [(3, 3)] [(3, 3)] Hfaa.func324 rfl rfl (C324 N a0 a1_0 a1_1 a2 b3_0 b3_1 a4_0 a4_1 a4_2 a4_3 a4_4 a4_5 y19 hy19) (aTC (at_tmp 213 _) (aTC (at_tmp 214 _) (aTC (at_tmp 215 _) (aTC (at_tmp 216 _) (aTC (at_tmp 217 _) aT0))))) rfl rfl rfl rfl rfl) (sS (sA (sT1 rfl) (sA (sT1 rfl) (sA (sT1 rfl) (sA (sT1 rfl) (sA (sT1 rfl) sT0))))) (sB1 rfl) sF0) ?_
                                                    refine AL_nil ?_
                                                    refine blN ?_
                                                    obtain rfl := Option.some.inj hr
                                                    exact ⟨res0 rfl , (sub_keep (sub_drop (sub_drop sub_nil)))⟩
                                                  · have hr := hr.trans (cond_f h)
                                                    clear h
                                                    refine AW_cut (σ := Bool) (fun v => ⟨[(2, .inl (is (U8 a2))), (3, .inr (.inl (3, 0))), (6, .inr (.inl (6, 0))), (9, .inr (.inl (9, 0))), (10, .inr (.inl (3, (a4_1 &&& (7#8)).toNat))), (11, .inl (is (U64 x1))), (42, .inl (is (U8 a4_0))), (219, .inl (is (Bl v)))], [(3, gc 90 (ar U64 8 b3_0 ++ []) ([]) (k1 Sv) 1 b3_1), (6, pb 23 [is (U8 a1_0), is (U8 a1_1)]), (9, pb 96 [is (U8 a4_0), is (U8 a4_1), is (U8 a4_2), is (U8 a4_3), is (U64 a4_4), is (Sv a4_5)])]⟩) (fun v => some r = F233_17 N a1_0 a1_1 a2 b3_0 b3_1 a4_0 a4_1 a4_2 a4_3 a4_4 a4_5 x1 v) ?_ ?_
                                                    · skip
                                                      refine AW_region ?_
                                                      refine AL_cons (LR_bin (at_tmp 42 _) (at_c (v' := U8 (29#8)) rfl) (eql_U8 a4_0 (29#8)) rfl) (sS (sA (sT1 rfl) sT0) sB0 sF0) ?_
                                                      refine AL_cons (LR_assign (at_tmp 220 _) rfl) (sS (sT1 rfl) sB0 sF0) ?_
                                                      refine AL_nil ?_
                                                      exact thenN (cutLeaf (v := a4_0 == (29#8)) hr (weakB ((sT rfl (sT rfl (sT rfl (sT rfl (sT rfl (sT rfl (sT rfl (sT rfl sT0))))))))) (sub_keep (sub_keep (sub_keep sub_nil))) rfl))
                                                    · rintro x23 hr
                                                      show AW Hfaa.prog _ _ _ ⟨[(2, .inl (is (U8 a2))), (3, .inr (.inl (3, 0))), (6, .inr (.inl (6, 0))), (9, .inr (.inl (9, 0))), (10, .inr (.inl (3, (a4_1 &&& (7#8)).toNat))), (11, .inl (is (U64 x1))), (42, .inl (is (U8 a4_0))), (219, .inl (is (Bl x23)))], [(3, gc 90 (ar U64 8 b3_0 ++ []) ([]) (k1 Sv) 1 b3_1), (6, pb 23 [is (U8 a1_0), is (U8 a1_1)]), (9, pb 96 [is (U8 a4_0), is (U8 a4_1), is (U8 a4_2), is (U8 a4_3), is (U64 a4_4), is (Sv a4_5)])]⟩
                                                      have hr : some r = F233_17 N a1_0 a1_1 a2 b3_0 b3_1 a4_0 a4_1 a4_2 a4_3 a4_4 a4_5 x1 x23 := hr
                                                      refine AW_condT (b := x23) rfl (fun h => ?_) (fun h => ?_)
                                                      · have hr := hr.trans (cond_t h)
                                                        clear h
                                                        refine AW_opn 3 1014 (fun sv => (ar U64 8 b3_0 ++ (is ( sv) :: []))) rfl rfl (fun _ => by first | rfl | simp) ?_
                                                        intro sv19 hsv19
                                                        obtain ⟨y20, hy20, hr⟩ := bind_some hr
                                                        obtain ⟨hg6, hr⟩ := guard_some hr
                                                        refine AW_post ?_
                                                        refine AW_drawV 11 1014 mixed (fun sv20 => [(⟨[(221, .inr (.inl (3, 0)))], [], []⟩, ⟨[(233, .inr (.inl (3, 0)))], []⟩), (⟨[(233, .inr (.inl (3, 0)))], [], []⟩, ⟨[(234, .inr (.inl (3, 8)))], []⟩), (⟨[(234, .inr (.inl (3, 8))), (232, .inl (is ( sv20)))], [(3, pb 90 (ar U64 8 b3_0 ++ (is ( sv19) :: [])))], []⟩, ⟨[], [(3, pb 90 (ar U64 8 b3_0 ++ (is ( sv20) :: [])))]⟩)])
                                                          (lrC (LR_move (at_tmp 3 _) rfl)
                                                          (lrC (LR_move (at_tmp 3 _) rfl)
                                                          (lrC (LR_nilCheck (at_tmp 222 _) rfl)
                                                          (lrC (LR_fieldAddr (off := 0) (o := 8) (at_tmp 223 _) (fun b w => fa90_1 b 0 w) rfl)
                                                          (lrC (LR_load (at_tmp 224 _) na57 (gP g0) rfl)
                                                          (lrC (LR_loads (at_tmp 6 _) ag23 sz23 rfl rfl rfl)
                                                          (lrC (LR_move (at_tmp 2 _) rfl)
                                                          (lrC (LR_fieldAddr (off := 0) (o := 5) (at_tmp 9 _) (fun b w => fa96_5 b 0 w) rfl)
                                                          (lrC (LR_load (at_tmp 228 _) na9 rfl rfl)
                                                          (lrC (LR_call Hfaa.func325 rfl rfl (C325 N a1_0 a1_1 a2 a4_5 y20 hy20) (all_cons (at_tmp 226 _) (all_cons (at_tmp 227 _) (all_cons (at_tmp 229 _) all_nil))) rfl)
                                                          (lrC (LR_bs1 Hfaa.underlying57 el9 (fun _ => rfl) (at_tmp 230 _) rfl)
                                                          lrN)))))))))))
                                                          rfl
                                                          (app_opk (K := (k1 Sv)) (r := 1014) (z := b3_1) (u := y20) Hfaa.underlying57 eN9 k1_len (k1_cell fun _ => rfl) (at_tmp 225 _) (at_tmp 231 _) (oneAt_k1 rfl) (of_decide_eq_true hg6) rfl rfl)
                                                          (fun sv20 hsv20 => (lrC (LR_nilCheck (at_tmp 221 _) rfl)
                                                          (lrC (LR_fieldAddr (off := 0) (o := 8) (at_tmp 233 _) (fun b w => fa90_1 b 0 w) rfl)
                                                          (lrC (LR_storeA (at_tmp 234 _) (at_tmp 232 _) (cells_one (one_is hsv20)) (onC (one_is hsv20) onN) sz57 rfl (bleLen (lnA (lnC ln0)) rfl) (stP st0))
                                                          lrN))))
                                                          (fun sv20 hsv20 => by kernel_rfl)
                                                          (fun sv20 hsv20 => (saC (sS (sT1 rfl) sB0 sF0) (saC (sS (sT1 rfl) sB0 sF0) (saC (sS (sT1 rfl) sB0 sF0) (saC (sS (sT1 rfl) sB0 sF0) (saC (sS (sT1 rfl) (sB1 rfl) sF0) (saC (sS (sT1 rfl) (sB1 rfl) sF0) (saC (sS (sT1 rfl) sB0 sF0) (saC (sS (sT1 rfl) sB0 sF0) (saC (sS (sT1 rfl) (sB1 rfl) sF0) (saC (sS (sA (sT1 rfl) (sA (sT1 rfl) (sA (sT1 rfl) sT0))) sB0 sF0) (saC (sS (sT1 rfl) sB0 sF0) (saC (sS (sA (sT1 rfl) (sT1 rfl)) (sB1 rfl) sF0) (saC (sS (sT1 rfl) sB0 sF0) (saC (sS (sT1 rfl) sB0 sF0) (saC (sS (sA (sT1 rfl) (sT1 rfl)) (sB1 rfl) sF0) saN))))))))))))))))
                                                          (by kernel_rfl) rfl (fun sv20 hsv20 => by kernel_rfl) ?_
                                                        intro sv20 hsv20
                                                        refine ⟨_, (imp_close (k := 3) (r := 1014) (ar U64 8 b3_0 ++ []) ([]) rfl (by first | rfl | simp) rfl rfl rfl rfl), ?_⟩
                                                        refine blN ?_
                                                        obtain rfl := Option.some.inj hr
                                                        exact ⟨res0 rfl , (sub_keep (sub_drop (sub_drop (sub_drop sub_nil))))⟩
                                                      · have hr := hr.trans (cond_f h)
                                                        clear h
                                                        refine AW_cut (σ := Bool) (fun v => ⟨[(2, .inl (is (U8 a2))), (3, .inr (.inl (3, 0))), (6, .inr (.inl (6, 0))), (9, .inr (.inl (9, 0))), (10, .inr (.inl (3, (a4_1 &&& (7#8)).toNat))), (11, .inl (is (U64 x1))), (42, .inl (is (U8 a4_0))), (235, .inl (is (Bl v)))], [(3, gc 90 (ar U64 8 b3_0 ++ []) ([]) (k1 Sv) 1 b3_1), (6, pb 23 [is (U8 a1_0), is (U8 a1_1)]), (9, pb 96 [is (U8 a4_0), is (U8 a4_1), is (U8 a4_2), is (U8 a4_3), is (U64 a4_4), is (Sv a4_5)])]⟩) (fun v => some r = F233_18 N a1_0 a1_1 a2 b3_0 b3_1 a4_0 a4_1 a4_2 a4_3 a4_4 a4_5 x1 v) ?_ ?_
                                                        · skip
                                                          refine AW_region ?_
                                                          refine AL_cons (LR_bin (at_tmp 42 _) (at_c (v' := U8 (30#8)) rfl) (eql_U8 a4_0 (30#8)) rfl) (sS (sA (sT1 rfl) sT0) sB0 sF0) ?_
                                                          refine AL_cons (LR_assign (at_tmp 236 _) rfl) (sS (sT1 rfl) sB0 sF0) ?_
                                                          refine AL_nil ?_
                                                          exact thenN (cutLeaf (v := a4_0 == (30#8)) hr (weakB ((sT rfl (sT rfl (sT rfl (sT rfl (sT rfl (sT rfl (sT rfl (sT rfl sT0))))))))) (sub_keep (sub_keep (sub_keep sub_nil))) rfl))
                                                        · rintro x24 hr
                                                          show AW Hfaa.prog _ _ _ ⟨[(2, .inl (is (U8 a2))), (3, .inr (.inl (3, 0))), (6, .inr (.inl (6, 0))), (9, .inr (.inl (9, 0))), (10, .inr (.inl (3, (a4_1 &&& (7#8)).toNat))), (11, .inl (is (U64 x1))), (42, .inl (is (U8 a4_0))), (235, .inl (is (Bl x24)))], [(3, gc 90 (ar U64 8 b3_0 ++ []) ([]) (k1 Sv) 1 b3_1), (6, pb 23 [is (U8 a1_0), is (U8 a1_1)]), (9, pb 96 [is (U8 a4_0), is (U8 a4_1), is (U8 a4_2), is (U8 a4_3), is (U64 a4_4), is (Sv a4_5)])]⟩
                                                          have hr : some r = F233_18 N a1_0 a1_1 a2 b3_0 b3_1 a4_0 a4_1 a4_2 a4_3 a4_4 a4_5 x1 x24 := hr
                                                          refine AW_condT (b := x24) rfl (fun h => ?_) (fun h => ?_)
                                                          · have hr := hr.trans (cond_t h)
                                                            clear h
                                                            refine AW_opn 3 1015 (fun sv => (ar U64 8 b3_0 ++ (is ( sv) :: []))) rfl rfl (fun _ => by first | rfl | simp) ?_
                                                            intro sv21 hsv21
                                                            obtain ⟨y21, hy21, hr⟩ := bind_some hr
                                                            obtain ⟨hg7, hr⟩ := guard_some hr
                                                            refine AW_post ?_
                                                            refine AW_drawV 11 1015 mixed (fun sv22 => [(⟨[(237, .inr (.inl (3, 0)))], [], []⟩, ⟨[(249, .inr (.inl (3, 0)))], []⟩), (⟨[(249, .inr (.inl (3, 0)))], [], []⟩, ⟨[(250, .inr (.inl (3, 8)))], []⟩), (⟨[(250, .inr (.inl (3, 8))), (248, .inl (is ( sv22)))], [(3, pb 90 (ar U64 8 b3_0 ++ (is ( sv21) :: [])))], []⟩, ⟨[], [(3, pb 90 (ar U64 8 b3_0 ++ (is ( sv22) :: [])))]⟩)])
                                                              (lrC (LR_move (at_tmp 3 _) rfl)
                                                              (lrC (LR_move (at_tmp 3 _) rfl)
                                                              (lrC (LR_nilCheck (at_tmp 238 _) rfl)
                                                              (lrC (LR_fieldAddr (off := 0) (o := 8) (at_tmp 239 _) (fun b w => fa90_1 b 0 w) rfl)
                                                              (lrC (LR_load (at_tmp 240 _) na57 (gP g0) rfl)
                                                              (lrC (LR_loads (at_tmp 6 _) ag23 sz23 rfl rfl rfl)
                                                              (lrC (LR_move (at_tmp 2 _) rfl)
                                                              (lrC (LR_fieldAddr (off := 0) (o := 5) (at_tmp 9 _) (fun b w => fa96_5 b 0 w) rfl)
                                                              (lrC (LR_load (at_tmp 244 _) na9 rfl rfl)
                                                              (lrC (LR_call Hfaa.func326 rfl rfl (C326 N a1_0 a1_1 a2 a4_5 y21 hy21) (all_cons (at_tmp 242 _) (all_cons (at_tmp 243 _) (all_cons (at_tmp 245 _) all_nil))) rfl)
                                                              (lrC (LR_bs1 Hfaa.underlying57 el9 (fun _ => rfl) (at_tmp 246 _) rfl)
                                                              lrN)))))))))))
                                                              rfl
                                                              (app_opk (K := (k1 Sv)) (r := 1015) (z := b3_1) (u := y21) Hfaa.underlying57 eN9 k1_len (k1_cell fun _ => rfl) (at_tmp 241 _) (at_tmp 247 _) (oneAt_k1 rfl) (of_decide_eq_true hg7) rfl rfl)
                                                              (fun sv22 hsv22 => (lrC (LR_nilCheck (at_tmp 237 _) rfl)
                                                              (lrC (LR_fieldAddr (off := 0) (o := 8) (at_tmp 249 _) (fun b w => fa90_1 b 0 w) rfl)
                                                              (lrC (LR_storeA (at_tmp 250 _) (at_tmp 248 _) (cells_one (one_is hsv22)) (onC (one_is hsv22) onN) sz57 rfl (bleLen (lnA (lnC ln0)) rfl) (stP st0))
                                                              lrN))))
                                                              (fun sv22 hsv22 => by kernel_rfl)
                                                              (fun sv22 hsv22 => (saC (sS (sT1 rfl) sB0 sF0) (saC (sS (sT1 rfl) sB0 sF0) (saC (sS (sT1 rfl) sB0 sF0) (saC (sS (sT1 rfl) sB0 sF0) (saC (sS (sT1 rfl) (sB1 rfl) sF0) (saC (sS (sT1 rfl) (sB1 rfl) sF0) (saC (sS (sT1 rfl) sB0 sF0) (saC (sS (sT1 rfl) sB0 sF0) (saC (sS (sT1 rfl) (sB1 rfl) sF0) (saC (sS (sA (sT1 rfl) (sA (sT1 rfl) (sA (sT1 rfl) sT0))) sB0 sF0) (saC (sS (sT1 rfl) sB0 sF0) (saC (sS (sA (sT1 rfl) (sT1 rfl)) (sB1 rfl) sF0) (saC (sS (sT1 rfl) sB0 sF0) (saC (sS (sT1 rfl) sB0 sF0) (saC (sS (sA (sT1 rfl) (sT1 rfl)) (sB1 rfl) sF0) saN))))))))))))))))
                                                              (by kernel_rfl) rfl (fun sv22 hsv22 => by kernel_rfl) ?_
                                                            intro sv22 hsv22
                                                            refine ⟨_, (imp_close (k := 3) (r := 1015) (ar U64 8 b3_0 ++ []) ([]) rfl (by first | rfl | simp) rfl rfl rfl rfl), ?_⟩
                                                            refine blN ?_
                                                            obtain rfl := Option.some.inj hr
                                                            exact ⟨res0 rfl , (sub_keep (sub_drop (sub_drop (sub_drop sub_nil))))⟩
                                                          · have hr := hr.trans (cond_f h)
                                                            clear h
                                                            refine AW_cut (σ := Bool) (fun v => ⟨[(2, .inl (is (U8 a2))), (3, .inr (.inl (3, 0))), (6, .inr (.inl (6, 0))), (9, .inr (.inl (9, 0))), (10, .inr (.inl (3, (a4_1 &&& (7#8)).toNat))), (11, .inl (is (U64 x1))), (42, .inl (is (U8 a4_0))), (251, .inl (is (Bl v)))], [(3, gc 90 (ar U64 8 b3_0 ++ []) ([]) (k1 Sv) 1 b3_1), (6, pb 23 [is (U8 a1_0), is (U8 a1_1)]), (9, pb 96 [is (U8 a4_0), is (U8 a4_1), is (U8 a4_2), is (U8 a4_3), is (U64 a4_4), is (Sv a4_5)])]⟩) (fun v => some r = F233_19 N a1_0 a1_1 a2 b3_0 b3_1 a4_0 a4_1 a4_2 a4_3 a4_4 a4_5 x1 v) ?_ ?_
                                                            · skip
                                                              refine AW_region ?_
                                                              refine AL_cons (LR_bin (at_tmp 42 _) (at_c (v' := U8 (31#8)) rfl) (eql_U8 a4_0 (31#8)) rfl) (sS (sA (sT1 rfl) sT0) sB0 sF0) ?_
                                                              refine AL_cons (LR_assign (at_tmp 252 _) rfl) (sS (sT1 rfl) sB0 sF0) ?_
                                                              refine AL_nil ?_
                                                              exact thenN (cutLeaf (v := a4_0 == (31#8)) hr (weakB ((sT rfl (sT rfl (sT rfl (sT rfl (sT rfl (sT rfl (sT rfl (sT rfl sT0))))))))) (sub_keep (sub_keep (sub_keep sub_nil))) rfl))
                                                            · rintro x25 hr
                                                              show AW Hfaa.prog _ _ _ ⟨[(2, .inl (is (U8 a2))), (3, .inr (.inl (3, 0))), (6, .inr (.inl (6, 0))), (9, .inr (.inl (9, 0))), (10, .inr (.inl (3, (a4_1 &&& (7#8)).toNat))), (11, .inl (is (U64 x1))), (42, .inl (is (U8 a4_0))), (251, .inl (is (Bl x25)))], [(3, gc 90 (ar U64 8 b3_0 ++ []) ([]) (k1 Sv) 1 b3_1), (6, pb 23 [is (U8 a1_0), is (U8 a1_1)]), (9, pb 96 [is (U8 a4_0), is (U8 a4_1), is (U8 a4_2), is (U8 a4_3), is (U64 a4_4), is (Sv a4_5)])]⟩
                                                              have hr : some r = F233_19 N a1_0 a1_1 a2 b3_0 b3_1 a4_0 a4_1 a4_2 a4_3 a4_4 a4_5 x1 x25 := hr
                                                              refine AW_condT (b := x25) rfl (fun h => ?_) (fun h => ?_)
                                                              · have hr := hr.trans (cond_t h)
                                                                clear h
                                                                refine AW_region ?_
                                                                refine AL_cons (LR_move (at_tmp 10 _) rfl) (sS (sT1 rfl) sB0 sF0) ?_
                                                                refine AL_cons (LR_loads (at_tmp 6 _) ag23 sz23 rfl rfl rfl) (sS (sT1 rfl) (sB1 rfl) sF0) ?_
                                                                refine AL_cons (LR_move (at_tmp 2 _) rfl) (sS (sT1 rfl) sB0 sF0) ?_
                                                                refine AL_cons (LR_move (at_tmp 11 _) rfl) (sS (sT1 rfl) sB0 sF0) ?_
                                                                refine AL_cons (LR_fieldAddr (off := 0) (o := 4) (at_tmp 9 _) (fun b w => fa96_4 b 0 w) rfl) (sS (sT1 rfl) sB0 sF0) ?_
                                                                refine AL_cons (LR_load (at_tmp 257 _) na30 rfl rfl) (sS (sT1 rfl) (sB1 rfl) sF0) ?_
                                                                refine AL_cons (LR_conv (vx := U64 a4_4) (at_tmp 258 _) (conv_I64 Hfaa.underlying30 Hfaa.underlying2 (a4_4.toNat : Int)) rfl) (sS (sT1 rfl) sB0 sF0) ?_
                                                                obtain ⟨y22, hy22, hr⟩ := bind_some hr
                                                                refine AL_cons (LR_call Hfaa.func327 rfl rfl (C327 N a1_0 a1_1 a2 x1 (w64 (a4_4.toNat : Int)) y22 hy22) (all_cons (at_tmp 254 _) (all_cons (at_tmp 255 _) (all_cons (at_tmp 256 _) (all_cons (at_tmp 259 _) all_nil)))) rfl) (sS (sA (sT1 rfl) (sA (sT1 rfl) (sA (sT1 rfl) (sA (sT1 rfl) sT0)))) sB0 sF0) ?_
                                                                refine AL_cons (LR_nilCheck (at_tmp 253 _) rfl) (sS (sT1 rfl) sB0 sF0) ?_
                                                                refine AL_opn 3 1016 (fun sv => (ar U64 8 b3_0 ++ (is ( sv) :: []))) rfl rfl (fun _ => by first | rfl | simp) ?_
                                                                intro sv23 hsv23
                                                                refine AL_cons (LR_storeA (at_tmp 261 _) (at_tmp 260 _) (cells_one (one_is rfl)) (onC (one_is rfl) onN) sz30 rfl (ble_dyn (lnA (lnC ln0)) (by have := (and7 a4_1); omega)) (stA (and7 a4_1))) (sS (sA (sT1 rfl) (sT1 rfl)) (sB1 rfl) sF0) ?_
                                                                refine AL_imp (imp_close (k := 3) (r := 1016) ((ar U64 8 (upd b3_0 ((a4_1 &&& (7#8)).toNat) y22) ++ [])) ([]) rfl (by first | rfl | simp) rfl rfl rfl rfl) ?_
                                                                refine AL_nil ?_
                                                                refine blN ?_
                                                                obtain rfl := Option.some.inj hr
                                                                exact ⟨res0 rfl , (sub_keep (sub_drop (sub_drop (sub_drop sub_nil))))⟩
                                                              · have hr := hr.trans (cond_f h)
                                                                clear h
                                                                refine AW_cut (σ := Bool) (fun v => ⟨[(2, .inl (is (U8 a2))), (3, .inr (.inl (3, 0))), (6, .inr (.inl (6, 0))), (9, .inr (.inl (9, 0))), (11, .inl (is (U64 x1))), (42, .inl (is (U8 a4_0))), (262, .inl (is (Bl v)))], [(3, gc 90 (ar U64 8 b3_0 ++ []) ([]) (k1 Sv) 1 b3_1), (6, pb 23 [is (U8 a1_0), is (U8 a1_1)]), (9, pb 96 [is (U8 a4_0), is (U8 a4_1), is (U8 a4_2), is (U8 a4_3), is (U64 a4_4), is (Sv a4_5)])]⟩) (fun v => some r = F233_20 N a1_0 a1_1 a2 b3_0 b3_1 a4_0 a4_1 a4_2 a4_3 a4_4 a4_5 x1 v) ?_ ?_
                                                                · skip
                                                                  refine AW_region ?_
                                                                  refine AL_cons (LR_bin (at_tmp 42 _) (at_c (v' := U8 (32#8)) rfl) (eql_U8 a4_0 (32#8)) rfl) (sS (sA (sT1 rfl) sT0) sB0 sF0) ?_
                                                                  refine AL_cons (LR_assign (at_tmp 263 _) rfl) (sS (sT1 rfl) sB0 sF0) ?_
                                                                  refine AL_nil ?_
                                                                  exact thenN (cutLeaf (v := a4_0 == (32#8)) hr (weakB ((sT rfl (sT rfl (sT rfl (sT rfl (sT rfl (sT rfl (sT rfl sT0)))))))) (sub_keep (sub_keep (sub_keep sub_nil))) rfl))
                                                                · rintro x26 hr
                                                                  show AW Hfaa.prog _ _ _ ⟨[(2, .inl (is (U8 a2))), (3, .inr (.inl (3, 0))), (6, .inr (.inl (6, 0))), (9, .inr (.inl (9, 0))), (11, .inl (is (U64 x1))), (42, .inl (is (U8 a4_0))), (262, .inl (is (Bl x26)))], [(3, gc 90 (ar U64 8 b3_0 ++ []) ([]) (k1 Sv) 1 b3_1), (6, pb 23 [is (U8 a1_0), is (U8 a1_1)]), (9, pb 96 [is (U8 a4_0), is (U8 a4_1), is (U8 a4_2), is (U8 a4_3), is (U64 a4_4), is (Sv a4_5)])]⟩
                                                                  have hr : some r = F233_20 N a1_0 a1_1 a2 b3_0 b3_1 a4_0 a4_1 a4_2 a4_3 a4_4 a4_5 x1 x26 := hr
                                                                  refine AW_condT (b := x26) rfl (fun h => ?_) (fun h => ?_)
                                                                  · have hr := hr.trans (cond_t h)
                                                                    clear h
                                                                    refine AW_opn 3 1017 (fun sv => (ar U64 8 b3_0 ++ (is ( sv) :: []))) rfl rfl (fun _ => by first | rfl | simp) ?_
                                                                    intro sv24 hsv24
                                                                    obtain ⟨y23, hy23, hr⟩ := lt_some hr
                                                                    obtain ⟨y24, hy24, hr⟩ := bind_some hr
                                                                    obtain ⟨hg8, hr⟩ := guard_some hr
                                                                    refine AW_post ?_
                                                                    refine AW_drawV 12 1017 mixed (fun sv25 => [(⟨[(264, .inr (.inl (3, 0)))], [], []⟩, ⟨[(277, .inr (.inl (3, 0)))], []⟩), (⟨[(277, .inr (.inl (3, 0)))], [], []⟩, ⟨[(278, .inr (.inl (3, 8)))], []⟩), (⟨[(278, .inr (.inl (3, 8))), (276, .inl (is ( sv25)))], [(3, pb 90 (ar U64 8 b3_0 ++ (is ( sv24) :: [])))], []⟩, ⟨[], [(3, pb 90 (ar U64 8 b3_0 ++ (is ( sv25) :: [])))]⟩)])
                                                                      (lrC (LR_move (at_tmp 3 _) rfl)
                                                                      (lrC (LR_move (at_tmp 3 _) rfl)
                                                                      (lrC (LR_nilCheck (at_tmp 265 _) rfl)
                                                                      (lrC (LR_fieldAddr (off := 0) (o := 8) (at_tmp 266 _) (fun b w => fa90_1 b 0 w) rfl)
                                                                      (lrC (LR_load (at_tmp 267 _) na57 (gP g0) rfl)
                                                                      (lrC (LR_loads (at_tmp 6 _) ag23 sz23 rfl rfl rfl)
                                                                      (lrC (LR_move (at_tmp 11 _) rfl)
                                                                      (lrC (LR_call Hfaa.func328 rfl rfl (C328 a1_0 a1_1 x1 y23 hy23) (all_cons (at_tmp 269 _) (all_cons (at_tmp 270 _) all_nil)) rfl)
                                                                      (lrC (LR_extract (at_tmp 271 _) rfl rfl)
                                                                      (lrC (LR_extract (at_tmp 271 _) rfl rfl)
                                                                      (lrC (LR_call Hfaa.func310 rfl rfl (C310 N y23.1 y23.2 y24 hy24) (all_cons (at_tmp 272 _) (all_cons (at_tmp 273 _) all_nil)) rfl)
                                                                      (lrC (LR_bs1 Hfaa.underlying57 el9 (fun _ => rfl) (at_tmp 274 _) rfl)
                                                                      lrN))))))))))))
                                                                      rfl
                                                                      (app_opk (K := (k1 Sv)) (r := 1017) (z := b3_1) (u := y24) Hfaa.underlying57 eN9 k1_len (k1_cell fun _ => rfl) (at_tmp 268 _) (at_tmp 275 _) (oneAt_k1 rfl) (of_decide_eq_true hg8) rfl rfl)
                                                                      (fun sv25 hsv25 => (lrC (LR_nilCheck (at_tmp 264 _) rfl)
                                                                      (lrC (LR_fieldAddr (off := 0) (o := 8) (at_tmp 277 _) (fun b w => fa90_1 b 0 w) rfl)
                                                                      (lrC (LR_storeA (at_tmp 278 _) (at_tmp 276 _) (cells_one (one_is hsv25)) (onC (one_is hsv25) onN) sz57 rfl (bleLen (lnA (lnC ln0)) rfl) (stP st0))
                                                                      lrN))))
                                                                      (fun sv25 hsv25 => by kernel_rfl)
                                                                      (fun sv25 hsv25 => (saC (sS (sT1 rfl) sB0 sF0) (saC (sS (sT1 rfl) sB0 sF0) (saC (sS (sT1 rfl) sB0 sF0) (saC (sS (sT1 rfl) sB0 sF0) (saC (sS (sT1 rfl) (sB1 rfl) sF0) (saC (sS (sT1 rfl) (sB1 rfl) sF0) (saC (sS (sT1 rfl) sB0 sF0) (saC (sS (sA (sT1 rfl) (sA (sT1 rfl) sT0)) sB0 sF0) (saC (sS (sT1 rfl) sB0 sF0) (saC (sS (sT1 rfl) sB0 sF0) (saC (sS (sA (sT1 rfl) (sA (sT1 rfl) sT0)) sB0 sF0) (saC (sS (sT1 rfl) sB0 sF0) (saC (sS (sA (sT1 rfl) (sT1 rfl)) (sB1 rfl) sF0) (saC (sS (sT1 rfl) sB0 sF0) (saC (sS (sT1 rfl) sB0 sF0) (saC (sS (sA (sT1 rfl) (sT1 rfl)) (sB1 rfl) sF0) saN)))))))))))))))))
                                                                      (by kernel_rfl) rfl (fun sv25 hsv25 => by kernel_rfl) ?_
                                                                    intro sv25 hsv25
                                                                    refine ⟨_, (imp_close (k := 3) (r := 1017) (ar U64 8 b3_0 ++ []) ([]) rfl (by first | rfl | simp) rfl rfl rfl rfl), ?_⟩
                                                                    refine blN ?_
                                                                    obtain rfl := Option.some.inj hr
                                                                    exact ⟨res0 rfl , (sub_keep (sub_drop (sub_drop (sub_drop sub_nil))))⟩
                                                                  · have hr := hr.trans (cond_f h)
                                                                    clear h
                                                                    refine AW_cut (σ := Bool) (fun v => ⟨[(2, .inl (is (U8 a2))), (3, .inr (.inl (3, 0))), (6, .inr (.inl (6, 0))), (9, .inr (.inl (9, 0))), (11, .inl (is (U64 x1))), (42, .inl (is (U8 a4_0))), (279, .inl (is (Bl v)))], [(3, gc 90 (ar U64 8 b3_0 ++ []) ([]) (k1 Sv) 1 b3_1), (6, pb 23 [is (U8 a1_0), is (U8 a1_1)]), (9, pb 96 [is (U8 a4_0), is (U8 a4_1), is (U8 a4_2), is (U8 a4_3), is (U64 a4_4), is (Sv a4_5)])]⟩) (fun v => some r = F233_21 N a1_0 a1_1 a2 b3_0 b3_1 a4_0 a4_1 a4_2 a4_3 a4_4 a4_5 x1 v) ?_ ?_
                                                                    · skip
                                                                      refine AW_region ?_
                                                                      refine AL_cons (LR_bin (at_tmp 42 _) (at_c (v' := U8 (33#8)) rfl) (eql_U8 a4_0 (33#8)) rfl) (sS (sA (sT1 rfl) sT0) sB0 sF0) ?_
                                                                      refine AL_cons (LR_assign (at_tmp 280 _) rfl) (sS (sT1 rfl) sB0 sF0) ?_
                                                                      refine AL_nil ?_
                                                                      exact thenN (cutLeaf (v := a4_0 == (33#8)) hr (weakB ((sT rfl (sT rfl (sT rfl (sT rfl (sT rfl (sT rfl (sT rfl sT0)))))))) (sub_keep (sub_keep (sub_keep sub_nil))) rfl))
                                                                    · rintro x27 hr
                                                                      show AW Hfaa.prog _ _ _ ⟨[(2, .inl (is (U8 a2))), (3, .inr (.inl (3, 0))), (6, .inr (.inl (6, 0))), (9, .inr (.inl (9, 0))), (11, .inl (is (U64 x1))), (42, .inl (is (U8 a4_0))), (279, .inl (is (Bl x27)))], [(3, gc 90 (ar U64 8 b3_0 ++ []) ([]) (k1 Sv) 1 b3_1), (6, pb 23 [is (U8 a1_0), is (U8 a1_1)]), (9, pb 96 [is (U8 a4_0), is (U8 a4_1), is (U8 a4_2), is (U8 a4_3), is (U64 a4_4), is (Sv a4_5)])]⟩
                                                                      have hr : some r = F233_21 N a1_0 a1_1 a2 b3_0 b3_1 a4_0 a4_1 a4_2 a4_3 a4_4 a4_5 x1 x27 := hr
                                                                      refine AW_condT (b := x27) rfl (fun h => ?_) (fun h => ?_)
                                                                      · have hr := hr.trans (cond_t h)
                                                                        clear h
                                                                        refine AW_cut (σ := BitVec 8) (fun v => ⟨[(3, .inr (.inl (3, 0))), (15, .inl (is (U8 v)))], [(3, gc 90 (ar U64 8 b3_0 ++ []) ([]) (k1 Sv) 1 b3_1)]⟩) (fun v => some r = F233_22 N b3_0 b3_1 v) ?_ ?_
                                                                        · skip
                                                                          obtain ⟨y28, hy28, hr⟩ := lt_some hr
                                                                          obtain ⟨y29, hy29, hr⟩ := bind_some hr
                                                                          refine AW_draw mixed
                                                                            (lrC (LR_loads (at_tmp 6 _) ag23 sz23 rfl rfl rfl)
                                                                            (lrC (LR_move (at_tmp 2 _) rfl)
                                                                            (lrC (LR_loads (at_tmp 6 _) ag23 sz23 rfl rfl rfl)
                                                                            (lrC (LR_move (at_tmp 11 _) rfl)
                                                                            (lrC (LR_call Hfaa.func228 rfl rfl (C228 a1_0 a1_1 x1 y28 hy28) (all_cons (at_tmp 284 _) (all_cons (at_tmp 285 _) all_nil)) rfl)
                                                                            (lrC (LR_fieldAddr (off := 0) (o := 4) (at_tmp 9 _) (fun b w => fa96_4 b 0 w) rfl)
                                                                            (lrC (LR_load (at_tmp 287 _) na30 rfl rfl)
                                                                            (lrC (LR_conv (vx := U64 a4_4) (at_tmp 288 _) (conv_I64 Hfaa.underlying30 Hfaa.underlying2 (a4_4.toNat : Int)) rfl)
                                                                            (lrC (LR_call Hfaa.func110 rfl rfl (C110 N a1_0 a1_1 a2 y28 (w64 (a4_4.toNat : Int)) y29 hy29) (all_cons (at_tmp 282 _) (all_cons (at_tmp 283 _) (all_cons (at_tmp 286 _) (all_cons (at_tmp 289 _) all_nil)))) rfl)
                                                                            (lrC (LR_move (at_tmp 290 _) rfl)
                                                                            (lrC (LR_extract (at_tmp 281 _) rfl rfl)
                                                                            (lrC (LR_extract (at_tmp 281 _) rfl rfl)
                                                                            (lrC (LR_assign (at_tmp 291 _) rfl)
                                                                            (lrC (LR_assign (at_tmp 292 _) rfl)
                                                                            lrN))))))))))))))
                                                                            (by kernel_rfl)
                                                                            (saC (sS (sT1 rfl) (sB1 rfl) sF0) (saC (sS (sT1 rfl) sB0 sF0) (saC (sS (sT1 rfl) (sB1 rfl) sF0) (saC (sS (sT1 rfl) sB0 sF0) (saC (sS (sA (sT1 rfl) (sA (sT1 rfl) sT0)) sB0 sF0) (saC (sS (sT1 rfl) sB0 sF0) (saC (sS (sT1 rfl) (sB1 rfl) sF0) (saC (sS (sT1 rfl) sB0 sF0) (saC (sS (sA (sT1 rfl) (sA (sT1 rfl) (sA (sT1 rfl) (sA (sT1 rfl) sT0)))) sB0 sF0) (saC (sS (sT1 rfl) sB0 sF0) (saC (sS (sT1 rfl) sB0 sF0) (saC (sS (sT1 rfl) sB0 sF0) (saC (sS (sT1 rfl) sB0 sF0) (saC (sS (sT1 rfl) sB0 sF0) saN)))))))))))))) ?_
                                                                          exact thenN (cutLeaf (v := y29.2) hr (weakB ((sT rfl (sT rfl sT0))) (sub_keep (sub_drop (sub_drop sub_nil))) rfl))
                                                                        · rintro x28 hr
                                                                          show AW Hfaa.prog _ _ _ ⟨[(3, .inr (.inl (3, 0))), (15, .inl (is (U8 x28)))], [(3, gc 90 (ar U64 8 b3_0 ++ []) ([]) (k1 Sv) 1 b3_1)]⟩
                                                                          have hr : some r = F233_22 N b3_0 b3_1 x28 := hr
                                                                          refine AW_opn 3 1018 (fun sv => (ar U64 8 b3_0 ++ (is ( sv) :: []))) rfl rfl (fun _ => by first | rfl | simp) ?_
                                                                          intro sv26 hsv26
                                                                          obtain ⟨y27, hy27, hr⟩ := bind_some hr
                                                                          obtain ⟨hg9, hr⟩ := guard_some hr
                                                                          refine AW_post ?_
                                                                          refine AW_drawV 8 1018 mixed (fun sv27 => [(⟨[(293, .inr (.inl (3, 0)))], [], []⟩, ⟨[(302, .inr (.inl (3, 0)))], []⟩), (⟨[(302, .inr (.inl (3, 0)))], [], []⟩, ⟨[(303, .inr (.inl (3, 8)))], []⟩), (⟨[(303, .inr (.inl (3, 8))), (301, .inl (is ( sv27)))], [(3, pb 90 (ar U64 8 b3_0 ++ (is ( sv26) :: [])))], []⟩, ⟨[], [(3, pb 90 (ar U64 8 b3_0 ++ (is ( sv27) :: [])))]⟩)])
                                                                            (lrC (LR_move (at_tmp 3 _) rfl)
                                                                            (lrC (LR_move (at_tmp 3 _) rfl)
                                                                            (lrC (LR_nilCheck (at_tmp 294 _) rfl)
                                                                            (lrC (LR_fieldAddr (off := 0) (o := 8) (at_tmp 295 _) (fun b w => fa90_1 b 0 w) rfl)
                                                                            (lrC (LR_load (at_tmp 296 _) na57 (gP g0) rfl)
                                                                            (lrC (LR_move (at_tmp 15 _) rfl)
                                                                            (lrC (LR_call Hfaa.func301 rfl rfl (C301 N x28 y27 hy27) (all_cons (at_tmp 298 _) all_nil) rfl)
                                                                            (lrC (LR_bs1 Hfaa.underlying57 el9 (fun _ => rfl) (at_tmp 299 _) rfl)
                                                                            lrN))))))))
                                                                            rfl
                                                                            (app_opk (K := (k1 Sv)) (r := 1018) (z := b3_1) (u := y27) Hfaa.underlying57 eN9 k1_len (k1_cell fun _ => rfl) (at_tmp 297 _) (at_tmp 300 _) (oneAt_k1 rfl) (of_decide_eq_true hg9) rfl rfl)
                                                                            (fun sv27 hsv27 => (lrC (LR_nilCheck (at_tmp 293 _) rfl)
                                                                            (lrC (LR_fieldAddr (off := 0) (o := 8) (at_tmp 302 _) (fun b w => fa90_1 b 0 w) rfl)
                                                                            (lrC (LR_storeA (at_tmp 303 _) (at_tmp 301 _) (cells_one (one_is hsv27)) (onC (one_is hsv27) onN) sz57 rfl (bleLen (lnA (lnC ln0)) rfl) (stP st0))
                                                                            lrN))))
                                                                            (fun sv27 hsv27 => by kernel_rfl)
                                                                            (fun sv27 hsv27 => (saC (sS (sT1 rfl) sB0 sF0) (saC (sS (sT1 rfl) sB0 sF0) (saC (sS (sT1 rfl) sB0 sF0) (saC (sS (sT1 rfl) sB0 sF0) (saC (sS (sT1 rfl) (sB1 rfl) sF0) (saC (sS (sT1 rfl) sB0 sF0) (saC (sS (sA (sT1 rfl) sT0) sB0 sF0) (saC (sS (sT1 rfl) sB0 sF0) (saC (sS (sA (sT1 rfl) (sT1 rfl)) (sB1 rfl) sF0) (saC (sS (sT1 rfl) sB0 sF0) (saC (sS (sT1 rfl) sB0 sF0) (saC (sS (sA (sT1 rfl) (sT1 rfl)) (sB1 rfl) sF0) saN)))))))))))))
                                                                            (by kernel_rfl) rfl (fun sv27 hsv27 => by kernel_rfl) ?_
                                                                          intro sv27 hsv27
                                                                          refine ⟨_, (imp_close (k := 3) (r := 1018) (ar U64 8 b3_0 ++ []) ([]) rfl (by first | rfl | simp) rfl rfl rfl rfl), ?_⟩
                                                                          refine blN ?_
                                                                          obtain rfl := Option.some.inj hr
                                                                          exact ⟨res0 rfl , (sub_keep (sub_drop sub_nil))⟩
                                                                      · have hr := hr.trans (cond_f h)
                                                                        clear h
                                                                        refine AW_cut (σ := Bool) (fun v => ⟨[(2, .inl (is (U8 a2))), (3, .inr (.inl (3, 0))), (6, .inr (.inl (6, 0))), (9, .inr (.inl (9, 0))), (11, .inl (is (U64 x1))), (304, .inl (is (Bl v)))], [(3, gc 90 (ar U64 8 b3_0 ++ []) ([]) (k1 Sv) 1 b3_1), (6, pb 23 [is (U8 a1_0), is (U8 a1_1)]), (9, pb 96 [is (U8 a4_0), is (U8 a4_1), is (U8 a4_2), is (U8 a4_3), is (U64 a4_4), is (Sv a4_5)])]⟩) (fun v => some r = F233_23 N a1_0 a1_1 a2 b3_0 b3_1 a4_0 a4_1 a4_2 a4_3 a4_4 a4_5 x1 v) ?_ ?_
                                                                        · skip
                                                                          refine AW_region ?_
                                                                          refine AL_cons (LR_bin (at_tmp 42 _) (at_c (v' := U8 (28#8)) rfl) (eql_U8 a4_0 (28#8)) rfl) (sS (sA (sT1 rfl) sT0) sB0 sF0) ?_
                                                                          refine AL_cons (LR_assign (at_tmp 305 _) rfl) (sS (sT1 rfl) sB0 sF0) ?_
                                                                          refine AL_nil ?_
                                                                          exact thenN (cutLeaf (v := a4_0 == (28#8)) hr (weakB ((sT rfl (sT rfl (sT rfl (sT rfl (sT rfl (sT rfl sT0))))))) (sub_keep (sub_keep (sub_keep sub_nil))) rfl))
                                                                        · rintro x29 hr
                                                                          show AW Hfaa.prog _ _ _ ⟨[(2, .inl (is (U8 a2))), (3, .inr (.inl (3, 0))), (6, .inr (.inl (6, 0))), (9, .inr (.inl (9, 0))), (11, .inl (is (U64 x1))), (304, .inl (is (Bl x29)))], [(3, gc 90 (ar U64 8 b3_0 ++ []) ([]) (k1 Sv) 1 b3_1), (6, pb 23 [is (U8 a1_0), is (U8 a1_1)]), (9, pb 96 [is (U8 a4_0), is (U8 a4_1), is (U8 a4_2), is (U8 a4_3), is (U64 a4_4), is (Sv a4_5)])]⟩
                                                                          have hr : some r = F233_23 N a1_0 a1_1 a2 b3_0 b3_1 a4_0 a4_1 a4_2 a4_3 a4_4 a4_5 x1 x29 := hr
                                                                          refine AW_condT (b := x29) rfl (fun h => ?_) (fun h => ?_)
                                                                          · have hr := hr.trans (cond_t h)
                                                                            clear h
                                                                            refine AW_cut (σ := BitVec 8 × Bool) (fun v => ⟨[(3, .inr (.inl (3, 0))), (16, .inl (is (U8 v.1))), (17, .inl (is (Bl v.2)))], [(3, gc 90 (ar U64 8 b3_0 ++ []) ([]) (k1 Sv) 1 b3_1)]⟩) (fun v => some r = F233_24 N b3_0 b3_1 v.1 v.2) ?_ ?_
                                                                            · skip
                                                                              obtain ⟨y33, hy33, hr⟩ := lt_some hr
                                                                              obtain ⟨y34, hy34, hr⟩ := bind_some hr
                                                                              refine AW_draw mixed
                                                                                (lrC (LR_loads (at_tmp 6 _) ag23 sz23 rfl rfl rfl)
                                                                                (lrC (LR_move (at_tmp 2 _) rfl)
                                                                                (lrC (LR_fieldAddr (off := 0) (o := 4) (at_tmp 9 _) (fun b w => fa96_4 b 0 w) rfl)
                                                                                (lrC (LR_load (at_tmp 309 _) na30 rfl rfl)
                                                                                (lrC (LR_loads (at_tmp 6 _) ag23 sz23 rfl rfl rfl)
                                                                                (lrC (LR_move (at_tmp 11 _) rfl)
                                                                                (lrC (LR_call Hfaa.func228 rfl rfl (C228 a1_0 a1_1 x1 y33 hy33) (all_cons (at_tmp 311 _) (all_cons (at_tmp 312 _) all_nil)) rfl)
                                                                                (lrC (LR_call Hfaa.func329 rfl rfl (C329 N a1_0 a1_1 a2 a4_4 y33 y34 hy34) (all_cons (at_tmp 307 _) (all_cons (at_tmp 308 _) (all_cons (at_tmp 310 _) (all_cons (at_tmp 313 _) all_nil)))) rfl)
                                                                                (lrC (LR_move (at_tmp 314 _) rfl)
                                                                                (lrC (LR_extract (at_tmp 306 _) rfl rfl)
                                                                                (lrC (LR_extract (at_tmp 306 _) rfl rfl)
                                                                                (lrC (LR_assign (at_tmp 315 _) rfl)
                                                                                (lrC (LR_assign (at_tmp 316 _) rfl)
                                                                                lrN)))))))))))))
                                                                                (by kernel_rfl)
                                                                                (saC (sS (sT1 rfl) (sB1 rfl) sF0) (saC (sS (sT1 rfl) sB0 sF0) (saC (sS (sT1 rfl) sB0 sF0) (saC (sS (sT1 rfl) (sB1 rfl) sF0) (saC (sS (sT1 rfl) (sB1 rfl) sF0) (saC (sS (sT1 rfl) sB0 sF0) (saC (sS (sA (sT1 rfl) (sA (sT1 rfl) sT0)) sB0 sF0) (saC (sS (sA (sT1 rfl) (sA (sT1 rfl) (sA (sT1 rfl) (sA (sT1 rfl) sT0)))) sB0 sF0) (saC (sS (sT1 rfl) sB0 sF0) (saC (sS (sT1 rfl) sB0 sF0) (saC (sS (sT1 rfl) sB0 sF0) (saC (sS (sT1 rfl) sB0 sF0) (saC (sS (sT1 rfl) sB0 sF0) saN))))))))))))) ?_
                                                                              exact thenN (cutLeaf (v := (y34.1, y34.2)) hr (weakB ((sT rfl (sT rfl (sT rfl sT0)))) (sub_keep (sub_drop (sub_drop sub_nil))) rfl))
                                                                            · rintro ⟨x30, x31⟩ hr
                                                                              show AW Hfaa.prog _ _ _ ⟨[(3, .inr (.inl (3, 0))), (16, .inl (is (U8 x30))), (17, .inl (is (Bl x31)))], [(3, gc 90 (ar U64 8 b3_0 ++ []) ([]) (k1 Sv) 1 b3_1)]⟩
                                                                              have hr : some r = F233_24 N b3_0 b3_1 x30 x31 := hr
                                                                              refine AW_seq1 ?_
                                                                              refine AW_region ?_
                                                                              refine AL_cons (LR_move (at_tmp 17 _) rfl) (sS (sT1 rfl) sB0 sF0) ?_
                                                                              refine AL_nil ?_
                                                                              refine thenN ?_
                                                                              refine AW_condT (b := x31) rfl (fun h => ?_) (fun h => ?_)
                                                                              · have hr := hr.trans (cond_t h)
                                                                                clear h
                                                                                refine AW_opn 3 1019 (fun sv => (ar U64 8 b3_0 ++ (is ( sv) :: []))) rfl rfl (fun _ => by first | rfl | simp) ?_
                                                                                intro sv28 hsv28
                                                                                obtain ⟨y32, hy32, hr⟩ := bind_some hr
                                                                                obtain ⟨hg10, hr⟩ := guard_some hr
                                                                                refine AW_post ?_
                                                                                refine AW_drawV 8 1019 mixed (fun sv29 => [(⟨[(318, .inr (.inl (3, 0)))], [], []⟩, ⟨[(327, .inr (.inl (3, 0)))], []⟩), (⟨[(327, .inr (.inl (3, 0)))], [], []⟩, ⟨[(328, .inr (.inl (3, 8)))], []⟩), (⟨[(328, .inr (.inl (3, 8))), (326, .inl (is ( sv29)))], [(3, pb 90 (ar U64 8 b3_0 ++ (is ( sv28) :: [])))], []⟩, ⟨[], [(3, pb 90 (ar U64 8 b3_0 ++ (is ( sv29) :: [])))]⟩)])
                                                                                  (lrC (LR_move (at_tmp 3 _) rfl)
                                                                                  (lrC (LR_move (at_tmp 3 _) rfl)
                                                                                  (lrC (LR_nilCheck (at_tmp 319 _) rfl)
                                                                                  (lrC (LR_fieldAddr (off := 0) (o := 8) (at_tmp 320 _) (fun b w => fa90_1 b 0 w) rfl)
                                                                                  (lrC (LR_load (at_tmp 321 _) na57 (gP g0) rfl)
                                                                                  (lrC (LR_move (at_tmp 16 _) rfl)
                                                                                  (lrC (LR_call Hfaa.func301 rfl rfl (C301 N x30 y32 hy32) (all_cons (at_tmp 323 _) all_nil) rfl)
                                                                                  (lrC (LR_bs1 Hfaa.underlying57 el9 (fun _ => rfl) (at_tmp 324 _) rfl)
                                                                                  lrN))))))))
                                                                                  rfl
                                                                                  (app_opk (K := (k1 Sv)) (r := 1019) (z := b3_1) (u := y32) Hfaa.underlying57 eN9 k1_len (k1_cell fun _ => rfl) (at_tmp 322 _) (at_tmp 325 _) (oneAt_k1 rfl) (of_decide_eq_true hg10) rfl rfl)
                                                                                  (fun sv29 hsv29 => (lrC (LR_nilCheck (at_tmp 318 _) rfl)
                                                                                  (lrC (LR_fieldAddr (off := 0) (o := 8) (at_tmp 327 _) (fun b w => fa90_1 b 0 w) rfl)
                                                                                  (lrC (LR_storeA (at_tmp 328 _) (at_tmp 326 _) (cells_one (one_is hsv29)) (onC (one_is hsv29) onN) sz57 rfl (bleLen (lnA (lnC ln0)) rfl) (stP st0))
                                                                                  lrN))))
                                                                                  (fun sv29 hsv29 => by kernel_rfl)
                                                                                  (fun sv29 hsv29 => (saC (sS (sT1 rfl) sB0 sF0) (saC (sS (sT1 rfl) sB0 sF0) (saC (sS (sT1 rfl) sB0 sF0) (saC (sS (sT1 rfl) sB0 sF0) (saC (sS (sT1 rfl) (sB1 rfl) sF0) (saC (sS (sT1 rfl) sB0 sF0) (saC (sS (sA (sT1 rfl) sT0) sB0 sF0) (saC (sS (sT1 rfl) sB0 sF0) (saC (sS (sA (sT1 rfl) (sT1 rfl)) (sB1 rfl) sF0) (saC (sS (sT1 rfl) sB0 sF0) (saC (sS (sT1 rfl) sB0 sF0) (saC (sS (sA (sT1 rfl) (sT1 rfl)) (sB1 rfl) sF0) saN)))))))))))))
                                                                                  (by kernel_rfl) rfl (fun sv29 hsv29 => by kernel_rfl) ?_
                                                                                intro sv29 hsv29
                                                                                refine ⟨_, (imp_close (k := 3) (r := 1019) (ar U64 8 b3_0 ++ []) ([]) rfl (by first | rfl | simp) rfl rfl rfl rfl), ?_⟩
                                                                                refine blN ?_
                                                                                obtain rfl := Option.some.inj hr
                                                                                exact ⟨res0 rfl , (sub_keep (sub_drop sub_nil))⟩
                                                                              · have hr := hr.trans (cond_f h)
                                                                                clear h
                                                                                refine AW_skip ?_
                                                                                refine blN ?_
                                                                                obtain rfl := Option.some.inj hr
                                                                                exact ⟨res0 rfl , (sub_keep sub_nil)⟩
                                                                          · have hr := hr.trans (cond_f h)
                                                                            clear h
                                                                            refine AW_skip ?_
                                                                            refine blN ?_
                                                                            obtain rfl := Option.some.inj hr
                                                                            exact ⟨res0 rfl , (sub_keep (sub_drop (sub_drop sub_nil)))⟩
end Go.Proofs.YfwaawGreat
