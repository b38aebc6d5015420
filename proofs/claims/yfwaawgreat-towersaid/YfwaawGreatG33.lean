import Derived.Test.YfwaawGreatG32
namespace Go.Proofs.YfwaawGreat
open Go.Aw
set_option linter.unusedVariables false
set_option maxRecDepth 100000
set_option maxHeartbeats 1000000
/-- dec.Scan -/
def F311_4 (N : Nat) (a0 : List UInt8) (x4 : Int) (x5 : List UInt8) (x6 : Int) (x7 : Bool) (x8 : Bool) (x9 : NS (BitVec 8)) (x10 : Int) (x11 : Int) : Option (BitVec 8 × Bool × List UInt8 × Int × Int × Int) := (F383 N x7 x8 x9 x10 x11 x4 x5 x6 (a0.length : Int)).bind fun y2 => some (y2.1, y2.2.1, y2.2.2.1, y2.2.2.2.1, y2.2.2.2.2.1, y2.2.2.2.2.2)
def F311_8 (N : Nat) (x23 : Int) (x24 : Int) : Option ((Int × List UInt8 × Int × Bool × Bool × NS (BitVec 8) × Int × Int × Nat) ⊕ (BitVec 8 × Bool × List UInt8 × Int × Int × Int)) := (some ((3#8, false, ([] : List UInt8), 0, x23, x24))).map Sum.inr
def F311_11 (N : Nat) (a0 : List UInt8) (x13 : List UInt8) (x14 : Int) (x15 : Bool) (x16 : Bool) (x18 : Int) (x19 : Int) (x22 : Nat) (x26 : Int) (x27 : NS (BitVec 8)) : Option ((Int × List UInt8 × Int × Bool × Bool × NS (BitVec 8) × Int × Int × Nat) ⊕ (BitVec 8 × Bool × List UInt8 × Int × Int × Int)) := some (.inl (x26, x13, x14, x15, x16, x27, x18, x19, x22))
def F311_10 (N : Nat) (a0 : List UInt8) (x13 : List UInt8) (x14 : Int) (x15 : Bool) (x16 : Bool) (x17 : NS (BitVec 8)) (x18 : Int) (x19 : Int) (x22 : Nat) (x24 : Int) (x26 : Int) : Option ((Int × List UInt8 × Int × Bool × Bool × NS (BitVec 8) × Int × Int × Nat) ⊕ (BitVec 8 × Bool × List UInt8 × Int × Int × Int)) := bif decide (x17.2.1 < 4294967296) then F311_11 N a0 x13 x14 x15 x16 x18 x19 x22 x26 (app x17 (BitVec.ofInt 8 x24)) else none
def F311_13 (N : Nat) (a0 : List UInt8) (x13 : List UInt8) (x14 : Int) (x15 : Bool) (x16 : Bool) (x17 : NS (BitVec 8)) (x18 : Int) (x22 : Nat) (x29 : Int) : Option ((Int × List UInt8 × Int × Bool × Bool × NS (BitVec 8) × Int × Int × Nat) ⊕ (BitVec 8 × Bool × List UInt8 × Int × Int × Int)) := some (.inl (8, x13, x14, x15, x16, x17, x18, x29, x22))
def F311_16 (N : Nat) (a0 : List UInt8) (x13 : List UInt8) (x14 : Int) (x15 : Bool) (x16 : Bool) (x19 : Int) (x22 : Nat) (x31 : Int) (x32 : NS (BitVec 8)) : Option ((Int × List UInt8 × Int × Bool × Bool × NS (BitVec 8) × Int × Int × Nat) ⊕ (BitVec 8 × Bool × List UInt8 × Int × Int × Int)) := some (.inl (5, x13, x14, x15, x16, x32, x31, x19, x22))
def F311_15 (N : Nat) (a0 : List UInt8) (x13 : List UInt8) (x14 : Int) (x15 : Bool) (x16 : Bool) (x17 : NS (BitVec 8)) (x19 : Int) (x22 : Nat) (x24 : Int) (x31 : Int) : Option ((Int × List UInt8 × Int × Bool × Bool × NS (BitVec 8) × Int × Int × Nat) ⊕ (BitVec 8 × Bool × List UInt8 × Int × Int × Int)) := bif decide (x17.2.1 < 4294967296) then F311_16 N a0 x13 x14 x15 x16 x19 x22 x31 (app x17 (BitVec.ofInt 8 x24)) else none
def F311_18 (N : Nat) (a0 : List UInt8) (x12 : Int) (x13 : List UInt8) (x14 : Int) (x15 : Bool) (x16 : Bool) (x17 : NS (BitVec 8)) (x18 : Int) (x19 : Int) (x22 : Nat) (x23 : Int) (x24 : Int) (x34 : Bool) : Option ((Int × List UInt8 × Int × Bool × Bool × NS (BitVec 8) × Int × Int × Nat) ⊕ (BitVec 8 × Bool × List UInt8 × Int × Int × Int)) := bif x34 then F311_10 N a0 x13 x14 x15 x16 x17 x18 x19 x22 x24 x12 else F311_8 N x23 x24
def F311_17 (N : Nat) (a0 : List UInt8) (x12 : Int) (x13 : List UInt8) (x14 : Int) (x15 : Bool) (x16 : Bool) (x17 : NS (BitVec 8)) (x18 : Int) (x19 : Int) (x22 : Nat) (x23 : Int) (x24 : Int) (x33 : Bool) : Option ((Int × List UInt8 × Int × Bool × Bool × NS (BitVec 8) × Int × Int × Nat) ⊕ (BitVec 8 × Bool × List UInt8 × Int × Int × Int)) := bif x33 then F311_10 N a0 x13 x14 x15 x16 x17 x18 x19 x22 x24 2 else F311_18 N a0 x12 x13 x14 x15 x16 x17 x18 x19 x22 x23 x24 (x12 == 2)
def F311_19 (N : Nat) (a0 : List UInt8) (x12 : Int) (x13 : List UInt8) (x14 : Int) (x15 : Bool) (x16 : Bool) (x17 : NS (BitVec 8)) (x18 : Int) (x19 : Int) (x22 : Nat) (x23 : Int) (x24 : Int) (x35 : Bool) : Option ((Int × List UInt8 × Int × Bool × Bool × NS (BitVec 8) × Int × Int × Nat) ⊕ (BitVec 8 × Bool × List UInt8 × Int × Int × Int)) := bif x35 then F311_17 N a0 x12 x13 x14 x15 x16 x17 x18 x19 x22 x23 x24 x35 else F311_17 N a0 x12 x13 x14 x15 x16 x17 x18 x19 x22 x23 x24 (x12 == 1)
def F311_14 (N : Nat) (a0 : List UInt8) (x12 : Int) (x13 : List UInt8) (x14 : Int) (x15 : Bool) (x16 : Bool) (x17 : NS (BitVec 8)) (x18 : Int) (x19 : Int) (x22 : Nat) (x23 : Int) (x24 : Int) (x30 : Bool) : Option ((Int × List UInt8 × Int × Bool × Bool × NS (BitVec 8) × Int × Int × Nat) ⊕ (BitVec 8 × Bool × List UInt8 × Int × Int × Int)) := bif x30 then F311_15 N a0 x13 x14 x15 x16 x17 x19 x22 x24 (w64 (x18 + 1)) else F311_19 N a0 x12 x13 x14 x15 x16 x17 x18 x19 x22 x23 x24 (x12 == 0)
def F311_21 (N : Nat) (a0 : List UInt8) (x12 : Int) (x13 : List UInt8) (x14 : Int) (x15 : Bool) (x16 : Bool) (x17 : NS (BitVec 8)) (x18 : Int) (x19 : Int) (x22 : Nat) (x23 : Int) (x24 : Int) (x37 : Bool) : Option ((Int × List UInt8 × Int × Bool × Bool × NS (BitVec 8) × Int × Int × Nat) ⊕ (BitVec 8 × Bool × List UInt8 × Int × Int × Int)) := bif x37 then F311_14 N a0 x12 x13 x14 x15 x16 x17 x18 x19 x22 x23 x24 x37 else F311_14 N a0 x12 x13 x14 x15 x16 x17 x18 x19 x22 x23 x24 (x12 == 5)
def F311_20 (N : Nat) (a0 : List UInt8) (x12 : Int) (x13 : List UInt8) (x14 : Int) (x15 : Bool) (x16 : Bool) (x17 : NS (BitVec 8)) (x18 : Int) (x19 : Int) (x22 : Nat) (x23 : Int) (x24 : Int) (x36 : Bool) : Option ((Int × List UInt8 × Int × Bool × Bool × NS (BitVec 8) × Int × Int × Nat) ⊕ (BitVec 8 × Bool × List UInt8 × Int × Int × Int)) := bif x36 then F311_14 N a0 x12 x13 x14 x15 x16 x17 x18 x19 x22 x23 x24 x36 else F311_21 N a0 x12 x13 x14 x15 x16 x17 x18 x19 x22 x23 x24 (x12 == 4)
def F311_12 (N : Nat) (a0 : List UInt8) (x12 : Int) (x13 : List UInt8) (x14 : Int) (x15 : Bool) (x16 : Bool) (x17 : NS (BitVec 8)) (x18 : Int) (x19 : Int) (x22 : Nat) (x23 : Int) (x24 : Int) (x28 : Bool) : Option ((Int × List UInt8 × Int × Bool × Bool × NS (BitVec 8) × Int × Int × Nat) ⊕ (BitVec 8 × Bool × List UInt8 × Int × Int × Int)) := bif x28 then F311_13 N a0 x13 x14 x15 x16 x17 x18 x22 (min (w64 ((w64 (10 * x19)) + (w64 (w32 (x24 - 48))))) 1000000) else F311_20 N a0 x12 x13 x14 x15 x16 x17 x18 x19 x22 x23 x24 (x12 == 3)
def F311_23 (N : Nat) (a0 : List UInt8) (x12 : Int) (x13 : List UInt8) (x14 : Int) (x15 : Bool) (x16 : Bool) (x17 : NS (BitVec 8)) (x18 : Int) (x19 : Int) (x22 : Nat) (x23 : Int) (x24 : Int) (x39 : Bool) : Option ((Int × List UInt8 × Int × Bool × Bool × NS (BitVec 8) × Int × Int × Nat) ⊕ (BitVec 8 × Bool × List UInt8 × Int × Int × Int)) := bif x39 then F311_12 N a0 x12 x13 x14 x15 x16 x17 x18 x19 x22 x23 x24 x39 else F311_12 N a0 x12 x13 x14 x15 x16 x17 x18 x19 x22 x23 x24 (x12 == 8)
def F311_22 (N : Nat) (a0 : List UInt8) (x12 : Int) (x13 : List UInt8) (x14 : Int) (x15 : Bool) (x16 : Bool) (x17 : NS (BitVec 8)) (x18 : Int) (x19 : Int) (x22 : Nat) (x23 : Int) (x24 : Int) (x38 : Bool) : Option ((Int × List UInt8 × Int × Bool × Bool × NS (BitVec 8) × Int × Int × Nat) ⊕ (BitVec 8 × Bool × List UInt8 × Int × Int × Int)) := bif x38 then F311_12 N a0 x12 x13 x14 x15 x16 x17 x18 x19 x22 x23 x24 x38 else F311_23 N a0 x12 x13 x14 x15 x16 x17 x18 x19 x22 x23 x24 (x12 == 7)
def F311_25 (N : Nat) (a0 : List UInt8) (x13 : List UInt8) (x14 : Int) (x16 : Bool) (x17 : NS (BitVec 8)) (x18 : Int) (x19 : Int) (x22 : Nat) (x41 : Bool) : Option ((Int × List UInt8 × Int × Bool × Bool × NS (BitVec 8) × Int × Int × Nat) ⊕ (BitVec 8 × Bool × List UInt8 × Int × Int × Int)) := some (.inl (1, x13, x14, x41, x16, x17, x18, x19, x22))
def F311_27 (N : Nat) (a0 : List UInt8) (x13 : List UInt8) (x14 : Int) (x15 : Bool) (x17 : NS (BitVec 8)) (x18 : Int) (x19 : Int) (x22 : Nat) (x43 : Bool) : Option ((Int × List UInt8 × Int × Bool × Bool × NS (BitVec 8) × Int × Int × Nat) ⊕ (BitVec 8 × Bool × List UInt8 × Int × Int × Int)) := some (.inl (7, x13, x14, x15, x43, x17, x18, x19, x22))
def F311_33 (N : Nat) (a0 : List UInt8) (x12 : Int) (x13 : List UInt8) (x15 : Bool) (x16 : Bool) (x17 : NS (BitVec 8)) (x18 : Int) (x19 : Int) (x22 : Nat) (x49 : Int) : Option ((Int × List UInt8 × Int × Bool × Bool × NS (BitVec 8) × Int × Int × Nat) ⊕ (BitVec 8 × Bool × List UInt8 × Int × Int × Int)) := some (.inl (x12, x13, x49, x15, x16, x17, x18, x19, x22))
def F311_34 (N : Nat) (a0 : List UInt8) (x13 : List UInt8) (x14 : Int) (x15 : Bool) (x16 : Bool) (x17 : NS (BitVec 8)) (x18 : Int) (x19 : Int) (x22 : Nat) (x23 : Int) (x24 : Int) (x50 : Bool) : Option ((Int × List UInt8 × Int × Bool × Bool × NS (BitVec 8) × Int × Int × Nat) ⊕ (BitVec 8 × Bool × List UInt8 × Int × Int × Int)) := bif x50 then some (.inl (6, x13, x14, x15, x16, x17, x18, x19, x22)) else F311_8 N x23 x24
def F311_32 (N : Nat) (a0 : List UInt8) (x12 : Int) (x13 : List UInt8) (x14 : Int) (x15 : Bool) (x16 : Bool) (x17 : NS (BitVec 8)) (x18 : Int) (x19 : Int) (x22 : Nat) (x23 : Int) (x24 : Int) (x48 : Bool) : Option ((Int × List UInt8 × Int × Bool × Bool × NS (BitVec 8) × Int × Int × Nat) ⊕ (BitVec 8 × Bool × List UInt8 × Int × Int × Int)) := bif x48 then F311_33 N a0 x12 x13 x15 x16 x17 x18 x19 x22 (w64 (x14 + 1)) else F311_34 N a0 x13 x14 x15 x16 x17 x18 x19 x22 x23 x24 ((((x12 == 2) || (x12 == 3)) || (x12 == 5)) && ((w32 ((BitVec.ofInt 32 x24 ||| BitVec.ofInt 32 32).toNat : Int)) == 101))
def F311_31 (N : Nat) (a0 : List UInt8) (x12 : Int) (x13 : List UInt8) (x14 : Int) (x15 : Bool) (x16 : Bool) (x17 : NS (BitVec 8)) (x18 : Int) (x19 : Int) (x22 : Nat) (x23 : Int) (x24 : Int) (x47 : Bool) : Option ((Int × List UInt8 × Int × Bool × Bool × NS (BitVec 8) × Int × Int × Nat) ⊕ (BitVec 8 × Bool × List UInt8 × Int × Int × Int)) := bif x47 then some (.inl ((9, ([110, 97, 110] : List UInt8), 1, x15, x16, x17, x18, x19, x22))) else bif (x12 == 9) && (decide (x14 < (x13.length : Int))) then bif (decide (0 ≤ (x14 : Int)) && decide ((x14 : Int) < (x13.length : Int))) then F311_32 N a0 x12 x13 x14 x15 x16 x17 x18 x19 x22 x23 x24 ((w32 ((BitVec.ofInt 32 x24 ||| BitVec.ofInt 32 32).toNat : Int)) == (w32 (((x13.getD ((x14 : Int)).toNat 0).toBitVec).toNat : Int))) else none else F311_32 N a0 x12 x13 x14 x15 x16 x17 x18 x19 x22 x23 x24 false
def F311_30 (N : Nat) (a0 : List UInt8) (x12 : Int) (x13 : List UInt8) (x14 : Int) (x15 : Bool) (x16 : Bool) (x17 : NS (BitVec 8)) (x18 : Int) (x19 : Int) (x22 : Nat) (x23 : Int) (x24 : Int) (x46 : Bool) : Option ((Int × List UInt8 × Int × Bool × Bool × NS (BitVec 8) × Int × Int × Nat) ⊕ (BitVec 8 × Bool × List UInt8 × Int × Int × Int)) := bif x46 then some (.inl ((9, ([105, 110, 102, 105, 110, 105, 116, 121] : List UInt8), 1, x15, x16, x17, x18, x19, x22))) else F311_31 N a0 x12 x13 x14 x15 x16 x17 x18 x19 x22 x23 x24 ((decide (x12 ≤ 1)) && ((w32 ((BitVec.ofInt 32 x24 ||| BitVec.ofInt 32 32).toNat : Int)) == 110))
def F311_29 (N : Nat) (a0 : List UInt8) (x12 : Int) (x13 : List UInt8) (x14 : Int) (x15 : Bool) (x16 : Bool) (x17 : NS (BitVec 8)) (x18 : Int) (x19 : Int) (x22 : Nat) (x23 : Int) (x24 : Int) (x45 : Bool) : Option ((Int × List UInt8 × Int × Bool × Bool × NS (BitVec 8) × Int × Int × Nat) ⊕ (BitVec 8 × Bool × List UInt8 × Int × Int × Int)) := bif x45 then some (.inl (4, x13, x14, x15, x16, x17, x18, x19, x22)) else F311_30 N a0 x12 x13 x14 x15 x16 x17 x18 x19 x22 x23 x24 ((decide (x12 ≤ 1)) && ((w32 ((BitVec.ofInt 32 x24 ||| BitVec.ofInt 32 32).toNat : Int)) == 105))
def F311_28 (N : Nat) (a0 : List UInt8) (x12 : Int) (x13 : List UInt8) (x14 : Int) (x15 : Bool) (x16 : Bool) (x17 : NS (BitVec 8)) (x18 : Int) (x19 : Int) (x22 : Nat) (x23 : Int) (x24 : Int) (x44 : Bool) : Option ((Int × List UInt8 × Int × Bool × Bool × NS (BitVec 8) × Int × Int × Nat) ⊕ (BitVec 8 × Bool × List UInt8 × Int × Int × Int)) := bif x44 then some (.inl (3, x13, x14, x15, x16, x17, x18, x19, x22)) else F311_29 N a0 x12 x13 x14 x15 x16 x17 x18 x19 x22 x23 x24 ((decide (x12 ≤ 1)) && (x24 == 46))
def F311_26 (N : Nat) (a0 : List UInt8) (x12 : Int) (x13 : List UInt8) (x14 : Int) (x15 : Bool) (x16 : Bool) (x17 : NS (BitVec 8)) (x18 : Int) (x19 : Int) (x22 : Nat) (x23 : Int) (x24 : Int) (x42 : Bool) : Option ((Int × List UInt8 × Int × Bool × Bool × NS (BitVec 8) × Int × Int × Nat) ⊕ (BitVec 8 × Bool × List UInt8 × Int × Int × Int)) := bif x42 then F311_27 N a0 x13 x14 x15 x17 x18 x19 x22 (x24 == 45) else F311_28 N a0 x12 x13 x14 x15 x16 x17 x18 x19 x22 x23 x24 ((x12 == 2) && (x24 == 46))
def F311_24 (N : Nat) (a0 : List UInt8) (x12 : Int) (x13 : List UInt8) (x14 : Int) (x15 : Bool) (x16 : Bool) (x17 : NS (BitVec 8)) (x18 : Int) (x19 : Int) (x22 : Nat) (x23 : Int) (x24 : Int) (x40 : Bool) : Option ((Int × List UInt8 × Int × Bool × Bool × NS (BitVec 8) × Int × Int × Nat) ⊕ (BitVec 8 × Bool × List UInt8 × Int × Int × Int)) := bif x40 then F311_25 N a0 x13 x14 x16 x17 x18 x19 x22 (x24 == 45) else F311_26 N a0 x12 x13 x14 x15 x16 x17 x18 x19 x22 x23 x24 ((x12 == 6) && ((x24 == 43) || (x24 == 45)))
def F311_9 (N : Nat) (a0 : List UInt8) (x12 : Int) (x13 : List UInt8) (x14 : Int) (x15 : Bool) (x16 : Bool) (x17 : NS (BitVec 8)) (x18 : Int) (x19 : Int) (x22 : Nat) (x23 : Int) (x24 : Int) (x25 : Bool) : Option ((Int × List UInt8 × Int × Bool × Bool × NS (BitVec 8) × Int × Int × Nat) ⊕ (BitVec 8 × Bool × List UInt8 × Int × Int × Int)) := bif x25 then F311_22 N a0 x12 x13 x14 x15 x16 x17 x18 x19 x22 x23 x24 (x12 == 6) else F311_24 N a0 x12 x13 x14 x15 x16 x17 x18 x19 x22 x23 x24 ((x12 == 0) && ((x24 == 43) || (x24 == 45)))
def F311_7 (N : Nat) (a0 : List UInt8) (x12 : Int) (x13 : List UInt8) (x14 : Int) (x15 : Bool) (x16 : Bool) (x17 : NS (BitVec 8)) (x18 : Int) (x19 : Int) (x22 : Nat) (x23 : Int) (x24 : Int) : Option ((Int × List UInt8 × Int × Bool × Bool × NS (BitVec 8) × Int × Int × Nat) ⊕ (BitVec 8 × Bool × List UInt8 × Int × Int × Int)) := F311_9 N a0 x12 x13 x14 x15 x16 x17 x18 x19 x22 x23 x24 ((decide (48 ≤ x24)) && (decide (x24 ≤ 57)))
def F311_6 (N : Nat) (a0 : List UInt8) (x12 : Int) (x13 : List UInt8) (x14 : Int) (x15 : Bool) (x16 : Bool) (x17 : NS (BitVec 8)) (x18 : Int) (x19 : Int) (x20 : Nat) (x21 : Bool) (x22 : Nat) : Option ((Int × List UInt8 × Int × Bool × Bool × NS (BitVec 8) × Int × Int × Nat) ⊕ (BitVec 8 × Bool × List UInt8 × Int × Int × Int)) := bif x21 then bif Nat.blt x20 a0.length then bif Nat.blt x20 a0.length then F311_7 N a0 x12 x13 x14 x15 x16 x17 x18 x19 x22 (x20 : Int) (runeAt a0 x20) else none else none else (F311_4 N a0 x12 x13 x14 x15 x16 x17 x18 x19).map Sum.inr
def F311_L5b (N : Nat) (a0 : List UInt8) (x12 : Int) (x13 : List UInt8) (x14 : Int) (x15 : Bool) (x16 : Bool) (x17 : NS (BitVec 8)) (x18 : Int) (x19 : Int) (x20 : Nat) : Option ((Int × List UInt8 × Int × Bool × Bool × NS (BitVec 8) × Int × Int × Nat) ⊕ (BitVec 8 × Bool × List UInt8 × Int × Int × Int)) := F311_6 N a0 x12 x13 x14 x15 x16 x17 x18 x19 x20 (Nat.blt x20 a0.length) (nxt a0 x20)
def F311_L5 (N : Nat) (a0 : List UInt8) : (Int × List UInt8 × Int × Bool × Bool × NS (BitVec 8) × Int × Int × Nat) → Option ((Int × List UInt8 × Int × Bool × Bool × NS (BitVec 8) × Int × Int × Nat) ⊕ (BitVec 8 × Bool × List UInt8 × Int × Int × Int)) := fun v => F311_L5b N a0 v.1 v.2.1 v.2.2.1 v.2.2.2.1 v.2.2.2.2.1 v.2.2.2.2.2.1 v.2.2.2.2.2.2.1 v.2.2.2.2.2.2.2.1 v.2.2.2.2.2.2.2.2
def F311_3 (N : Nat) (a0 : List UInt8) (x3 : NS (BitVec 8)) : Option (BitVec 8 × Bool × List UInt8 × Int × Int × Int) := iterL (F311_L5 N a0) N ((0, ([] : List UInt8), 0, false, false, x3, 0, 0, 0))
def F311_2 (N : Nat) (a0 : List UInt8) (x2 : Nat → BitVec 8) : Option (BitVec 8 × Bool × List UInt8 × Int × Int × Int) := bif (decide (0 ≤ (0 : Int)) && (decide ((0 : Int) ≤ (0 : Int)) && decide ((0 : Int) ≤ (40 : Int)))) then F311_3 N a0 (false, 0, x2) else none
def F311_1 (N : Nat) (a0 : List UInt8) (x1 : Bool) : Option (BitVec 8 × Bool × List UInt8 × Int × Int × Int) := bif x1 then some ((4#8, false, ([] : List UInt8), 0, 0, 0)) else F311_2 N a0 (fun _ => 0#8)
def F311 (N : Nat) (a0 : List UInt8) : Option (BitVec 8 × Bool × List UInt8 × Int × Int × Int) := F311_1 N a0 (decide ((a0.length : Int) > 1024))
theorem C311 (N : Nat) (a0 : List UInt8) (r : BitVec 8 × Bool × List UInt8 × Int × Int × Int) (hr : some r = F311 N a0) : Aw.Fn Hfaa.prog 311 [is (Sv a0)] (agg [is (U8 r.1), is (Bl r.2.1), is (Sv r.2.2.1), is (I16 r.2.2.2.1), is (I64 r.2.2.2.2.1), is (I32 r.2.2.2.2.2)]) := by
  refine fn_intro Hfaa.func311 rfl rfl rfl ?_
  intro bn0 w0 H0
  refine AW_seq1 ?_
  refine AW_region ?_
  refine AL_cons (zl297 rfl) (sS sT0 sB0 (sF1 rfl)) ?_
  refine AL_nil ?_
  refine thenN ?_
  refine AW_scope ?_
  refine AW_seq1 ?_
  refine AW_cut (σ := Bool) (fun v => ⟨[(0, .inl (is (Sv a0))), (2, .inr (.inl (2, 0))), (12, .inl (is (Bl v)))], [(2, pb 297 [is (U8 (0#8)), is (Bl false), is (Sv ([] : List UInt8)), is (I16 0), is (I64 0), is (I32 0)])]⟩) (fun v => some r = F311_1 N a0 v) ?_ ?_
  · skip
    refine AW_region ?_
    refine AL_cons (LR_move (at_tmp 0 _) rfl) (sS (sT1 rfl) sB0 sF0) ?_
    refine AL_cons (LR_bi1 (at_tmp 10 _) (len_S Hfaa.underlying9 a0) rfl) (sS (sT1 rfl) sB0 sF0) ?_
    refine AL_cons (LR_bin (at_tmp 11 _) (at_c (v' := I64 1024) rfl) (gtr_I64 (a0.length : Int) 1024) rfl) (sS (sA (sT1 rfl) sT0) sB0 sF0) ?_
    refine AL_nil ?_
    exact thenN (cutLeaf (v := decide ((a0.length : Int) > 1024)) hr (weak0 ((sT rfl (sT rfl (sT rfl sT0)))) (sub_keep sub_nil)))
  · rintro x1 hr
    show AW Hfaa.prog _ _ _ ⟨[(0, .inl (is (Sv a0))), (2, .inr (.inl (2, 0))), (12, .inl (is (Bl x1)))], [(2, pb 297 [is (U8 (0#8)), is (Bl false), is (Sv ([] : List UInt8)), is (I16 0), is (I64 0), is (I32 0)])]⟩
    have hr : some r = F311_1 N a0 x1 := hr
    refine AW_condT (b := x1) rfl (fun h => ?_) (fun h => ?_)
    · have hr := hr.trans (cond_t h)
      clear h
      refine AW_seq1 ?_
      refine AW_region ?_
      refine AL_cons (bl297 (parts_cons (i := 0) (off := 0) (at_c (v' := U8 (4#8)) rfl) (cells_one (one_is rfl)) rfl rfl parts_nil) rfl rfl) (sS (sA sT0 sT0) sB0 sF0) ?_
      refine AL_cons (LR_store (at_tmp 2 _) (at_tmp 13 _) (cells_agg _) (onC (one_is rfl) (onC (one_is rfl) (onC (one_is rfl) (onC (one_is rfl) (onC (one_is rfl) (onC (one_is rfl) onN)))))) sz297 rfl rfl) (sS (sA (sT1 rfl) (sT1 rfl)) (sB1 rfl) sF0) ?_
      refine AL_nil ?_
      refine thenN ?_
      refine AW_ret ?_
      refine thenR ?_
      refine scR ?_
      obtain rfl := Option.some.inj hr
      exact res1 rfl (rvC rfl rfl ag297 sz297 rfl)
    · have hr := hr.trans (cond_f h)
      clear h
      refine AW_skip ?_
      refine thenN ?_
      refine AW_cut (σ := (Nat → BitVec 8)) (fun v => ⟨[(0, .inl (is (Sv a0))), (2, .inr (.inl (2, 0))), (3, .inr (.inl (3, 0)))], [(2, pb 297 [is (U8 (0#8)), is (Bl false), is (Sv ([] : List UInt8)), is (I16 0), is (I64 0), is (I32 0)]), (3, pb 353 (ar U8 40 v ++ []))]⟩) (fun v => some r = F311_2 N a0 v) ?_ ?_
      · skip
        refine AW_region ?_
        refine AL_cons (zl353 rfl) (sS sT0 sB0 (sF1 rfl)) ?_
        refine AL_nil ?_
        exact thenN (cutLeaf (v := fun _ => 0#8) hr (weak0 ((sT rfl (sT rfl (sT rfl sT0)))) (sub_keep (sub_keep sub_nil))))
      · rintro x2 hr
        show AW Hfaa.prog _ _ _ ⟨[(0, .inl (is (Sv a0))), (2, .inr (.inl (2, 0))), (3, .inr (.inl (3, 0)))], [(2, pb 297 [is (U8 (0#8)), is (Bl false), is (Sv ([] : List UInt8)), is (I16 0), is (I64 0), is (I32 0)]), (3, pb 353 (ar U8 40 x2 ++ []))]⟩
        have hr : some r = F311_2 N a0 x2 := hr
        refine AW_cut (σ := NS (BitVec 8)) (fun v => ⟨[(0, .inl (is (Sv a0))), (2, .inr (.inl (2, 0))), (4, .inr (.inl (4, 0)))], [(2, pb 297 [is (U8 (0#8)), is (Bl false), is (Sv ([] : List UInt8)), is (I16 0), is (I64 0), is (I32 0)]), (4, gc 355 ([is (Bl false), is (Bl false)]) ([is (I64 0), is (I64 0)]) (k1 U8) 1 v)]⟩) (fun v => some r = F311_3 N a0 v) ?_ ?_
        · skip
          refine AW_region ?_
          obtain ⟨hg314, hr⟩ := guard_some hr
          refine AL_cons (slcE (o' := 0) (l' := 0) (c' := 40) (LR_sliceA (i := (0 : Int)) (j := (0 : Int)) Hfaa.underlying353 sz5 (at_tmp 3 _) lo_none (hi_some (at_c (v' := I64 0) rfl)) (dand3 hg314) (by decide) rfl) (by first | rfl | (simp; done) | (simp <;> omega))) (sS (sA (sT1 rfl) (sA sT0 sT0)) sB0 sF0) ?_
          refine AL_slcRow 3 14 [(0, .inl (is (Sv a0))), (2, .inr (.inl (2, 0)))] rfl rfl rfl ((sT rfl (sT rfl sT0))) ?_
          intro sv10 hsv10
          refine AL_cons (bl355 (parts_cons (i := 2) (off := 2) (at_tmp 14 _) (cells_one (one_is hsv10)) rfl rfl parts_nil) rfl rfl) (sS (sA (sT1 rfl) sT0) sB0 sF0) ?_
          refine AL_cons (zl355 rfl) (sS sT0 sB0 (sF1 rfl)) ?_
          refine AL_cons (LR_store (at_tmp 4 _) (at_tmp 15 _) (cells_agg _) (onC (one_is rfl) (onC (one_is rfl) (onC (one_is hsv10) (onC (one_is rfl) (onC (one_is rfl) onN))))) sz355 rfl rfl) (sS (sA (sT1 rfl) (sT1 rfl)) (sB1 rfl) sF0) ?_
          refine AL_imp (imp_close (k := 4) (r := 3) ([is (Bl false), is (Bl false)]) ([is (I64 0), is (I64 0)]) rfl (by first | rfl | simp) rfl rfl rfl rfl) ?_
          refine AL_nil ?_
          exact thenN (cutLeaf (v := (false, 0, x2)) hr (weak0 ((sT rfl (sT rfl (sT rfl sT0)))) (sub_keep (sub_drop (sub_keep sub_nil)))))
        · rintro x3 hr
          show AW Hfaa.prog _ _ _ ⟨[(0, .inl (is (Sv a0))), (2, .inr (.inl (2, 0))), (4, .inr (.inl (4, 0)))], [(2, pb 297 [is (U8 (0#8)), is (Bl false), is (Sv ([] : List UInt8)), is (I16 0), is (I64 0), is (I32 0)]), (4, gc 355 ([is (Bl false), is (Bl false)]) ([is (I64 0), is (I64 0)]) (k1 U8) 1 x3)]⟩
          have hr : some r = F311_3 N a0 x3 := hr
          refine AW_seq1 ?_
          refine AW_region ?_
          refine AL_cons (LR_assign (at_c (v' := I64 0) rfl) rfl) (sS sT0 sB0 sF0) ?_
          refine AL_cons (LR_assign (at_c (v' := Sv ([] : List UInt8)) rfl) rfl) (sS sT0 sB0 sF0) ?_
          refine AL_cons (LR_assign (at_c (v' := I64 0) rfl) rfl) (sS sT0 sB0 sF0) ?_
          refine AL_nil ?_
          refine thenN ?_
          refine AW_seq1 ?_
          refine AW_label ?_
          refine thenN ?_
          refine AW_cut (σ := Int × List UInt8 × Int × Bool × Bool × NS (BitVec 8) × Int × Int) (fun v => ⟨[(0, .inl (is (Sv a0))), (2, .inr (.inl (2, 0))), (4, .inr (.inl (4, 0))), (5, .inl (is (I64 v.1))), (6, .inl (is (Sv v.2.1))), (7, .inl (is (I64 v.2.2.1)))], [(2, pb 297 [is (U8 (0#8)), is (Bl false), is (Sv ([] : List UInt8)), is (I16 0), is (I64 0), is (I32 0)]), (4, gc 355 ([is (Bl v.2.2.2.1), is (Bl v.2.2.2.2.1)]) ([is (I64 v.2.2.2.2.2.2.1), is (I64 v.2.2.2.2.2.2.2)]) (k1 U8) 1 v.2.2.2.2.2.1)]⟩) (fun v => some r = F311_4 N a0 v.1 v.2.1 v.2.2.1 v.2.2.2.1 v.2.2.2.2.1 v.2.2.2.2.2.1 v.2.2.2.2.2.2.1 v.2.2.2.2.2.2.2) ?_ ?_
          · skip
            refine AW_seq1 ?_
            refine AW_region ?_
            refine AL_cons (LR_move (at_tmp 0 _) rfl) (sS (sT1 rfl) sB0 sF0) ?_
            refine AL_cons (LR_range Hfaa.underlying9 (at_tmp 16 _) rfl) (sS (sT1 rfl) sB0 (sF1 rfl)) ?_
            refine AL_nil ?_
            refine thenN ?_
            refine AW_block ?_
            refine AW_iterR (σ := Int × List UInt8 × Int × Bool × Bool × NS (BitVec 8) × Int × Int × Nat) (r := r) (x0 := (0, ([] : List UInt8), 0, false, false, x3, 0, 0, 0)) (emb := fun v => ⟨[(0, .inl (is (Sv a0))), (2, .inr (.inl (2, 0))), (4, .inr (.inl (4, 0))), (5, .inl (is (I64 v.1))), (6, .inl (is (Sv v.2.1))), (7, .inl (is (I64 v.2.2.1))), (17, .inr (.inl (17, 0)))], [(2, pb 297 [is (U8 (0#8)), is (Bl false), is (Sv ([] : List UInt8)), is (I16 0), is (I64 0), is (I32 0)]), (4, gc 355 ([is (Bl v.2.2.2.1), is (Bl v.2.2.2.2.1)]) ([is (I64 v.2.2.2.2.2.2.1), is (I64 v.2.2.2.2.2.2.2.1)]) (k1 U8) 1 v.2.2.2.2.2.1), (17, itc a0 v.2.2.2.2.2.2.2.2)]⟩) ?_ hr ?_
            · exact weak0 ((sT rfl (sT rfl (sT rfl (sT rfl (sT rfl (sT rfl (sT rfl sT0)))))))) (sub_keep (sub_keep (sub_keep sub_nil)))
            rintro ⟨x12, x13, x14, x15, x16, x17, x18, x19, x20⟩ out2 hr
            show AW Hfaa.prog _ _ _ ⟨[(0, .inl (is (Sv a0))), (2, .inr (.inl (2, 0))), (4, .inr (.inl (4, 0))), (5, .inl (is (I64 x12))), (6, .inl (is (Sv x13))), (7, .inl (is (I64 x14))), (17, .inr (.inl (17, 0)))], [(2, pb 297 [is (U8 (0#8)), is (Bl false), is (Sv ([] : List UInt8)), is (I16 0), is (I64 0), is (I32 0)]), (4, gc 355 ([is (Bl x15), is (Bl x16)]) ([is (I64 x18), is (I64 x19)]) (k1 U8) 1 x17), (17, itc a0 x20)]⟩
            have hr : some out2 = F311_L5b N a0 x12 x13 x14 x15 x16 x17 x18 x19 x20 := hr
            refine AW_cut (σ := Bool × Nat) (fun v => ⟨[(0, .inl (is (Sv a0))), (2, .inr (.inl (2, 0))), (4, .inr (.inl (4, 0))), (5, .inl (is (I64 x12))), (6, .inl (is (Sv x13))), (7, .inl (is (I64 x14))), (17, .inr (.inl (17, 0))), (18, .inl (nx a0 x20)), (19, .inl (is (Bl v.1)))], [(2, pb 297 [is (U8 (0#8)), is (Bl false), is (Sv ([] : List UInt8)), is (I16 0), is (I64 0), is (I32 0)]), (4, gc 355 ([is (Bl x15), is (Bl x16)]) ([is (I64 x18), is (I64 x19)]) (k1 U8) 1 x17), (17, itc a0 v.2)]⟩) (fun v => some out2 = F311_6 N a0 x12 x13 x14 x15 x16 x17 x18 x19 x20 v.1 v.2) ?_ ?_
            · skip
              refine AW_region ?_
              refine AL_cons (LR_next (at_tmp 17 _) rfl) (sS (sT1 rfl) (sB1 rfl) sF0) ?_
              refine AL_cons (LR_nx0 (at_tmp 18 _) rfl) (sS (sT1 rfl) sB0 sF0) ?_
              refine AL_nil ?_
              exact thenN (cutLeaf (v := (Nat.blt x20 a0.length, nxt a0 x20)) hr (weak0 ((sT rfl (sT rfl (sT rfl (sT rfl (sT rfl (sT rfl (sT rfl (sT rfl (sT rfl sT0)))))))))) (sub_keep (sub_keep (sub_keep sub_nil)))))
            · rintro ⟨x21, x22⟩ hr
              show AW Hfaa.prog _ _ _ ⟨[(0, .inl (is (Sv a0))), (2, .inr (.inl (2, 0))), (4, .inr (.inl (4, 0))), (5, .inl (is (I64 x12))), (6, .inl (is (Sv x13))), (7, .inl (is (I64 x14))), (17, .inr (.inl (17, 0))), (18, .inl (nx a0 x20)), (19, .inl (is (Bl x21)))], [(2, pb 297 [is (U8 (0#8)), is (Bl false), is (Sv ([] : List UInt8)), is (I16 0), is (I64 0), is (I32 0)]), (4, gc 355 ([is (Bl x15), is (Bl x16)]) ([is (I64 x18), is (I64 x19)]) (k1 U8) 1 x17), (17, itc a0 x22)]⟩
              have hr : some out2 = F311_6 N a0 x12 x13 x14 x15 x16 x17 x18 x19 x20 x21 x22 := hr
              refine AW_seq1 ?_
              refine AW_condT (b := x21) rfl (fun h => ?_) (fun h => ?_)
              · have hr := hr.trans (cond_t h)
                clear h
                refine AW_skip ?_
                refine thenN ?_
                refine AW_block ?_
                refine AW_cut (σ := Int × Int) (fun v => ⟨[(0, .inl (is (Sv a0))), (2, .inr (.inl (2, 0))), (4, .inr (.inl (4, 0))), (5, .inl (is (I64 x12))), (6, .inl (is (Sv x13))), (7, .inl (is (I64 x14))), (17, .inr (.inl (17, 0))), (8, .inl (is (I64 v.1))), (9, .inl (is (I32 v.2)))], [(2, pb 297 [is (U8 (0#8)), is (Bl false), is (Sv ([] : List UInt8)), is (I16 0), is (I64 0), is (I32 0)]), (4, gc 355 ([is (Bl x15), is (Bl x16)]) ([is (I64 x18), is (I64 x19)]) (k1 U8) 1 x17), (17, itc a0 x22)]⟩) (fun v => some out2 = F311_7 N a0 x12 x13 x14 x15 x16 x17 x18 x19 x22 v.1 v.2) ?_ ?_
                · skip
                  refine AW_region ?_
                  obtain ⟨hg312, hr⟩ := guard_some hr
                  refine AL_cons (LR_nx1 (at_tmp 18 _) hg312 rfl) (sS (sT1 rfl) sB0 sF0) ?_
                  obtain ⟨hg313, hr⟩ := guard_some hr
                  refine AL_cons (LR_nx2 (at_tmp 18 _) hg313 rfl) (sS (sT1 rfl) sB0 sF0) ?_
                  refine AL_cons (LR_assign (at_tmp 20 _) rfl) (sS (sT1 rfl) sB0 sF0) ?_
                  refine AL_cons (LR_assign (at_tmp 21 _) rfl) (sS (sT1 rfl) sB0 sF0) ?_
                  refine AL_nil ?_
                  exact thenN (cutLeaf (v := ((x20 : Int), runeAt a0 x20)) hr (weak0 ((sT rfl (sT rfl (sT rfl (sT rfl (sT rfl (sT rfl (sT rfl (sT rfl (sT rfl sT0)))))))))) (sub_keep (sub_keep (sub_keep sub_nil)))))
                · rintro ⟨x23, x24⟩ hr
                  show AW Hfaa.prog _ _ _ ⟨[(0, .inl (is (Sv a0))), (2, .inr (.inl (2, 0))), (4, .inr (.inl (4, 0))), (5, .inl (is (I64 x12))), (6, .inl (is (Sv x13))), (7, .inl (is (I64 x14))), (17, .inr (.inl (17, 0))), (8, .inl (is (I64 x23))), (9, .inl (is (I32 x24)))], [(2, pb 297 [is (U8 (0#8)), is (Bl false), is (Sv ([] : List UInt8)), is (I16 0), is (I64 0), is (I32 0)]), (4, gc 355 ([is (Bl x15), is (Bl x16)]) ([is (I64 x18), is (I64 x19)]) (k1 U8) 1 x17), (17, itc a0 x22)]⟩
                  have hr : some out2 = F311_7 N a0 x12 x13 x14 x15 x16 x17 x18 x19 x22 x23 x24 := hr
                  refine AW_cut (σ := Unit) (fun _ => ⟨[(2, .inr (.inl (2, 0))), (8, .inl (is (I64 x23))), (9, .inl (is (I32 x24)))], [(2, pb 297 [is (U8 (0#8)), is (Bl false), is (Sv ([] : List UInt8)), is (I16 0), is (I64 0), is (I32 0)])]⟩) (fun _ => some out2 = F311_8 N x23 x24) ?_ ?_
                  · skip
                    refine AW_block ?_
                    refine AW_cut (σ := Bool) (fun v => ⟨[(0, .inl (is (Sv a0))), (2, .inr (.inl (2, 0))), (4, .inr (.inl (4, 0))), (5, .inl (is (I64 x12))), (6, .inl (is (Sv x13))), (7, .inl (is (I64 x14))), (17, .inr (.inl (17, 0))), (8, .inl (is (I64 x23))), (9, .inl (is (I32 x24))), (22, .inl (is (Bl v)))], [(2, pb 297 [is (U8 (0#8)), is (Bl false), is (Sv ([] : List UInt8)), is (I16 0), is (I64 0), is (I32 0)]), (4, gc 355 ([is (Bl x15), is (Bl x16)]) ([is (I64 x18), is (I64 x19)]) (k1 U8) 1 x17), (17, itc a0 x22)]⟩) (fun v => some out2 = F311_9 N a0 x12 x13 x14 x15 x16 x17 x18 x19 x22 x23 x24 v) ?_ ?_
                    · skip
                      refine AW_region ?_
                      refine AL_cons (LR_move (at_tmp 9 _) rfl) (sS (sT1 rfl) sB0 sF0) ?_
                      refine AL_cons (LR_bin (at_c (v' := I32 48) rfl) (at_tmp 23 _) (leq_I32 48 x24) rfl) (sS (sA sT0 (sT1 rfl)) sB0 sF0) ?_
                      refine AL_cons (LR_move (at_tmp 24 _) rfl) (sS (sT1 rfl) sB0 sF0) ?_
                      refine AL_cutAt 3 ⟨[(0, .inl (is (Sv a0))), (2, .inr (.inl (2, 0))), (4, .inr (.inl (4, 0))), (5, .inl (is (I64 x12))), (6, .inl (is (Sv x13))), (7, .inl (is (I64 x14))), (17, .inr (.inl (17, 0))), (8, .inl (is (I64 x23))), (9, .inl (is (I32 x24))), (23, .inl (is (I32 x24))), (24, .inl (is (Bl (decide (48 ≤ x24))))), (25, .inl (is (Bl (decide (48 ≤ x24))))), (28, .inl (is (Bl ((decide (48 ≤ x24)) && (decide (x24 ≤ 57))))))], [(2, pb 297 [is (U8 (0#8)), is (Bl false), is (Sv ([] : List UInt8)), is (I16 0), is (I64 0), is (I32 0)]), (4, gc 355 ([is (Bl x15), is (Bl x16)]) ([is (I64 x18), is (I64 x19)]) (k1 U8) 1 x17), (17, itc a0 x22)]⟩ ?_ ?_
                      · cases hb : decide (48 ≤ x24)
                        · skip
                          refine AL_cons (LR_off (b := false) rfl rfl rfl rfl) (sS (sT1 rfl) sB0 sF0) ?_
                          refine AL_cons (LR_off (b := false) rfl rfl rfl rfl) (sS (sT1 rfl) sB0 sF0) ?_
                          refine AL_cons (LR_pick (b := false) (at_tmp 25 _) (at_tmp 27 _) (at_c (v' := Bl false) rfl) rfl) (sS (sA (sT1 rfl) (sA (sT1 rfl) sT0)) sB0 sF0) ?_
                          exact AL_nil ⟨rfl, weak0 ((sT rfl (sT rfl (sT rfl (sT rfl (sT rfl (sT rfl (sT rfl (sT rfl (sT rfl (sT rfl (sT rfl (sT rfl (sT rfl sT0)))))))))))))) (sub_keep (sub_keep (sub_keep sub_nil)))⟩
                        · skip
                          refine AL_cons (LR_on rfl rfl rfl (LR_move (at_tmp 9 _) rfl)) (sS (sT rfl (sT1 rfl)) sB0 sF0) ?_
                          refine AL_cons (LR_on rfl rfl rfl (LR_bin (at_tmp 26 _) (at_c (v' := I32 57) rfl) (leq_I32 x24 57) rfl)) (sS (sT rfl (sA (sT1 rfl) sT0)) sB0 sF0) ?_
                          refine AL_cons (LR_pick (b := true) (at_tmp 25 _) (at_tmp 27 _) (at_c (v' := Bl false) rfl) rfl) (sS (sA (sT1 rfl) (sA (sT1 rfl) sT0)) sB0 sF0) ?_
                          exact AL_nil ⟨rfl, weak0 ((sT rfl (sT rfl (sT rfl (sT rfl (sT rfl (sT rfl (sT rfl (sT rfl (sT rfl (sT rfl (sT rfl (sT rfl (sT rfl sT0)))))))))))))) (sub_keep (sub_keep (sub_keep sub_nil)))⟩
                      refine AL_cons (LR_assign (at_tmp 28 _) rfl) (sS (sT1 rfl) sB0 sF0) ?_
                      refine AL_nil ?_
                      exact thenN (cutLeaf (v := (decide (48 ≤ x24)) && (decide (x24 ≤ 57))) hr (weak0 ((sT rfl (sT rfl (sT rfl (sT rfl (sT rfl (sT rfl (sT rfl (sT rfl (sT rfl (sT rfl sT0))))))))))) (sub_keep (sub_keep (sub_keep sub_nil)))))
                    · rintro x25 hr
                      show AW Hfaa.prog _ _ _ ⟨[(0, .inl (is (Sv a0))), (2, .inr (.inl (2, 0))), (4, .inr (.inl (4, 0))), (5, .inl (is (I64 x12))), (6, .inl (is (Sv x13))), (7, .inl (is (I64 x14))), (17, .inr (.inl (17, 0))), (8, .inl (is (I64 x23))), (9, .inl (is (I32 x24))), (22, .inl (is (Bl x25)))], [(2, pb 297 [is (U8 (0#8)), is (Bl false), is (Sv ([] : List UInt8)), is (I16 0), is (I64 0), is (I32 0)]), (4, gc 355 ([is (Bl x15), is (Bl x16)]) ([is (I64 x18), is (I64 x19)]) (k1 U8) 1 x17), (17, itc a0 x22)]⟩
                      have hr : some out2 = F311_9 N a0 x12 x13 x14 x15 x16 x17 x18 x19 x22 x23 x24 x25 := hr
                      refine AW_condT (b := x25) rfl (fun h => ?_) (fun h => ?_)
                      · have hr := hr.trans (cond_t h)
                        clear h
                        refine AW_seq1 ?_
                        refine AW_region ?_
                        refine AL_cons (LR_move (at_tmp 5 _) rfl) (sS (sT1 rfl) sB0 sF0) ?_
                        refine AL_nil ?_
                        refine thenN ?_
                        refine AW_block ?_
                        refine AW_cut (σ := Int) (fun v => ⟨[(0, .inl (is (Sv a0))), (2, .inr (.inl (2, 0))), (4, .inr (.inl (4, 0))), (5, .inl (is (I64 v))), (6, .inl (is (Sv x13))), (7, .inl (is (I64 x14))), (17, .inr (.inl (17, 0))), (9, .inl (is (I32 x24)))], [(2, pb 297 [is (U8 (0#8)), is (Bl false), is (Sv ([] : List UInt8)), is (I16 0), is (I64 0), is (I32 0)]), (4, gc 355 ([is (Bl x15), is (Bl x16)]) ([is (I64 x18), is (I64 x19)]) (k1 U8) 1 x17), (17, itc a0 x22)]⟩) (fun v => some out2 = F311_10 N a0 x13 x14 x15 x16 x17 x18 x19 x22 x24 v) ?_ ?_
                        · skip
                          refine AW_block ?_
                          refine AW_seq1 ?_
                          refine AW_block ?_
                          refine AW_seq1 ?_
                          refine AW_block ?_
                          refine AW_seq1 ?_
                          refine AW_block ?_
                          refine AW_seq1 ?_
                          refine AW_seq1 ?_
                          refine AW_cut (σ := Bool) (fun v => ⟨[(0, .inl (is (Sv a0))), (2, .inr (.inl (2, 0))), (4, .inr (.inl (4, 0))), (5, .inl (is (I64 x12))), (6, .inl (is (Sv x13))), (7, .inl (is (I64 x14))), (17, .inr (.inl (17, 0))), (8, .inl (is (I64 x23))), (9, .inl (is (I32 x24))), (29, .inl (is (I64 x12))), (30, .inl (is (Bl v)))], [(2, pb 297 [is (U8 (0#8)), is (Bl false), is (Sv ([] : List UInt8)), is (I16 0), is (I64 0), is (I32 0)]), (4, gc 355 ([is (Bl x15), is (Bl x16)]) ([is (I64 x18), is (I64 x19)]) (k1 U8) 1 x17), (17, itc a0 x22)]⟩) (fun v => some out2 = F311_12 N a0 x12 x13 x14 x15 x16 x17 x18 x19 x22 x23 x24 v) ?_ ?_
                          · skip
                            refine AW_cut (σ := Bool) (fun v => ⟨[(0, .inl (is (Sv a0))), (2, .inr (.inl (2, 0))), (4, .inr (.inl (4, 0))), (5, .inl (is (I64 x12))), (6, .inl (is (Sv x13))), (7, .inl (is (I64 x14))), (17, .inr (.inl (17, 0))), (8, .inl (is (I64 x23))), (9, .inl (is (I32 x24))), (29, .inl (is (I64 x12))), (30, .inl (is (Bl v)))], [(2, pb 297 [is (U8 (0#8)), is (Bl false), is (Sv ([] : List UInt8)), is (I16 0), is (I64 0), is (I32 0)]), (4, gc 355 ([is (Bl x15), is (Bl x16)]) ([is (I64 x18), is (I64 x19)]) (k1 U8) 1 x17), (17, itc a0 x22)]⟩) (fun v => some out2 = F311_22 N a0 x12 x13 x14 x15 x16 x17 x18 x19 x22 x23 x24 v) ?_ ?_
                            · skip
                              refine AW_region ?_
                              refine AL_cons (LR_bin (at_tmp 29 _) (at_c (v' := I64 6) rfl) (eql_I64 x12 6) rfl) (sS (sA (sT1 rfl) sT0) sB0 sF0) ?_
                              refine AL_cons (LR_assign (at_tmp 31 _) rfl) (sS (sT1 rfl) sB0 sF0) ?_
                              refine AL_nil ?_
                              exact thenN (cutLeaf (v := x12 == 6) hr (weak0 ((sT rfl (sT rfl (sT rfl (sT rfl (sT rfl (sT rfl (sT rfl (sT rfl (sT rfl (sT rfl (sT rfl sT0)))))))))))) (sub_keep (sub_keep (sub_keep sub_nil)))))
                            · rintro x38 hr
                              show AW Hfaa.prog _ _ _ ⟨[(0, .inl (is (Sv a0))), (2, .inr (.inl (2, 0))), (4, .inr (.inl (4, 0))), (5, .inl (is (I64 x12))), (6, .inl (is (Sv x13))), (7, .inl (is (I64 x14))), (17, .inr (.inl (17, 0))), (8, .inl (is (I64 x23))), (9, .inl (is (I32 x24))), (29, .inl (is (I64 x12))), (30, .inl (is (Bl x38)))], [(2, pb 297 [is (U8 (0#8)), is (Bl false), is (Sv ([] : List UInt8)), is (I16 0), is (I64 0), is (I32 0)]), (4, gc 355 ([is (Bl x15), is (Bl x16)]) ([is (I64 x18), is (I64 x19)]) (k1 U8) 1 x17), (17, itc a0 x22)]⟩
                              have hr : some out2 = F311_22 N a0 x12 x13 x14 x15 x16 x17 x18 x19 x22 x23 x24 x38 := hr
                              refine AW_condT (b := x38) rfl (fun h => ?_) (fun h => ?_)
                              · have hr := hr.trans (cond_t h)
                                clear h
                                refine AW_skip ?_
                                exact thenN (cutLeaf (v := x38) hr (weak0 ((sT rfl (sT rfl (sT rfl (sT rfl (sT rfl (sT rfl (sT rfl (sT rfl (sT rfl (sT rfl (sT rfl sT0)))))))))))) (sub_keep (sub_keep (sub_keep sub_nil)))))
                              · have hr := hr.trans (cond_f h)
                                clear h
                                refine AW_cut (σ := Bool) (fun v => ⟨[(0, .inl (is (Sv a0))), (2, .inr (.inl (2, 0))), (4, .inr (.inl (4, 0))), (5, .inl (is (I64 x12))), (6, .inl (is (Sv x13))), (7, .inl (is (I64 x14))), (17, .inr (.inl (17, 0))), (8, .inl (is (I64 x23))), (9, .inl (is (I32 x24))), (29, .inl (is (I64 x12))), (30, .inl (is (Bl v)))], [(2, pb 297 [is (U8 (0#8)), is (Bl false), is (Sv ([] : List UInt8)), is (I16 0), is (I64 0), is (I32 0)]), (4, gc 355 ([is (Bl x15), is (Bl x16)]) ([is (I64 x18), is (I64 x19)]) (k1 U8) 1 x17), (17, itc a0 x22)]⟩) (fun v => some out2 = F311_23 N a0 x12 x13 x14 x15 x16 x17 x18 x19 x22 x23 x24 v) ?_ ?_
                                · skip
                                  refine AW_region ?_
                                  refine AL_cons (LR_bin (at_tmp 29 _) (at_c (v' := I64 7) rfl) (eql_I64 x12 7) rfl) (sS (sA (sT1 rfl) sT0) sB0 sF0) ?_
                                  refine AL_cons (LR_assign (at_tmp 32 _) rfl) (sS (sT1 rfl) sB0 sF0) ?_
                                  refine AL_nil ?_
                                  exact thenN (cutLeaf (v := x12 == 7) hr (weak0 ((sT rfl (sT rfl (sT rfl (sT rfl (sT rfl (sT rfl (sT rfl (sT rfl (sT rfl (sT rfl (sT rfl sT0)))))))))))) (sub_keep (sub_keep (sub_keep sub_nil)))))
                                · rintro x39 hr
                                  show AW Hfaa.prog _ _ _ ⟨[(0, .inl (is (Sv a0))), (2, .inr (.inl (2, 0))), (4, .inr (.inl (4, 0))), (5, .inl (is (I64 x12))), (6, .inl (is (Sv x13))), (7, .inl (is (I64 x14))), (17, .inr (.inl (17, 0))), (8, .inl (is (I64 x23))), (9, .inl (is (I32 x24))), (29, .inl (is (I64 x12))), (30, .inl (is (Bl x39)))], [(2, pb 297 [is (U8 (0#8)), is (Bl false), is (Sv ([] : List UInt8)), is (I16 0), is (I64 0), is (I32 0)]), (4, gc 355 ([is (Bl x15), is (Bl x16)]) ([is (I64 x18), is (I64 x19)]) (k1 U8) 1 x17), (17, itc a0 x22)]⟩
                                  have hr : some out2 = F311_23 N a0 x12 x13 x14 x15 x16 x17 x18 x19 x22 x23 x24 x39 := hr
                                  refine AW_condT (b := x39) rfl (fun h => ?_) (fun h => ?_)
                                  · have hr := hr.trans (cond_t h)
                                    clear h
                                    refine AW_skip ?_
                                    exact thenN (cutLeaf (v := x39) hr (weak0 ((sT rfl (sT rfl (sT rfl (sT rfl (sT rfl (sT rfl (sT rfl (sT rfl (sT rfl (sT rfl (sT rfl sT0)))))))))))) (sub_keep (sub_keep (sub_keep sub_nil)))))
                                  · have hr := hr.trans (cond_f h)
                                    clear h
                                    refine AW_region ?_
                                    refine AL_cons (LR_bin (at_tmp 29 _) (at_c (v' := I64 8) rfl) (eql_I64 x12 8) rfl) (sS (sA (sT1 rfl) sT0) sB0 sF0) ?_
                                    refine AL_cons (LR_assign (at_tmp 33 _) rfl) (sS (sT1 rfl) sB0 sF0) ?_
                                    refine AL_nil ?_
                                    exact thenN (cutLeaf (v := x12 == 8) hr (weak0 ((sT rfl (sT rfl (sT rfl (sT rfl (sT rfl (sT rfl (sT rfl (sT rfl (sT rfl (sT rfl (sT rfl sT0)))))))))))) (sub_keep (sub_keep (sub_keep sub_nil)))))
                          · rintro x28 hr
                            show AW Hfaa.prog _ _ _ ⟨[(0, .inl (is (Sv a0))), (2, .inr (.inl (2, 0))), (4, .inr (.inl (4, 0))), (5, .inl (is (I64 x12))), (6, .inl (is (Sv x13))), (7, .inl (is (I64 x14))), (17, .inr (.inl (17, 0))), (8, .inl (is (I64 x23))), (9, .inl (is (I32 x24))), (29, .inl (is (I64 x12))), (30, .inl (is (Bl x28)))], [(2, pb 297 [is (U8 (0#8)), is (Bl false), is (Sv ([] : List UInt8)), is (I16 0), is (I64 0), is (I32 0)]), (4, gc 355 ([is (Bl x15), is (Bl x16)]) ([is (I64 x18), is (I64 x19)]) (k1 U8) 1 x17), (17, itc a0 x22)]⟩
                            have hr : some out2 = F311_12 N a0 x12 x13 x14 x15 x16 x17 x18 x19 x22 x23 x24 x28 := hr
                            refine AW_condT (b := x28) rfl (fun h => ?_) (fun h => ?_)
                            · have hr := hr.trans (cond_t h)
                              clear h
                              refine AW_exit ?_
                              refine thenX ?_
                              refine thenX ?_
                              refine blH ?_
                              refine thenN ?_
                              refine AW_seq1 ?_
                              refine AW_cut (σ := Int) (fun v => ⟨[(0, .inl (is (Sv a0))), (2, .inr (.inl (2, 0))), (4, .inr (.inl (4, 0))), (6, .inl (is (Sv x13))), (7, .inl (is (I64 x14))), (17, .inr (.inl (17, 0)))], [(2, pb 297 [is (U8 (0#8)), is (Bl false), is (Sv ([] : List UInt8)), is (I16 0), is (I64 0), is (I32 0)]), (4, gc 355 ([is (Bl x15), is (Bl x16)]) ([is (I64 x18), is (I64 v)]) (k1 U8) 1 x17), (17, itc a0 x22)]⟩) (fun v => some out2 = F311_13 N a0 x13 x14 x15 x16 x17 x18 x22 v) ?_ ?_
                              · skip
                                refine AW_region ?_
                                refine AL_cons (LR_fieldAddr (off := 0) (o := 4) (at_tmp 4 _) (fun b w => fa355_4 b 0 w) rfl) (sS (sT1 rfl) sB0 sF0) ?_
                                refine AL_opn 4 1003 (fun sv => [is (Bl x15), is (Bl x16), is ( sv), is (I64 x18), is (I64 x19)]) rfl rfl (fun _ => by first | rfl | simp) ?_
                                intro sv4 hsv4
                                refine AL_cons (LR_load (at_tmp 43 _) na3 rfl rfl) (sS (sT1 rfl) (sB1 rfl) sF0) ?_
                                refine AL_cons (LR_bin (at_c (v' := I64 10) rfl) (at_tmp 44 _) (mul_I64 10 x19) rfl) (sS (sA sT0 (sT1 rfl)) sB0 sF0) ?_
                                refine AL_cons (LR_move (at_tmp 9 _) rfl) (sS (sT1 rfl) sB0 sF0) ?_
                                refine AL_cons (LR_bin (at_tmp 46 _) (at_c (v' := I32 48) rfl) (sub_I32 x24 48) rfl) (sS (sA (sT1 rfl) sT0) sB0 sF0) ?_
                                refine AL_cons (LR_conv (vx := I32 (w32 (x24 - 48))) (at_tmp 47 _) (conv_I64 Hfaa.underlying21 Hfaa.underlying3 (w32 (x24 - 48))) rfl) (sS (sT1 rfl) sB0 sF0) ?_
                                refine AL_cons (LR_bin (at_tmp 45 _) (at_tmp 48 _) (add_I64 (w64 (10 * x19)) (w64 (w32 (x24 - 48)))) rfl) (sS (sA (sT1 rfl) (sT1 rfl)) sB0 sF0) ?_
                                refine AL_cons (LR_bi2 (vx := I64 (w64 ((w64 (10 * x19)) + (w64 (w32 (x24 - 48)))))) (vy := I64 1000000) (v := I64 (min (w64 ((w64 (10 * x19)) + (w64 (w32 (x24 - 48))))) 1000000)) (at_tmp 49 _) (at_c (v' := I64 1000000) rfl) (fun cs w => min_I .i64 (w64 ((w64 (10 * x19)) + (w64 (w32 (x24 - 48))))) 1000000 cs w) rfl) (sS (sA (sT1 rfl) sT0) sB0 sF0) ?_
                                refine AL_cons (LR_fieldAddr (off := 0) (o := 4) (at_tmp 4 _) (fun b w => fa355_4 b 0 w) rfl) (sS (sT1 rfl) sB0 sF0) ?_
                                refine AL_cons (LR_store (at_tmp 51 _) (at_tmp 50 _) (cells_one (one_is rfl)) (onC (one_is rfl) onN) sz3 rfl rfl) (sS (sA (sT1 rfl) (sT1 rfl)) (sB1 rfl) sF0) ?_
                                refine AL_imp (imp_close (k := 4) (r := 1003) ([is (Bl x15), is (Bl x16)]) ([is (I64 x18), is (I64 (min (w64 ((w64 (10 * x19)) + (w64 (w32 (x24 - 48))))) 1000000))]) rfl (by first | rfl | simp) rfl rfl rfl rfl) ?_
                                refine AL_nil ?_
                                exact thenN (cutLeaf (v := min (w64 ((w64 (10 * x19)) + (w64 (w32 (x24 - 48))))) 1000000) hr (weak0 ((sT rfl (sT rfl (sT rfl (sT rfl (sT rfl (sT rfl sT0))))))) (sub_keep (sub_keep (sub_keep (sub_drop sub_nil))))))
                              · rintro x29 hr
                                show AW Hfaa.prog _ _ _ ⟨[(0, .inl (is (Sv a0))), (2, .inr (.inl (2, 0))), (4, .inr (.inl (4, 0))), (6, .inl (is (Sv x13))), (7, .inl (is (I64 x14))), (17, .inr (.inl (17, 0)))], [(2, pb 297 [is (U8 (0#8)), is (Bl false), is (Sv ([] : List UInt8)), is (I16 0), is (I64 0), is (I32 0)]), (4, gc 355 ([is (Bl x15), is (Bl x16)]) ([is (I64 x18), is (I64 x29)]) (k1 U8) 1 x17), (17, itc a0 x22)]⟩
                                have hr : some out2 = F311_13 N a0 x13 x14 x15 x16 x17 x18 x22 x29 := hr
                                refine AW_seq1 ?_
                                refine AW_region ?_
                                refine AL_cons (LR_assign (at_c (v' := I64 8) rfl) rfl) (sS sT0 sB0 sF0) ?_
                                refine AL_nil ?_
                                refine thenN ?_
                                refine AW_exit ?_
                                refine thenX ?_
                                refine blO (by decide) ?_
                                refine thenX ?_
                                refine blO (by decide) ?_
                                refine thenX ?_
                                refine blO (by decide) ?_
                                refine thenX ?_
                                refine blO (by decide) ?_
                                refine blO (by decide) ?_
                                refine thenX ?_
                                refine blH ?_
                                exact thenN (loopNext (x' := (8, x13, x14, x15, x16, x17, x18, x29, x22)) hr (weak0 ((sT rfl (sT rfl (sT rfl (sT rfl (sT rfl (sT rfl (sT rfl sT0)))))))) (sub_keep (sub_keep (sub_keep sub_nil)))))
                            · have hr := hr.trans (cond_f h)
                              clear h
                              refine AW_skip ?_
                              refine thenN ?_
                              refine AW_seq1 ?_
                              refine AW_cut (σ := Bool) (fun v => ⟨[(0, .inl (is (Sv a0))), (2, .inr (.inl (2, 0))), (4, .inr (.inl (4, 0))), (5, .inl (is (I64 x12))), (6, .inl (is (Sv x13))), (7, .inl (is (I64 x14))), (17, .inr (.inl (17, 0))), (8, .inl (is (I64 x23))), (9, .inl (is (I32 x24))), (29, .inl (is (I64 x12))), (34, .inl (is (Bl v)))], [(2, pb 297 [is (U8 (0#8)), is (Bl false), is (Sv ([] : List UInt8)), is (I16 0), is (I64 0), is (I32 0)]), (4, gc 355 ([is (Bl x15), is (Bl x16)]) ([is (I64 x18), is (I64 x19)]) (k1 U8) 1 x17), (17, itc a0 x22)]⟩) (fun v => some out2 = F311_14 N a0 x12 x13 x14 x15 x16 x17 x18 x19 x22 x23 x24 v) ?_ ?_
                              · skip
                                refine AW_cut (σ := Bool) (fun v => ⟨[(0, .inl (is (Sv a0))), (2, .inr (.inl (2, 0))), (4, .inr (.inl (4, 0))), (5, .inl (is (I64 x12))), (6, .inl (is (Sv x13))), (7, .inl (is (I64 x14))), (17, .inr (.inl (17, 0))), (8, .inl (is (I64 x23))), (9, .inl (is (I32 x24))), (29, .inl (is (I64 x12))), (34, .inl (is (Bl v)))], [(2, pb 297 [is (U8 (0#8)), is (Bl false), is (Sv ([] : List UInt8)), is (I16 0), is (I64 0), is (I32 0)]), (4, gc 355 ([is (Bl x15), is (Bl x16)]) ([is (I64 x18), is (I64 x19)]) (k1 U8) 1 x17), (17, itc a0 x22)]⟩) (fun v => some out2 = F311_20 N a0 x12 x13 x14 x15 x16 x17 x18 x19 x22 x23 x24 v) ?_ ?_
                                · skip
                                  refine AW_region ?_
                                  refine AL_cons (LR_bin (at_tmp 29 _) (at_c (v' := I64 3) rfl) (eql_I64 x12 3) rfl) (sS (sA (sT1 rfl) sT0) sB0 sF0) ?_
                                  refine AL_cons (LR_assign (at_tmp 35 _) rfl) (sS (sT1 rfl) sB0 sF0) ?_
                                  refine AL_nil ?_
                                  exact thenN (cutLeaf (v := x12 == 3) hr (weak0 ((sT rfl (sT rfl (sT rfl (sT rfl (sT rfl (sT rfl (sT rfl (sT rfl (sT rfl (sT rfl (sT rfl sT0)))))))))))) (sub_keep (sub_keep (sub_keep sub_nil)))))
                                · rintro x36 hr
                                  show AW Hfaa.prog _ _ _ ⟨[(0, .inl (is (Sv a0))), (2, .inr (.inl (2, 0))), (4, .inr (.inl (4, 0))), (5, .inl (is (I64 x12))), (6, .inl (is (Sv x13))), (7, .inl (is (I64 x14))), (17, .inr (.inl (17, 0))), (8, .inl (is (I64 x23))), (9, .inl (is (I32 x24))), (29, .inl (is (I64 x12))), (34, .inl (is (Bl x36)))], [(2, pb 297 [is (U8 (0#8)), is (Bl false), is (Sv ([] : List UInt8)), is (I16 0), is (I64 0), is (I32 0)]), (4, gc 355 ([is (Bl x15), is (Bl x16)]) ([is (I64 x18), is (I64 x19)]) (k1 U8) 1 x17), (17, itc a0 x22)]⟩
                                  have hr : some out2 = F311_20 N a0 x12 x13 x14 x15 x16 x17 x18 x19 x22 x23 x24 x36 := hr
                                  refine AW_condT (b := x36) rfl (fun h => ?_) (fun h => ?_)
                                  · have hr := hr.trans (cond_t h)
                                    clear h
                                    refine AW_skip ?_
                                    exact thenN (cutLeaf (v := x36) hr (weak0 ((sT rfl (sT rfl (sT rfl (sT rfl (sT rfl (sT rfl (sT rfl (sT rfl (sT rfl (sT rfl (sT rfl sT0)))))))))))) (sub_keep (sub_keep (sub_keep sub_nil)))))
                                  · have hr := hr.trans (cond_f h)
                                    clear h
                                    refine AW_cut (σ := Bool) (fun v => ⟨[(0, .inl (is (Sv a0))), (2, .inr (.inl (2, 0))), (4, .inr (.inl (4, 0))), (5, .inl (is (I64 x12))), (6, .inl (is (Sv x13))), (7, .inl (is (I64 x14))), (17, .inr (.inl (17, 0))), (8, .inl (is (I64 x23))), (9, .inl (is (I32 x24))), (29, .inl (is (I64 x12))), (34, .inl (is (Bl v)))], [(2, pb 297 [is (U8 (0#8)), is (Bl false), is (Sv ([] : List UInt8)), is (I16 0), is (I64 0), is (I32 0)]), (4, gc 355 ([is (Bl x15), is (Bl x16)]) ([is (I64 x18), is (I64 x19)]) (k1 U8) 1 x17), (17, itc a0 x22)]⟩) (fun v => some out2 = F311_21 N a0 x12 x13 x14 x15 x16 x17 x18 x19 x22 x23 x24 v) ?_ ?_
                                    · skip
                                      refine AW_region ?_
                                      refine AL_cons (LR_bin (at_tmp 29 _) (at_c (v' := I64 4) rfl) (eql_I64 x12 4) rfl) (sS (sA (sT1 rfl) sT0) sB0 sF0) ?_
                                      refine AL_cons (LR_assign (at_tmp 36 _) rfl) (sS (sT1 rfl) sB0 sF0) ?_
                                      refine AL_nil ?_
                                      exact thenN (cutLeaf (v := x12 == 4) hr (weak0 ((sT rfl (sT rfl (sT rfl (sT rfl (sT rfl (sT rfl (sT rfl (sT rfl (sT rfl (sT rfl (sT rfl sT0)))))))))))) (sub_keep (sub_keep (sub_keep sub_nil)))))
                                    · rintro x37 hr
                                      show AW Hfaa.prog _ _ _ ⟨[(0, .inl (is (Sv a0))), (2, .inr (.inl (2, 0))), (4, .inr (.inl (4, 0))), (5, .inl (is (I64 x12))), (6, .inl (is (Sv x13))), (7, .inl (is (I64 x14))), (17, .inr (.inl (17, 0))), (8, .inl (is (I64 x23))), (9, .inl (is (I32 x24))), (29, .inl (is (I64 x12))), (34, .inl (is (Bl x37)))], [(2, pb 297 [is (U8 (0#8)), is (Bl false), is (Sv ([] : List UInt8)), is (I16 0), is (I64 0), is (I32 0)]), (4, gc 355 ([is (Bl x15), is (Bl x16)]) ([is (I64 x18), is (I64 x19)]) (k1 U8) 1 x17), (17, itc a0 x22)]⟩
                                      have hr : some out2 = F311_21 N a0 x12 x13 x14 x15 x16 x17 x18 x19 x22 x23 x24 x37 := hr
                                      refine AW_condT (b := x37) rfl (fun h => ?_) (fun h => ?_)
                                      · have hr := hr.trans (cond_t h)
                                        clear h
                                        refine AW_skip ?_
                                        exact thenN (cutLeaf (v := x37) hr (weak0 ((sT rfl (sT rfl (sT rfl (sT rfl (sT rfl (sT rfl (sT rfl (sT rfl (sT rfl (sT rfl (sT rfl sT0)))))))))))) (sub_keep (sub_keep (sub_keep sub_nil)))))
                                      · have hr := hr.trans (cond_f h)
                                        clear h
                                        refine AW_region ?_
                                        refine AL_cons (LR_bin (at_tmp 29 _) (at_c (v' := I64 5) rfl) (eql_I64 x12 5) rfl) (sS (sA (sT1 rfl) sT0) sB0 sF0) ?_
                                        refine AL_cons (LR_assign (at_tmp 37 _) rfl) (sS (sT1 rfl) sB0 sF0) ?_
                                        refine AL_nil ?_
                                        exact thenN (cutLeaf (v := x12 == 5) hr (weak0 ((sT rfl (sT rfl (sT rfl (sT rfl (sT rfl (sT rfl (sT rfl (sT rfl (sT rfl (sT rfl (sT rfl sT0)))))))))))) (sub_keep (sub_keep (sub_keep sub_nil)))))
                              · rintro x30 hr
                                show AW Hfaa.prog _ _ _ ⟨[(0, .inl (is (Sv a0))), (2, .inr (.inl (2, 0))), (4, .inr (.inl (4, 0))), (5, .inl (is (I64 x12))), (6, .inl (is (Sv x13))), (7, .inl (is (I64 x14))), (17, .inr (.inl (17, 0))), (8, .inl (is (I64 x23))), (9, .inl (is (I32 x24))), (29, .inl (is (I64 x12))), (34, .inl (is (Bl x30)))], [(2, pb 297 [is (U8 (0#8)), is (Bl false), is (Sv ([] : List UInt8)), is (I16 0), is (I64 0), is (I32 0)]), (4, gc 355 ([is (Bl x15), is (Bl x16)]) ([is (I64 x18), is (I64 x19)]) (k1 U8) 1 x17), (17, itc a0 x22)]⟩
                                have hr : some out2 = F311_14 N a0 x12 x13 x14 x15 x16 x17 x18 x19 x22 x23 x24 x30 := hr
                                refine AW_condT (b := x30) rfl (fun h => ?_) (fun h => ?_)
                                · have hr := hr.trans (cond_t h)
                                  clear h
                                  refine AW_exit ?_
                                  refine thenX ?_
                                  refine thenX ?_
                                  refine blO (by decide) ?_
                                  refine thenX ?_
                                  refine blH ?_
                                  refine thenN ?_
                                  refine AW_seq1 ?_
                                  refine AW_cut (σ := Int) (fun v => ⟨[(0, .inl (is (Sv a0))), (2, .inr (.inl (2, 0))), (4, .inr (.inl (4, 0))), (6, .inl (is (Sv x13))), (7, .inl (is (I64 x14))), (17, .inr (.inl (17, 0))), (9, .inl (is (I32 x24)))], [(2, pb 297 [is (U8 (0#8)), is (Bl false), is (Sv ([] : List UInt8)), is (I16 0), is (I64 0), is (I32 0)]), (4, gc 355 ([is (Bl x15), is (Bl x16)]) ([is (I64 v), is (I64 x19)]) (k1 U8) 1 x17), (17, itc a0 x22)]⟩) (fun v => some out2 = F311_15 N a0 x13 x14 x15 x16 x17 x19 x22 x24 v) ?_ ?_
                                  · skip
                                    refine AW_region ?_
                                    refine AL_cons (LR_fieldAddr (off := 0) (o := 3) (at_tmp 4 _) (fun b w => fa355_3 b 0 w) rfl) (sS (sT1 rfl) sB0 sF0) ?_
                                    refine AL_opn 4 1005 (fun sv => [is (Bl x15), is (Bl x16), is ( sv), is (I64 x18), is (I64 x19)]) rfl rfl (fun _ => by first | rfl | simp) ?_
                                    intro sv7 hsv7
                                    refine AL_cons (LR_load (at_tmp 52 _) na3 rfl rfl) (sS (sT1 rfl) (sB1 rfl) sF0) ?_
                                    refine AL_cons (LR_bin (at_tmp 53 _) (at_c (v' := I64 1) rfl) (add_I64 x18 1) rfl) (sS (sA (sT1 rfl) sT0) sB0 sF0) ?_
                                    refine AL_cons (LR_fieldAddr (off := 0) (o := 3) (at_tmp 4 _) (fun b w => fa355_3 b 0 w) rfl) (sS (sT1 rfl) sB0 sF0) ?_
                                    refine AL_cons (LR_store (at_tmp 55 _) (at_tmp 54 _) (cells_one (one_is rfl)) (onC (one_is rfl) onN) sz3 rfl rfl) (sS (sA (sT1 rfl) (sT1 rfl)) (sB1 rfl) sF0) ?_
                                    refine AL_imp (imp_close (k := 4) (r := 1005) ([is (Bl x15), is (Bl x16)]) ([is (I64 (w64 (x18 + 1))), is (I64 x19)]) rfl (by first | rfl | simp) rfl rfl rfl rfl) ?_
                                    refine AL_nil ?_
                                    exact thenN (cutLeaf (v := w64 (x18 + 1)) hr (weak0 ((sT rfl (sT rfl (sT rfl (sT rfl (sT rfl (sT rfl (sT rfl sT0)))))))) (sub_keep (sub_keep (sub_keep (sub_drop sub_nil))))))
                                  · rintro x31 hr
                                    show AW Hfaa.prog _ _ _ ⟨[(0, .inl (is (Sv a0))), (2, .inr (.inl (2, 0))), (4, .inr (.inl (4, 0))), (6, .inl (is (Sv x13))), (7, .inl (is (I64 x14))), (17, .inr (.inl (17, 0))), (9, .inl (is (I32 x24)))], [(2, pb 297 [is (U8 (0#8)), is (Bl false), is (Sv ([] : List UInt8)), is (I16 0), is (I64 0), is (I32 0)]), (4, gc 355 ([is (Bl x15), is (Bl x16)]) ([is (I64 x31), is (I64 x19)]) (k1 U8) 1 x17), (17, itc a0 x22)]⟩
                                    have hr : some out2 = F311_15 N a0 x13 x14 x15 x16 x17 x19 x22 x24 x31 := hr
                                    refine AW_seq1 ?_
                                    refine AW_region ?_
                                    refine AL_cons (LR_assign (at_c (v' := I64 5) rfl) rfl) (sS sT0 sB0 sF0) ?_
                                    refine AL_nil ?_
                                    refine thenN ?_
                                    refine AW_cut (σ := NS (BitVec 8)) (fun v => ⟨[(0, .inl (is (Sv a0))), (2, .inr (.inl (2, 0))), (4, .inr (.inl (4, 0))), (6, .inl (is (Sv x13))), (7, .inl (is (I64 x14))), (17, .inr (.inl (17, 0))), (5, .inl (is (I64 5)))], [(2, pb 297 [is (U8 (0#8)), is (Bl false), is (Sv ([] : List UInt8)), is (I16 0), is (I64 0), is (I32 0)]), (4, gc 355 ([is (Bl x15), is (Bl x16)]) ([is (I64 x31), is (I64 x19)]) (k1 U8) 1 v), (17, itc a0 x22)]⟩) (fun v => some out2 = F311_16 N a0 x13 x14 x15 x16 x19 x22 x31 v) ?_ ?_
                                    · skip
                                      refine AW_region ?_
                                      refine AL_cons (LR_fieldAddr (off := 0) (o := 2) (at_tmp 4 _) (fun b w => fa355_2 b 0 w) rfl) (sS (sT1 rfl) sB0 sF0) ?_
                                      refine AL_opn 4 1004 (fun sv => [is (Bl x15), is (Bl x16), is ( sv), is (I64 x31), is (I64 x19)]) rfl rfl (fun _ => by first | rfl | simp) ?_
                                      intro sv5 hsv5
                                      refine AL_cons (LR_load (at_tmp 56 _) na227 rfl rfl) (sS (sT1 rfl) (sB1 rfl) sF0) ?_
                                      refine AL_cons (LR_move (at_tmp 9 _) rfl) (sS (sT1 rfl) sB0 sF0) ?_
                                      refine AL_cons (LR_conv (vx := I32 x24) (at_tmp 58 _) (conv_U8 Hfaa.underlying21 Hfaa.underlying5 x24) rfl) (sS (sT1 rfl) sB0 sF0) ?_
                                      refine AL_cons (LR_bs1 Hfaa.underlying227 el5 (fun _ => rfl) (at_tmp 59 _) rfl) (sS (sT1 rfl) sB0 sF0) ?_
                                      obtain ⟨hg307, hr⟩ := guard_some hr
                                      refine AL_consV (app_opk (K := (k1 U8)) (r := 1004) (z := x17) (u := BitVec.ofInt 8 x24) Hfaa.underlying227 eN5 k1_len (k1_cell fun _ => rfl) (at_tmp 57 _) (at_tmp 60 _) (oneAt_k1 rfl) (of_decide_eq_true hg307) rfl rfl) (sS (sA (sT1 rfl) (sT1 rfl)) (sB1 rfl) sF0) rfl ?_
                                      intro sv6 hsv6
                                      refine AL_cons (LR_fieldAddr (off := 0) (o := 2) (at_tmp 4 _) (fun b w => fa355_2 b 0 w) rfl) (sS (sT1 rfl) sB0 sF0) ?_
                                      refine AL_cons (LR_store (at_tmp 62 _) (at_tmp 61 _) (cells_one (one_is hsv6)) (onC (one_is hsv6) onN) sz227 rfl rfl) (sS (sA (sT1 rfl) (sT1 rfl)) (sB1 rfl) sF0) ?_
                                      refine AL_imp (imp_close (k := 4) (r := 1004) ([is (Bl x15), is (Bl x16)]) ([is (I64 x31), is (I64 x19)]) rfl (by first | rfl | simp) rfl rfl rfl rfl) ?_
                                      refine AL_nil ?_
                                      exact thenN (cutLeaf (v := app x17 (BitVec.ofInt 8 x24)) hr (weak0 ((sT rfl (sT rfl (sT rfl (sT rfl (sT rfl (sT rfl (sT rfl sT0)))))))) (sub_keep (sub_keep (sub_keep (sub_drop sub_nil))))))
                                    · rintro x32 hr
                                      show AW Hfaa.prog _ _ _ ⟨[(0, .inl (is (Sv a0))), (2, .inr (.inl (2, 0))), (4, .inr (.inl (4, 0))), (6, .inl (is (Sv x13))), (7, .inl (is (I64 x14))), (17, .inr (.inl (17, 0))), (5, .inl (is (I64 5)))], [(2, pb 297 [is (U8 (0#8)), is (Bl false), is (Sv ([] : List UInt8)), is (I16 0), is (I64 0), is (I32 0)]), (4, gc 355 ([is (Bl x15), is (Bl x16)]) ([is (I64 x31), is (I64 x19)]) (k1 U8) 1 x32), (17, itc a0 x22)]⟩
                                      have hr : some out2 = F311_16 N a0 x13 x14 x15 x16 x19 x22 x31 x32 := hr
                                      refine AW_exit ?_
                                      refine thenX ?_
                                      refine blO (by decide) ?_
                                      refine thenX ?_
                                      refine blO (by decide) ?_
                                      refine thenX ?_
                                      refine blO (by decide) ?_
                                      refine blO (by decide) ?_
                                      refine thenX ?_
                                      refine blH ?_
                                      exact thenN (loopNext (x' := (5, x13, x14, x15, x16, x32, x31, x19, x22)) hr (weak0 ((sT rfl (sT rfl (sT rfl (sT rfl (sT rfl (sT rfl (sT rfl sT0)))))))) (sub_keep (sub_keep (sub_keep sub_nil)))))
                                · have hr := hr.trans (cond_f h)
                                  clear h
                                  refine AW_skip ?_
                                  refine thenN ?_
                                  refine AW_seq1 ?_
                                  refine AW_cut (σ := Bool) (fun v => ⟨[(0, .inl (is (Sv a0))), (2, .inr (.inl (2, 0))), (4, .inr (.inl (4, 0))), (5, .inl (is (I64 x12))), (6, .inl (is (Sv x13))), (7, .inl (is (I64 x14))), (17, .inr (.inl (17, 0))), (8, .inl (is (I64 x23))), (9, .inl (is (I32 x24))), (29, .inl (is (I64 x12))), (38, .inl (is (Bl v)))], [(2, pb 297 [is (U8 (0#8)), is (Bl false), is (Sv ([] : List UInt8)), is (I16 0), is (I64 0), is (I32 0)]), (4, gc 355 ([is (Bl x15), is (Bl x16)]) ([is (I64 x18), is (I64 x19)]) (k1 U8) 1 x17), (17, itc a0 x22)]⟩) (fun v => some out2 = F311_17 N a0 x12 x13 x14 x15 x16 x17 x18 x19 x22 x23 x24 v) ?_ ?_
                                  · skip
                                    refine AW_cut (σ := Bool) (fun v => ⟨[(0, .inl (is (Sv a0))), (2, .inr (.inl (2, 0))), (4, .inr (.inl (4, 0))), (5, .inl (is (I64 x12))), (6, .inl (is (Sv x13))), (7, .inl (is (I64 x14))), (17, .inr (.inl (17, 0))), (8, .inl (is (I64 x23))), (9, .inl (is (I32 x24))), (29, .inl (is (I64 x12))), (38, .inl (is (Bl v)))], [(2, pb 297 [is (U8 (0#8)), is (Bl false), is (Sv ([] : List UInt8)), is (I16 0), is (I64 0), is (I32 0)]), (4, gc 355 ([is (Bl x15), is (Bl x16)]) ([is (I64 x18), is (I64 x19)]) (k1 U8) 1 x17), (17, itc a0 x22)]⟩) (fun v => some out2 = F311_19 N a0 x12 x13 x14 x15 x16 x17 x18 x19 x22 x23 x24 v) ?_ ?_
                                    · skip
                                      refine AW_region ?_
                                      refine AL_cons (LR_bin (at_tmp 29 _) (at_c (v' := I64 0) rfl) (eql_I64 x12 0) rfl) (sS (sA (sT1 rfl) sT0) sB0 sF0) ?_
                                      refine AL_cons (LR_assign (at_tmp 39 _) rfl) (sS (sT1 rfl) sB0 sF0) ?_
                                      refine AL_nil ?_
                                      exact thenN (cutLeaf (v := x12 == 0) hr (weak0 ((sT rfl (sT rfl (sT rfl (sT rfl (sT rfl (sT rfl (sT rfl (sT rfl (sT rfl (sT rfl (sT rfl sT0)))))))))))) (sub_keep (sub_keep (sub_keep sub_nil)))))
                                    · rintro x35 hr
                                      show AW Hfaa.prog _ _ _ ⟨[(0, .inl (is (Sv a0))), (2, .inr (.inl (2, 0))), (4, .inr (.inl (4, 0))), (5, .inl (is (I64 x12))), (6, .inl (is (Sv x13))), (7, .inl (is (I64 x14))), (17, .inr (.inl (17, 0))), (8, .inl (is (I64 x23))), (9, .inl (is (I32 x24))), (29, .inl (is (I64 x12))), (38, .inl (is (Bl x35)))], [(2, pb 297 [is (U8 (0#8)), is (Bl false), is (Sv ([] : List UInt8)), is (I16 0), is (I64 0), is (I32 0)]), (4, gc 355 ([is (Bl x15), is (Bl x16)]) ([is (I64 x18), is (I64 x19)]) (k1 U8) 1 x17), (17, itc a0 x22)]⟩
                                      have hr : some out2 = F311_19 N a0 x12 x13 x14 x15 x16 x17 x18 x19 x22 x23 x24 x35 := hr
                                      refine AW_condT (b := x35) rfl (fun h => ?_) (fun h => ?_)
                                      · have hr := hr.trans (cond_t h)
                                        clear h
                                        refine AW_skip ?_
                                        exact thenN (cutLeaf (v := x35) hr (weak0 ((sT rfl (sT rfl (sT rfl (sT rfl (sT rfl (sT rfl (sT rfl (sT rfl (sT rfl (sT rfl (sT rfl sT0)))))))))))) (sub_keep (sub_keep (sub_keep sub_nil)))))
                                      · have hr := hr.trans (cond_f h)
                                        clear h
                                        refine AW_region ?_
                                        refine AL_cons (LR_bin (at_tmp 29 _) (at_c (v' := I64 1) rfl) (eql_I64 x12 1) rfl) (sS (sA (sT1 rfl) sT0) sB0 sF0) ?_
                                        refine AL_cons (LR_assign (at_tmp 40 _) rfl) (sS (sT1 rfl) sB0 sF0) ?_
                                        refine AL_nil ?_
                                        exact thenN (cutLeaf (v := x12 == 1) hr (weak0 ((sT rfl (sT rfl (sT rfl (sT rfl (sT rfl (sT rfl (sT rfl (sT rfl (sT rfl (sT rfl (sT rfl sT0)))))))))))) (sub_keep (sub_keep (sub_keep sub_nil)))))
                                  · rintro x33 hr
                                    show AW Hfaa.prog _ _ _ ⟨[(0, .inl (is (Sv a0))), (2, .inr (.inl (2, 0))), (4, .inr (.inl (4, 0))), (5, .inl (is (I64 x12))), (6, .inl (is (Sv x13))), (7, .inl (is (I64 x14))), (17, .inr (.inl (17, 0))), (8, .inl (is (I64 x23))), (9, .inl (is (I32 x24))), (29, .inl (is (I64 x12))), (38, .inl (is (Bl x33)))], [(2, pb 297 [is (U8 (0#8)), is (Bl false), is (Sv ([] : List UInt8)), is (I16 0), is (I64 0), is (I32 0)]), (4, gc 355 ([is (Bl x15), is (Bl x16)]) ([is (I64 x18), is (I64 x19)]) (k1 U8) 1 x17), (17, itc a0 x22)]⟩
                                    have hr : some out2 = F311_17 N a0 x12 x13 x14 x15 x16 x17 x18 x19 x22 x23 x24 x33 := hr
                                    refine AW_condT (b := x33) rfl (fun h => ?_) (fun h => ?_)
                                    · have hr := hr.trans (cond_t h)
                                      clear h
                                      refine AW_exit ?_
                                      refine thenX ?_
                                      refine thenX ?_
                                      refine blO (by decide) ?_
                                      refine thenX ?_
                                      refine blO (by decide) ?_
                                      refine thenX ?_
                                      refine blH ?_
                                      refine thenN ?_
                                      refine AW_region ?_
                                      refine AL_cons (LR_assign (at_c (v' := I64 2) rfl) rfl) (sS sT0 sB0 sF0) ?_
                                      refine AL_nil ?_
                                      refine blN ?_
                                      exact thenN (cutLeaf (v := 2) hr (weak0 ((sT rfl (sT rfl (sT rfl (sT rfl (sT rfl (sT rfl (sT rfl (sT rfl sT0))))))))) (sub_keep (sub_keep (sub_keep sub_nil)))))
                                    · have hr := hr.trans (cond_f h)
                                      clear h
                                      refine AW_skip ?_
                                      refine thenN ?_
                                      refine AW_cut (σ := Bool) (fun v => ⟨[(0, .inl (is (Sv a0))), (2, .inr (.inl (2, 0))), (4, .inr (.inl (4, 0))), (5, .inl (is (I64 x12))), (6, .inl (is (Sv x13))), (7, .inl (is (I64 x14))), (17, .inr (.inl (17, 0))), (8, .inl (is (I64 x23))), (9, .inl (is (I32 x24))), (41, .inl (is (Bl v)))], [(2, pb 297 [is (U8 (0#8)), is (Bl false), is (Sv ([] : List UInt8)), is (I16 0), is (I64 0), is (I32 0)]), (4, gc 355 ([is (Bl x15), is (Bl x16)]) ([is (I64 x18), is (I64 x19)]) (k1 U8) 1 x17), (17, itc a0 x22)]⟩) (fun v => some out2 = F311_18 N a0 x12 x13 x14 x15 x16 x17 x18 x19 x22 x23 x24 v) ?_ ?_
                                      · skip
                                        refine AW_region ?_
                                        refine AL_cons (LR_bin (at_tmp 29 _) (at_c (v' := I64 2) rfl) (eql_I64 x12 2) rfl) (sS (sA (sT1 rfl) sT0) sB0 sF0) ?_
                                        refine AL_cons (LR_assign (at_tmp 42 _) rfl) (sS (sT1 rfl) sB0 sF0) ?_
                                        refine AL_nil ?_
                                        exact thenN (cutLeaf (v := x12 == 2) hr (weak0 ((sT rfl (sT rfl (sT rfl (sT rfl (sT rfl (sT rfl (sT rfl (sT rfl (sT rfl (sT rfl sT0))))))))))) (sub_keep (sub_keep (sub_keep sub_nil)))))
                                      · rintro x34 hr
                                        show AW Hfaa.prog _ _ _ ⟨[(0, .inl (is (Sv a0))), (2, .inr (.inl (2, 0))), (4, .inr (.inl (4, 0))), (5, .inl (is (I64 x12))), (6, .inl (is (Sv x13))), (7, .inl (is (I64 x14))), (17, .inr (.inl (17, 0))), (8, .inl (is (I64 x23))), (9, .inl (is (I32 x24))), (41, .inl (is (Bl x34)))], [(2, pb 297 [is (U8 (0#8)), is (Bl false), is (Sv ([] : List UInt8)), is (I16 0), is (I64 0), is (I32 0)]), (4, gc 355 ([is (Bl x15), is (Bl x16)]) ([is (I64 x18), is (I64 x19)]) (k1 U8) 1 x17), (17, itc a0 x22)]⟩
                                        have hr : some out2 = F311_18 N a0 x12 x13 x14 x15 x16 x17 x18 x19 x22 x23 x24 x34 := hr
                                        refine AW_condT (b := x34) rfl (fun h => ?_) (fun h => ?_)
                                        · have hr := hr.trans (cond_t h)
                                          clear h
                                          refine AW_exit ?_
                                          refine thenX ?_
                                          refine blO (by decide) ?_
                                          refine thenX ?_
                                          refine blO (by decide) ?_
                                          refine thenX ?_
                                          refine blO (by decide) ?_
                                          refine thenX ?_
                                          refine blH ?_
                                          exact thenN (cutLeaf (v := x12) hr (weak0 ((sT rfl (sT rfl (sT rfl (sT rfl (sT rfl (sT rfl (sT rfl (sT rfl sT0))))))))) (sub_keep (sub_keep (sub_keep sub_nil)))))
                                        · have hr := hr.trans (cond_f h)
                                          clear h
                                          refine AW_skip ?_
                                          refine thenN ?_
                                          refine AW_exit ?_
                                          refine blO (by decide) ?_
                                          refine thenX ?_
                                          refine blO (by decide) ?_
                                          refine thenX ?_
                                          refine blO (by decide) ?_
                                          refine thenX ?_
                                          refine blO (by decide) ?_
                                          refine thenX ?_
                                          refine blH ?_
                                          refine blN ?_
                                          exact thenN (cutLeaf (v := ()) hr (weak0 ((sT rfl (sT rfl (sT rfl sT0)))) (sub_keep (sub_drop (sub_drop sub_nil)))))
                        · rintro x26 hr
                          show AW Hfaa.prog _ _ _ ⟨[(0, .inl (is (Sv a0))), (2, .inr (.inl (2, 0))), (4, .inr (.inl (4, 0))), (5, .inl (is (I64 x26))), (6, .inl (is (Sv x13))), (7, .inl (is (I64 x14))), (17, .inr (.inl (17, 0))), (9, .inl (is (I32 x24)))], [(2, pb 297 [is (U8 (0#8)), is (Bl false), is (Sv ([] : List UInt8)), is (I16 0), is (I64 0), is (I32 0)]), (4, gc 355 ([is (Bl x15), is (Bl x16)]) ([is (I64 x18), is (I64 x19)]) (k1 U8) 1 x17), (17, itc a0 x22)]⟩
                          have hr : some out2 = F311_10 N a0 x13 x14 x15 x16 x17 x18 x19 x22 x24 x26 := hr
                          refine AW_seq1 ?_
                          refine AW_cut (σ := NS (BitVec 8)) (fun v => ⟨[(0, .inl (is (Sv a0))), (2, .inr (.inl (2, 0))), (4, .inr (.inl (4, 0))), (5, .inl (is (I64 x26))), (6, .inl (is (Sv x13))), (7, .inl (is (I64 x14))), (17, .inr (.inl (17, 0)))], [(2, pb 297 [is (U8 (0#8)), is (Bl false), is (Sv ([] : List UInt8)), is (I16 0), is (I64 0), is (I32 0)]), (4, gc 355 ([is (Bl x15), is (Bl x16)]) ([is (I64 x18), is (I64 x19)]) (k1 U8) 1 v), (17, itc a0 x22)]⟩) (fun v => some out2 = F311_11 N a0 x13 x14 x15 x16 x18 x19 x22 x26 v) ?_ ?_
                          · skip
                            refine AW_region ?_
                            refine AL_cons (LR_fieldAddr (off := 0) (o := 2) (at_tmp 4 _) (fun b w => fa355_2 b 0 w) rfl) (sS (sT1 rfl) sB0 sF0) ?_
                            refine AL_opn 4 1002 (fun sv => [is (Bl x15), is (Bl x16), is ( sv), is (I64 x18), is (I64 x19)]) rfl rfl (fun _ => by first | rfl | simp) ?_
                            intro sv2 hsv2
                            refine AL_cons (LR_load (at_tmp 63 _) na227 rfl rfl) (sS (sT1 rfl) (sB1 rfl) sF0) ?_
                            refine AL_cons (LR_move (at_tmp 9 _) rfl) (sS (sT1 rfl) sB0 sF0) ?_
                            refine AL_cons (LR_conv (vx := I32 x24) (at_tmp 65 _) (conv_U8 Hfaa.underlying21 Hfaa.underlying5 x24) rfl) (sS (sT1 rfl) sB0 sF0) ?_
                            refine AL_cons (LR_bs1 Hfaa.underlying227 el5 (fun _ => rfl) (at_tmp 66 _) rfl) (sS (sT1 rfl) sB0 sF0) ?_
                            obtain ⟨hg299, hr⟩ := guard_some hr
                            refine AL_consV (app_opk (K := (k1 U8)) (r := 1002) (z := x17) (u := BitVec.ofInt 8 x24) Hfaa.underlying227 eN5 k1_len (k1_cell fun _ => rfl) (at_tmp 64 _) (at_tmp 67 _) (oneAt_k1 rfl) (of_decide_eq_true hg299) rfl rfl) (sS (sA (sT1 rfl) (sT1 rfl)) (sB1 rfl) sF0) rfl ?_
                            intro sv3 hsv3
                            refine AL_cons (LR_fieldAddr (off := 0) (o := 2) (at_tmp 4 _) (fun b w => fa355_2 b 0 w) rfl) (sS (sT1 rfl) sB0 sF0) ?_
                            refine AL_cons (LR_store (at_tmp 69 _) (at_tmp 68 _) (cells_one (one_is hsv3)) (onC (one_is hsv3) onN) sz227 rfl rfl) (sS (sA (sT1 rfl) (sT1 rfl)) (sB1 rfl) sF0) ?_
                            refine AL_imp (imp_close (k := 4) (r := 1002) ([is (Bl x15), is (Bl x16)]) ([is (I64 x18), is (I64 x19)]) rfl (by first | rfl | simp) rfl rfl rfl rfl) ?_
                            refine AL_nil ?_
                            exact thenN (cutLeaf (v := app x17 (BitVec.ofInt 8 x24)) hr (weak0 ((sT rfl (sT rfl (sT rfl (sT rfl (sT rfl (sT rfl (sT rfl sT0)))))))) (sub_keep (sub_keep (sub_keep (sub_drop sub_nil))))))
                          · rintro x27 hr
                            show AW Hfaa.prog _ _ _ ⟨[(0, .inl (is (Sv a0))), (2, .inr (.inl (2, 0))), (4, .inr (.inl (4, 0))), (5, .inl (is (I64 x26))), (6, .inl (is (Sv x13))), (7, .inl (is (I64 x14))), (17, .inr (.inl (17, 0)))], [(2, pb 297 [is (U8 (0#8)), is (Bl false), is (Sv ([] : List UInt8)), is (I16 0), is (I64 0), is (I32 0)]), (4, gc 355 ([is (Bl x15), is (Bl x16)]) ([is (I64 x18), is (I64 x19)]) (k1 U8) 1 x27), (17, itc a0 x22)]⟩
                            have hr : some out2 = F311_11 N a0 x13 x14 x15 x16 x18 x19 x22 x26 x27 := hr
                            refine AW_exit ?_
                            refine thenX ?_
                            refine blO (by decide) ?_
                            refine blO (by decide) ?_
                            refine thenX ?_
                            refine blH ?_
                            exact thenN (loopNext (x' := (x26, x13, x14, x15, x16, x27, x18, x19, x22)) hr (weak0 ((sT rfl (sT rfl (sT rfl (sT rfl (sT rfl (sT rfl (sT rfl sT0)))))))) (sub_keep (sub_keep (sub_keep sub_nil)))))
                      · have hr := hr.trans (cond_f h)
                        clear h
                        refine AW_cut (σ := Bool) (fun v => ⟨[(0, .inl (is (Sv a0))), (2, .inr (.inl (2, 0))), (4, .inr (.inl (4, 0))), (5, .inl (is (I64 x12))), (6, .inl (is (Sv x13))), (7, .inl (is (I64 x14))), (17, .inr (.inl (17, 0))), (8, .inl (is (I64 x23))), (9, .inl (is (I32 x24))), (70, .inl (is (Bl v)))], [(2, pb 297 [is (U8 (0#8)), is (Bl false), is (Sv ([] : List UInt8)), is (I16 0), is (I64 0), is (I32 0)]), (4, gc 355 ([is (Bl x15), is (Bl x16)]) ([is (I64 x18), is (I64 x19)]) (k1 U8) 1 x17), (17, itc a0 x22)]⟩) (fun v => some out2 = F311_24 N a0 x12 x13 x14 x15 x16 x17 x18 x19 x22 x23 x24 v) ?_ ?_
                        · skip
                          refine AW_region ?_
                          refine AL_cons (LR_move (at_tmp 5 _) rfl) (sS (sT1 rfl) sB0 sF0) ?_
                          refine AL_cons (LR_bin (at_tmp 71 _) (at_c (v' := I64 0) rfl) (eql_I64 x12 0) rfl) (sS (sA (sT1 rfl) sT0) sB0 sF0) ?_
                          refine AL_cons (LR_move (at_tmp 72 _) rfl) (sS (sT1 rfl) sB0 sF0) ?_
                          refine AL_cutAt 7 ⟨[(0, .inl (is (Sv a0))), (2, .inr (.inl (2, 0))), (4, .inr (.inl (4, 0))), (5, .inl (is (I64 x12))), (6, .inl (is (Sv x13))), (7, .inl (is (I64 x14))), (17, .inr (.inl (17, 0))), (8, .inl (is (I64 x23))), (9, .inl (is (I32 x24))), (22, .inl (is (Bl x25))), (71, .inl (is (I64 x12))), (72, .inl (is (Bl (x12 == 0)))), (73, .inl (is (Bl (x12 == 0)))), (80, .inl (is (Bl ((x12 == 0) && ((x24 == 43) || (x24 == 45))))))], [(2, pb 297 [is (U8 (0#8)), is (Bl false), is (Sv ([] : List UInt8)), is (I16 0), is (I64 0), is (I32 0)]), (4, gc 355 ([is (Bl x15), is (Bl x16)]) ([is (I64 x18), is (I64 x19)]) (k1 U8) 1 x17), (17, itc a0 x22)]⟩ ?_ ?_
                          · cases hb : x12 == 0
                            · skip
                              refine AL_cons (LR_off (b := false) rfl rfl rfl rfl) (sS (sT1 rfl) sB0 sF0) ?_
                              refine AL_cons (LR_off (b := false) rfl rfl rfl rfl) (sS (sT1 rfl) sB0 sF0) ?_
                              refine AL_cons (LR_off (b := false) rfl rfl rfl rfl) (sS (sT1 rfl) sB0 sF0) ?_
                              refine AL_cons (LR_offU rfl rfl rfl rfl) (sS (sT1 rfl) sB0 sF0) ?_
                              refine AL_cons (LR_offU rfl rfl rfl rfl) (sS (sT1 rfl) sB0 sF0) ?_
                              refine AL_cons (LR_off (b := false) rfl rfl rfl rfl) (sS (sT1 rfl) sB0 sF0) ?_
                              refine AL_cons (LR_pick (b := false) (at_tmp 73 _) (at_tmp 79 _) (at_c (v' := Bl false) rfl) rfl) (sS (sA (sT1 rfl) (sA (sT1 rfl) sT0)) sB0 sF0) ?_
                              exact AL_nil ⟨rfl, weak0 ((sT rfl (sT rfl (sT rfl (sT rfl (sT rfl (sT rfl (sT rfl (sT rfl (sT rfl (sT rfl (sT rfl (sT rfl (sT rfl (sT rfl sT0))))))))))))))) (sub_keep (sub_keep (sub_keep sub_nil)))⟩
                            · skip
                              refine AL_cons (LR_on rfl rfl rfl (LR_move (at_tmp 9 _) rfl)) (sS (sT rfl (sT1 rfl)) sB0 sF0) ?_
                              refine AL_cons (LR_on rfl rfl rfl (LR_bin (at_tmp 74 _) (at_c (v' := I32 43) rfl) (eql_I32 x24 43) rfl)) (sS (sT rfl (sA (sT1 rfl) sT0)) sB0 sF0) ?_
                              refine AL_cons (LR_on rfl rfl rfl (LR_move (at_tmp 75 _) rfl)) (sS (sT rfl (sT1 rfl)) sB0 sF0) ?_
                              refine AL_cutAt 3 ⟨[(0, .inl (is (Sv a0))), (2, .inr (.inl (2, 0))), (4, .inr (.inl (4, 0))), (5, .inl (is (I64 x12))), (6, .inl (is (Sv x13))), (7, .inl (is (I64 x14))), (17, .inr (.inl (17, 0))), (8, .inl (is (I64 x23))), (9, .inl (is (I32 x24))), (22, .inl (is (Bl x25))), (71, .inl (is (I64 x12))), (72, .inl (is (Bl true))), (73, .inl (is (Bl true))), (74, .inl (is (I32 x24))), (75, .inl (is (Bl (x24 == 43)))), (76, .inl (is (Bl (x24 == 43)))), (79, .inl (is (Bl ((x24 == 43) || (x24 == 45)))))], [(2, pb 297 [is (U8 (0#8)), is (Bl false), is (Sv ([] : List UInt8)), is (I16 0), is (I64 0), is (I32 0)]), (4, gc 355 ([is (Bl x15), is (Bl x16)]) ([is (I64 x18), is (I64 x19)]) (k1 U8) 1 x17), (17, itc a0 x22)]⟩ ?_ ?_
                              · cases hb : x24 == 43
                                · skip
                                  refine AL_cons (LR_on rfl rfl rfl (LR_move (at_tmp 9 _) rfl)) (sS (sT rfl (sT1 rfl)) sB0 sF0) ?_
                                  refine AL_cons (LR_on rfl rfl rfl (LR_bin (at_tmp 77 _) (at_c (v' := I32 45) rfl) (eql_I32 x24 45) rfl)) (sS (sT rfl (sA (sT1 rfl) sT0)) sB0 sF0) ?_
                                  refine AL_cons (LR_on rfl rfl rfl (LR_pick (b := false) (at_tmp 76 _) (at_c (v' := Bl true) rfl) (at_tmp 78 _) rfl)) (sS (sT rfl (sA (sT1 rfl) (sA sT0 (sT1 rfl)))) sB0 sF0) ?_
                                  exact AL_nil ⟨rfl, weak0 ((sT rfl (sT rfl (sT rfl (sT rfl (sT rfl (sT rfl (sT rfl (sT rfl (sT rfl (sT rfl (sT rfl (sT rfl (sT rfl (sT rfl (sT rfl (sT rfl (sT rfl sT0)))))))))))))))))) (sub_keep (sub_keep (sub_keep sub_nil)))⟩
                                · skip
                                  refine AL_cons (LR_off (b := true) rfl rfl rfl rfl) (sS (sT1 rfl) sB0 sF0) ?_
                                  refine AL_cons (LR_off (b := true) rfl rfl rfl rfl) (sS (sT1 rfl) sB0 sF0) ?_
                                  refine AL_cons (LR_on rfl rfl rfl (LR_pick (b := true) (at_tmp 76 _) (at_c (v' := Bl true) rfl) (at_tmp 78 _) rfl)) (sS (sT rfl (sA (sT1 rfl) (sA sT0 (sT1 rfl)))) sB0 sF0) ?_
                                  exact AL_nil ⟨rfl, weak0 ((sT rfl (sT rfl (sT rfl (sT rfl (sT rfl (sT rfl (sT rfl (sT rfl (sT rfl (sT rfl (sT rfl (sT rfl (sT rfl (sT rfl (sT rfl (sT rfl (sT rfl sT0)))))))))))))))))) (sub_keep (sub_keep (sub_keep sub_nil)))⟩
                              refine AL_cons (LR_pick (b := true) (at_tmp 73 _) (at_tmp 79 _) (at_c (v' := Bl false) rfl) rfl) (sS (sA (sT1 rfl) (sA (sT1 rfl) sT0)) sB0 sF0) ?_
                              exact AL_nil ⟨rfl, weak0 ((sT rfl (sT rfl (sT rfl (sT rfl (sT rfl (sT rfl (sT rfl (sT rfl (sT rfl (sT rfl (sT rfl (sT rfl (sT rfl (sT rfl sT0))))))))))))))) (sub_keep (sub_keep (sub_keep sub_nil)))⟩
                          refine AL_cons (LR_assign (at_tmp 80 _) rfl) (sS (sT1 rfl) sB0 sF0) ?_
                          refine AL_nil ?_
                          exact thenN (cutLeaf (v := (x12 == 0) && ((x24 == 43) || (x24 == 45))) hr (weak0 ((sT rfl (sT rfl (sT rfl (sT rfl (sT rfl (sT rfl (sT rfl (sT rfl (sT rfl (sT rfl sT0))))))))))) (sub_keep (sub_keep (sub_keep sub_nil)))))
                        · rintro x40 hr
                          show AW Hfaa.prog _ _ _ ⟨[(0, .inl (is (Sv a0))), (2, .inr (.inl (2, 0))), (4, .inr (.inl (4, 0))), (5, .inl (is (I64 x12))), (6, .inl (is (Sv x13))), (7, .inl (is (I64 x14))), (17, .inr (.inl (17, 0))), (8, .inl (is (I64 x23))), (9, .inl (is (I32 x24))), (70, .inl (is (Bl x40)))], [(2, pb 297 [is (U8 (0#8)), is (Bl false), is (Sv ([] : List UInt8)), is (I16 0), is (I64 0), is (I32 0)]), (4, gc 355 ([is (Bl x15), is (Bl x16)]) ([is (I64 x18), is (I64 x19)]) (k1 U8) 1 x17), (17, itc a0 x22)]⟩
                          have hr : some out2 = F311_24 N a0 x12 x13 x14 x15 x16 x17 x18 x19 x22 x23 x24 x40 := hr
                          refine AW_condT (b := x40) rfl (fun h => ?_) (fun h => ?_)
                          · have hr := hr.trans (cond_t h)
                            clear h
                            refine AW_cut (σ := Bool) (fun v => ⟨[(0, .inl (is (Sv a0))), (2, .inr (.inl (2, 0))), (4, .inr (.inl (4, 0))), (6, .inl (is (Sv x13))), (7, .inl (is (I64 x14))), (17, .inr (.inl (17, 0)))], [(2, pb 297 [is (U8 (0#8)), is (Bl false), is (Sv ([] : List UInt8)), is (I16 0), is (I64 0), is (I32 0)]), (4, gc 355 ([is (Bl v), is (Bl x16)]) ([is (I64 x18), is (I64 x19)]) (k1 U8) 1 x17), (17, itc a0 x22)]⟩) (fun v => some out2 = F311_25 N a0 x13 x14 x16 x17 x18 x19 x22 v) ?_ ?_
                            · skip
                              refine AW_region ?_
                              refine AL_cons (LR_move (at_tmp 9 _) rfl) (sS (sT1 rfl) sB0 sF0) ?_
                              refine AL_cons (LR_bin (at_tmp 81 _) (at_c (v' := I32 45) rfl) (eql_I32 x24 45) rfl) (sS (sA (sT1 rfl) sT0) sB0 sF0) ?_
                              refine AL_cons (LR_fieldAddr (off := 0) (o := 0) (at_tmp 4 _) (fun b w => fa355_0 b 0 w) rfl) (sS (sT1 rfl) sB0 sF0) ?_
                              refine AL_opn 4 1006 (fun sv => [is (Bl x15), is (Bl x16), is ( sv), is (I64 x18), is (I64 x19)]) rfl rfl (fun _ => by first | rfl | simp) ?_
                              intro sv8 hsv8
                              refine AL_cons (LR_store (at_tmp 83 _) (at_tmp 82 _) (cells_one (one_is rfl)) (onC (one_is rfl) onN) sz4 rfl rfl) (sS (sA (sT1 rfl) (sT1 rfl)) (sB1 rfl) sF0) ?_
                              refine AL_imp (imp_close (k := 4) (r := 1006) ([is (Bl (x24 == 45)), is (Bl x16)]) ([is (I64 x18), is (I64 x19)]) rfl (by first | rfl | simp) rfl rfl rfl rfl) ?_
                              refine AL_nil ?_
                              exact thenN (cutLeaf (v := x24 == 45) hr (weak0 ((sT rfl (sT rfl (sT rfl (sT rfl (sT rfl (sT rfl sT0))))))) (sub_keep (sub_keep (sub_keep (sub_drop sub_nil))))))
                            · rintro x41 hr
                              show AW Hfaa.prog _ _ _ ⟨[(0, .inl (is (Sv a0))), (2, .inr (.inl (2, 0))), (4, .inr (.inl (4, 0))), (6, .inl (is (Sv x13))), (7, .inl (is (I64 x14))), (17, .inr (.inl (17, 0)))], [(2, pb 297 [is (U8 (0#8)), is (Bl false), is (Sv ([] : List UInt8)), is (I16 0), is (I64 0), is (I32 0)]), (4, gc 355 ([is (Bl x41), is (Bl x16)]) ([is (I64 x18), is (I64 x19)]) (k1 U8) 1 x17), (17, itc a0 x22)]⟩
                              have hr : some out2 = F311_25 N a0 x13 x14 x16 x17 x18 x19 x22 x41 := hr
                              refine AW_seq1 ?_
                              refine AW_region ?_
                              refine AL_cons (LR_assign (at_c (v' := I64 1) rfl) rfl) (sS sT0 sB0 sF0) ?_
                              refine AL_nil ?_
                              refine thenN ?_
                              refine AW_exit ?_
                              refine blO (by decide) ?_
                              refine thenX ?_
                              refine blH ?_
                              exact thenN (loopNext (x' := (1, x13, x14, x41, x16, x17, x18, x19, x22)) hr (weak0 ((sT rfl (sT rfl (sT rfl (sT rfl (sT rfl (sT rfl (sT rfl sT0)))))))) (sub_keep (sub_keep (sub_keep sub_nil)))))
                          · have hr := hr.trans (cond_f h)
                            clear h
                            refine AW_cut (σ := Bool) (fun v => ⟨[(0, .inl (is (Sv a0))), (2, .inr (.inl (2, 0))), (4, .inr (.inl (4, 0))), (5, .inl (is (I64 x12))), (6, .inl (is (Sv x13))), (7, .inl (is (I64 x14))), (17, .inr (.inl (17, 0))), (8, .inl (is (I64 x23))), (9, .inl (is (I32 x24))), (84, .inl (is (Bl v)))], [(2, pb 297 [is (U8 (0#8)), is (Bl false), is (Sv ([] : List UInt8)), is (I16 0), is (I64 0), is (I32 0)]), (4, gc 355 ([is (Bl x15), is (Bl x16)]) ([is (I64 x18), is (I64 x19)]) (k1 U8) 1 x17), (17, itc a0 x22)]⟩) (fun v => some out2 = F311_26 N a0 x12 x13 x14 x15 x16 x17 x18 x19 x22 x23 x24 v) ?_ ?_
                            · skip
                              refine AW_region ?_
                              refine AL_cons (LR_move (at_tmp 5 _) rfl) (sS (sT1 rfl) sB0 sF0) ?_
                              refine AL_cons (LR_bin (at_tmp 85 _) (at_c (v' := I64 6) rfl) (eql_I64 x12 6) rfl) (sS (sA (sT1 rfl) sT0) sB0 sF0) ?_
                              refine AL_cons (LR_move (at_tmp 86 _) rfl) (sS (sT1 rfl) sB0 sF0) ?_
                              refine AL_cutAt 7 ⟨[(0, .inl (is (Sv a0))), (2, .inr (.inl (2, 0))), (4, .inr (.inl (4, 0))), (5, .inl (is (I64 x12))), (6, .inl (is (Sv x13))), (7, .inl (is (I64 x14))), (17, .inr (.inl (17, 0))), (8, .inl (is (I64 x23))), (9, .inl (is (I32 x24))), (70, .inl (is (Bl x40))), (85, .inl (is (I64 x12))), (86, .inl (is (Bl (x12 == 6)))), (87, .inl (is (Bl (x12 == 6)))), (94, .inl (is (Bl ((x12 == 6) && ((x24 == 43) || (x24 == 45))))))], [(2, pb 297 [is (U8 (0#8)), is (Bl false), is (Sv ([] : List UInt8)), is (I16 0), is (I64 0), is (I32 0)]), (4, gc 355 ([is (Bl x15), is (Bl x16)]) ([is (I64 x18), is (I64 x19)]) (k1 U8) 1 x17), (17, itc a0 x22)]⟩ ?_ ?_
                              · cases hb : x12 == 6
                                · skip
                                  refine AL_cons (LR_off (b := false) rfl rfl rfl rfl) (sS (sT1 rfl) sB0 sF0) ?_
                                  refine AL_cons (LR_off (b := false) rfl rfl rfl rfl) (sS (sT1 rfl) sB0 sF0) ?_
                                  refine AL_cons (LR_off (b := false) rfl rfl rfl rfl) (sS (sT1 rfl) sB0 sF0) ?_
                                  refine AL_cons (LR_offU rfl rfl rfl rfl) (sS (sT1 rfl) sB0 sF0) ?_
                                  refine AL_cons (LR_offU rfl rfl rfl rfl) (sS (sT1 rfl) sB0 sF0) ?_
                                  refine AL_cons (LR_off (b := false) rfl rfl rfl rfl) (sS (sT1 rfl) sB0 sF0) ?_
                                  refine AL_cons (LR_pick (b := false) (at_tmp 87 _) (at_tmp 93 _) (at_c (v' := Bl false) rfl) rfl) (sS (sA (sT1 rfl) (sA (sT1 rfl) sT0)) sB0 sF0) ?_
                                  exact AL_nil ⟨rfl, weak0 ((sT rfl (sT rfl (sT rfl (sT rfl (sT rfl (sT rfl (sT rfl (sT rfl (sT rfl (sT rfl (sT rfl (sT rfl (sT rfl (sT rfl sT0))))))))))))))) (sub_keep (sub_keep (sub_keep sub_nil)))⟩
                                · skip
                                  refine AL_cons (LR_on rfl rfl rfl (LR_move (at_tmp 9 _) rfl)) (sS (sT rfl (sT1 rfl)) sB0 sF0) ?_
                                  refine AL_cons (LR_on rfl rfl rfl (LR_bin (at_tmp 88 _) (at_c (v' := I32 43) rfl) (eql_I32 x24 43) rfl)) (sS (sT rfl (sA (sT1 rfl) sT0)) sB0 sF0) ?_
                                  refine AL_cons (LR_on rfl rfl rfl (LR_move (at_tmp 89 _) rfl)) (sS (sT rfl (sT1 rfl)) sB0 sF0) ?_
                                  refine AL_cutAt 3 ⟨[(0, .inl (is (Sv a0))), (2, .inr (.inl (2, 0))), (4, .inr (.inl (4, 0))), (5, .inl (is (I64 x12))), (6, .inl (is (Sv x13))), (7, .inl (is (I64 x14))), (17, .inr (.inl (17, 0))), (8, .inl (is (I64 x23))), (9, .inl (is (I32 x24))), (70, .inl (is (Bl x40))), (85, .inl (is (I64 x12))), (86, .inl (is (Bl true))), (87, .inl (is (Bl true))), (88, .inl (is (I32 x24))), (89, .inl (is (Bl (x24 == 43)))), (90, .inl (is (Bl (x24 == 43)))), (93, .inl (is (Bl ((x24 == 43) || (x24 == 45)))))], [(2, pb 297 [is (U8 (0#8)), is (Bl false), is (Sv ([] : List UInt8)), is (I16 0), is (I64 0), is (I32 0)]), (4, gc 355 ([is (Bl x15), is (Bl x16)]) ([is (I64 x18), is (I64 x19)]) (k1 U8) 1 x17), (17, itc a0 x22)]⟩ ?_ ?_
                                  · cases hb : x24 == 43
                                    · skip
                                      refine AL_cons (LR_on rfl rfl rfl (LR_move (at_tmp 9 _) rfl)) (sS (sT rfl (sT1 rfl)) sB0 sF0) ?_
                                      refine AL_cons (LR_on rfl rfl rfl (LR_bin (at_tmp 91 _) (at_c (v' := I32 45) rfl) (eql_I32 x24 45) rfl)) (sS (sT rfl (sA (sT1 rfl) sT0)) sB0 sF0) ?_
                                      refine AL_cons (LR_on rfl rfl rfl (LR_pick (b := false) (at_tmp 90 _) (at_c (v' := Bl true) rfl) (at_tmp 92 _) rfl)) (sS (sT rfl (sA (sT1 rfl) (sA sT0 (sT1 rfl)))) sB0 sF0) ?_
                                      exact AL_nil ⟨rfl, weak0 ((sT rfl (sT rfl (sT rfl (sT rfl (sT rfl (sT rfl (sT rfl (sT rfl (sT rfl (sT rfl (sT rfl (sT rfl (sT rfl (sT rfl (sT rfl (sT rfl (sT rfl sT0)))))))))))))))))) (sub_keep (sub_keep (sub_keep sub_nil)))⟩
                                    · skip
                                      refine AL_cons (LR_off (b := true) rfl rfl rfl rfl) (sS (sT1 rfl) sB0 sF0) ?_
                                      refine AL_cons (LR_off (b := true) rfl rfl rfl rfl) (sS (sT1 rfl) sB0 sF0) ?_
                                      refine AL_cons (LR_on rfl rfl rfl (LR_pick (b := true) (at_tmp 90 _) (at_c (v' := Bl true) rfl) (at_tmp 92 _) rfl)) (sS (sT rfl (sA (sT1 rfl) (sA sT0 (sT1 rfl)))) sB0 sF0) ?_
                                      exact AL_nil ⟨rfl, weak0 ((sT rfl (sT rfl (sT rfl (sT rfl (sT rfl (sT rfl (sT rfl (sT rfl (sT rfl (sT rfl (sT rfl (sT rfl (sT rfl (sT rfl (sT rfl (sT rfl (sT rfl sT0)))))))))))))))))) (sub_keep (sub_keep (sub_keep sub_nil)))⟩
                                  refine AL_cons (LR_pick (b := true) (at_tmp 87 _) (at_tmp 93 _) (at_c (v' := Bl false) rfl) rfl) (sS (sA (sT1 rfl) (sA (sT1 rfl) sT0)) sB0 sF0) ?_
                                  exact AL_nil ⟨rfl, weak0 ((sT rfl (sT rfl (sT rfl (sT rfl (sT rfl (sT rfl (sT rfl (sT rfl (sT rfl (sT rfl (sT rfl (sT rfl (sT rfl (sT rfl sT0))))))))))))))) (sub_keep (sub_keep (sub_keep sub_nil)))⟩
                              refine AL_cons (LR_assign (at_tmp 94 _) rfl) (sS (sT1 rfl) sB0 sF0) ?_
                              refine AL_nil ?_
                              exact thenN (cutLeaf (v := (x12 == 6) && ((x24 == 43) || (x24 == 45))) hr (weak0 ((sT rfl (sT rfl (sT rfl (sT rfl (sT rfl (sT rfl (sT rfl (sT rfl (sT rfl (sT rfl sT0))))))))))) (sub_keep (sub_keep (sub_keep sub_nil)))))
                            · rintro x42 hr
                              show AW Hfaa.prog _ _ _ ⟨[(0, .inl (is (Sv a0))), (2, .inr (.inl (2, 0))), (4, .inr (.inl (4, 0))), (5, .inl (is (I64 x12))), (6, .inl (is (Sv x13))), (7, .inl (is (I64 x14))), (17, .inr (.inl (17, 0))), (8, .inl (is (I64 x23))), (9, .inl (is (I32 x24))), (84, .inl (is (Bl x42)))], [(2, pb 297 [is (U8 (0#8)), is (Bl false), is (Sv ([] : List UInt8)), is (I16 0), is (I64 0), is (I32 0)]), (4, gc 355 ([is (Bl x15), is (Bl x16)]) ([is (I64 x18), is (I64 x19)]) (k1 U8) 1 x17), (17, itc a0 x22)]⟩
                              have hr : some out2 = F311_26 N a0 x12 x13 x14 x15 x16 x17 x18 x19 x22 x23 x24 x42 := hr
                              refine AW_condT (b := x42) rfl (fun h => ?_) (fun h => ?_)
                              · have hr := hr.trans (cond_t h)
                                clear h
                                refine AW_cut (σ := Bool) (fun v => ⟨[(0, .inl (is (Sv a0))), (2, .inr (.inl (2, 0))), (4, .inr (.inl (4, 0))), (6, .inl (is (Sv x13))), (7, .inl (is (I64 x14))), (17, .inr (.inl (17, 0)))], [(2, pb 297 [is (U8 (0#8)), is (Bl false), is (Sv ([] : List UInt8)), is (I16 0), is (I64 0), is (I32 0)]), (4, gc 355 ([is (Bl x15), is (Bl v)]) ([is (I64 x18), is (I64 x19)]) (k1 U8) 1 x17), (17, itc a0 x22)]⟩) (fun v => some out2 = F311_27 N a0 x13 x14 x15 x17 x18 x19 x22 v) ?_ ?_
                                · skip
                                  refine AW_region ?_
                                  refine AL_cons (LR_move (at_tmp 9 _) rfl) (sS (sT1 rfl) sB0 sF0) ?_
                                  refine AL_cons (LR_bin (at_tmp 95 _) (at_c (v' := I32 45) rfl) (eql_I32 x24 45) rfl) (sS (sA (sT1 rfl) sT0) sB0 sF0) ?_
                                  refine AL_cons (LR_fieldAddr (off := 0) (o := 1) (at_tmp 4 _) (fun b w => fa355_1 b 0 w) rfl) (sS (sT1 rfl) sB0 sF0) ?_
                                  refine AL_opn 4 1007 (fun sv => [is (Bl x15), is (Bl x16), is ( sv), is (I64 x18), is (I64 x19)]) rfl rfl (fun _ => by first | rfl | simp) ?_
                                  intro sv9 hsv9
                                  refine AL_cons (LR_store (at_tmp 97 _) (at_tmp 96 _) (cells_one (one_is rfl)) (onC (one_is rfl) onN) sz4 rfl rfl) (sS (sA (sT1 rfl) (sT1 rfl)) (sB1 rfl) sF0) ?_
                                  refine AL_imp (imp_close (k := 4) (r := 1007) ([is (Bl x15), is (Bl (x24 == 45))]) ([is (I64 x18), is (I64 x19)]) rfl (by first | rfl | simp) rfl rfl rfl rfl) ?_
                                  refine AL_nil ?_
                                  exact thenN (cutLeaf (v := x24 == 45) hr (weak0 ((sT rfl (sT rfl (sT rfl (sT rfl (sT rfl (sT rfl sT0))))))) (sub_keep (sub_keep (sub_keep (sub_drop sub_nil))))))
                                · rintro x43 hr
                                  show AW Hfaa.prog _ _ _ ⟨[(0, .inl (is (Sv a0))), (2, .inr (.inl (2, 0))), (4, .inr (.inl (4, 0))), (6, .inl (is (Sv x13))), (7, .inl (is (I64 x14))), (17, .inr (.inl (17, 0)))], [(2, pb 297 [is (U8 (0#8)), is (Bl false), is (Sv ([] : List UInt8)), is (I16 0), is (I64 0), is (I32 0)]), (4, gc 355 ([is (Bl x15), is (Bl x43)]) ([is (I64 x18), is (I64 x19)]) (k1 U8) 1 x17), (17, itc a0 x22)]⟩
                                  have hr : some out2 = F311_27 N a0 x13 x14 x15 x17 x18 x19 x22 x43 := hr
                                  refine AW_seq1 ?_
                                  refine AW_region ?_
                                  refine AL_cons (LR_assign (at_c (v' := I64 7) rfl) rfl) (sS sT0 sB0 sF0) ?_
                                  refine AL_nil ?_
                                  refine thenN ?_
                                  refine AW_exit ?_
                                  refine blO (by decide) ?_
                                  refine thenX ?_
                                  refine blH ?_
                                  exact thenN (loopNext (x' := (7, x13, x14, x15, x43, x17, x18, x19, x22)) hr (weak0 ((sT rfl (sT rfl (sT rfl (sT rfl (sT rfl (sT rfl (sT rfl sT0)))))))) (sub_keep (sub_keep (sub_keep sub_nil)))))
                              · have hr := hr.trans (cond_f h)
                                clear h
                                refine AW_cut (σ := Bool) (fun v => ⟨[(0, .inl (is (Sv a0))), (2, .inr (.inl (2, 0))), (4, .inr (.inl (4, 0))), (5, .inl (is (I64 x12))), (6, .inl (is (Sv x13))), (7, .inl (is (I64 x14))), (17, .inr (.inl (17, 0))), (8, .inl (is (I64 x23))), (9, .inl (is (I32 x24))), (98, .inl (is (Bl v)))], [(2, pb 297 [is (U8 (0#8)), is (Bl false), is (Sv ([] : List UInt8)), is (I16 0), is (I64 0), is (I32 0)]), (4, gc 355 ([is (Bl x15), is (Bl x16)]) ([is (I64 x18), is (I64 x19)]) (k1 U8) 1 x17), (17, itc a0 x22)]⟩) (fun v => some out2 = F311_28 N a0 x12 x13 x14 x15 x16 x17 x18 x19 x22 x23 x24 v) ?_ ?_
                                · skip
                                  refine AW_region ?_
                                  refine AL_cons (LR_move (at_tmp 5 _) rfl) (sS (sT1 rfl) sB0 sF0) ?_
                                  refine AL_cons (LR_bin (at_tmp 99 _) (at_c (v' := I64 2) rfl) (eql_I64 x12 2) rfl) (sS (sA (sT1 rfl) sT0) sB0 sF0) ?_
                                  refine AL_cons (LR_move (at_tmp 100 _) rfl) (sS (sT1 rfl) sB0 sF0) ?_
                                  refine AL_cutAt 3 ⟨[(0, .inl (is (Sv a0))), (2, .inr (.inl (2, 0))), (4, .inr (.inl (4, 0))), (5, .inl (is (I64 x12))), (6, .inl (is (Sv x13))), (7, .inl (is (I64 x14))), (17, .inr (.inl (17, 0))), (8, .inl (is (I64 x23))), (9, .inl (is (I32 x24))), (84, .inl (is (Bl x42))), (99, .inl (is (I64 x12))), (100, .inl (is (Bl (x12 == 2)))), (101, .inl (is (Bl (x12 == 2)))), (104, .inl (is (Bl ((x12 == 2) && (x24 == 46)))))], [(2, pb 297 [is (U8 (0#8)), is (Bl false), is (Sv ([] : List UInt8)), is (I16 0), is (I64 0), is (I32 0)]), (4, gc 355 ([is (Bl x15), is (Bl x16)]) ([is (I64 x18), is (I64 x19)]) (k1 U8) 1 x17), (17, itc a0 x22)]⟩ ?_ ?_
                                  · cases hb : x12 == 2
                                    · skip
                                      refine AL_cons (LR_off (b := false) rfl rfl rfl rfl) (sS (sT1 rfl) sB0 sF0) ?_
                                      refine AL_cons (LR_off (b := false) rfl rfl rfl rfl) (sS (sT1 rfl) sB0 sF0) ?_
                                      refine AL_cons (LR_pick (b := false) (at_tmp 101 _) (at_tmp 103 _) (at_c (v' := Bl false) rfl) rfl) (sS (sA (sT1 rfl) (sA (sT1 rfl) sT0)) sB0 sF0) ?_
                                      exact AL_nil ⟨rfl, weak0 ((sT rfl (sT rfl (sT rfl (sT rfl (sT rfl (sT rfl (sT rfl (sT rfl (sT rfl (sT rfl (sT rfl (sT rfl (sT rfl (sT rfl sT0))))))))))))))) (sub_keep (sub_keep (sub_keep sub_nil)))⟩
                                    · skip
                                      refine AL_cons (LR_on rfl rfl rfl (LR_move (at_tmp 9 _) rfl)) (sS (sT rfl (sT1 rfl)) sB0 sF0) ?_
                                      refine AL_cons (LR_on rfl rfl rfl (LR_bin (at_tmp 102 _) (at_c (v' := I32 46) rfl) (eql_I32 x24 46) rfl)) (sS (sT rfl (sA (sT1 rfl) sT0)) sB0 sF0) ?_
                                      refine AL_cons (LR_pick (b := true) (at_tmp 101 _) (at_tmp 103 _) (at_c (v' := Bl false) rfl) rfl) (sS (sA (sT1 rfl) (sA (sT1 rfl) sT0)) sB0 sF0) ?_
                                      exact AL_nil ⟨rfl, weak0 ((sT rfl (sT rfl (sT rfl (sT rfl (sT rfl (sT rfl (sT rfl (sT rfl (sT rfl (sT rfl (sT rfl (sT rfl (sT rfl (sT rfl sT0))))))))))))))) (sub_keep (sub_keep (sub_keep sub_nil)))⟩
                                  refine AL_cons (LR_assign (at_tmp 104 _) rfl) (sS (sT1 rfl) sB0 sF0) ?_
                                  refine AL_nil ?_
                                  exact thenN (cutLeaf (v := (x12 == 2) && (x24 == 46)) hr (weak0 ((sT rfl (sT rfl (sT rfl (sT rfl (sT rfl (sT rfl (sT rfl (sT rfl (sT rfl (sT rfl sT0))))))))))) (sub_keep (sub_keep (sub_keep sub_nil)))))
                                · rintro x44 hr
                                  show AW Hfaa.prog _ _ _ ⟨[(0, .inl (is (Sv a0))), (2, .inr (.inl (2, 0))), (4, .inr (.inl (4, 0))), (5, .inl (is (I64 x12))), (6, .inl (is (Sv x13))), (7, .inl (is (I64 x14))), (17, .inr (.inl (17, 0))), (8, .inl (is (I64 x23))), (9, .inl (is (I32 x24))), (98, .inl (is (Bl x44)))], [(2, pb 297 [is (U8 (0#8)), is (Bl false), is (Sv ([] : List UInt8)), is (I16 0), is (I64 0), is (I32 0)]), (4, gc 355 ([is (Bl x15), is (Bl x16)]) ([is (I64 x18), is (I64 x19)]) (k1 U8) 1 x17), (17, itc a0 x22)]⟩
                                  have hr : some out2 = F311_28 N a0 x12 x13 x14 x15 x16 x17 x18 x19 x22 x23 x24 x44 := hr
                                  refine AW_condT (b := x44) rfl (fun h => ?_) (fun h => ?_)
                                  · have hr := hr.trans (cond_t h)
                                    clear h
                                    refine AW_seq1 ?_
                                    refine AW_region ?_
                                    refine AL_cons (LR_assign (at_c (v' := I64 3) rfl) rfl) (sS sT0 sB0 sF0) ?_
                                    refine AL_nil ?_
                                    refine thenN ?_
                                    refine AW_exit ?_
                                    refine blO (by decide) ?_
                                    refine thenX ?_
                                    refine blH ?_
                                    exact thenN (loopNext (x' := (3, x13, x14, x15, x16, x17, x18, x19, x22)) hr (weak0 ((sT rfl (sT rfl (sT rfl (sT rfl (sT rfl (sT rfl (sT rfl sT0)))))))) (sub_keep (sub_keep (sub_keep sub_nil)))))
                                  · have hr := hr.trans (cond_f h)
                                    clear h
                                    refine AW_cut (σ := Bool) (fun v => ⟨[(0, .inl (is (Sv a0))), (2, .inr (.inl (2, 0))), (4, .inr (.inl (4, 0))), (5, .inl (is (I64 x12))), (6, .inl (is (Sv x13))), (7, .inl (is (I64 x14))), (17, .inr (.inl (17, 0))), (8, .inl (is (I64 x23))), (9, .inl (is (I32 x24))), (105, .inl (is (Bl v)))], [(2, pb 297 [is (U8 (0#8)), is (Bl false), is (Sv ([] : List UInt8)), is (I16 0), is (I64 0), is (I32 0)]), (4, gc 355 ([is (Bl x15), is (Bl x16)]) ([is (I64 x18), is (I64 x19)]) (k1 U8) 1 x17), (17, itc a0 x22)]⟩) (fun v => some out2 = F311_29 N a0 x12 x13 x14 x15 x16 x17 x18 x19 x22 x23 x24 v) ?_ ?_
                                    · skip
                                      refine AW_region ?_
                                      refine AL_cons (LR_move (at_tmp 5 _) rfl) (sS (sT1 rfl) sB0 sF0) ?_
                                      refine AL_cons (LR_bin (at_tmp 106 _) (at_c (v' := I64 1) rfl) (leq_I64 x12 1) rfl) (sS (sA (sT1 rfl) sT0) sB0 sF0) ?_
                                      refine AL_cons (LR_move (at_tmp 107 _) rfl) (sS (sT1 rfl) sB0 sF0) ?_
                                      refine AL_cutAt 3 ⟨[(0, .inl (is (Sv a0))), (2, .inr (.inl (2, 0))), (4, .inr (.inl (4, 0))), (5, .inl (is (I64 x12))), (6, .inl (is (Sv x13))), (7, .inl (is (I64 x14))), (17, .inr (.inl (17, 0))), (8, .inl (is (I64 x23))), (9, .inl (is (I32 x24))), (98, .inl (is (Bl x44))), (106, .inl (is (I64 x12))), (107, .inl (is (Bl (decide (x12 ≤ 1))))), (108, .inl (is (Bl (decide (x12 ≤ 1))))), (111, .inl (is (Bl ((decide (x12 ≤ 1)) && (x24 == 46)))))], [(2, pb 297 [is (U8 (0#8)), is (Bl false), is (Sv ([] : List UInt8)), is (I16 0), is (I64 0), is (I32 0)]), (4, gc 355 ([is (Bl x15), is (Bl x16)]) ([is (I64 x18), is (I64 x19)]) (k1 U8) 1 x17), (17, itc a0 x22)]⟩ ?_ ?_
                                      · cases hb : decide (x12 ≤ 1)
                                        · skip
                                          refine AL_cons (LR_off (b := false) rfl rfl rfl rfl) (sS (sT1 rfl) sB0 sF0) ?_
                                          refine AL_cons (LR_off (b := false) rfl rfl rfl rfl) (sS (sT1 rfl) sB0 sF0) ?_
                                          refine AL_cons (LR_pick (b := false) (at_tmp 108 _) (at_tmp 110 _) (at_c (v' := Bl false) rfl) rfl) (sS (sA (sT1 rfl) (sA (sT1 rfl) sT0)) sB0 sF0) ?_
                                          exact AL_nil ⟨rfl, weak0 ((sT rfl (sT rfl (sT rfl (sT rfl (sT rfl (sT rfl (sT rfl (sT rfl (sT rfl (sT rfl (sT rfl (sT rfl (sT rfl (sT rfl sT0))))))))))))))) (sub_keep (sub_keep (sub_keep sub_nil)))⟩
                                        · skip
                                          refine AL_cons (LR_on rfl rfl rfl (LR_move (at_tmp 9 _) rfl)) (sS (sT rfl (sT1 rfl)) sB0 sF0) ?_
                                          refine AL_cons (LR_on rfl rfl rfl (LR_bin (at_tmp 109 _) (at_c (v' := I32 46) rfl) (eql_I32 x24 46) rfl)) (sS (sT rfl (sA (sT1 rfl) sT0)) sB0 sF0) ?_
                                          refine AL_cons (LR_pick (b := true) (at_tmp 108 _) (at_tmp 110 _) (at_c (v' := Bl false) rfl) rfl) (sS (sA (sT1 rfl) (sA (sT1 rfl) sT0)) sB0 sF0) ?_
                                          exact AL_nil ⟨rfl, weak0 ((sT rfl (sT rfl (sT rfl (sT rfl (sT rfl (sT rfl (sT rfl (sT rfl (sT rfl (sT rfl (sT rfl (sT rfl (sT rfl (sT rfl sT0))))))))))))))) (sub_keep (sub_keep (sub_keep sub_nil)))⟩
                                      refine AL_cons (LR_assign (at_tmp 111 _) rfl) (sS (sT1 rfl) sB0 sF0) ?_
                                      refine AL_nil ?_
                                      exact thenN (cutLeaf (v := (decide (x12 ≤ 1)) && (x24 == 46)) hr (weak0 ((sT rfl (sT rfl (sT rfl (sT rfl (sT rfl (sT rfl (sT rfl (sT rfl (sT rfl (sT rfl sT0))))))))))) (sub_keep (sub_keep (sub_keep sub_nil)))))
                                    · rintro x45 hr
                                      show AW Hfaa.prog _ _ _ ⟨[(0, .inl (is (Sv a0))), (2, .inr (.inl (2, 0))), (4, .inr (.inl (4, 0))), (5, .inl (is (I64 x12))), (6, .inl (is (Sv x13))), (7, .inl (is (I64 x14))), (17, .inr (.inl (17, 0))), (8, .inl (is (I64 x23))), (9, .inl (is (I32 x24))), (105, .inl (is (Bl x45)))], [(2, pb 297 [is (U8 (0#8)), is (Bl false), is (Sv ([] : List UInt8)), is (I16 0), is (I64 0), is (I32 0)]), (4, gc 355 ([is (Bl x15), is (Bl x16)]) ([is (I64 x18), is (I64 x19)]) (k1 U8) 1 x17), (17, itc a0 x22)]⟩
                                      have hr : some out2 = F311_29 N a0 x12 x13 x14 x15 x16 x17 x18 x19 x22 x23 x24 x45 := hr
                                      refine AW_condT (b := x45) rfl (fun h => ?_) (fun h => ?_)
                                      · have hr := hr.trans (cond_t h)
                                        clear h
                                        refine AW_seq1 ?_
                                        refine AW_region ?_
                                        refine AL_cons (LR_assign (at_c (v' := I64 4) rfl) rfl) (sS sT0 sB0 sF0) ?_
                                        refine AL_nil ?_
                                        refine thenN ?_
                                        refine AW_exit ?_
                                        refine blO (by decide) ?_
                                        refine thenX ?_
                                        refine blH ?_
                                        exact thenN (loopNext (x' := (4, x13, x14, x15, x16, x17, x18, x19, x22)) hr (weak0 ((sT rfl (sT rfl (sT rfl (sT rfl (sT rfl (sT rfl (sT rfl sT0)))))))) (sub_keep (sub_keep (sub_keep sub_nil)))))
                                      · have hr := hr.trans (cond_f h)
                                        clear h
                                        refine AW_cut (σ := Bool) (fun v => ⟨[(0, .inl (is (Sv a0))), (2, .inr (.inl (2, 0))), (4, .inr (.inl (4, 0))), (5, .inl (is (I64 x12))), (6, .inl (is (Sv x13))), (7, .inl (is (I64 x14))), (17, .inr (.inl (17, 0))), (8, .inl (is (I64 x23))), (9, .inl (is (I32 x24))), (112, .inl (is (Bl v)))], [(2, pb 297 [is (U8 (0#8)), is (Bl false), is (Sv ([] : List UInt8)), is (I16 0), is (I64 0), is (I32 0)]), (4, gc 355 ([is (Bl x15), is (Bl x16)]) ([is (I64 x18), is (I64 x19)]) (k1 U8) 1 x17), (17, itc a0 x22)]⟩) (fun v => some out2 = F311_30 N a0 x12 x13 x14 x15 x16 x17 x18 x19 x22 x23 x24 v) ?_ ?_
                                        · skip
                                          refine AW_region ?_
                                          refine AL_cons (LR_move (at_tmp 5 _) rfl) (sS (sT1 rfl) sB0 sF0) ?_
                                          refine AL_cons (LR_bin (at_tmp 113 _) (at_c (v' := I64 1) rfl) (leq_I64 x12 1) rfl) (sS (sA (sT1 rfl) sT0) sB0 sF0) ?_
                                          refine AL_cons (LR_move (at_tmp 114 _) rfl) (sS (sT1 rfl) sB0 sF0) ?_
                                          refine AL_cutAt 4 ⟨[(0, .inl (is (Sv a0))), (2, .inr (.inl (2, 0))), (4, .inr (.inl (4, 0))), (5, .inl (is (I64 x12))), (6, .inl (is (Sv x13))), (7, .inl (is (I64 x14))), (17, .inr (.inl (17, 0))), (8, .inl (is (I64 x23))), (9, .inl (is (I32 x24))), (105, .inl (is (Bl x45))), (113, .inl (is (I64 x12))), (114, .inl (is (Bl (decide (x12 ≤ 1))))), (115, .inl (is (Bl (decide (x12 ≤ 1))))), (119, .inl (is (Bl ((decide (x12 ≤ 1)) && ((w32 ((BitVec.ofInt 32 x24 ||| BitVec.ofInt 32 32).toNat : Int)) == 105)))))], [(2, pb 297 [is (U8 (0#8)), is (Bl false), is (Sv ([] : List UInt8)), is (I16 0), is (I64 0), is (I32 0)]), (4, gc 355 ([is (Bl x15), is (Bl x16)]) ([is (I64 x18), is (I64 x19)]) (k1 U8) 1 x17), (17, itc a0 x22)]⟩ ?_ ?_
                                          · cases hb : decide (x12 ≤ 1)
                                            · skip
                                              refine AL_cons (LR_off (b := false) rfl rfl rfl rfl) (sS (sT1 rfl) sB0 sF0) ?_
                                              refine AL_cons (LR_off (b := false) rfl rfl rfl rfl) (sS (sT1 rfl) sB0 sF0) ?_
                                              refine AL_cons (LR_off (b := false) rfl rfl rfl rfl) (sS (sT1 rfl) sB0 sF0) ?_
                                              refine AL_cons (LR_pick (b := false) (at_tmp 115 _) (at_tmp 118 _) (at_c (v' := Bl false) rfl) rfl) (sS (sA (sT1 rfl) (sA (sT1 rfl) sT0)) sB0 sF0) ?_
                                              exact AL_nil ⟨rfl, weak0 ((sT rfl (sT rfl (sT rfl (sT rfl (sT rfl (sT rfl (sT rfl (sT rfl (sT rfl (sT rfl (sT rfl (sT rfl (sT rfl (sT rfl sT0))))))))))))))) (sub_keep (sub_keep (sub_keep sub_nil)))⟩
                                            · skip
                                              refine AL_cons (LR_on rfl rfl rfl (LR_move (at_tmp 9 _) rfl)) (sS (sT rfl (sT1 rfl)) sB0 sF0) ?_
                                              refine AL_cons (LR_on rfl rfl rfl (LR_bin (at_tmp 116 _) (at_c (v' := I32 32) rfl) (or_I32 x24 32) rfl)) (sS (sT rfl (sA (sT1 rfl) sT0)) sB0 sF0) ?_
                                              refine AL_cons (LR_on rfl rfl rfl (LR_bin (at_tmp 117 _) (at_c (v' := I32 105) rfl) (eql_I32 (w32 ((BitVec.ofInt 32 x24 ||| BitVec.ofInt 32 32).toNat : Int)) 105) rfl)) (sS (sT rfl (sA (sT1 rfl) sT0)) sB0 sF0) ?_
                                              refine AL_cons (LR_pick (b := true) (at_tmp 115 _) (at_tmp 118 _) (at_c (v' := Bl false) rfl) rfl) (sS (sA (sT1 rfl) (sA (sT1 rfl) sT0)) sB0 sF0) ?_
                                              exact AL_nil ⟨rfl, weak0 ((sT rfl (sT rfl (sT rfl (sT rfl (sT rfl (sT rfl (sT rfl (sT rfl (sT rfl (sT rfl (sT rfl (sT rfl (sT rfl (sT rfl sT0))))))))))))))) (sub_keep (sub_keep (sub_keep sub_nil)))⟩
                                          refine AL_cons (LR_assign (at_tmp 119 _) rfl) (sS (sT1 rfl) sB0 sF0) ?_
                                          refine AL_nil ?_
                                          exact thenN (cutLeaf (v := (decide (x12 ≤ 1)) && ((w32 ((BitVec.ofInt 32 x24 ||| BitVec.ofInt 32 32).toNat : Int)) == 105)) hr (weak0 ((sT rfl (sT rfl (sT rfl (sT rfl (sT rfl (sT rfl (sT rfl (sT rfl (sT rfl (sT rfl sT0))))))))))) (sub_keep (sub_keep (sub_keep sub_nil)))))
                                        · rintro x46 hr
                                          show AW Hfaa.prog _ _ _ ⟨[(0, .inl (is (Sv a0))), (2, .inr (.inl (2, 0))), (4, .inr (.inl (4, 0))), (5, .inl (is (I64 x12))), (6, .inl (is (Sv x13))), (7, .inl (is (I64 x14))), (17, .inr (.inl (17, 0))), (8, .inl (is (I64 x23))), (9, .inl (is (I32 x24))), (112, .inl (is (Bl x46)))], [(2, pb 297 [is (U8 (0#8)), is (Bl false), is (Sv ([] : List UInt8)), is (I16 0), is (I64 0), is (I32 0)]), (4, gc 355 ([is (Bl x15), is (Bl x16)]) ([is (I64 x18), is (I64 x19)]) (k1 U8) 1 x17), (17, itc a0 x22)]⟩
                                          have hr : some out2 = F311_30 N a0 x12 x13 x14 x15 x16 x17 x18 x19 x22 x23 x24 x46 := hr
                                          refine AW_condT (b := x46) rfl (fun h => ?_) (fun h => ?_)
                                          · have hr := hr.trans (cond_t h)
                                            clear h
                                            refine AW_seq1 ?_
                                            refine AW_region ?_
                                            refine AL_cons (LR_assign (at_c (v' := I64 9) rfl) rfl) (sS sT0 sB0 sF0) ?_
                                            refine AL_cons (LR_assign (at_c (v' := Sv ([105, 110, 102, 105, 110, 105, 116, 121] : List UInt8)) rfl) rfl) (sS sT0 sB0 sF0) ?_
                                            refine AL_cons (LR_assign (at_c (v' := I64 1) rfl) rfl) (sS sT0 sB0 sF0) ?_
                                            refine AL_nil ?_
                                            refine thenN ?_
                                            refine AW_exit ?_
                                            refine blO (by decide) ?_
                                            refine thenX ?_
                                            refine blH ?_
                                            exact thenN (loopNext (x' := (9, ([105, 110, 102, 105, 110, 105, 116, 121] : List UInt8), 1, x15, x16, x17, x18, x19, x22)) hr (weak0 ((sT rfl (sT rfl (sT rfl (sT rfl (sT rfl (sT rfl (sT rfl sT0)))))))) (sub_keep (sub_keep (sub_keep sub_nil)))))
                                          · have hr := hr.trans (cond_f h)
                                            clear h
                                            refine AW_cut (σ := Bool) (fun v => ⟨[(0, .inl (is (Sv a0))), (2, .inr (.inl (2, 0))), (4, .inr (.inl (4, 0))), (5, .inl (is (I64 x12))), (6, .inl (is (Sv x13))), (7, .inl (is (I64 x14))), (17, .inr (.inl (17, 0))), (8, .inl (is (I64 x23))), (9, .inl (is (I32 x24))), (120, .inl (is (Bl v)))], [(2, pb 297 [is (U8 (0#8)), is (Bl false), is (Sv ([] : List UInt8)), is (I16 0), is (I64 0), is (I32 0)]), (4, gc 355 ([is (Bl x15), is (Bl x16)]) ([is (I64 x18), is (I64 x19)]) (k1 U8) 1 x17), (17, itc a0 x22)]⟩) (fun v => some out2 = F311_31 N a0 x12 x13 x14 x15 x16 x17 x18 x19 x22 x23 x24 v) ?_ ?_
                                            · skip
                                              refine AW_region ?_
                                              refine AL_cons (LR_move (at_tmp 5 _) rfl) (sS (sT1 rfl) sB0 sF0) ?_
                                              refine AL_cons (LR_bin (at_tmp 121 _) (at_c (v' := I64 1) rfl) (leq_I64 x12 1) rfl) (sS (sA (sT1 rfl) sT0) sB0 sF0) ?_
                                              refine AL_cons (LR_move (at_tmp 122 _) rfl) (sS (sT1 rfl) sB0 sF0) ?_
                                              refine AL_cutAt 4 ⟨[(0, .inl (is (Sv a0))), (2, .inr (.inl (2, 0))), (4, .inr (.inl (4, 0))), (5, .inl (is (I64 x12))), (6, .inl (is (Sv x13))), (7, .inl (is (I64 x14))), (17, .inr (.inl (17, 0))), (8, .inl (is (I64 x23))), (9, .inl (is (I32 x24))), (112, .inl (is (Bl x46))), (121, .inl (is (I64 x12))), (122, .inl (is (Bl (decide (x12 ≤ 1))))), (123, .inl (is (Bl (decide (x12 ≤ 1))))), (127, .inl (is (Bl ((decide (x12 ≤ 1)) && ((w32 ((BitVec.ofInt 32 x24 ||| BitVec.ofInt 32 32).toNat : Int)) == 110)))))], [(2, pb 297 [is (U8 (0#8)), is (Bl false), is (Sv ([] : List UInt8)), is (I16 0), is (I64 0), is (I32 0)]), (4, gc 355 ([is (Bl x15), is (Bl x16)]) ([is (I64 x18), is (I64 x19)]) (k1 U8) 1 x17), (17, itc a0 x22)]⟩ ?_ ?_
                                              · cases hb : decide (x12 ≤ 1)
                                                · skip
                                                  refine AL_cons (LR_off (b := false) rfl rfl rfl rfl) (sS (sT1 rfl) sB0 sF0) ?_
                                                  refine AL_cons (LR_off (b := false) rfl rfl rfl rfl) (sS (sT1 rfl) sB0 sF0) ?_
                                                  refine AL_cons (LR_off (b := false) rfl rfl rfl rfl) (sS (sT1 rfl) sB0 sF0) ?_
                                                  refine AL_cons (LR_pick (b := false) (at_tmp 123 _) (at_tmp 126 _) (at_c (v' := Bl false) rfl) rfl) (sS (sA (sT1 rfl) (sA (sT1 rfl) sT0)) sB0 sF0) ?_
                                                  exact AL_nil ⟨rfl, weak0 ((sT rfl (sT rfl (sT rfl (sT rfl (sT rfl (sT rfl (sT rfl (sT rfl (sT rfl (sT rfl (sT rfl (sT rfl (sT rfl (sT rfl sT0))))))))))))))) (sub_keep (sub_keep (sub_keep sub_nil)))⟩
                                                · skip
                                                  refine AL_cons (LR_on rfl rfl rfl (LR_move (at_tmp 9 _) rfl)) (sS (sT rfl (sT1 rfl)) sB0 sF0) ?_
                                                  refine AL_cons (LR_on rfl rfl rfl (LR_bin (at_tmp 124 _) (at_c (v' := I32 32) rfl) (or_I32 x24 32) rfl)) (sS (sT rfl (sA (sT1 rfl) sT0)) sB0 sF0) ?_
                                                  refine AL_cons (LR_on rfl rfl rfl (LR_bin (at_tmp 125 _) (at_c (v' := I32 110) rfl) (eql_I32 (w32 ((BitVec.ofInt 32 x24 ||| BitVec.ofInt 32 32).toNat : Int)) 110) rfl)) (sS (sT rfl (sA (sT1 rfl) sT0)) sB0 sF0) ?_
                                                  refine AL_cons (LR_pick (b := true) (at_tmp 123 _) (at_tmp 126 _) (at_c (v' := Bl false) rfl) rfl) (sS (sA (sT1 rfl) (sA (sT1 rfl) sT0)) sB0 sF0) ?_
                                                  exact AL_nil ⟨rfl, weak0 ((sT rfl (sT rfl (sT rfl (sT rfl (sT rfl (sT rfl (sT rfl (sT rfl (sT rfl (sT rfl (sT rfl (sT rfl (sT rfl (sT rfl sT0))))))))))))))) (sub_keep (sub_keep (sub_keep sub_nil)))⟩
                                              refine AL_cons (LR_assign (at_tmp 127 _) rfl) (sS (sT1 rfl) sB0 sF0) ?_
                                              refine AL_nil ?_
                                              exact thenN (cutLeaf (v := (decide (x12 ≤ 1)) && ((w32 ((BitVec.ofInt 32 x24 ||| BitVec.ofInt 32 32).toNat : Int)) == 110)) hr (weak0 ((sT rfl (sT rfl (sT rfl (sT rfl (sT rfl (sT rfl (sT rfl (sT rfl (sT rfl (sT rfl sT0))))))))))) (sub_keep (sub_keep (sub_keep sub_nil)))))
                                            · rintro x47 hr
                                              show AW Hfaa.prog _ _ _ ⟨[(0, .inl (is (Sv a0))), (2, .inr (.inl (2, 0))), (4, .inr (.inl (4, 0))), (5, .inl (is (I64 x12))), (6, .inl (is (Sv x13))), (7, .inl (is (I64 x14))), (17, .inr (.inl (17, 0))), (8, .inl (is (I64 x23))), (9, .inl (is (I32 x24))), (120, .inl (is (Bl x47)))], [(2, pb 297 [is (U8 (0#8)), is (Bl false), is (Sv ([] : List UInt8)), is (I16 0), is (I64 0), is (I32 0)]), (4, gc 355 ([is (Bl x15), is (Bl x16)]) ([is (I64 x18), is (I64 x19)]) (k1 U8) 1 x17), (17, itc a0 x22)]⟩
                                              have hr : some out2 = F311_31 N a0 x12 x13 x14 x15 x16 x17 x18 x19 x22 x23 x24 x47 := hr
                                              refine AW_condT (b := x47) rfl (fun h => ?_) (fun h => ?_)
                                              · have hr := hr.trans (cond_t h)
                                                clear h
                                                refine AW_seq1 ?_
                                                refine AW_region ?_
                                                refine AL_cons (LR_assign (at_c (v' := I64 9) rfl) rfl) (sS sT0 sB0 sF0) ?_
                                                refine AL_cons (LR_assign (at_c (v' := Sv ([110, 97, 110] : List UInt8)) rfl) rfl) (sS sT0 sB0 sF0) ?_
                                                refine AL_cons (LR_assign (at_c (v' := I64 1) rfl) rfl) (sS sT0 sB0 sF0) ?_
                                                refine AL_nil ?_
                                                refine thenN ?_
                                                refine AW_exit ?_
                                                refine blO (by decide) ?_
                                                refine thenX ?_
                                                refine blH ?_
                                                exact thenN (loopNext (x' := (9, ([110, 97, 110] : List UInt8), 1, x15, x16, x17, x18, x19, x22)) hr (weak0 ((sT rfl (sT rfl (sT rfl (sT rfl (sT rfl (sT rfl (sT rfl sT0)))))))) (sub_keep (sub_keep (sub_keep sub_nil)))))
                                              · have hr := hr.trans (cond_f h)
                                                clear h
                                                refine AW_cut (σ := Bool) (fun v => ⟨[(0, .inl (is (Sv a0))), (2, .inr (.inl (2, 0))), (4, .inr (.inl (4, 0))), (5, .inl (is (I64 x12))), (6, .inl (is (Sv x13))), (7, .inl (is (I64 x14))), (17, .inr (.inl (17, 0))), (8, .inl (is (I64 x23))), (9, .inl (is (I32 x24))), (128, .inl (is (Bl v)))], [(2, pb 297 [is (U8 (0#8)), is (Bl false), is (Sv ([] : List UInt8)), is (I16 0), is (I64 0), is (I32 0)]), (4, gc 355 ([is (Bl x15), is (Bl x16)]) ([is (I64 x18), is (I64 x19)]) (k1 U8) 1 x17), (17, itc a0 x22)]⟩) (fun v => some out2 = F311_32 N a0 x12 x13 x14 x15 x16 x17 x18 x19 x22 x23 x24 v) ?_ ?_
                                                · skip
                                                  refine AW_region ?_
                                                  refine AL_cons (LR_move (at_tmp 5 _) rfl) (sS (sT1 rfl) sB0 sF0) ?_
                                                  refine AL_cons (LR_bin (at_tmp 129 _) (at_c (v' := I64 9) rfl) (eql_I64 x12 9) rfl) (sS (sA (sT1 rfl) sT0) sB0 sF0) ?_
                                                  refine AL_cons (LR_move (at_tmp 130 _) rfl) (sS (sT1 rfl) sB0 sF0) ?_
                                                  refine AL_cutAt 5 ⟨[(0, .inl (is (Sv a0))), (2, .inr (.inl (2, 0))), (4, .inr (.inl (4, 0))), (5, .inl (is (I64 x12))), (6, .inl (is (Sv x13))), (7, .inl (is (I64 x14))), (17, .inr (.inl (17, 0))), (8, .inl (is (I64 x23))), (9, .inl (is (I32 x24))), (120, .inl (is (Bl x47))), (129, .inl (is (I64 x12))), (130, .inl (is (Bl (x12 == 9)))), (131, .inl (is (Bl (x12 == 9)))), (136, .inl (is (Bl ((x12 == 9) && (decide (x14 < (x13.length : Int)))))))], [(2, pb 297 [is (U8 (0#8)), is (Bl false), is (Sv ([] : List UInt8)), is (I16 0), is (I64 0), is (I32 0)]), (4, gc 355 ([is (Bl x15), is (Bl x16)]) ([is (I64 x18), is (I64 x19)]) (k1 U8) 1 x17), (17, itc a0 x22)]⟩ ?_ ?_
                                                  · cases hb : x12 == 9
                                                    · skip
                                                      refine AL_cons (LR_off (b := false) rfl rfl rfl rfl) (sS (sT1 rfl) sB0 sF0) ?_
                                                      refine AL_cons (LR_off (b := false) rfl rfl rfl rfl) (sS (sT1 rfl) sB0 sF0) ?_
                                                      refine AL_cons (LR_off (b := false) rfl rfl rfl rfl) (sS (sT1 rfl) sB0 sF0) ?_
                                                      refine AL_cons (LR_off (b := false) rfl rfl rfl rfl) (sS (sT1 rfl) sB0 sF0) ?_
                                                      refine AL_cons (LR_pick (b := false) (at_tmp 131 _) (at_tmp 135 _) (at_c (v' := Bl false) rfl) rfl) (sS (sA (sT1 rfl) (sA (sT1 rfl) sT0)) sB0 sF0) ?_
                                                      exact AL_nil ⟨rfl, weak0 ((sT rfl (sT rfl (sT rfl (sT rfl (sT rfl (sT rfl (sT rfl (sT rfl (sT rfl (sT rfl (sT rfl (sT rfl (sT rfl (sT rfl sT0))))))))))))))) (sub_keep (sub_keep (sub_keep sub_nil)))⟩
                                                    · skip
                                                      refine AL_cons (LR_on rfl rfl rfl (LR_move (at_tmp 7 _) rfl)) (sS (sT rfl (sT1 rfl)) sB0 sF0) ?_
                                                      refine AL_cons (LR_on rfl rfl rfl (LR_move (at_tmp 6 _) rfl)) (sS (sT rfl (sT1 rfl)) sB0 sF0) ?_
                                                      refine AL_cons (LR_on rfl rfl rfl (LR_bi1 (at_tmp 133 _) (len_S Hfaa.underlying9 x13) rfl)) (sS (sT rfl (sT1 rfl)) sB0 sF0) ?_
                                                      refine AL_cons (LR_on rfl rfl rfl (LR_bin (at_tmp 132 _) (at_tmp 134 _) (lss_I64 x14 (x13.length : Int)) rfl)) (sS (sT rfl (sA (sT1 rfl) (sT1 rfl))) sB0 sF0) ?_
                                                      refine AL_cons (LR_pick (b := true) (at_tmp 131 _) (at_tmp 135 _) (at_c (v' := Bl false) rfl) rfl) (sS (sA (sT1 rfl) (sA (sT1 rfl) sT0)) sB0 sF0) ?_
                                                      exact AL_nil ⟨rfl, weak0 ((sT rfl (sT rfl (sT rfl (sT rfl (sT rfl (sT rfl (sT rfl (sT rfl (sT rfl (sT rfl (sT rfl (sT rfl (sT rfl (sT rfl sT0))))))))))))))) (sub_keep (sub_keep (sub_keep sub_nil)))⟩
                                                  refine AL_cons (LR_move (at_tmp 136 _) rfl) (sS (sT1 rfl) sB0 sF0) ?_
                                                  cases hb : (x12 == 9) && (decide (x14 < (x13.length : Int)))
                                                  · have hr := hr.trans (cond_f hb)
                                                    refine AL_cons (LR_off (b := false) rfl rfl rfl rfl) (sS (sT1 rfl) sB0 sF0) ?_
                                                    refine AL_cons (LR_off (b := false) rfl rfl rfl rfl) (sS (sT1 rfl) sB0 sF0) ?_
                                                    refine AL_cons (LR_off (b := false) rfl rfl rfl rfl) (sS (sT1 rfl) sB0 sF0) ?_
                                                    refine AL_cons (LR_off (b := false) rfl rfl rfl rfl) (sS (sT1 rfl) sB0 sF0) ?_
                                                    refine AL_cons (LR_off (b := false) rfl rfl rfl rfl) (sS (sT1 rfl) sB0 sF0) ?_
                                                    refine AL_cons (LR_off (b := false) rfl rfl rfl rfl) (sS (sT1 rfl) sB0 sF0) ?_
                                                    refine AL_cons (LR_off (b := false) rfl rfl rfl rfl) (sS (sT1 rfl) sB0 sF0) ?_
                                                    refine AL_cons (LR_pick (b := false) (at_tmp 137 _) (at_tmp 144 _) (at_c (v' := Bl false) rfl) rfl) (sS (sA (sT1 rfl) (sA (sT1 rfl) sT0)) sB0 sF0) ?_
                                                    refine AL_cons (LR_assign (at_tmp 145 _) rfl) (sS (sT1 rfl) sB0 sF0) ?_
                                                    refine AL_nil ?_
                                                    exact thenN (cutLeaf (v := false) hr (weak0 ((sT rfl (sT rfl (sT rfl (sT rfl (sT rfl (sT rfl (sT rfl (sT rfl (sT rfl (sT rfl sT0))))))))))) (sub_keep (sub_keep (sub_keep sub_nil)))))
                                                  · have hr := hr.trans (cond_t hb)
                                                    refine AL_cons (LR_on rfl rfl rfl (LR_move (at_tmp 9 _) rfl)) (sS (sT rfl (sT1 rfl)) sB0 sF0) ?_
                                                    refine AL_cons (LR_on rfl rfl rfl (LR_bin (at_tmp 138 _) (at_c (v' := I32 32) rfl) (or_I32 x24 32) rfl)) (sS (sT rfl (sA (sT1 rfl) sT0)) sB0 sF0) ?_
                                                    refine AL_cons (LR_on rfl rfl rfl (LR_move (at_tmp 6 _) rfl)) (sS (sT rfl (sT1 rfl)) sB0 sF0) ?_
                                                    refine AL_cons (LR_on rfl rfl rfl (LR_move (at_tmp 7 _) rfl)) (sS (sT rfl (sT1 rfl)) sB0 sF0) ?_
                                                    obtain ⟨hg311, hr⟩ := guard_some hr
                                                    refine AL_cons (LR_on rfl rfl rfl (LR_indexS (i := (x14 : Int)) Hfaa.underlying9 (at_tmp 140 _) (at_tmp 141 _) (dand hg311) rfl)) (sS (sT rfl (sA (sT1 rfl) (sT1 rfl))) sB0 sF0) ?_
                                                    refine AL_cons (LR_on rfl rfl rfl (LR_conv (vx := U8 ((x13.getD ((x14 : Int)).toNat 0).toBitVec)) (at_tmp 142 _) (conv_I32 Hfaa.underlying5 Hfaa.underlying21 (((x13.getD ((x14 : Int)).toNat 0).toBitVec).toNat : Int)) rfl)) (sS (sT rfl (sT1 rfl)) sB0 sF0) ?_
                                                    refine AL_cons (LR_on rfl rfl rfl (LR_bin (at_tmp 139 _) (at_tmp 143 _) (eql_I32 (w32 ((BitVec.ofInt 32 x24 ||| BitVec.ofInt 32 32).toNat : Int)) (w32 (((x13.getD ((x14 : Int)).toNat 0).toBitVec).toNat : Int))) rfl)) (sS (sT rfl (sA (sT1 rfl) (sT1 rfl))) sB0 sF0) ?_
                                                    refine AL_cons (LR_pick (b := true) (at_tmp 137 _) (at_tmp 144 _) (at_c (v' := Bl false) rfl) rfl) (sS (sA (sT1 rfl) (sA (sT1 rfl) sT0)) sB0 sF0) ?_
                                                    refine AL_cons (LR_assign (at_tmp 145 _) rfl) (sS (sT1 rfl) sB0 sF0) ?_
                                                    refine AL_nil ?_
                                                    exact thenN (cutLeaf (v := (w32 ((BitVec.ofInt 32 x24 ||| BitVec.ofInt 32 32).toNat : Int)) == (w32 (((x13.getD ((x14 : Int)).toNat 0).toBitVec).toNat : Int))) hr (weak0 ((sT rfl (sT rfl (sT rfl (sT rfl (sT rfl (sT rfl (sT rfl (sT rfl (sT rfl (sT rfl sT0))))))))))) (sub_keep (sub_keep (sub_keep sub_nil)))))
                                                · rintro x48 hr
                                                  show AW Hfaa.prog _ _ _ ⟨[(0, .inl (is (Sv a0))), (2, .inr (.inl (2, 0))), (4, .inr (.inl (4, 0))), (5, .inl (is (I64 x12))), (6, .inl (is (Sv x13))), (7, .inl (is (I64 x14))), (17, .inr (.inl (17, 0))), (8, .inl (is (I64 x23))), (9, .inl (is (I32 x24))), (128, .inl (is (Bl x48)))], [(2, pb 297 [is (U8 (0#8)), is (Bl false), is (Sv ([] : List UInt8)), is (I16 0), is (I64 0), is (I32 0)]), (4, gc 355 ([is (Bl x15), is (Bl x16)]) ([is (I64 x18), is (I64 x19)]) (k1 U8) 1 x17), (17, itc a0 x22)]⟩
                                                  have hr : some out2 = F311_32 N a0 x12 x13 x14 x15 x16 x17 x18 x19 x22 x23 x24 x48 := hr
                                                  refine AW_condT (b := x48) rfl (fun h => ?_) (fun h => ?_)
                                                  · have hr := hr.trans (cond_t h)
                                                    clear h
                                                    refine AW_cut (σ := Int) (fun v => ⟨[(0, .inl (is (Sv a0))), (2, .inr (.inl (2, 0))), (4, .inr (.inl (4, 0))), (5, .inl (is (I64 x12))), (6, .inl (is (Sv x13))), (7, .inl (is (I64 v))), (17, .inr (.inl (17, 0)))], [(2, pb 297 [is (U8 (0#8)), is (Bl false), is (Sv ([] : List UInt8)), is (I16 0), is (I64 0), is (I32 0)]), (4, gc 355 ([is (Bl x15), is (Bl x16)]) ([is (I64 x18), is (I64 x19)]) (k1 U8) 1 x17), (17, itc a0 x22)]⟩) (fun v => some out2 = F311_33 N a0 x12 x13 x15 x16 x17 x18 x19 x22 v) ?_ ?_
                                                    · skip
                                                      refine AW_region ?_
                                                      refine AL_cons (LR_move (at_tmp 7 _) rfl) (sS (sT1 rfl) sB0 sF0) ?_
                                                      refine AL_cons (LR_bin (at_tmp 146 _) (at_c (v' := I64 1) rfl) (add_I64 x14 1) rfl) (sS (sA (sT1 rfl) sT0) sB0 sF0) ?_
                                                      refine AL_cons (LR_assign (at_tmp 147 _) rfl) (sS (sT1 rfl) sB0 sF0) ?_
                                                      refine AL_nil ?_
                                                      exact thenN (cutLeaf (v := w64 (x14 + 1)) hr (weak0 ((sT rfl (sT rfl (sT rfl (sT rfl (sT rfl (sT rfl (sT rfl sT0)))))))) (sub_keep (sub_keep (sub_keep sub_nil)))))
                                                    · rintro x49 hr
                                                      show AW Hfaa.prog _ _ _ ⟨[(0, .inl (is (Sv a0))), (2, .inr (.inl (2, 0))), (4, .inr (.inl (4, 0))), (5, .inl (is (I64 x12))), (6, .inl (is (Sv x13))), (7, .inl (is (I64 x49))), (17, .inr (.inl (17, 0)))], [(2, pb 297 [is (U8 (0#8)), is (Bl false), is (Sv ([] : List UInt8)), is (I16 0), is (I64 0), is (I32 0)]), (4, gc 355 ([is (Bl x15), is (Bl x16)]) ([is (I64 x18), is (I64 x19)]) (k1 U8) 1 x17), (17, itc a0 x22)]⟩
                                                      have hr : some out2 = F311_33 N a0 x12 x13 x15 x16 x17 x18 x19 x22 x49 := hr
                                                      refine AW_exit ?_
                                                      refine blO (by decide) ?_
                                                      refine thenX ?_
                                                      refine blH ?_
                                                      exact thenN (loopNext (x' := (x12, x13, x49, x15, x16, x17, x18, x19, x22)) hr (weak0 ((sT rfl (sT rfl (sT rfl (sT rfl (sT rfl (sT rfl (sT rfl sT0)))))))) (sub_keep (sub_keep (sub_keep sub_nil)))))
                                                  · have hr := hr.trans (cond_f h)
                                                    clear h
                                                    refine AW_cut (σ := Bool) (fun v => ⟨[(0, .inl (is (Sv a0))), (2, .inr (.inl (2, 0))), (4, .inr (.inl (4, 0))), (6, .inl (is (Sv x13))), (7, .inl (is (I64 x14))), (17, .inr (.inl (17, 0))), (8, .inl (is (I64 x23))), (9, .inl (is (I32 x24))), (148, .inl (is (Bl v)))], [(2, pb 297 [is (U8 (0#8)), is (Bl false), is (Sv ([] : List UInt8)), is (I16 0), is (I64 0), is (I32 0)]), (4, gc 355 ([is (Bl x15), is (Bl x16)]) ([is (I64 x18), is (I64 x19)]) (k1 U8) 1 x17), (17, itc a0 x22)]⟩) (fun v => some out2 = F311_34 N a0 x13 x14 x15 x16 x17 x18 x19 x22 x23 x24 v) ?_ ?_
                                                    · skip
                                                      refine AW_region ?_
                                                      refine AL_cons (LR_move (at_tmp 5 _) rfl) (sS (sT1 rfl) sB0 sF0) ?_
                                                      refine AL_cons (LR_bin (at_tmp 149 _) (at_c (v' := I64 2) rfl) (eql_I64 x12 2) rfl) (sS (sA (sT1 rfl) sT0) sB0 sF0) ?_
                                                      refine AL_cons (LR_move (at_tmp 150 _) rfl) (sS (sT1 rfl) sB0 sF0) ?_
                                                      refine AL_cutAt 3 ⟨[(0, .inl (is (Sv a0))), (2, .inr (.inl (2, 0))), (4, .inr (.inl (4, 0))), (5, .inl (is (I64 x12))), (6, .inl (is (Sv x13))), (7, .inl (is (I64 x14))), (17, .inr (.inl (17, 0))), (8, .inl (is (I64 x23))), (9, .inl (is (I32 x24))), (128, .inl (is (Bl x48))), (149, .inl (is (I64 x12))), (150, .inl (is (Bl (x12 == 2)))), (151, .inl (is (Bl (x12 == 2)))), (154, .inl (is (Bl ((x12 == 2) || (x12 == 3)))))], [(2, pb 297 [is (U8 (0#8)), is (Bl false), is (Sv ([] : List UInt8)), is (I16 0), is (I64 0), is (I32 0)]), (4, gc 355 ([is (Bl x15), is (Bl x16)]) ([is (I64 x18), is (I64 x19)]) (k1 U8) 1 x17), (17, itc a0 x22)]⟩ ?_ ?_
                                                      · cases hb : x12 == 2
                                                        · skip
                                                          refine AL_cons (LR_on rfl rfl rfl (LR_move (at_tmp 5 _) rfl)) (sS (sT rfl (sT1 rfl)) sB0 sF0) ?_
                                                          refine AL_cons (LR_on rfl rfl rfl (LR_bin (at_tmp 152 _) (at_c (v' := I64 3) rfl) (eql_I64 x12 3) rfl)) (sS (sT rfl (sA (sT1 rfl) sT0)) sB0 sF0) ?_
                                                          refine AL_cons (LR_pick (b := false) (at_tmp 151 _) (at_c (v' := Bl true) rfl) (at_tmp 153 _) rfl) (sS (sA (sT1 rfl) (sA sT0 (sT1 rfl))) sB0 sF0) ?_
                                                          exact AL_nil ⟨rfl, weak0 ((sT rfl (sT rfl (sT rfl (sT rfl (sT rfl (sT rfl (sT rfl (sT rfl (sT rfl (sT rfl (sT rfl (sT rfl (sT rfl (sT rfl sT0))))))))))))))) (sub_keep (sub_keep (sub_keep sub_nil)))⟩
                                                        · skip
                                                          refine AL_cons (LR_off (b := true) rfl rfl rfl rfl) (sS (sT1 rfl) sB0 sF0) ?_
                                                          refine AL_cons (LR_off (b := true) rfl rfl rfl rfl) (sS (sT1 rfl) sB0 sF0) ?_
                                                          refine AL_cons (LR_pick (b := true) (at_tmp 151 _) (at_c (v' := Bl true) rfl) (at_tmp 153 _) rfl) (sS (sA (sT1 rfl) (sA sT0 (sT1 rfl))) sB0 sF0) ?_
                                                          exact AL_nil ⟨rfl, weak0 ((sT rfl (sT rfl (sT rfl (sT rfl (sT rfl (sT rfl (sT rfl (sT rfl (sT rfl (sT rfl (sT rfl (sT rfl (sT rfl (sT rfl sT0))))))))))))))) (sub_keep (sub_keep (sub_keep sub_nil)))⟩
                                                      refine AL_cons (LR_move (at_tmp 154 _) rfl) (sS (sT1 rfl) sB0 sF0) ?_
                                                      refine AL_cutAt 3 ⟨[(0, .inl (is (Sv a0))), (2, .inr (.inl (2, 0))), (4, .inr (.inl (4, 0))), (5, .inl (is (I64 x12))), (6, .inl (is (Sv x13))), (7, .inl (is (I64 x14))), (17, .inr (.inl (17, 0))), (8, .inl (is (I64 x23))), (9, .inl (is (I32 x24))), (128, .inl (is (Bl x48))), (149, .inl (is (I64 x12))), (150, .inl (is (Bl (x12 == 2)))), (151, .inl (is (Bl (x12 == 2)))), (154, .inl (is (Bl ((x12 == 2) || (x12 == 3))))), (155, .inl (is (Bl ((x12 == 2) || (x12 == 3))))), (158, .inl (is (Bl (((x12 == 2) || (x12 == 3)) || (x12 == 5)))))], [(2, pb 297 [is (U8 (0#8)), is (Bl false), is (Sv ([] : List UInt8)), is (I16 0), is (I64 0), is (I32 0)]), (4, gc 355 ([is (Bl x15), is (Bl x16)]) ([is (I64 x18), is (I64 x19)]) (k1 U8) 1 x17), (17, itc a0 x22)]⟩ ?_ ?_
                                                      · cases hb : (x12 == 2) || (x12 == 3)
                                                        · skip
                                                          refine AL_cons (LR_on rfl rfl rfl (LR_move (at_tmp 5 _) rfl)) (sS (sT rfl (sT1 rfl)) sB0 sF0) ?_
                                                          refine AL_cons (LR_on rfl rfl rfl (LR_bin (at_tmp 156 _) (at_c (v' := I64 5) rfl) (eql_I64 x12 5) rfl)) (sS (sT rfl (sA (sT1 rfl) sT0)) sB0 sF0) ?_
                                                          refine AL_cons (LR_pick (b := false) (at_tmp 155 _) (at_c (v' := Bl true) rfl) (at_tmp 157 _) rfl) (sS (sA (sT1 rfl) (sA sT0 (sT1 rfl))) sB0 sF0) ?_
                                                          exact AL_nil ⟨rfl, weak0 ((sT rfl (sT rfl (sT rfl (sT rfl (sT rfl (sT rfl (sT rfl (sT rfl (sT rfl (sT rfl (sT rfl (sT rfl (sT rfl (sT rfl (sT rfl (sT rfl sT0))))))))))))))))) (sub_keep (sub_keep (sub_keep sub_nil)))⟩
                                                        · skip
                                                          refine AL_cons (LR_off (b := true) rfl rfl rfl rfl) (sS (sT1 rfl) sB0 sF0) ?_
                                                          refine AL_cons (LR_off (b := true) rfl rfl rfl rfl) (sS (sT1 rfl) sB0 sF0) ?_
                                                          refine AL_cons (LR_pick (b := true) (at_tmp 155 _) (at_c (v' := Bl true) rfl) (at_tmp 157 _) rfl) (sS (sA (sT1 rfl) (sA sT0 (sT1 rfl))) sB0 sF0) ?_
                                                          exact AL_nil ⟨rfl, weak0 ((sT rfl (sT rfl (sT rfl (sT rfl (sT rfl (sT rfl (sT rfl (sT rfl (sT rfl (sT rfl (sT rfl (sT rfl (sT rfl (sT rfl (sT rfl (sT rfl sT0))))))))))))))))) (sub_keep (sub_keep (sub_keep sub_nil)))⟩
                                                      refine AL_cons (LR_move (at_tmp 158 _) rfl) (sS (sT1 rfl) sB0 sF0) ?_
                                                      refine AL_cutAt 4 ⟨[(0, .inl (is (Sv a0))), (2, .inr (.inl (2, 0))), (4, .inr (.inl (4, 0))), (5, .inl (is (I64 x12))), (6, .inl (is (Sv x13))), (7, .inl (is (I64 x14))), (17, .inr (.inl (17, 0))), (8, .inl (is (I64 x23))), (9, .inl (is (I32 x24))), (128, .inl (is (Bl x48))), (149, .inl (is (I64 x12))), (150, .inl (is (Bl (x12 == 2)))), (151, .inl (is (Bl (x12 == 2)))), (154, .inl (is (Bl ((x12 == 2) || (x12 == 3))))), (155, .inl (is (Bl ((x12 == 2) || (x12 == 3))))), (158, .inl (is (Bl (((x12 == 2) || (x12 == 3)) || (x12 == 5))))), (159, .inl (is (Bl (((x12 == 2) || (x12 == 3)) || (x12 == 5))))), (163, .inl (is (Bl ((((x12 == 2) || (x12 == 3)) || (x12 == 5)) && ((w32 ((BitVec.ofInt 32 x24 ||| BitVec.ofInt 32 32).toNat : Int)) == 101)))))], [(2, pb 297 [is (U8 (0#8)), is (Bl false), is (Sv ([] : List UInt8)), is (I16 0), is (I64 0), is (I32 0)]), (4, gc 355 ([is (Bl x15), is (Bl x16)]) ([is (I64 x18), is (I64 x19)]) (k1 U8) 1 x17), (17, itc a0 x22)]⟩ ?_ ?_
                                                      · cases hb : ((x12 == 2) || (x12 == 3)) || (x12 == 5)
                                                        · skip
                                                          refine AL_cons (LR_off (b := false) rfl rfl rfl rfl) (sS (sT1 rfl) sB0 sF0) ?_
                                                          refine AL_cons (LR_off (b := false) rfl rfl rfl rfl) (sS (sT1 rfl) sB0 sF0) ?_
                                                          refine AL_cons (LR_off (b := false) rfl rfl rfl rfl) (sS (sT1 rfl) sB0 sF0) ?_
                                                          refine AL_cons (LR_pick (b := false) (at_tmp 159 _) (at_tmp 162 _) (at_c (v' := Bl false) rfl) rfl) (sS (sA (sT1 rfl) (sA (sT1 rfl) sT0)) sB0 sF0) ?_
                                                          exact AL_nil ⟨rfl, weak0 ((sT rfl (sT rfl (sT rfl (sT rfl (sT rfl (sT rfl (sT rfl (sT rfl (sT rfl (sT rfl (sT rfl (sT rfl (sT rfl (sT rfl (sT rfl (sT rfl (sT rfl (sT rfl sT0))))))))))))))))))) (sub_keep (sub_keep (sub_keep sub_nil)))⟩
                                                        · skip
                                                          refine AL_cons (LR_on rfl rfl rfl (LR_move (at_tmp 9 _) rfl)) (sS (sT rfl (sT1 rfl)) sB0 sF0) ?_
                                                          refine AL_cons (LR_on rfl rfl rfl (LR_bin (at_tmp 160 _) (at_c (v' := I32 32) rfl) (or_I32 x24 32) rfl)) (sS (sT rfl (sA (sT1 rfl) sT0)) sB0 sF0) ?_
                                                          refine AL_cons (LR_on rfl rfl rfl (LR_bin (at_tmp 161 _) (at_c (v' := I32 101) rfl) (eql_I32 (w32 ((BitVec.ofInt 32 x24 ||| BitVec.ofInt 32 32).toNat : Int)) 101) rfl)) (sS (sT rfl (sA (sT1 rfl) sT0)) sB0 sF0) ?_
                                                          refine AL_cons (LR_pick (b := true) (at_tmp 159 _) (at_tmp 162 _) (at_c (v' := Bl false) rfl) rfl) (sS (sA (sT1 rfl) (sA (sT1 rfl) sT0)) sB0 sF0) ?_
                                                          exact AL_nil ⟨rfl, weak0 ((sT rfl (sT rfl (sT rfl (sT rfl (sT rfl (sT rfl (sT rfl (sT rfl (sT rfl (sT rfl (sT rfl (sT rfl (sT rfl (sT rfl (sT rfl (sT rfl (sT rfl (sT rfl sT0))))))))))))))))))) (sub_keep (sub_keep (sub_keep sub_nil)))⟩
                                                      refine AL_cons (LR_assign (at_tmp 163 _) rfl) (sS (sT1 rfl) sB0 sF0) ?_
                                                      refine AL_nil ?_
                                                      exact thenN (cutLeaf (v := (((x12 == 2) || (x12 == 3)) || (x12 == 5)) && ((w32 ((BitVec.ofInt 32 x24 ||| BitVec.ofInt 32 32).toNat : Int)) == 101)) hr (weak0 ((sT rfl (sT rfl (sT rfl (sT rfl (sT rfl (sT rfl (sT rfl (sT rfl (sT rfl sT0)))))))))) (sub_keep (sub_keep (sub_keep sub_nil)))))
                                                    · rintro x50 hr
                                                      show AW Hfaa.prog _ _ _ ⟨[(0, .inl (is (Sv a0))), (2, .inr (.inl (2, 0))), (4, .inr (.inl (4, 0))), (6, .inl (is (Sv x13))), (7, .inl (is (I64 x14))), (17, .inr (.inl (17, 0))), (8, .inl (is (I64 x23))), (9, .inl (is (I32 x24))), (148, .inl (is (Bl x50)))], [(2, pb 297 [is (U8 (0#8)), is (Bl false), is (Sv ([] : List UInt8)), is (I16 0), is (I64 0), is (I32 0)]), (4, gc 355 ([is (Bl x15), is (Bl x16)]) ([is (I64 x18), is (I64 x19)]) (k1 U8) 1 x17), (17, itc a0 x22)]⟩
                                                      have hr : some out2 = F311_34 N a0 x13 x14 x15 x16 x17 x18 x19 x22 x23 x24 x50 := hr
                                                      refine AW_condT (b := x50) rfl (fun h => ?_) (fun h => ?_)
                                                      · have hr := hr.trans (cond_t h)
                                                        clear h
                                                        refine AW_seq1 ?_
                                                        refine AW_region ?_
                                                        refine AL_cons (LR_assign (at_c (v' := I64 6) rfl) rfl) (sS sT0 sB0 sF0) ?_
                                                        refine AL_nil ?_
                                                        refine thenN ?_
                                                        refine AW_exit ?_
                                                        refine blO (by decide) ?_
                                                        refine thenX ?_
                                                        refine blH ?_
                                                        exact thenN (loopNext (x' := (6, x13, x14, x15, x16, x17, x18, x19, x22)) hr (weak0 ((sT rfl (sT rfl (sT rfl (sT rfl (sT rfl (sT rfl (sT rfl sT0)))))))) (sub_keep (sub_keep (sub_keep sub_nil)))))
                                                      · have hr := hr.trans (cond_f h)
                                                        clear h
                                                        refine AW_skip ?_
                                                        refine blN ?_
                                                        exact thenN (cutLeaf (v := ()) hr (weak0 ((sT rfl (sT rfl (sT rfl sT0)))) (sub_keep (sub_drop (sub_drop sub_nil)))))
                  · rintro _ hr
                    show AW Hfaa.prog _ _ _ ⟨[(2, .inr (.inl (2, 0))), (8, .inl (is (I64 x23))), (9, .inl (is (I32 x24)))], [(2, pb 297 [is (U8 (0#8)), is (Bl false), is (Sv ([] : List UInt8)), is (I16 0), is (I64 0), is (I32 0)])]⟩
                    have hr : some out2 = F311_8 N x23 x24 := hr
                    refine AW_seq1 ?_
                    refine AW_region ?_
                    refine AL_cons (LR_move (at_tmp 8 _) rfl) (sS (sT1 rfl) sB0 sF0) ?_
                    refine AL_cons (LR_move (at_tmp 9 _) rfl) (sS (sT1 rfl) sB0 sF0) ?_
                    refine AL_cons (bl297 (parts_cons (i := 0) (off := 0) (at_c (v' := U8 (3#8)) rfl) (cells_one (one_is rfl)) rfl rfl (parts_cons (i := 2) (off := 4) (at_tmp 164 _) (cells_one (one_is rfl)) rfl rfl (parts_cons (i := 3) (off := 5) (at_tmp 165 _) (cells_one (one_is rfl)) rfl rfl parts_nil))) rfl rfl) (sS (sA sT0 (sA (sT1 rfl) (sA (sT1 rfl) sT0))) sB0 sF0) ?_
                    refine AL_cons (LR_store (at_tmp 2 _) (at_tmp 166 _) (cells_agg _) (onC (one_is rfl) (onC (one_is rfl) (onC (one_is rfl) (onC (one_is rfl) (onC (one_is rfl) (onC (one_is rfl) onN)))))) sz297 rfl rfl) (sS (sA (sT1 rfl) (sT1 rfl)) (sB1 rfl) sF0) ?_
                    refine AL_nil ?_
                    refine thenN ?_
                    refine AW_ret ?_
                    refine blR ?_
                    obtain ⟨r', hro, hr⟩ := map_inr hr
                    refine thenR (loopOut hro (fun he => ?_))
                    rw [he] at hr
                    refine blR ?_
                    refine thenR ?_
                    refine scR ?_
                    obtain rfl := Option.some.inj hr
                    exact res1 rfl (rvC rfl rfl ag297 sz297 rfl)
              · have hr := hr.trans (cond_f h)
                clear h
                refine AW_exit ?_
                refine thenX ?_
                obtain ⟨r', hro, hr⟩ := map_inr hr
                refine thenX (loopOut hro (fun he => ?_))
                rw [he] at hr
                refine blH ?_
                exact thenN (cutLeaf (v := (x12, x13, x14, x15, x16, x17, x18, x19)) hr (weak0 ((sT rfl (sT rfl (sT rfl (sT rfl (sT rfl (sT rfl sT0))))))) (sub_keep (sub_keep (sub_drop sub_nil)))))
          · rintro ⟨x4, x5, x6, x7, x8, x9, x10, x11⟩ hr
            show AW Hfaa.prog _ _ _ ⟨[(0, .inl (is (Sv a0))), (2, .inr (.inl (2, 0))), (4, .inr (.inl (4, 0))), (5, .inl (is (I64 x4))), (6, .inl (is (Sv x5))), (7, .inl (is (I64 x6)))], [(2, pb 297 [is (U8 (0#8)), is (Bl false), is (Sv ([] : List UInt8)), is (I16 0), is (I64 0), is (I32 0)]), (4, gc 355 ([is (Bl x7), is (Bl x8)]) ([is (I64 x10), is (I64 x11)]) (k1 U8) 1 x9)]⟩
            have hr : some r = F311_4 N a0 x4 x5 x6 x7 x8 x9 x10 x11 := hr
            refine AW_seq1 ?_
            refine AW_region ?_
            refine AL_opn 4 1001 (fun sv => [is (Bl x7), is (Bl x8), is ( sv), is (I64 x10), is (I64 x11)]) rfl rfl (fun _ => by first | rfl | simp) ?_
            intro sv1 hsv1
            refine AL_frzRow (fun H => (nsq (k1 U8) 1 x9).p H sv1) 1001 ⟨[(0, .inl (is (Sv a0))), (2, .inr (.inl (2, 0))), (4, .inr (.inl (4, 0))), (5, .inl (is (I64 x4))), (6, .inl (is (Sv x5))), (7, .inl (is (I64 x6)))], [(2, pb 297 [is (U8 (0#8)), is (Bl false), is (Sv ([] : List UInt8)), is (I16 0), is (I64 0), is (I32 0)]), (4, pb 355 [is (Bl x7), is (Bl x8), ns U8 x9, is (I64 x10), is (I64 x11)])]⟩ k1_len rfl (fun _ h => h) (cbK rfl (cbC rfl (cvl_cons cv_refl (cvl_cons cv_refl (cvl_cons (cv_sv (fun _ h => nsq_k1 h)) (cvl_cons cv_refl (cvl_cons cv_refl cvl_nil))))) (cbD cb0))) (ctC rfl cv_refl (ctP rfl rfl (ctP rfl rfl (ctC rfl cv_refl (ctC rfl cv_refl (ctC rfl cv_refl ct0)))))) ?_
            refine AL_cons (LR_loads (at_tmp 4 _) ag355 sz355 rfl rfl rfl) (sS (sT1 rfl) (sB1 rfl) sF0) ?_
            refine AL_cons (LR_move (at_tmp 5 _) rfl) (sS (sT1 rfl) sB0 sF0) ?_
            refine AL_cons (LR_move (at_tmp 6 _) rfl) (sS (sT1 rfl) sB0 sF0) ?_
            refine AL_cons (LR_move (at_tmp 7 _) rfl) (sS (sT1 rfl) sB0 sF0) ?_
            refine AL_cons (LR_move (at_tmp 0 _) rfl) (sS (sT1 rfl) sB0 sF0) ?_
            refine AL_cons (LR_bi1 (at_tmp 171 _) (len_S Hfaa.underlying9 a0) rfl) (sS (sT1 rfl) sB0 sF0) ?_
            obtain ⟨y2, hy2, hr⟩ := bind_some hr
            refine AL_cons (LR_call Hfaa.func383 rfl rfl (C383 N x7 x8 x9 x10 x11 x4 x5 x6 (a0.length : Int) y2 hy2) (all_cons (at_tmp 167 _) (all_cons (at_tmp 168 _) (all_cons (at_tmp 169 _) (all_cons (at_tmp 170 _) (all_cons (at_tmp 172 _) all_nil))))) rfl) (sS (sA (sT1 rfl) (sA (sT1 rfl) (sA (sT1 rfl) (sA (sT1 rfl) (sA (sT1 rfl) sT0))))) sB0 sF0) ?_
            refine AL_cons (LR_store (at_tmp 2 _) (at_tmp 173 _) (cells_agg _) (onC (one_is rfl) (onC (one_is rfl) (onC (one_is rfl) (onC (one_is rfl) (onC (one_is rfl) (onC (one_is rfl) onN)))))) sz297 rfl rfl) (sS (sA (sT1 rfl) (sT1 rfl)) (sB1 rfl) sF0) ?_
            refine AL_nil ?_
            refine thenN ?_
            refine AW_ret ?_
            refine scR ?_
            obtain rfl := Option.some.inj hr
            exact res1 rfl (rvC rfl rfl ag297 sz297 rfl)
end Go.Proofs.YfwaawGreat
