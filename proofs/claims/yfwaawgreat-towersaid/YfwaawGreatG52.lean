import Derived.Test.YfwaawGreatG20
namespace Go.Proofs.YfwaawGreat
open Go.Aw
set_option linter.unusedVariables false
set_option maxRecDepth 100000
set_option maxHeartbeats 1000000
/-- hexa.Scan -/
def F323_9 (N : Nat) (x11 : Bool) (x12 : List UInt8) (x13 : Int) (x14 : Bool) : Option (BitVec 8 × Bool × List UInt8 × Int × Int × Int) := bif x14 then some ((4#8, false, ([] : List UInt8), 0, 0, 0)) else some (0#8, x11, x12, x13, 0, 0)
def F323_8 (N : Nat) (x10 : Bool) (x11 : Bool) (x12 : List UInt8) (x13 : Int) : Option (BitVec 8 × Bool × List UInt8 × Int × Int × Int) := F323_9 N x11 x12 x13 (!x10)
def F323_7 (N : Nat) (x3 : Bool) (x5 : Int) (x8 : NS (BitVec 8)) (x9 : Int) : Option (BitVec 8 × Bool × List UInt8 × Int × Int × Int) := (F284 N x3 (bys x8.2.1 x8.2.2) (w64 (x9 - (w64 (4 * x5))))).bind fun y8 => F323_8 N y8.2.2.2 y8.1 y8.2.1 y8.2.2.1
def F323_10 (N : Nat) (x3 : Bool) (x4 : Bool) (x5 : Int) (x6 : Int) (x8 : NS (BitVec 8)) : Option (BitVec 8 × Bool × List UInt8 × Int × Int × Int) := bif x4 then F323_7 N x3 x5 x8 (w64 (0 - x6)) else F323_7 N x3 x5 x8 x6
def F323_6 (N : Nat) (x3 : Bool) (x4 : Bool) (x5 : Int) (x6 : Int) (x8 : NS (BitVec 8)) : Option (BitVec 8 × Bool × List UInt8 × Int × Int × Int) := F323_10 N x3 x4 x5 x6 x8
def F323_11 (N : Nat) (a0 : List UInt8) (x3 : Bool) (x4 : Bool) (x5 : Int) (x6 : Int) (x8 : NS (BitVec 8)) (x15 : Bool) : Option (BitVec 8 × Bool × List UInt8 × Int × Int × Int) := bif x15 then some ((3#8, false, ([] : List UInt8), 0, (a0.length : Int), (-1))) else F323_6 N x3 x4 x5 x6 x8
def F323_5 (N : Nat) (a0 : List UInt8) (x3 : Bool) (x4 : Bool) (x5 : Int) (x6 : Int) (x7 : Int) (x8 : NS (BitVec 8)) : Option (BitVec 8 × Bool × List UInt8 × Int × Int × Int) := F323_11 N a0 x3 x4 x5 x6 x8 (x7 != 10)
def F323_20 (N : Nat) (a0 : List UInt8) (x17 : Bool) (x18 : Int) (x19 : Int) (x21 : NS (BitVec 8)) (x24 : Nat) (x30 : Bool) : Option ((Bool × Bool × Int × Int × Int × NS (BitVec 8) × Nat) ⊕ (BitVec 8 × Bool × List UInt8 × Int × Int × Int)) := some (.inl (x30, x17, x18, x19, 1, x21, x24))
def F323_22 (N : Nat) (a0 : List UInt8) (x16 : Bool) (x17 : Bool) (x18 : Int) (x19 : Int) (x21 : NS (BitVec 8)) (x24 : Nat) : Option ((Bool × Bool × Int × Int × Int × NS (BitVec 8) × Nat) ⊕ (BitVec 8 × Bool × List UInt8 × Int × Int × Int)) := some (.inl (x16, x17, x18, x19, 2, x21, x24))
def F323_24 (N : Nat) (a0 : List UInt8) (x16 : Bool) (x17 : Bool) (x18 : Int) (x19 : Int) (x21 : NS (BitVec 8)) (x24 : Nat) : Option ((Bool × Bool × Int × Int × Int × NS (BitVec 8) × Nat) ⊕ (BitVec 8 × Bool × List UInt8 × Int × Int × Int)) := some (.inl (x16, x17, x18, x19, 3, x21, x24))
def F323_26 (N : Nat) (a0 : List UInt8) (x16 : Bool) (x17 : Bool) (x18 : Int) (x19 : Int) (x24 : Nat) (x34 : NS (BitVec 8)) : Option ((Bool × Bool × Int × Int × Int × NS (BitVec 8) × Nat) ⊕ (BitVec 8 × Bool × List UInt8 × Int × Int × Int)) := some (.inl (x16, x17, x18, x19, 4, x34, x24))
def F323_29 (N : Nat) (a0 : List UInt8) (x16 : Bool) (x17 : Bool) (x19 : Int) (x24 : Nat) (x36 : NS (BitVec 8)) (x37 : Int) : Option ((Bool × Bool × Int × Int × Int × NS (BitVec 8) × Nat) ⊕ (BitVec 8 × Bool × List UInt8 × Int × Int × Int)) := some (.inl (x16, x17, x37, x19, 7, x36, x24))
def F323_28 (N : Nat) (a0 : List UInt8) (x16 : Bool) (x17 : Bool) (x18 : Int) (x19 : Int) (x24 : Nat) (x36 : NS (BitVec 8)) : Option ((Bool × Bool × Int × Int × Int × NS (BitVec 8) × Nat) ⊕ (BitVec 8 × Bool × List UInt8 × Int × Int × Int)) := F323_29 N a0 x16 x17 x19 x24 x36 (w64 (x18 + 1))
def F323_31 (N : Nat) (a0 : List UInt8) (x16 : Bool) (x17 : Bool) (x18 : Int) (x19 : Int) (x21 : NS (BitVec 8)) (x24 : Nat) : Option ((Bool × Bool × Int × Int × Int × NS (BitVec 8) × Nat) ⊕ (BitVec 8 × Bool × List UInt8 × Int × Int × Int)) := some (.inl (x16, x17, x18, x19, 6, x21, x24))
def F323_33 (N : Nat) (a0 : List UInt8) (x16 : Bool) (x17 : Bool) (x18 : Int) (x19 : Int) (x21 : NS (BitVec 8)) (x24 : Nat) : Option ((Bool × Bool × Int × Int × Int × NS (BitVec 8) × Nat) ⊕ (BitVec 8 × Bool × List UInt8 × Int × Int × Int)) := some (.inl (x16, x17, x18, x19, 5, x21, x24))
def F323_35 (N : Nat) (a0 : List UInt8) (x16 : Bool) (x17 : Bool) (x18 : Int) (x19 : Int) (x21 : NS (BitVec 8)) (x24 : Nat) : Option ((Bool × Bool × Int × Int × Int × NS (BitVec 8) × Nat) ⊕ (BitVec 8 × Bool × List UInt8 × Int × Int × Int)) := some (.inl (x16, x17, x18, x19, 8, x21, x24))
def F323_37 (N : Nat) (a0 : List UInt8) (x16 : Bool) (x18 : Int) (x19 : Int) (x21 : NS (BitVec 8)) (x24 : Nat) (x42 : Bool) : Option ((Bool × Bool × Int × Int × Int × NS (BitVec 8) × Nat) ⊕ (BitVec 8 × Bool × List UInt8 × Int × Int × Int)) := some (.inl (x16, x42, x18, x19, 9, x21, x24))
def F323_39 (N : Nat) (a0 : List UInt8) (x16 : Bool) (x17 : Bool) (x18 : Int) (x21 : NS (BitVec 8)) (x24 : Nat) (x44 : Int) : Option ((Bool × Bool × Int × Int × Int × NS (BitVec 8) × Nat) ⊕ (BitVec 8 × Bool × List UInt8 × Int × Int × Int)) := some (.inl (x16, x17, x18, x44, 10, x21, x24))
def F323_38 (N : Nat) (a0 : List UInt8) (x16 : Bool) (x17 : Bool) (x18 : Int) (x19 : Int) (x21 : NS (BitVec 8)) (x24 : Nat) (x25 : Int) (x26 : Int) (x43 : Bool) : Option ((Bool × Bool × Int × Int × Int × NS (BitVec 8) × Nat) ⊕ (BitVec 8 × Bool × List UInt8 × Int × Int × Int)) := bif x43 then F323_39 N a0 x16 x17 x18 x21 x24 (min (w64 ((w64 (10 * x19)) + (w64 (w32 (x26 - 48))))) 1000000) else (some ((3#8, false, ([] : List UInt8), 0, x25, x26))).map Sum.inr
def F323_36 (N : Nat) (a0 : List UInt8) (x16 : Bool) (x17 : Bool) (x18 : Int) (x19 : Int) (x20 : Int) (x21 : NS (BitVec 8)) (x24 : Nat) (x25 : Int) (x26 : Int) (x41 : Bool) : Option ((Bool × Bool × Int × Int × Int × NS (BitVec 8) × Nat) ⊕ (BitVec 8 × Bool × List UInt8 × Int × Int × Int)) := bif x41 then F323_37 N a0 x16 x18 x19 x21 x24 (x26 == 45) else F323_38 N a0 x16 x17 x18 x19 x21 x24 x25 x26 (((decide (x20 ≥ 8)) && (decide (48 ≤ x26))) && (decide (x26 ≤ 57)))
def F323_34 (N : Nat) (a0 : List UInt8) (x16 : Bool) (x17 : Bool) (x18 : Int) (x19 : Int) (x20 : Int) (x21 : NS (BitVec 8)) (x24 : Nat) (x25 : Int) (x26 : Int) (x28 : Bool) (x40 : Bool) : Option ((Bool × Bool × Int × Int × Int × NS (BitVec 8) × Nat) ⊕ (BitVec 8 × Bool × List UInt8 × Int × Int × Int)) := bif x40 then F323_35 N a0 x16 x17 x18 x19 x21 x24 else F323_36 N a0 x16 x17 x18 x19 x20 x21 x24 x25 x26 ((x20 == 8) && x28)
def F323_32 (N : Nat) (a0 : List UInt8) (x16 : Bool) (x17 : Bool) (x18 : Int) (x19 : Int) (x20 : Int) (x21 : NS (BitVec 8)) (x24 : Nat) (x25 : Int) (x26 : Int) (x28 : Bool) (x39 : Bool) : Option ((Bool × Bool × Int × Int × Int × NS (BitVec 8) × Nat) ⊕ (BitVec 8 × Bool × List UInt8 × Int × Int × Int)) := bif x39 then F323_33 N a0 x16 x17 x18 x19 x21 x24 else F323_34 N a0 x16 x17 x18 x19 x20 x21 x24 x25 x26 x28 ((((x20 == 4) || (x20 == 5)) || (x20 == 7)) && ((w32 ((BitVec.ofInt 32 x26 ||| BitVec.ofInt 32 32).toNat : Int)) == 112))
def F323_30 (N : Nat) (a0 : List UInt8) (x16 : Bool) (x17 : Bool) (x18 : Int) (x19 : Int) (x20 : Int) (x21 : NS (BitVec 8)) (x24 : Nat) (x25 : Int) (x26 : Int) (x28 : Bool) (x38 : Bool) : Option ((Bool × Bool × Int × Int × Int × NS (BitVec 8) × Nat) ⊕ (BitVec 8 × Bool × List UInt8 × Int × Int × Int)) := bif x38 then F323_31 N a0 x16 x17 x18 x19 x21 x24 else F323_32 N a0 x16 x17 x18 x19 x20 x21 x24 x25 x26 x28 ((x20 == 4) && (x26 == 46))
def F323_27 (N : Nat) (a0 : List UInt8) (x16 : Bool) (x17 : Bool) (x18 : Int) (x19 : Int) (x20 : Int) (x21 : NS (BitVec 8)) (x24 : Nat) (x25 : Int) (x26 : Int) (x28 : Bool) (x35 : Bool) : Option ((Bool × Bool × Int × Int × Int × NS (BitVec 8) × Nat) ⊕ (BitVec 8 × Bool × List UInt8 × Int × Int × Int)) := bif x35 then bif decide (x21.2.1 < 4294967296) then F323_28 N a0 x16 x17 x18 x19 x24 (app x21 (BitVec.ofInt 8 x26)) else none else F323_30 N a0 x16 x17 x18 x19 x20 x21 x24 x25 x26 x28 ((x20 == 3) && (x26 == 46))
def F323_25 (N : Nat) (a0 : List UInt8) (x16 : Bool) (x17 : Bool) (x18 : Int) (x19 : Int) (x20 : Int) (x21 : NS (BitVec 8)) (x24 : Nat) (x25 : Int) (x26 : Int) (x27 : Bool) (x28 : Bool) (x33 : Bool) : Option ((Bool × Bool × Int × Int × Int × NS (BitVec 8) × Nat) ⊕ (BitVec 8 × Bool × List UInt8 × Int × Int × Int)) := bif x33 then bif decide (x21.2.1 < 4294967296) then F323_26 N a0 x16 x17 x18 x19 x24 (app x21 (BitVec.ofInt 8 x26)) else none else F323_27 N a0 x16 x17 x18 x19 x20 x21 x24 x25 x26 x28 (((decide (x20 ≥ 5)) && (decide (x20 ≤ 7))) && x27)
def F323_23 (N : Nat) (a0 : List UInt8) (x16 : Bool) (x17 : Bool) (x18 : Int) (x19 : Int) (x20 : Int) (x21 : NS (BitVec 8)) (x24 : Nat) (x25 : Int) (x26 : Int) (x27 : Bool) (x28 : Bool) (x32 : Bool) : Option ((Bool × Bool × Int × Int × Int × NS (BitVec 8) × Nat) ⊕ (BitVec 8 × Bool × List UInt8 × Int × Int × Int)) := bif x32 then F323_24 N a0 x16 x17 x18 x19 x21 x24 else F323_25 N a0 x16 x17 x18 x19 x20 x21 x24 x25 x26 x27 x28 (((x20 == 3) || (x20 == 4)) && x27)
def F323_21 (N : Nat) (a0 : List UInt8) (x16 : Bool) (x17 : Bool) (x18 : Int) (x19 : Int) (x20 : Int) (x21 : NS (BitVec 8)) (x24 : Nat) (x25 : Int) (x26 : Int) (x27 : Bool) (x28 : Bool) (x31 : Bool) : Option ((Bool × Bool × Int × Int × Int × NS (BitVec 8) × Nat) ⊕ (BitVec 8 × Bool × List UInt8 × Int × Int × Int)) := bif x31 then F323_22 N a0 x16 x17 x18 x19 x21 x24 else F323_23 N a0 x16 x17 x18 x19 x20 x21 x24 x25 x26 x27 x28 ((x20 == 2) && ((w32 ((BitVec.ofInt 32 x26 ||| BitVec.ofInt 32 32).toNat : Int)) == 120))
def F323_19 (N : Nat) (a0 : List UInt8) (x16 : Bool) (x17 : Bool) (x18 : Int) (x19 : Int) (x20 : Int) (x21 : NS (BitVec 8)) (x24 : Nat) (x25 : Int) (x26 : Int) (x27 : Bool) (x28 : Bool) (x29 : Bool) : Option ((Bool × Bool × Int × Int × Int × NS (BitVec 8) × Nat) ⊕ (BitVec 8 × Bool × List UInt8 × Int × Int × Int)) := bif x29 then F323_20 N a0 x17 x18 x19 x21 x24 (x26 == 45) else F323_21 N a0 x16 x17 x18 x19 x20 x21 x24 x25 x26 x27 x28 ((decide (x20 ≤ 1)) && (x26 == 48))
def F323_18 (N : Nat) (a0 : List UInt8) (x16 : Bool) (x17 : Bool) (x18 : Int) (x19 : Int) (x20 : Int) (x21 : NS (BitVec 8)) (x24 : Nat) (x25 : Int) (x26 : Int) (x27 : Bool) (x28 : Bool) : Option ((Bool × Bool × Int × Int × Int × NS (BitVec 8) × Nat) ⊕ (BitVec 8 × Bool × List UInt8 × Int × Int × Int)) := F323_19 N a0 x16 x17 x18 x19 x20 x21 x24 x25 x26 x27 x28 ((x20 == 0) && x28)
def F323_17 (N : Nat) (a0 : List UInt8) (x16 : Bool) (x17 : Bool) (x18 : Int) (x19 : Int) (x20 : Int) (x21 : NS (BitVec 8)) (x24 : Nat) (x25 : Int) (x26 : Int) (x27 : Bool) : Option ((Bool × Bool × Int × Int × Int × NS (BitVec 8) × Nat) ⊕ (BitVec 8 × Bool × List UInt8 × Int × Int × Int)) := F323_18 N a0 x16 x17 x18 x19 x20 x21 x24 x25 x26 x27 ((x26 == 43) || (x26 == 45))
def F323_16 (N : Nat) (a0 : List UInt8) (x16 : Bool) (x17 : Bool) (x18 : Int) (x19 : Int) (x20 : Int) (x21 : NS (BitVec 8)) (x24 : Nat) (x25 : Int) (x26 : Int) : Option ((Bool × Bool × Int × Int × Int × NS (BitVec 8) × Nat) ⊕ (BitVec 8 × Bool × List UInt8 × Int × Int × Int)) := lt (F285 x26) fun y14 => F323_17 N a0 x16 x17 x18 x19 x20 x21 x24 x25 x26 (decide (y14 ≥ 0))
def F323_15 (N : Nat) (a0 : List UInt8) (x16 : Bool) (x17 : Bool) (x18 : Int) (x19 : Int) (x20 : Int) (x21 : NS (BitVec 8)) (x22 : Nat) (x24 : Nat) : Option ((Bool × Bool × Int × Int × Int × NS (BitVec 8) × Nat) ⊕ (BitVec 8 × Bool × List UInt8 × Int × Int × Int)) := bif Nat.blt x22 a0.length then bif Nat.blt x22 a0.length then F323_16 N a0 x16 x17 x18 x19 x20 x21 x24 (x22 : Int) (runeAt a0 x22) else none else none
def F323_14 (N : Nat) (a0 : List UInt8) (x16 : Bool) (x17 : Bool) (x18 : Int) (x19 : Int) (x20 : Int) (x21 : NS (BitVec 8)) (x22 : Nat) (x23 : Bool) (x24 : Nat) : Option ((Bool × Bool × Int × Int × Int × NS (BitVec 8) × Nat) ⊕ (BitVec 8 × Bool × List UInt8 × Int × Int × Int)) := bif x23 then F323_15 N a0 x16 x17 x18 x19 x20 x21 x22 x24 else (F323_5 N a0 x16 x17 x18 x19 x20 x21).map Sum.inr
def F323_L13b (N : Nat) (a0 : List UInt8) (x16 : Bool) (x17 : Bool) (x18 : Int) (x19 : Int) (x20 : Int) (x21 : NS (BitVec 8)) (x22 : Nat) : Option ((Bool × Bool × Int × Int × Int × NS (BitVec 8) × Nat) ⊕ (BitVec 8 × Bool × List UInt8 × Int × Int × Int)) := F323_14 N a0 x16 x17 x18 x19 x20 x21 x22 (Nat.blt x22 a0.length) (nxt a0 x22)
def F323_L13 (N : Nat) (a0 : List UInt8) : (Bool × Bool × Int × Int × Int × NS (BitVec 8) × Nat) → Option ((Bool × Bool × Int × Int × Int × NS (BitVec 8) × Nat) ⊕ (BitVec 8 × Bool × List UInt8 × Int × Int × Int)) := fun v => F323_L13b N a0 v.1 v.2.1 v.2.2.1 v.2.2.2.1 v.2.2.2.2.1 v.2.2.2.2.2.1 v.2.2.2.2.2.2
def F323_12 (N : Nat) (a0 : List UInt8) (x2 : NS (BitVec 8)) : Option (BitVec 8 × Bool × List UInt8 × Int × Int × Int) := iterL (F323_L13 N a0) N (false, false, 0, 0, 0, x2, 0)
def F323_4 (N : Nat) (a0 : List UInt8) (x2 : NS (BitVec 8)) : Option (BitVec 8 × Bool × List UInt8 × Int × Int × Int) := F323_12 N a0 x2
def F323_3 (N : Nat) (a0 : List UInt8) (x2 : NS (BitVec 8)) : Option (BitVec 8 × Bool × List UInt8 × Int × Int × Int) := F323_4 N a0 x2
def F323_2 (N : Nat) (a0 : List UInt8) (x2 : NS (BitVec 8)) : Option (BitVec 8 × Bool × List UInt8 × Int × Int × Int) := F323_3 N a0 x2
def F323_1 (N : Nat) (a0 : List UInt8) (x1 : Bool) : Option (BitVec 8 × Bool × List UInt8 × Int × Int × Int) := bif x1 then some ((4#8, false, ([] : List UInt8), 0, 0, 0)) else F323_2 N a0 (true, 0, fun _ => 0#8)
def F323 (N : Nat) (a0 : List UInt8) : Option (BitVec 8 × Bool × List UInt8 × Int × Int × Int) := F323_1 N a0 (decide ((a0.length : Int) > 1024))
theorem C323 (N : Nat) (a0 : List UInt8) (r : BitVec 8 × Bool × List UInt8 × Int × Int × Int) (hr : some r = F323 N a0) : Aw.Fn Hfaa.prog 323 [is (Sv a0)] (agg [is (U8 r.1), is (Bl r.2.1), is (Sv r.2.2.1), is (I16 r.2.2.2.1), is (I64 r.2.2.2.2.1), is (I32 r.2.2.2.2.2)]) := by
  refine fn_intro Hfaa.func323 rfl rfl rfl ?_
  intro bn0 w0 H0
  refine AW_seq1 ?_
  refine AW_region ?_
  refine AL_cons (zl307 rfl) (sS sT0 sB0 (sF1 rfl)) ?_
  refine AL_nil ?_
  refine thenN ?_
  refine AW_scope ?_
  refine AW_seq1 ?_
  refine AW_cut (σ := Bool) (fun v => ⟨[(0, .inl (is (Sv a0))), (2, .inr (.inl (2, 0))), (17, .inl (is (Bl v)))], [(2, pb 307 [is (U8 (0#8)), is (Bl false), is (Sv ([] : List UInt8)), is (I16 0), is (I64 0), is (I32 0)])]⟩) (fun v => some r = F323_1 N a0 v) ?_ ?_
  · skip
    refine AW_region ?_
    refine AL_cons (LR_move (at_tmp 0 _) rfl) (sS (sT1 rfl) sB0 sF0) ?_
    refine AL_cons (LR_bi1 (at_tmp 15 _) (len_S Hfaa.underlying9 a0) rfl) (sS (sT1 rfl) sB0 sF0) ?_
    refine AL_cons (LR_bin (at_tmp 16 _) (at_c (v' := I64 1024) rfl) (gtr_I64 (a0.length : Int) 1024) rfl) (sS (sA (sT1 rfl) sT0) sB0 sF0) ?_
    refine AL_nil ?_
    exact thenN (cutLeaf (v := decide ((a0.length : Int) > 1024)) hr (weak0 ((sT rfl (sT rfl (sT rfl sT0)))) (sub_keep sub_nil)))
  · rintro x1 hr
    show AW Hfaa.prog _ _ _ ⟨[(0, .inl (is (Sv a0))), (2, .inr (.inl (2, 0))), (17, .inl (is (Bl x1)))], [(2, pb 307 [is (U8 (0#8)), is (Bl false), is (Sv ([] : List UInt8)), is (I16 0), is (I64 0), is (I32 0)])]⟩
    have hr : some r = F323_1 N a0 x1 := hr
    refine AW_condT (b := x1) rfl (fun h => ?_) (fun h => ?_)
    · have hr := hr.trans (cond_t h)
      clear h
      refine AW_seq1 ?_
      refine AW_region ?_
      refine AL_cons (bl307 (parts_cons (i := 0) (off := 0) (at_c (v' := U8 (4#8)) rfl) (cells_one (one_is rfl)) rfl rfl parts_nil) rfl rfl) (sS (sA sT0 sT0) sB0 sF0) ?_
      refine AL_cons (LR_store (at_tmp 2 _) (at_tmp 18 _) (cells_agg _) (onC (one_is rfl) (onC (one_is rfl) (onC (one_is rfl) (onC (one_is rfl) (onC (one_is rfl) (onC (one_is rfl) onN)))))) sz307 rfl rfl) (sS (sA (sT1 rfl) (sT1 rfl)) (sB1 rfl) sF0) ?_
      refine AL_nil ?_
      refine thenN ?_
      refine AW_ret ?_
      refine thenR ?_
      refine scR ?_
      obtain rfl := Option.some.inj hr
      exact res1 rfl (rvC rfl rfl ag307 sz307 rfl)
    · have hr := hr.trans (cond_f h)
      clear h
      refine AW_skip ?_
      refine thenN ?_
      refine AW_cut (σ := Value × NS (BitVec 8)) (fun v => ⟨[(0, .inl (is (Sv a0))), (2, .inr (.inl (2, 0))), (3, .inl (is ( v.1)))], [(2, pb 307 [is (U8 (0#8)), is (Bl false), is (Sv ([] : List UInt8)), is (I16 0), is (I64 0), is (I32 0)]), (1001, rowc v.1 (k1 U8) 1 v.2)]⟩) (fun v => isCell v.1 = true ∧ some r = F323_2 N a0 v.2) ?_ ?_
      · skip
        refine AW_region ?_
        refine AL_cons (LR_assign (at_c (v' := (Value.slice none 0 0)) rfl) rfl) (sS sT0 sB0 sF0) ?_
        refine AL_imp (imp_nilRow (r := 1001) (K := (k1 U8)) (sz := 1) rfl (fun _ => 0#8)) ?_
        refine AL_nil ?_
        exact thenN (cutLeaf (v := ((Value.slice none 0 0), (true, 0, fun _ => 0#8))) ⟨rfl, hr⟩ (weak0 ((sT rfl (sT rfl (sT rfl sT0)))) (sub_keep (sub_keep sub_nil))))
      · rintro ⟨sv1, x2⟩ ⟨hsv1, hr⟩
        show AW Hfaa.prog _ _ _ ⟨[(0, .inl (is (Sv a0))), (2, .inr (.inl (2, 0))), (3, .inl (is ( sv1)))], [(2, pb 307 [is (U8 (0#8)), is (Bl false), is (Sv ([] : List UInt8)), is (I16 0), is (I64 0), is (I32 0)]), (1001, rowc sv1 (k1 U8) 1 x2)]⟩
        have hr : some r = F323_2 N a0 x2 := hr
        refine AW_cut (σ := Value) (fun v => ⟨[(0, .inl (is (Sv a0))), (2, .inr (.inl (2, 0))), (3, .inl (is ( v))), (4, .inl (is (Bl false))), (5, .inl (is (Bl false))), (6, .inl (is (I64 0))), (7, .inl (is (I64 0))), (8, .inl (is (I64 0)))], [(2, pb 307 [is (U8 (0#8)), is (Bl false), is (Sv ([] : List UInt8)), is (I16 0), is (I64 0), is (I32 0)]), (1001, rowc v (k1 U8) 1 x2)]⟩) (fun v => isCell v = true ∧ some r = F323_3 N a0 x2) ?_ ?_
        · skip
          refine AW_region ?_
          refine AL_cons (LR_assign (at_c (v' := Bl false) rfl) rfl) (sS sT0 sB0 sF0) ?_
          refine AL_cons (LR_assign (at_c (v' := Bl false) rfl) rfl) (sS sT0 sB0 sF0) ?_
          refine AL_cons (LR_assign (at_c (v' := I64 0) rfl) rfl) (sS sT0 sB0 sF0) ?_
          refine AL_cons (LR_assign (at_c (v' := I64 0) rfl) rfl) (sS sT0 sB0 sF0) ?_
          refine AL_cons (LR_assign (at_c (v' := I64 0) rfl) rfl) (sS sT0 sB0 sF0) ?_
          refine AL_nil ?_
          exact thenN (cutLeaf (v := sv1) ⟨hsv1, hr⟩ (weak0 ((sT rfl (sT rfl (sT rfl (sT rfl (sT rfl (sT rfl (sT rfl (sT rfl sT0))))))))) (sub_keep (sub_keep sub_nil))))
        · rintro sv2 ⟨hsv2, hr⟩
          show AW Hfaa.prog _ _ _ ⟨[(0, .inl (is (Sv a0))), (2, .inr (.inl (2, 0))), (3, .inl (is ( sv2))), (4, .inl (is (Bl false))), (5, .inl (is (Bl false))), (6, .inl (is (I64 0))), (7, .inl (is (I64 0))), (8, .inl (is (I64 0)))], [(2, pb 307 [is (U8 (0#8)), is (Bl false), is (Sv ([] : List UInt8)), is (I16 0), is (I64 0), is (I32 0)]), (1001, rowc sv2 (k1 U8) 1 x2)]⟩
          have hr : some r = F323_3 N a0 x2 := hr
          refine AW_cut (σ := Value) (fun v => ⟨[(0, .inl (is (Sv a0))), (2, .inr (.inl (2, 0))), (3, .inl (is ( v))), (4, .inl (is (Bl false))), (5, .inl (is (Bl false))), (6, .inl (is (I64 0))), (7, .inl (is (I64 0))), (8, .inl (is (I64 0)))], [(2, pb 307 [is (U8 (0#8)), is (Bl false), is (Sv ([] : List UInt8)), is (I16 0), is (I64 0), is (I32 0)]), (1001, rowc v (k1 U8) 1 x2)]⟩) (fun v => isCell v = true ∧ some r = F323_4 N a0 x2) ?_ ?_
          · skip
            refine AW_label ?_
            exact thenN (cutLeaf (v := sv2) ⟨hsv2, hr⟩ (weak0 ((sT rfl (sT rfl (sT rfl (sT rfl (sT rfl (sT rfl (sT rfl (sT rfl sT0))))))))) (sub_keep (sub_keep sub_nil))))
          · rintro sv3 ⟨hsv3, hr⟩
            show AW Hfaa.prog _ _ _ ⟨[(0, .inl (is (Sv a0))), (2, .inr (.inl (2, 0))), (3, .inl (is ( sv3))), (4, .inl (is (Bl false))), (5, .inl (is (Bl false))), (6, .inl (is (I64 0))), (7, .inl (is (I64 0))), (8, .inl (is (I64 0)))], [(2, pb 307 [is (U8 (0#8)), is (Bl false), is (Sv ([] : List UInt8)), is (I16 0), is (I64 0), is (I32 0)]), (1001, rowc sv3 (k1 U8) 1 x2)]⟩
            have hr : some r = F323_4 N a0 x2 := hr
            refine AW_cut (σ := Value × Bool × Bool × Int × Int × Int × NS (BitVec 8)) (fun v => ⟨[(0, .inl (is (Sv a0))), (2, .inr (.inl (2, 0))), (3, .inl (is ( v.1))), (4, .inl (is (Bl v.2.1))), (5, .inl (is (Bl v.2.2.1))), (6, .inl (is (I64 v.2.2.2.1))), (7, .inl (is (I64 v.2.2.2.2.1))), (8, .inl (is (I64 v.2.2.2.2.2.1)))], [(2, pb 307 [is (U8 (0#8)), is (Bl false), is (Sv ([] : List UInt8)), is (I16 0), is (I64 0), is (I32 0)]), (1001, rowc v.1 (k1 U8) 1 v.2.2.2.2.2.2)]⟩) (fun v => isCell v.1 = true ∧ some r = F323_5 N a0 v.2.1 v.2.2.1 v.2.2.2.1 v.2.2.2.2.1 v.2.2.2.2.2.1 v.2.2.2.2.2.2) ?_ ?_
            · skip
              refine AW_cut (σ := Value) (fun v => ⟨[(0, .inl (is (Sv a0))), (2, .inr (.inl (2, 0))), (3, .inl (is ( v))), (4, .inl (is (Bl false))), (5, .inl (is (Bl false))), (6, .inl (is (I64 0))), (7, .inl (is (I64 0))), (8, .inl (is (I64 0))), (20, .inr (.inl (20, 0)))], [(2, pb 307 [is (U8 (0#8)), is (Bl false), is (Sv ([] : List UInt8)), is (I16 0), is (I64 0), is (I32 0)]), (1001, rowc v (k1 U8) 1 x2), (20, itc a0 0)]⟩) (fun v => isCell v = true ∧ some r = F323_12 N a0 x2) ?_ ?_
              · skip
                refine AW_region ?_
                refine AL_cons (LR_move (at_tmp 0 _) rfl) (sS (sT1 rfl) sB0 sF0) ?_
                refine AL_cons (LR_range Hfaa.underlying9 (at_tmp 19 _) rfl) (sS (sT1 rfl) sB0 (sF1 rfl)) ?_
                refine AL_nil ?_
                exact thenN (cutLeaf (v := sv3) ⟨hsv3, hr⟩ (weak0 ((sT rfl (sT rfl (sT rfl (sT rfl (sT rfl (sT rfl (sT rfl (sT rfl (sT rfl sT0)))))))))) (sub_keep (sub_keep (sub_keep sub_nil)))))
              · rintro sv9 ⟨hsv9, hr⟩
                show AW Hfaa.prog _ _ _ ⟨[(0, .inl (is (Sv a0))), (2, .inr (.inl (2, 0))), (3, .inl (is ( sv9))), (4, .inl (is (Bl false))), (5, .inl (is (Bl false))), (6, .inl (is (I64 0))), (7, .inl (is (I64 0))), (8, .inl (is (I64 0))), (20, .inr (.inl (20, 0)))], [(2, pb 307 [is (U8 (0#8)), is (Bl false), is (Sv ([] : List UInt8)), is (I16 0), is (I64 0), is (I32 0)]), (1001, rowc sv9 (k1 U8) 1 x2), (20, itc a0 0)]⟩
                have hr : some r = F323_12 N a0 x2 := hr
                refine AW_block ?_
                refine AW_iterV (σ := Bool × Bool × Int × Int × Int × NS (BitVec 8) × Nat) (r := r) (v0 := sv9) (x0 := (false, false, 0, 0, 0, x2, 0)) (emb := fun sv v => ⟨[(0, .inl (is (Sv a0))), (2, .inr (.inl (2, 0))), (3, .inl (is ( sv))), (4, .inl (is (Bl v.1))), (5, .inl (is (Bl v.2.1))), (6, .inl (is (I64 v.2.2.1))), (7, .inl (is (I64 v.2.2.2.1))), (8, .inl (is (I64 v.2.2.2.2.1))), (20, .inr (.inl (20, 0)))], [(2, pb 307 [is (U8 (0#8)), is (Bl false), is (Sv ([] : List UInt8)), is (I16 0), is (I64 0), is (I32 0)]), (1001, rowc sv (k1 U8) 1 v.2.2.2.2.2.1), (20, itc a0 v.2.2.2.2.2.2)]⟩) hsv9 ?_ hr ?_
                · exact weak0 ((sT rfl (sT rfl (sT rfl (sT rfl (sT rfl (sT rfl (sT rfl (sT rfl (sT rfl sT0)))))))))) (sub_keep (sub_keep (sub_keep sub_nil)))
                rintro sv10 hsv10 ⟨x16, x17, x18, x19, x20, x21, x22⟩ out2 hr
                show AW Hfaa.prog _ _ _ ⟨[(0, .inl (is (Sv a0))), (2, .inr (.inl (2, 0))), (3, .inl (is ( sv10))), (4, .inl (is (Bl x16))), (5, .inl (is (Bl x17))), (6, .inl (is (I64 x18))), (7, .inl (is (I64 x19))), (8, .inl (is (I64 x20))), (20, .inr (.inl (20, 0)))], [(2, pb 307 [is (U8 (0#8)), is (Bl false), is (Sv ([] : List UInt8)), is (I16 0), is (I64 0), is (I32 0)]), (1001, rowc sv10 (k1 U8) 1 x21), (20, itc a0 x22)]⟩
                have hr : some out2 = F323_L13b N a0 x16 x17 x18 x19 x20 x21 x22 := hr
                refine AW_cut (σ := Value × Bool × Nat) (fun v => ⟨[(0, .inl (is (Sv a0))), (2, .inr (.inl (2, 0))), (3, .inl (is ( v.1))), (4, .inl (is (Bl x16))), (5, .inl (is (Bl x17))), (6, .inl (is (I64 x18))), (7, .inl (is (I64 x19))), (8, .inl (is (I64 x20))), (20, .inr (.inl (20, 0))), (21, .inl (nx a0 x22)), (22, .inl (is (Bl v.2.1)))], [(2, pb 307 [is (U8 (0#8)), is (Bl false), is (Sv ([] : List UInt8)), is (I16 0), is (I64 0), is (I32 0)]), (1001, rowc v.1 (k1 U8) 1 x21), (20, itc a0 v.2.2)]⟩) (fun v => isCell v.1 = true ∧ some out2 = F323_14 N a0 x16 x17 x18 x19 x20 x21 x22 v.2.1 v.2.2) ?_ ?_
                · skip
                  refine AW_region ?_
                  refine AL_cons (LR_next (at_tmp 20 _) rfl) (sS (sT1 rfl) (sB1 rfl) sF0) ?_
                  refine AL_cons (LR_nx0 (at_tmp 21 _) rfl) (sS (sT1 rfl) sB0 sF0) ?_
                  refine AL_nil ?_
                  exact thenN (cutLeaf (v := (sv10, Nat.blt x22 a0.length, nxt a0 x22)) ⟨hsv10, hr⟩ (weak0 ((sT rfl (sT rfl (sT rfl (sT rfl (sT rfl (sT rfl (sT rfl (sT rfl (sT rfl (sT rfl (sT rfl sT0)))))))))))) (sub_keep (sub_keep (sub_keep sub_nil)))))
                · rintro ⟨sv11, x23, x24⟩ ⟨hsv11, hr⟩
                  show AW Hfaa.prog _ _ _ ⟨[(0, .inl (is (Sv a0))), (2, .inr (.inl (2, 0))), (3, .inl (is ( sv11))), (4, .inl (is (Bl x16))), (5, .inl (is (Bl x17))), (6, .inl (is (I64 x18))), (7, .inl (is (I64 x19))), (8, .inl (is (I64 x20))), (20, .inr (.inl (20, 0))), (21, .inl (nx a0 x22)), (22, .inl (is (Bl x23)))], [(2, pb 307 [is (U8 (0#8)), is (Bl false), is (Sv ([] : List UInt8)), is (I16 0), is (I64 0), is (I32 0)]), (1001, rowc sv11 (k1 U8) 1 x21), (20, itc a0 x24)]⟩
                  have hr : some out2 = F323_14 N a0 x16 x17 x18 x19 x20 x21 x22 x23 x24 := hr
                  refine AW_cut (σ := Value) (fun v => ⟨[(0, .inl (is (Sv a0))), (2, .inr (.inl (2, 0))), (3, .inl (is ( v))), (4, .inl (is (Bl x16))), (5, .inl (is (Bl x17))), (6, .inl (is (I64 x18))), (7, .inl (is (I64 x19))), (8, .inl (is (I64 x20))), (20, .inr (.inl (20, 0))), (21, .inl (nx a0 x22))], [(2, pb 307 [is (U8 (0#8)), is (Bl false), is (Sv ([] : List UInt8)), is (I16 0), is (I64 0), is (I32 0)]), (1001, rowc v (k1 U8) 1 x21), (20, itc a0 x24)]⟩) (fun v => isCell v = true ∧ some out2 = F323_15 N a0 x16 x17 x18 x19 x20 x21 x22 x24) ?_ ?_
                  · skip
                    refine AW_condT (b := x23) rfl (fun h => ?_) (fun h => ?_)
                    · have hr := hr.trans (cond_t h)
                      clear h
                      refine AW_skip ?_
                      exact thenN (cutLeaf (v := sv11) ⟨hsv11, hr⟩ (weak0 ((sT rfl (sT rfl (sT rfl (sT rfl (sT rfl (sT rfl (sT rfl (sT rfl (sT rfl (sT rfl sT0))))))))))) (sub_keep (sub_keep (sub_keep sub_nil)))))
                    · have hr := hr.trans (cond_f h)
                      clear h
                      refine AW_exit ?_
                      refine thenX ?_
                      obtain ⟨r', hro, hr⟩ := map_inr hr
                      refine thenX (loopOut hro (fun he => ?_))
                      rw [he] at hr
                      refine blH ?_
                      exact thenN (cutLeaf (v := (sv11, x16, x17, x18, x19, x20, x21)) ⟨hsv11, hr⟩ (weak0 ((sT rfl (sT rfl (sT rfl (sT rfl (sT rfl (sT rfl (sT rfl (sT rfl sT0))))))))) (sub_keep (sub_keep (sub_drop sub_nil)))))
                  · rintro sv12 ⟨hsv12, hr⟩
                    show AW Hfaa.prog _ _ _ ⟨[(0, .inl (is (Sv a0))), (2, .inr (.inl (2, 0))), (3, .inl (is ( sv12))), (4, .inl (is (Bl x16))), (5, .inl (is (Bl x17))), (6, .inl (is (I64 x18))), (7, .inl (is (I64 x19))), (8, .inl (is (I64 x20))), (20, .inr (.inl (20, 0))), (21, .inl (nx a0 x22))], [(2, pb 307 [is (U8 (0#8)), is (Bl false), is (Sv ([] : List UInt8)), is (I16 0), is (I64 0), is (I32 0)]), (1001, rowc sv12 (k1 U8) 1 x21), (20, itc a0 x24)]⟩
                    have hr : some out2 = F323_15 N a0 x16 x17 x18 x19 x20 x21 x22 x24 := hr
                    refine AW_block ?_
                    refine AW_cut (σ := Value × Int × Int) (fun v => ⟨[(0, .inl (is (Sv a0))), (2, .inr (.inl (2, 0))), (3, .inl (is ( v.1))), (4, .inl (is (Bl x16))), (5, .inl (is (Bl x17))), (6, .inl (is (I64 x18))), (7, .inl (is (I64 x19))), (8, .inl (is (I64 x20))), (20, .inr (.inl (20, 0))), (9, .inl (is (I64 v.2.1))), (10, .inl (is (I32 v.2.2)))], [(2, pb 307 [is (U8 (0#8)), is (Bl false), is (Sv ([] : List UInt8)), is (I16 0), is (I64 0), is (I32 0)]), (1001, rowc v.1 (k1 U8) 1 x21), (20, itc a0 x24)]⟩) (fun v => isCell v.1 = true ∧ some out2 = F323_16 N a0 x16 x17 x18 x19 x20 x21 x24 v.2.1 v.2.2) ?_ ?_
                    · skip
                      refine AW_region ?_
                      obtain ⟨hg71, hr⟩ := guard_some hr
                      refine AL_cons (LR_nx1 (at_tmp 21 _) hg71 rfl) (sS (sT1 rfl) sB0 sF0) ?_
                      obtain ⟨hg72, hr⟩ := guard_some hr
                      refine AL_cons (LR_nx2 (at_tmp 21 _) hg72 rfl) (sS (sT1 rfl) sB0 sF0) ?_
                      refine AL_cons (LR_assign (at_tmp 23 _) rfl) (sS (sT1 rfl) sB0 sF0) ?_
                      refine AL_cons (LR_assign (at_tmp 24 _) rfl) (sS (sT1 rfl) sB0 sF0) ?_
                      refine AL_nil ?_
                      exact thenN (cutLeaf (v := (sv12, (x22 : Int), runeAt a0 x22)) ⟨hsv12, hr⟩ (weak0 ((sT rfl (sT rfl (sT rfl (sT rfl (sT rfl (sT rfl (sT rfl (sT rfl (sT rfl (sT rfl (sT rfl sT0)))))))))))) (sub_keep (sub_keep (sub_keep sub_nil)))))
                    · rintro ⟨sv13, x25, x26⟩ ⟨hsv13, hr⟩
                      show AW Hfaa.prog _ _ _ ⟨[(0, .inl (is (Sv a0))), (2, .inr (.inl (2, 0))), (3, .inl (is ( sv13))), (4, .inl (is (Bl x16))), (5, .inl (is (Bl x17))), (6, .inl (is (I64 x18))), (7, .inl (is (I64 x19))), (8, .inl (is (I64 x20))), (20, .inr (.inl (20, 0))), (9, .inl (is (I64 x25))), (10, .inl (is (I32 x26)))], [(2, pb 307 [is (U8 (0#8)), is (Bl false), is (Sv ([] : List UInt8)), is (I16 0), is (I64 0), is (I32 0)]), (1001, rowc sv13 (k1 U8) 1 x21), (20, itc a0 x24)]⟩
                      have hr : some out2 = F323_16 N a0 x16 x17 x18 x19 x20 x21 x24 x25 x26 := hr
                      refine AW_cut (σ := Value × Bool) (fun v => ⟨[(0, .inl (is (Sv a0))), (2, .inr (.inl (2, 0))), (3, .inl (is ( v.1))), (4, .inl (is (Bl x16))), (5, .inl (is (Bl x17))), (6, .inl (is (I64 x18))), (7, .inl (is (I64 x19))), (8, .inl (is (I64 x20))), (20, .inr (.inl (20, 0))), (9, .inl (is (I64 x25))), (10, .inl (is (I32 x26))), (11, .inl (is (Bl v.2)))], [(2, pb 307 [is (U8 (0#8)), is (Bl false), is (Sv ([] : List UInt8)), is (I16 0), is (I64 0), is (I32 0)]), (1001, rowc v.1 (k1 U8) 1 x21), (20, itc a0 x24)]⟩) (fun v => isCell v.1 = true ∧ some out2 = F323_17 N a0 x16 x17 x18 x19 x20 x21 x24 x25 x26 v.2) ?_ ?_
                      · skip
                        refine AW_region ?_
                        refine AL_cons (LR_move (at_tmp 10 _) rfl) (sS (sT1 rfl) sB0 sF0) ?_
                        obtain ⟨y14, hy14, hr⟩ := lt_some hr
                        refine AL_cons (LR_call Hfaa.func285 rfl rfl (C285 x26 y14 hy14) (all_cons (at_tmp 25 _) all_nil) rfl) (sS (sA (sT1 rfl) sT0) sB0 sF0) ?_
                        refine AL_cons (LR_bin (at_tmp 26 _) (at_c (v' := I64 0) rfl) (geq_I64 y14 0) rfl) (sS (sA (sT1 rfl) sT0) sB0 sF0) ?_
                        refine AL_cons (LR_assign (at_tmp 27 _) rfl) (sS (sT1 rfl) sB0 sF0) ?_
                        refine AL_nil ?_
                        exact thenN (cutLeaf (v := (sv13, decide (y14 ≥ 0))) ⟨hsv13, hr⟩ (weak0 ((sT rfl (sT rfl (sT rfl (sT rfl (sT rfl (sT rfl (sT rfl (sT rfl (sT rfl (sT rfl (sT rfl (sT rfl sT0))))))))))))) (sub_keep (sub_keep (sub_keep sub_nil)))))
                      · rintro ⟨sv14, x27⟩ ⟨hsv14, hr⟩
                        show AW Hfaa.prog _ _ _ ⟨[(0, .inl (is (Sv a0))), (2, .inr (.inl (2, 0))), (3, .inl (is ( sv14))), (4, .inl (is (Bl x16))), (5, .inl (is (Bl x17))), (6, .inl (is (I64 x18))), (7, .inl (is (I64 x19))), (8, .inl (is (I64 x20))), (20, .inr (.inl (20, 0))), (9, .inl (is (I64 x25))), (10, .inl (is (I32 x26))), (11, .inl (is (Bl x27)))], [(2, pb 307 [is (U8 (0#8)), is (Bl false), is (Sv ([] : List UInt8)), is (I16 0), is (I64 0), is (I32 0)]), (1001, rowc sv14 (k1 U8) 1 x21), (20, itc a0 x24)]⟩
                        have hr : some out2 = F323_17 N a0 x16 x17 x18 x19 x20 x21 x24 x25 x26 x27 := hr
                        refine AW_cut (σ := Value × Bool) (fun v => ⟨[(0, .inl (is (Sv a0))), (2, .inr (.inl (2, 0))), (3, .inl (is ( v.1))), (4, .inl (is (Bl x16))), (5, .inl (is (Bl x17))), (6, .inl (is (I64 x18))), (7, .inl (is (I64 x19))), (8, .inl (is (I64 x20))), (20, .inr (.inl (20, 0))), (9, .inl (is (I64 x25))), (10, .inl (is (I32 x26))), (11, .inl (is (Bl x27))), (12, .inl (is (Bl v.2)))], [(2, pb 307 [is (U8 (0#8)), is (Bl false), is (Sv ([] : List UInt8)), is (I16 0), is (I64 0), is (I32 0)]), (1001, rowc v.1 (k1 U8) 1 x21), (20, itc a0 x24)]⟩) (fun v => isCell v.1 = true ∧ some out2 = F323_18 N a0 x16 x17 x18 x19 x20 x21 x24 x25 x26 x27 v.2) ?_ ?_
                        · skip
                          refine AW_region ?_
                          refine AL_cons (LR_move (at_tmp 10 _) rfl) (sS (sT1 rfl) sB0 sF0) ?_
                          refine AL_cons (LR_bin (at_tmp 28 _) (at_c (v' := I32 43) rfl) (eql_I32 x26 43) rfl) (sS (sA (sT1 rfl) sT0) sB0 sF0) ?_
                          refine AL_cons (LR_move (at_tmp 29 _) rfl) (sS (sT1 rfl) sB0 sF0) ?_
                          refine AL_cutAt 3 ⟨[(0, .inl (is (Sv a0))), (2, .inr (.inl (2, 0))), (3, .inl (is ( sv14))), (4, .inl (is (Bl x16))), (5, .inl (is (Bl x17))), (6, .inl (is (I64 x18))), (7, .inl (is (I64 x19))), (8, .inl (is (I64 x20))), (20, .inr (.inl (20, 0))), (9, .inl (is (I64 x25))), (10, .inl (is (I32 x26))), (11, .inl (is (Bl x27))), (28, .inl (is (I32 x26))), (29, .inl (is (Bl (x26 == 43)))), (30, .inl (is (Bl (x26 == 43)))), (33, .inl (is (Bl ((x26 == 43) || (x26 == 45)))))], [(2, pb 307 [is (U8 (0#8)), is (Bl false), is (Sv ([] : List UInt8)), is (I16 0), is (I64 0), is (I32 0)]), (1001, rowc sv14 (k1 U8) 1 x21), (20, itc a0 x24)]⟩ ?_ ?_
                          · cases hb : x26 == 43
                            · skip
                              refine AL_cons (LR_on rfl rfl rfl (LR_move (at_tmp 10 _) rfl)) (sS (sT rfl (sT1 rfl)) sB0 sF0) ?_
                              refine AL_cons (LR_on rfl rfl rfl (LR_bin (at_tmp 31 _) (at_c (v' := I32 45) rfl) (eql_I32 x26 45) rfl)) (sS (sT rfl (sA (sT1 rfl) sT0)) sB0 sF0) ?_
                              refine AL_cons (LR_pick (b := false) (at_tmp 30 _) (at_c (v' := Bl true) rfl) (at_tmp 32 _) rfl) (sS (sA (sT1 rfl) (sA sT0 (sT1 rfl))) sB0 sF0) ?_
                              exact AL_nil ⟨rfl, weak0 ((sT rfl (sT rfl (sT rfl (sT rfl (sT rfl (sT rfl (sT rfl (sT rfl (sT rfl (sT rfl (sT rfl (sT rfl (sT rfl (sT rfl (sT rfl (sT rfl sT0))))))))))))))))) (sub_keep (sub_keep (sub_keep sub_nil)))⟩
                            · skip
                              refine AL_cons (LR_off (b := true) rfl rfl rfl rfl) (sS (sT1 rfl) sB0 sF0) ?_
                              refine AL_cons (LR_off (b := true) rfl rfl rfl rfl) (sS (sT1 rfl) sB0 sF0) ?_
                              refine AL_cons (LR_pick (b := true) (at_tmp 30 _) (at_c (v' := Bl true) rfl) (at_tmp 32 _) rfl) (sS (sA (sT1 rfl) (sA sT0 (sT1 rfl))) sB0 sF0) ?_
                              exact AL_nil ⟨rfl, weak0 ((sT rfl (sT rfl (sT rfl (sT rfl (sT rfl (sT rfl (sT rfl (sT rfl (sT rfl (sT rfl (sT rfl (sT rfl (sT rfl (sT rfl (sT rfl (sT rfl sT0))))))))))))))))) (sub_keep (sub_keep (sub_keep sub_nil)))⟩
                          refine AL_cons (LR_assign (at_tmp 33 _) rfl) (sS (sT1 rfl) sB0 sF0) ?_
                          refine AL_nil ?_
                          exact thenN (cutLeaf (v := (sv14, (x26 == 43) || (x26 == 45))) ⟨hsv14, hr⟩ (weak0 ((sT rfl (sT rfl (sT rfl (sT rfl (sT rfl (sT rfl (sT rfl (sT rfl (sT rfl (sT rfl (sT rfl (sT rfl (sT rfl sT0)))))))))))))) (sub_keep (sub_keep (sub_keep sub_nil)))))
                        · rintro ⟨sv15, x28⟩ ⟨hsv15, hr⟩
                          show AW Hfaa.prog _ _ _ ⟨[(0, .inl (is (Sv a0))), (2, .inr (.inl (2, 0))), (3, .inl (is ( sv15))), (4, .inl (is (Bl x16))), (5, .inl (is (Bl x17))), (6, .inl (is (I64 x18))), (7, .inl (is (I64 x19))), (8, .inl (is (I64 x20))), (20, .inr (.inl (20, 0))), (9, .inl (is (I64 x25))), (10, .inl (is (I32 x26))), (11, .inl (is (Bl x27))), (12, .inl (is (Bl x28)))], [(2, pb 307 [is (U8 (0#8)), is (Bl false), is (Sv ([] : List UInt8)), is (I16 0), is (I64 0), is (I32 0)]), (1001, rowc sv15 (k1 U8) 1 x21), (20, itc a0 x24)]⟩
                          have hr : some out2 = F323_18 N a0 x16 x17 x18 x19 x20 x21 x24 x25 x26 x27 x28 := hr
                          refine AW_seq1 ?_
                          refine AW_block ?_
                          refine AW_cut (σ := Value × Bool) (fun v => ⟨[(0, .inl (is (Sv a0))), (2, .inr (.inl (2, 0))), (3, .inl (is ( v.1))), (4, .inl (is (Bl x16))), (5, .inl (is (Bl x17))), (6, .inl (is (I64 x18))), (7, .inl (is (I64 x19))), (8, .inl (is (I64 x20))), (20, .inr (.inl (20, 0))), (9, .inl (is (I64 x25))), (10, .inl (is (I32 x26))), (11, .inl (is (Bl x27))), (12, .inl (is (Bl x28))), (34, .inl (is (Bl v.2)))], [(2, pb 307 [is (U8 (0#8)), is (Bl false), is (Sv ([] : List UInt8)), is (I16 0), is (I64 0), is (I32 0)]), (1001, rowc v.1 (k1 U8) 1 x21), (20, itc a0 x24)]⟩) (fun v => isCell v.1 = true ∧ some out2 = F323_19 N a0 x16 x17 x18 x19 x20 x21 x24 x25 x26 x27 x28 v.2) ?_ ?_
                          · skip
                            refine AW_region ?_
                            refine AL_cons (LR_move (at_tmp 8 _) rfl) (sS (sT1 rfl) sB0 sF0) ?_
                            refine AL_cons (LR_bin (at_tmp 35 _) (at_c (v' := I64 0) rfl) (eql_I64 x20 0) rfl) (sS (sA (sT1 rfl) sT0) sB0 sF0) ?_
                            refine AL_cons (LR_move (at_tmp 36 _) rfl) (sS (sT1 rfl) sB0 sF0) ?_
                            refine AL_cutAt 2 ⟨[(0, .inl (is (Sv a0))), (2, .inr (.inl (2, 0))), (3, .inl (is ( sv15))), (4, .inl (is (Bl x16))), (5, .inl (is (Bl x17))), (6, .inl (is (I64 x18))), (7, .inl (is (I64 x19))), (8, .inl (is (I64 x20))), (20, .inr (.inl (20, 0))), (9, .inl (is (I64 x25))), (10, .inl (is (I32 x26))), (11, .inl (is (Bl x27))), (12, .inl (is (Bl x28))), (35, .inl (is (I64 x20))), (36, .inl (is (Bl (x20 == 0)))), (37, .inl (is (Bl (x20 == 0)))), (39, .inl (is (Bl ((x20 == 0) && x28))))], [(2, pb 307 [is (U8 (0#8)), is (Bl false), is (Sv ([] : List UInt8)), is (I16 0), is (I64 0), is (I32 0)]), (1001, rowc sv15 (k1 U8) 1 x21), (20, itc a0 x24)]⟩ ?_ ?_
                            · cases hb : x20 == 0
                              · skip
                                refine AL_cons (LR_off (b := false) rfl rfl rfl rfl) (sS (sT1 rfl) sB0 sF0) ?_
                                refine AL_cons (LR_pick (b := false) (at_tmp 37 _) (at_tmp 38 _) (at_c (v' := Bl false) rfl) rfl) (sS (sA (sT1 rfl) (sA (sT1 rfl) sT0)) sB0 sF0) ?_
                                exact AL_nil ⟨rfl, weak0 ((sT rfl (sT rfl (sT rfl (sT rfl (sT rfl (sT rfl (sT rfl (sT rfl (sT rfl (sT rfl (sT rfl (sT rfl (sT rfl (sT rfl (sT rfl (sT rfl (sT rfl sT0)))))))))))))))))) (sub_keep (sub_keep (sub_keep sub_nil)))⟩
                              · skip
                                refine AL_cons (LR_on rfl rfl rfl (LR_move (at_tmp 12 _) rfl)) (sS (sT rfl (sT1 rfl)) sB0 sF0) ?_
                                refine AL_cons (LR_pick (b := true) (at_tmp 37 _) (at_tmp 38 _) (at_c (v' := Bl false) rfl) rfl) (sS (sA (sT1 rfl) (sA (sT1 rfl) sT0)) sB0 sF0) ?_
                                exact AL_nil ⟨rfl, weak0 ((sT rfl (sT rfl (sT rfl (sT rfl (sT rfl (sT rfl (sT rfl (sT rfl (sT rfl (sT rfl (sT rfl (sT rfl (sT rfl (sT rfl (sT rfl (sT rfl (sT rfl sT0)))))))))))))))))) (sub_keep (sub_keep (sub_keep sub_nil)))⟩
                            refine AL_cons (LR_assign (at_tmp 39 _) rfl) (sS (sT1 rfl) sB0 sF0) ?_
                            refine AL_nil ?_
                            exact thenN (cutLeaf (v := (sv15, (x20 == 0) && x28)) ⟨hsv15, hr⟩ (weak0 ((sT rfl (sT rfl (sT rfl (sT rfl (sT rfl (sT rfl (sT rfl (sT rfl (sT rfl (sT rfl (sT rfl (sT rfl (sT rfl (sT rfl sT0))))))))))))))) (sub_keep (sub_keep (sub_keep sub_nil)))))
                          · rintro ⟨sv16, x29⟩ ⟨hsv16, hr⟩
                            show AW Hfaa.prog _ _ _ ⟨[(0, .inl (is (Sv a0))), (2, .inr (.inl (2, 0))), (3, .inl (is ( sv16))), (4, .inl (is (Bl x16))), (5, .inl (is (Bl x17))), (6, .inl (is (I64 x18))), (7, .inl (is (I64 x19))), (8, .inl (is (I64 x20))), (20, .inr (.inl (20, 0))), (9, .inl (is (I64 x25))), (10, .inl (is (I32 x26))), (11, .inl (is (Bl x27))), (12, .inl (is (Bl x28))), (34, .inl (is (Bl x29)))], [(2, pb 307 [is (U8 (0#8)), is (Bl false), is (Sv ([] : List UInt8)), is (I16 0), is (I64 0), is (I32 0)]), (1001, rowc sv16 (k1 U8) 1 x21), (20, itc a0 x24)]⟩
                            have hr : some out2 = F323_19 N a0 x16 x17 x18 x19 x20 x21 x24 x25 x26 x27 x28 x29 := hr
                            refine AW_condT (b := x29) rfl (fun h => ?_) (fun h => ?_)
                            · have hr := hr.trans (cond_t h)
                              clear h
                              refine AW_cut (σ := Value × Bool) (fun v => ⟨[(0, .inl (is (Sv a0))), (2, .inr (.inl (2, 0))), (3, .inl (is ( v.1))), (4, .inl (is (Bl v.2))), (5, .inl (is (Bl x17))), (6, .inl (is (I64 x18))), (7, .inl (is (I64 x19))), (8, .inl (is (I64 1))), (20, .inr (.inl (20, 0)))], [(2, pb 307 [is (U8 (0#8)), is (Bl false), is (Sv ([] : List UInt8)), is (I16 0), is (I64 0), is (I32 0)]), (1001, rowc v.1 (k1 U8) 1 x21), (20, itc a0 x24)]⟩) (fun v => isCell v.1 = true ∧ some out2 = F323_20 N a0 x17 x18 x19 x21 x24 v.2) ?_ ?_
                              · skip
                                refine AW_region ?_
                                refine AL_cons (LR_move (at_tmp 10 _) rfl) (sS (sT1 rfl) sB0 sF0) ?_
                                refine AL_cons (LR_bin (at_tmp 40 _) (at_c (v' := I32 45) rfl) (eql_I32 x26 45) rfl) (sS (sA (sT1 rfl) sT0) sB0 sF0) ?_
                                refine AL_cons (LR_assign (at_tmp 41 _) rfl) (sS (sT1 rfl) sB0 sF0) ?_
                                refine AL_cons (LR_assign (at_c (v' := I64 1) rfl) rfl) (sS sT0 sB0 sF0) ?_
                                refine AL_nil ?_
                                exact thenN (cutLeaf (v := (sv16, x26 == 45)) ⟨hsv16, hr⟩ (weak0 ((sT rfl (sT rfl (sT rfl (sT rfl (sT rfl (sT rfl (sT rfl (sT rfl (sT rfl sT0)))))))))) (sub_keep (sub_keep (sub_keep sub_nil)))))
                              · rintro ⟨sv17, x30⟩ ⟨hsv17, hr⟩
                                show AW Hfaa.prog _ _ _ ⟨[(0, .inl (is (Sv a0))), (2, .inr (.inl (2, 0))), (3, .inl (is ( sv17))), (4, .inl (is (Bl x30))), (5, .inl (is (Bl x17))), (6, .inl (is (I64 x18))), (7, .inl (is (I64 x19))), (8, .inl (is (I64 1))), (20, .inr (.inl (20, 0)))], [(2, pb 307 [is (U8 (0#8)), is (Bl false), is (Sv ([] : List UInt8)), is (I16 0), is (I64 0), is (I32 0)]), (1001, rowc sv17 (k1 U8) 1 x21), (20, itc a0 x24)]⟩
                                have hr : some out2 = F323_20 N a0 x17 x18 x19 x21 x24 x30 := hr
                                refine AW_exit ?_
                                refine blO (by decide) ?_
                                refine thenX ?_
                                refine blH ?_
                                exact thenN (loopNextV (v' := sv17) (x' := (x30, x17, x18, x19, 1, x21, x24)) hsv17 hr (weak0 ((sT rfl (sT rfl (sT rfl (sT rfl (sT rfl (sT rfl (sT rfl (sT rfl (sT rfl sT0)))))))))) (sub_keep (sub_keep (sub_keep sub_nil)))))
                            · have hr := hr.trans (cond_f h)
                              clear h
                              refine AW_cut (σ := Value × Bool) (fun v => ⟨[(0, .inl (is (Sv a0))), (2, .inr (.inl (2, 0))), (3, .inl (is ( v.1))), (4, .inl (is (Bl x16))), (5, .inl (is (Bl x17))), (6, .inl (is (I64 x18))), (7, .inl (is (I64 x19))), (8, .inl (is (I64 x20))), (20, .inr (.inl (20, 0))), (9, .inl (is (I64 x25))), (10, .inl (is (I32 x26))), (11, .inl (is (Bl x27))), (12, .inl (is (Bl x28))), (42, .inl (is (Bl v.2)))], [(2, pb 307 [is (U8 (0#8)), is (Bl false), is (Sv ([] : List UInt8)), is (I16 0), is (I64 0), is (I32 0)]), (1001, rowc v.1 (k1 U8) 1 x21), (20, itc a0 x24)]⟩) (fun v => isCell v.1 = true ∧ some out2 = F323_21 N a0 x16 x17 x18 x19 x20 x21 x24 x25 x26 x27 x28 v.2) ?_ ?_
                              · skip
                                refine AW_region ?_
                                refine AL_cons (LR_move (at_tmp 8 _) rfl) (sS (sT1 rfl) sB0 sF0) ?_
                                refine AL_cons (LR_bin (at_tmp 43 _) (at_c (v' := I64 1) rfl) (leq_I64 x20 1) rfl) (sS (sA (sT1 rfl) sT0) sB0 sF0) ?_
                                refine AL_cons (LR_move (at_tmp 44 _) rfl) (sS (sT1 rfl) sB0 sF0) ?_
                                refine AL_cutAt 3 ⟨[(0, .inl (is (Sv a0))), (2, .inr (.inl (2, 0))), (3, .inl (is ( sv16))), (4, .inl (is (Bl x16))), (5, .inl (is (Bl x17))), (6, .inl (is (I64 x18))), (7, .inl (is (I64 x19))), (8, .inl (is (I64 x20))), (20, .inr (.inl (20, 0))), (9, .inl (is (I64 x25))), (10, .inl (is (I32 x26))), (11, .inl (is (Bl x27))), (12, .inl (is (Bl x28))), (34, .inl (is (Bl x29))), (43, .inl (is (I64 x20))), (44, .inl (is (Bl (decide (x20 ≤ 1))))), (45, .inl (is (Bl (decide (x20 ≤ 1))))), (48, .inl (is (Bl ((decide (x20 ≤ 1)) && (x26 == 48)))))], [(2, pb 307 [is (U8 (0#8)), is (Bl false), is (Sv ([] : List UInt8)), is (I16 0), is (I64 0), is (I32 0)]), (1001, rowc sv16 (k1 U8) 1 x21), (20, itc a0 x24)]⟩ ?_ ?_
                                · cases hb : decide (x20 ≤ 1)
                                  · skip
                                    refine AL_cons (LR_off (b := false) rfl rfl rfl rfl) (sS (sT1 rfl) sB0 sF0) ?_
                                    refine AL_cons (LR_off (b := false) rfl rfl rfl rfl) (sS (sT1 rfl) sB0 sF0) ?_
                                    refine AL_cons (LR_pick (b := false) (at_tmp 45 _) (at_tmp 47 _) (at_c (v' := Bl false) rfl) rfl) (sS (sA (sT1 rfl) (sA (sT1 rfl) sT0)) sB0 sF0) ?_
                                    exact AL_nil ⟨rfl, weak0 ((sT rfl (sT rfl (sT rfl (sT rfl (sT rfl (sT rfl (sT rfl (sT rfl (sT rfl (sT rfl (sT rfl (sT rfl (sT rfl (sT rfl (sT rfl (sT rfl (sT rfl (sT rfl sT0))))))))))))))))))) (sub_keep (sub_keep (sub_keep sub_nil)))⟩
                                  · skip
                                    refine AL_cons (LR_on rfl rfl rfl (LR_move (at_tmp 10 _) rfl)) (sS (sT rfl (sT1 rfl)) sB0 sF0) ?_
                                    refine AL_cons (LR_on rfl rfl rfl (LR_bin (at_tmp 46 _) (at_c (v' := I32 48) rfl) (eql_I32 x26 48) rfl)) (sS (sT rfl (sA (sT1 rfl) sT0)) sB0 sF0) ?_
                                    refine AL_cons (LR_pick (b := true) (at_tmp 45 _) (at_tmp 47 _) (at_c (v' := Bl false) rfl) rfl) (sS (sA (sT1 rfl) (sA (sT1 rfl) sT0)) sB0 sF0) ?_
                                    exact AL_nil ⟨rfl, weak0 ((sT rfl (sT rfl (sT rfl (sT rfl (sT rfl (sT rfl (sT rfl (sT rfl (sT rfl (sT rfl (sT rfl (sT rfl (sT rfl (sT rfl (sT rfl (sT rfl (sT rfl (sT rfl sT0))))))))))))))))))) (sub_keep (sub_keep (sub_keep sub_nil)))⟩
                                refine AL_cons (LR_assign (at_tmp 48 _) rfl) (sS (sT1 rfl) sB0 sF0) ?_
                                refine AL_nil ?_
                                exact thenN (cutLeaf (v := (sv16, (decide (x20 ≤ 1)) && (x26 == 48))) ⟨hsv16, hr⟩ (weak0 ((sT rfl (sT rfl (sT rfl (sT rfl (sT rfl (sT rfl (sT rfl (sT rfl (sT rfl (sT rfl (sT rfl (sT rfl (sT rfl (sT rfl sT0))))))))))))))) (sub_keep (sub_keep (sub_keep sub_nil)))))
                              · rintro ⟨sv18, x31⟩ ⟨hsv18, hr⟩
                                show AW Hfaa.prog _ _ _ ⟨[(0, .inl (is (Sv a0))), (2, .inr (.inl (2, 0))), (3, .inl (is ( sv18))), (4, .inl (is (Bl x16))), (5, .inl (is (Bl x17))), (6, .inl (is (I64 x18))), (7, .inl (is (I64 x19))), (8, .inl (is (I64 x20))), (20, .inr (.inl (20, 0))), (9, .inl (is (I64 x25))), (10, .inl (is (I32 x26))), (11, .inl (is (Bl x27))), (12, .inl (is (Bl x28))), (42, .inl (is (Bl x31)))], [(2, pb 307 [is (U8 (0#8)), is (Bl false), is (Sv ([] : List UInt8)), is (I16 0), is (I64 0), is (I32 0)]), (1001, rowc sv18 (k1 U8) 1 x21), (20, itc a0 x24)]⟩
                                have hr : some out2 = F323_21 N a0 x16 x17 x18 x19 x20 x21 x24 x25 x26 x27 x28 x31 := hr
                                refine AW_condT (b := x31) rfl (fun h => ?_) (fun h => ?_)
                                · have hr := hr.trans (cond_t h)
                                  clear h
                                  refine AW_cut (σ := Value) (fun v => ⟨[(0, .inl (is (Sv a0))), (2, .inr (.inl (2, 0))), (3, .inl (is ( v))), (4, .inl (is (Bl x16))), (5, .inl (is (Bl x17))), (6, .inl (is (I64 x18))), (7, .inl (is (I64 x19))), (8, .inl (is (I64 2))), (20, .inr (.inl (20, 0)))], [(2, pb 307 [is (U8 (0#8)), is (Bl false), is (Sv ([] : List UInt8)), is (I16 0), is (I64 0), is (I32 0)]), (1001, rowc v (k1 U8) 1 x21), (20, itc a0 x24)]⟩) (fun v => isCell v = true ∧ some out2 = F323_22 N a0 x16 x17 x18 x19 x21 x24) ?_ ?_
                                  · skip
                                    refine AW_region ?_
                                    refine AL_cons (LR_assign (at_c (v' := I64 2) rfl) rfl) (sS sT0 sB0 sF0) ?_
                                    refine AL_nil ?_
                                    exact thenN (cutLeaf (v := sv18) ⟨hsv18, hr⟩ (weak0 ((sT rfl (sT rfl (sT rfl (sT rfl (sT rfl (sT rfl (sT rfl (sT rfl (sT rfl sT0)))))))))) (sub_keep (sub_keep (sub_keep sub_nil)))))
                                  · rintro sv19 ⟨hsv19, hr⟩
                                    show AW Hfaa.prog _ _ _ ⟨[(0, .inl (is (Sv a0))), (2, .inr (.inl (2, 0))), (3, .inl (is ( sv19))), (4, .inl (is (Bl x16))), (5, .inl (is (Bl x17))), (6, .inl (is (I64 x18))), (7, .inl (is (I64 x19))), (8, .inl (is (I64 2))), (20, .inr (.inl (20, 0)))], [(2, pb 307 [is (U8 (0#8)), is (Bl false), is (Sv ([] : List UInt8)), is (I16 0), is (I64 0), is (I32 0)]), (1001, rowc sv19 (k1 U8) 1 x21), (20, itc a0 x24)]⟩
                                    have hr : some out2 = F323_22 N a0 x16 x17 x18 x19 x21 x24 := hr
                                    refine AW_exit ?_
                                    refine blO (by decide) ?_
                                    refine thenX ?_
                                    refine blH ?_
                                    exact thenN (loopNextV (v' := sv19) (x' := (x16, x17, x18, x19, 2, x21, x24)) hsv19 hr (weak0 ((sT rfl (sT rfl (sT rfl (sT rfl (sT rfl (sT rfl (sT rfl (sT rfl (sT rfl sT0)))))))))) (sub_keep (sub_keep (sub_keep sub_nil)))))
                                · have hr := hr.trans (cond_f h)
                                  clear h
                                  refine AW_cut (σ := Value × Bool) (fun v => ⟨[(0, .inl (is (Sv a0))), (2, .inr (.inl (2, 0))), (3, .inl (is ( v.1))), (4, .inl (is (Bl x16))), (5, .inl (is (Bl x17))), (6, .inl (is (I64 x18))), (7, .inl (is (I64 x19))), (8, .inl (is (I64 x20))), (20, .inr (.inl (20, 0))), (9, .inl (is (I64 x25))), (10, .inl (is (I32 x26))), (11, .inl (is (Bl x27))), (12, .inl (is (Bl x28))), (49, .inl (is (Bl v.2)))], [(2, pb 307 [is (U8 (0#8)), is (Bl false), is (Sv ([] : List UInt8)), is (I16 0), is (I64 0), is (I32 0)]), (1001, rowc v.1 (k1 U8) 1 x21), (20, itc a0 x24)]⟩) (fun v => isCell v.1 = true ∧ some out2 = F323_23 N a0 x16 x17 x18 x19 x20 x21 x24 x25 x26 x27 x28 v.2) ?_ ?_
                                  · skip
                                    refine AW_region ?_
                                    refine AL_cons (LR_move (at_tmp 8 _) rfl) (sS (sT1 rfl) sB0 sF0) ?_
                                    refine AL_cons (LR_bin (at_tmp 50 _) (at_c (v' := I64 2) rfl) (eql_I64 x20 2) rfl) (sS (sA (sT1 rfl) sT0) sB0 sF0) ?_
                                    refine AL_cons (LR_move (at_tmp 51 _) rfl) (sS (sT1 rfl) sB0 sF0) ?_
                                    refine AL_cutAt 4 ⟨[(0, .inl (is (Sv a0))), (2, .inr (.inl (2, 0))), (3, .inl (is ( sv18))), (4, .inl (is (Bl x16))), (5, .inl (is (Bl x17))), (6, .inl (is (I64 x18))), (7, .inl (is (I64 x19))), (8, .inl (is (I64 x20))), (20, .inr (.inl (20, 0))), (9, .inl (is (I64 x25))), (10, .inl (is (I32 x26))), (11, .inl (is (Bl x27))), (12, .inl (is (Bl x28))), (42, .inl (is (Bl x31))), (50, .inl (is (I64 x20))), (51, .inl (is (Bl (x20 == 2)))), (52, .inl (is (Bl (x20 == 2)))), (56, .inl (is (Bl ((x20 == 2) && ((w32 ((BitVec.ofInt 32 x26 ||| BitVec.ofInt 32 32).toNat : Int)) == 120)))))], [(2, pb 307 [is (U8 (0#8)), is (Bl false), is (Sv ([] : List UInt8)), is (I16 0), is (I64 0), is (I32 0)]), (1001, rowc sv18 (k1 U8) 1 x21), (20, itc a0 x24)]⟩ ?_ ?_
                                    · cases hb : x20 == 2
                                      · skip
                                        refine AL_cons (LR_off (b := false) rfl rfl rfl rfl) (sS (sT1 rfl) sB0 sF0) ?_
                                        refine AL_cons (LR_off (b := false) rfl rfl rfl rfl) (sS (sT1 rfl) sB0 sF0) ?_
                                        refine AL_cons (LR_off (b := false) rfl rfl rfl rfl) (sS (sT1 rfl) sB0 sF0) ?_
                                        refine AL_cons (LR_pick (b := false) (at_tmp 52 _) (at_tmp 55 _) (at_c (v' := Bl false) rfl) rfl) (sS (sA (sT1 rfl) (sA (sT1 rfl) sT0)) sB0 sF0) ?_
                                        exact AL_nil ⟨rfl, weak0 ((sT rfl (sT rfl (sT rfl (sT rfl (sT rfl (sT rfl (sT rfl (sT rfl (sT rfl (sT rfl (sT rfl (sT rfl (sT rfl (sT rfl (sT rfl (sT rfl (sT rfl (sT rfl sT0))))))))))))))))))) (sub_keep (sub_keep (sub_keep sub_nil)))⟩
                                      · skip
                                        refine AL_cons (LR_on rfl rfl rfl (LR_move (at_tmp 10 _) rfl)) (sS (sT rfl (sT1 rfl)) sB0 sF0) ?_
                                        refine AL_cons (LR_on rfl rfl rfl (LR_bin (at_tmp 53 _) (at_c (v' := I32 32) rfl) (or_I32 x26 32) rfl)) (sS (sT rfl (sA (sT1 rfl) sT0)) sB0 sF0) ?_
                                        refine AL_cons (LR_on rfl rfl rfl (LR_bin (at_tmp 54 _) (at_c (v' := I32 120) rfl) (eql_I32 (w32 ((BitVec.ofInt 32 x26 ||| BitVec.ofInt 32 32).toNat : Int)) 120) rfl)) (sS (sT rfl (sA (sT1 rfl) sT0)) sB0 sF0) ?_
                                        refine AL_cons (LR_pick (b := true) (at_tmp 52 _) (at_tmp 55 _) (at_c (v' := Bl false) rfl) rfl) (sS (sA (sT1 rfl) (sA (sT1 rfl) sT0)) sB0 sF0) ?_
                                        exact AL_nil ⟨rfl, weak0 ((sT rfl (sT rfl (sT rfl (sT rfl (sT rfl (sT rfl (sT rfl (sT rfl (sT rfl (sT rfl (sT rfl (sT rfl (sT rfl (sT rfl (sT rfl (sT rfl (sT rfl (sT rfl sT0))))))))))))))))))) (sub_keep (sub_keep (sub_keep sub_nil)))⟩
                                    refine AL_cons (LR_assign (at_tmp 56 _) rfl) (sS (sT1 rfl) sB0 sF0) ?_
                                    refine AL_nil ?_
                                    exact thenN (cutLeaf (v := (sv18, (x20 == 2) && ((w32 ((BitVec.ofInt 32 x26 ||| BitVec.ofInt 32 32).toNat : Int)) == 120))) ⟨hsv18, hr⟩ (weak0 ((sT rfl (sT rfl (sT rfl (sT rfl (sT rfl (sT rfl (sT rfl (sT rfl (sT rfl (sT rfl (sT rfl (sT rfl (sT rfl (sT rfl sT0))))))))))))))) (sub_keep (sub_keep (sub_keep sub_nil)))))
                                  · rintro ⟨sv20, x32⟩ ⟨hsv20, hr⟩
                                    show AW Hfaa.prog _ _ _ ⟨[(0, .inl (is (Sv a0))), (2, .inr (.inl (2, 0))), (3, .inl (is ( sv20))), (4, .inl (is (Bl x16))), (5, .inl (is (Bl x17))), (6, .inl (is (I64 x18))), (7, .inl (is (I64 x19))), (8, .inl (is (I64 x20))), (20, .inr (.inl (20, 0))), (9, .inl (is (I64 x25))), (10, .inl (is (I32 x26))), (11, .inl (is (Bl x27))), (12, .inl (is (Bl x28))), (49, .inl (is (Bl x32)))], [(2, pb 307 [is (U8 (0#8)), is (Bl false), is (Sv ([] : List UInt8)), is (I16 0), is (I64 0), is (I32 0)]), (1001, rowc sv20 (k1 U8) 1 x21), (20, itc a0 x24)]⟩
                                    have hr : some out2 = F323_23 N a0 x16 x17 x18 x19 x20 x21 x24 x25 x26 x27 x28 x32 := hr
                                    refine AW_condT (b := x32) rfl (fun h => ?_) (fun h => ?_)
                                    · have hr := hr.trans (cond_t h)
                                      clear h
                                      refine AW_cut (σ := Value) (fun v => ⟨[(0, .inl (is (Sv a0))), (2, .inr (.inl (2, 0))), (3, .inl (is ( v))), (4, .inl (is (Bl x16))), (5, .inl (is (Bl x17))), (6, .inl (is (I64 x18))), (7, .inl (is (I64 x19))), (8, .inl (is (I64 3))), (20, .inr (.inl (20, 0)))], [(2, pb 307 [is (U8 (0#8)), is (Bl false), is (Sv ([] : List UInt8)), is (I16 0), is (I64 0), is (I32 0)]), (1001, rowc v (k1 U8) 1 x21), (20, itc a0 x24)]⟩) (fun v => isCell v = true ∧ some out2 = F323_24 N a0 x16 x17 x18 x19 x21 x24) ?_ ?_
                                      · skip
                                        refine AW_region ?_
                                        refine AL_cons (LR_assign (at_c (v' := I64 3) rfl) rfl) (sS sT0 sB0 sF0) ?_
                                        refine AL_nil ?_
                                        exact thenN (cutLeaf (v := sv20) ⟨hsv20, hr⟩ (weak0 ((sT rfl (sT rfl (sT rfl (sT rfl (sT rfl (sT rfl (sT rfl (sT rfl (sT rfl sT0)))))))))) (sub_keep (sub_keep (sub_keep sub_nil)))))
                                      · rintro sv21 ⟨hsv21, hr⟩
                                        show AW Hfaa.prog _ _ _ ⟨[(0, .inl (is (Sv a0))), (2, .inr (.inl (2, 0))), (3, .inl (is ( sv21))), (4, .inl (is (Bl x16))), (5, .inl (is (Bl x17))), (6, .inl (is (I64 x18))), (7, .inl (is (I64 x19))), (8, .inl (is (I64 3))), (20, .inr (.inl (20, 0)))], [(2, pb 307 [is (U8 (0#8)), is (Bl false), is (Sv ([] : List UInt8)), is (I16 0), is (I64 0), is (I32 0)]), (1001, rowc sv21 (k1 U8) 1 x21), (20, itc a0 x24)]⟩
                                        have hr : some out2 = F323_24 N a0 x16 x17 x18 x19 x21 x24 := hr
                                        refine AW_exit ?_
                                        refine blO (by decide) ?_
                                        refine thenX ?_
                                        refine blH ?_
                                        exact thenN (loopNextV (v' := sv21) (x' := (x16, x17, x18, x19, 3, x21, x24)) hsv21 hr (weak0 ((sT rfl (sT rfl (sT rfl (sT rfl (sT rfl (sT rfl (sT rfl (sT rfl (sT rfl sT0)))))))))) (sub_keep (sub_keep (sub_keep sub_nil)))))
                                    · have hr := hr.trans (cond_f h)
                                      clear h
                                      refine AW_cut (σ := Value × Bool) (fun v => ⟨[(0, .inl (is (Sv a0))), (2, .inr (.inl (2, 0))), (3, .inl (is ( v.1))), (4, .inl (is (Bl x16))), (5, .inl (is (Bl x17))), (6, .inl (is (I64 x18))), (7, .inl (is (I64 x19))), (8, .inl (is (I64 x20))), (20, .inr (.inl (20, 0))), (9, .inl (is (I64 x25))), (10, .inl (is (I32 x26))), (11, .inl (is (Bl x27))), (12, .inl (is (Bl x28))), (57, .inl (is (Bl v.2)))], [(2, pb 307 [is (U8 (0#8)), is (Bl false), is (Sv ([] : List UInt8)), is (I16 0), is (I64 0), is (I32 0)]), (1001, rowc v.1 (k1 U8) 1 x21), (20, itc a0 x24)]⟩) (fun v => isCell v.1 = true ∧ some out2 = F323_25 N a0 x16 x17 x18 x19 x20 x21 x24 x25 x26 x27 x28 v.2) ?_ ?_
                                      · skip
                                        refine AW_region ?_
                                        refine AL_cons (LR_move (at_tmp 8 _) rfl) (sS (sT1 rfl) sB0 sF0) ?_
                                        refine AL_cons (LR_bin (at_tmp 58 _) (at_c (v' := I64 3) rfl) (eql_I64 x20 3) rfl) (sS (sA (sT1 rfl) sT0) sB0 sF0) ?_
                                        refine AL_cons (LR_move (at_tmp 59 _) rfl) (sS (sT1 rfl) sB0 sF0) ?_
                                        refine AL_cutAt 3 ⟨[(0, .inl (is (Sv a0))), (2, .inr (.inl (2, 0))), (3, .inl (is ( sv20))), (4, .inl (is (Bl x16))), (5, .inl (is (Bl x17))), (6, .inl (is (I64 x18))), (7, .inl (is (I64 x19))), (8, .inl (is (I64 x20))), (20, .inr (.inl (20, 0))), (9, .inl (is (I64 x25))), (10, .inl (is (I32 x26))), (11, .inl (is (Bl x27))), (12, .inl (is (Bl x28))), (49, .inl (is (Bl x32))), (58, .inl (is (I64 x20))), (59, .inl (is (Bl (x20 == 3)))), (60, .inl (is (Bl (x20 == 3)))), (63, .inl (is (Bl ((x20 == 3) || (x20 == 4)))))], [(2, pb 307 [is (U8 (0#8)), is (Bl false), is (Sv ([] : List UInt8)), is (I16 0), is (I64 0), is (I32 0)]), (1001, rowc sv20 (k1 U8) 1 x21), (20, itc a0 x24)]⟩ ?_ ?_
                                        · cases hb : x20 == 3
                                          · skip
                                            refine AL_cons (LR_on rfl rfl rfl (LR_move (at_tmp 8 _) rfl)) (sS (sT rfl (sT1 rfl)) sB0 sF0) ?_
                                            refine AL_cons (LR_on rfl rfl rfl (LR_bin (at_tmp 61 _) (at_c (v' := I64 4) rfl) (eql_I64 x20 4) rfl)) (sS (sT rfl (sA (sT1 rfl) sT0)) sB0 sF0) ?_
                                            refine AL_cons (LR_pick (b := false) (at_tmp 60 _) (at_c (v' := Bl true) rfl) (at_tmp 62 _) rfl) (sS (sA (sT1 rfl) (sA sT0 (sT1 rfl))) sB0 sF0) ?_
                                            exact AL_nil ⟨rfl, weak0 ((sT rfl (sT rfl (sT rfl (sT rfl (sT rfl (sT rfl (sT rfl (sT rfl (sT rfl (sT rfl (sT rfl (sT rfl (sT rfl (sT rfl (sT rfl (sT rfl (sT rfl (sT rfl sT0))))))))))))))))))) (sub_keep (sub_keep (sub_keep sub_nil)))⟩
                                          · skip
                                            refine AL_cons (LR_off (b := true) rfl rfl rfl rfl) (sS (sT1 rfl) sB0 sF0) ?_
                                            refine AL_cons (LR_off (b := true) rfl rfl rfl rfl) (sS (sT1 rfl) sB0 sF0) ?_
                                            refine AL_cons (LR_pick (b := true) (at_tmp 60 _) (at_c (v' := Bl true) rfl) (at_tmp 62 _) rfl) (sS (sA (sT1 rfl) (sA sT0 (sT1 rfl))) sB0 sF0) ?_
                                            exact AL_nil ⟨rfl, weak0 ((sT rfl (sT rfl (sT rfl (sT rfl (sT rfl (sT rfl (sT rfl (sT rfl (sT rfl (sT rfl (sT rfl (sT rfl (sT rfl (sT rfl (sT rfl (sT rfl (sT rfl (sT rfl sT0))))))))))))))))))) (sub_keep (sub_keep (sub_keep sub_nil)))⟩
                                        refine AL_cons (LR_move (at_tmp 63 _) rfl) (sS (sT1 rfl) sB0 sF0) ?_
                                        refine AL_cutAt 2 ⟨[(0, .inl (is (Sv a0))), (2, .inr (.inl (2, 0))), (3, .inl (is ( sv20))), (4, .inl (is (Bl x16))), (5, .inl (is (Bl x17))), (6, .inl (is (I64 x18))), (7, .inl (is (I64 x19))), (8, .inl (is (I64 x20))), (20, .inr (.inl (20, 0))), (9, .inl (is (I64 x25))), (10, .inl (is (I32 x26))), (11, .inl (is (Bl x27))), (12, .inl (is (Bl x28))), (49, .inl (is (Bl x32))), (58, .inl (is (I64 x20))), (59, .inl (is (Bl (x20 == 3)))), (60, .inl (is (Bl (x20 == 3)))), (63, .inl (is (Bl ((x20 == 3) || (x20 == 4))))), (64, .inl (is (Bl ((x20 == 3) || (x20 == 4))))), (66, .inl (is (Bl (((x20 == 3) || (x20 == 4)) && x27))))], [(2, pb 307 [is (U8 (0#8)), is (Bl false), is (Sv ([] : List UInt8)), is (I16 0), is (I64 0), is (I32 0)]), (1001, rowc sv20 (k1 U8) 1 x21), (20, itc a0 x24)]⟩ ?_ ?_
                                        · cases hb : (x20 == 3) || (x20 == 4)
                                          · skip
                                            refine AL_cons (LR_off (b := false) rfl rfl rfl rfl) (sS (sT1 rfl) sB0 sF0) ?_
                                            refine AL_cons (LR_pick (b := false) (at_tmp 64 _) (at_tmp 65 _) (at_c (v' := Bl false) rfl) rfl) (sS (sA (sT1 rfl) (sA (sT1 rfl) sT0)) sB0 sF0) ?_
                                            exact AL_nil ⟨rfl, weak0 ((sT rfl (sT rfl (sT rfl (sT rfl (sT rfl (sT rfl (sT rfl (sT rfl (sT rfl (sT rfl (sT rfl (sT rfl (sT rfl (sT rfl (sT rfl (sT rfl (sT rfl (sT rfl (sT rfl (sT rfl sT0))))))))))))))))))))) (sub_keep (sub_keep (sub_keep sub_nil)))⟩
                                          · skip
                                            refine AL_cons (LR_on rfl rfl rfl (LR_move (at_tmp 11 _) rfl)) (sS (sT rfl (sT1 rfl)) sB0 sF0) ?_
                                            refine AL_cons (LR_pick (b := true) (at_tmp 64 _) (at_tmp 65 _) (at_c (v' := Bl false) rfl) rfl) (sS (sA (sT1 rfl) (sA (sT1 rfl) sT0)) sB0 sF0) ?_
                                            exact AL_nil ⟨rfl, weak0 ((sT rfl (sT rfl (sT rfl (sT rfl (sT rfl (sT rfl (sT rfl (sT rfl (sT rfl (sT rfl (sT rfl (sT rfl (sT rfl (sT rfl (sT rfl (sT rfl (sT rfl (sT rfl (sT rfl (sT rfl sT0))))))))))))))))))))) (sub_keep (sub_keep (sub_keep sub_nil)))⟩
                                        refine AL_cons (LR_assign (at_tmp 66 _) rfl) (sS (sT1 rfl) sB0 sF0) ?_
                                        refine AL_nil ?_
                                        exact thenN (cutLeaf (v := (sv20, ((x20 == 3) || (x20 == 4)) && x27)) ⟨hsv20, hr⟩ (weak0 ((sT rfl (sT rfl (sT rfl (sT rfl (sT rfl (sT rfl (sT rfl (sT rfl (sT rfl (sT rfl (sT rfl (sT rfl (sT rfl (sT rfl sT0))))))))))))))) (sub_keep (sub_keep (sub_keep sub_nil)))))
                                      · rintro ⟨sv22, x33⟩ ⟨hsv22, hr⟩
                                        show AW Hfaa.prog _ _ _ ⟨[(0, .inl (is (Sv a0))), (2, .inr (.inl (2, 0))), (3, .inl (is ( sv22))), (4, .inl (is (Bl x16))), (5, .inl (is (Bl x17))), (6, .inl (is (I64 x18))), (7, .inl (is (I64 x19))), (8, .inl (is (I64 x20))), (20, .inr (.inl (20, 0))), (9, .inl (is (I64 x25))), (10, .inl (is (I32 x26))), (11, .inl (is (Bl x27))), (12, .inl (is (Bl x28))), (57, .inl (is (Bl x33)))], [(2, pb 307 [is (U8 (0#8)), is (Bl false), is (Sv ([] : List UInt8)), is (I16 0), is (I64 0), is (I32 0)]), (1001, rowc sv22 (k1 U8) 1 x21), (20, itc a0 x24)]⟩
                                        have hr : some out2 = F323_25 N a0 x16 x17 x18 x19 x20 x21 x24 x25 x26 x27 x28 x33 := hr
                                        refine AW_condT (b := x33) rfl (fun h => ?_) (fun h => ?_)
                                        · have hr := hr.trans (cond_t h)
                                          clear h
                                          refine AW_cut (σ := Value × NS (BitVec 8)) (fun v => ⟨[(0, .inl (is (Sv a0))), (2, .inr (.inl (2, 0))), (3, .inl (is ( v.1))), (4, .inl (is (Bl x16))), (5, .inl (is (Bl x17))), (6, .inl (is (I64 x18))), (7, .inl (is (I64 x19))), (8, .inl (is (I64 4))), (20, .inr (.inl (20, 0)))], [(2, pb 307 [is (U8 (0#8)), is (Bl false), is (Sv ([] : List UInt8)), is (I16 0), is (I64 0), is (I32 0)]), (1001, rowc v.1 (k1 U8) 1 v.2), (20, itc a0 x24)]⟩) (fun v => isCell v.1 = true ∧ some out2 = F323_26 N a0 x16 x17 x18 x19 x24 v.2) ?_ ?_
                                          · skip
                                            refine AW_region ?_
                                            refine AL_cons (LR_move (at_tmp 3 _) rfl) (sS (sT1 rfl) sB0 sF0) ?_
                                            refine AL_cons (LR_move (at_tmp 10 _) rfl) (sS (sT1 rfl) sB0 sF0) ?_
                                            refine AL_cons (LR_conv (vx := I32 x26) (at_tmp 68 _) (conv_U8 Hfaa.underlying21 Hfaa.underlying5 x26) rfl) (sS (sT1 rfl) sB0 sF0) ?_
                                            refine AL_cons (LR_bs1 Hfaa.underlying227 el5 (fun _ => rfl) (at_tmp 69 _) rfl) (sS (sT1 rfl) sB0 sF0) ?_
                                            obtain ⟨hg68, hr⟩ := guard_some hr
                                            refine AL_consV (app_opk (K := (k1 U8)) (r := 1001) (z := x21) (u := BitVec.ofInt 8 x26) Hfaa.underlying227 eN5 k1_len (k1_cell fun _ => rfl) (at_tmp 67 _) (at_tmp 70 _) (oneAt_k1 rfl) (of_decide_eq_true hg68) rfl rfl) (sS (sA (sT1 rfl) (sT1 rfl)) (sB1 rfl) sF0) rfl ?_
                                            intro sv24 hsv24
                                            refine AL_cons (LR_assign (at_tmp 71 _) rfl) (sS (sT1 rfl) sB0 sF0) ?_
                                            refine AL_cons (LR_assign (at_c (v' := I64 4) rfl) rfl) (sS sT0 sB0 sF0) ?_
                                            refine AL_nil ?_
                                            exact thenN (cutLeaf (v := (sv24, app x21 (BitVec.ofInt 8 x26))) ⟨hsv24, hr⟩ (weak0 ((sT rfl (sT rfl (sT rfl (sT rfl (sT rfl (sT rfl (sT rfl (sT rfl (sT rfl sT0)))))))))) (sub_keep (sub_keep (sub_keep sub_nil)))))
                                          · rintro ⟨sv23, x34⟩ ⟨hsv23, hr⟩
                                            show AW Hfaa.prog _ _ _ ⟨[(0, .inl (is (Sv a0))), (2, .inr (.inl (2, 0))), (3, .inl (is ( sv23))), (4, .inl (is (Bl x16))), (5, .inl (is (Bl x17))), (6, .inl (is (I64 x18))), (7, .inl (is (I64 x19))), (8, .inl (is (I64 4))), (20, .inr (.inl (20, 0)))], [(2, pb 307 [is (U8 (0#8)), is (Bl false), is (Sv ([] : List UInt8)), is (I16 0), is (I64 0), is (I32 0)]), (1001, rowc sv23 (k1 U8) 1 x34), (20, itc a0 x24)]⟩
                                            have hr : some out2 = F323_26 N a0 x16 x17 x18 x19 x24 x34 := hr
                                            refine AW_exit ?_
                                            refine blO (by decide) ?_
                                            refine thenX ?_
                                            refine blH ?_
                                            exact thenN (loopNextV (v' := sv23) (x' := (x16, x17, x18, x19, 4, x34, x24)) hsv23 hr (weak0 ((sT rfl (sT rfl (sT rfl (sT rfl (sT rfl (sT rfl (sT rfl (sT rfl (sT rfl sT0)))))))))) (sub_keep (sub_keep (sub_keep sub_nil)))))
                                        · have hr := hr.trans (cond_f h)
                                          clear h
                                          refine AW_cut (σ := Value × Bool) (fun v => ⟨[(0, .inl (is (Sv a0))), (2, .inr (.inl (2, 0))), (3, .inl (is ( v.1))), (4, .inl (is (Bl x16))), (5, .inl (is (Bl x17))), (6, .inl (is (I64 x18))), (7, .inl (is (I64 x19))), (8, .inl (is (I64 x20))), (20, .inr (.inl (20, 0))), (9, .inl (is (I64 x25))), (10, .inl (is (I32 x26))), (12, .inl (is (Bl x28))), (72, .inl (is (Bl v.2)))], [(2, pb 307 [is (U8 (0#8)), is (Bl false), is (Sv ([] : List UInt8)), is (I16 0), is (I64 0), is (I32 0)]), (1001, rowc v.1 (k1 U8) 1 x21), (20, itc a0 x24)]⟩) (fun v => isCell v.1 = true ∧ some out2 = F323_27 N a0 x16 x17 x18 x19 x20 x21 x24 x25 x26 x28 v.2) ?_ ?_
                                          · skip
                                            refine AW_region ?_
                                            refine AL_cons (LR_move (at_tmp 8 _) rfl) (sS (sT1 rfl) sB0 sF0) ?_
                                            refine AL_cons (LR_bin (at_tmp 73 _) (at_c (v' := I64 5) rfl) (geq_I64 x20 5) rfl) (sS (sA (sT1 rfl) sT0) sB0 sF0) ?_
                                            refine AL_cons (LR_move (at_tmp 74 _) rfl) (sS (sT1 rfl) sB0 sF0) ?_
                                            refine AL_cutAt 3 ⟨[(0, .inl (is (Sv a0))), (2, .inr (.inl (2, 0))), (3, .inl (is ( sv22))), (4, .inl (is (Bl x16))), (5, .inl (is (Bl x17))), (6, .inl (is (I64 x18))), (7, .inl (is (I64 x19))), (8, .inl (is (I64 x20))), (20, .inr (.inl (20, 0))), (9, .inl (is (I64 x25))), (10, .inl (is (I32 x26))), (11, .inl (is (Bl x27))), (12, .inl (is (Bl x28))), (57, .inl (is (Bl x33))), (73, .inl (is (I64 x20))), (74, .inl (is (Bl (decide (x20 ≥ 5))))), (75, .inl (is (Bl (decide (x20 ≥ 5))))), (78, .inl (is (Bl ((decide (x20 ≥ 5)) && (decide (x20 ≤ 7))))))], [(2, pb 307 [is (U8 (0#8)), is (Bl false), is (Sv ([] : List UInt8)), is (I16 0), is (I64 0), is (I32 0)]), (1001, rowc sv22 (k1 U8) 1 x21), (20, itc a0 x24)]⟩ ?_ ?_
                                            · cases hb : decide (x20 ≥ 5)
                                              · skip
                                                refine AL_cons (LR_off (b := false) rfl rfl rfl rfl) (sS (sT1 rfl) sB0 sF0) ?_
                                                refine AL_cons (LR_off (b := false) rfl rfl rfl rfl) (sS (sT1 rfl) sB0 sF0) ?_
                                                refine AL_cons (LR_pick (b := false) (at_tmp 75 _) (at_tmp 77 _) (at_c (v' := Bl false) rfl) rfl) (sS (sA (sT1 rfl) (sA (sT1 rfl) sT0)) sB0 sF0) ?_
                                                exact AL_nil ⟨rfl, weak0 ((sT rfl (sT rfl (sT rfl (sT rfl (sT rfl (sT rfl (sT rfl (sT rfl (sT rfl (sT rfl (sT rfl (sT rfl (sT rfl (sT rfl (sT rfl (sT rfl (sT rfl (sT rfl sT0))))))))))))))))))) (sub_keep (sub_keep (sub_keep sub_nil)))⟩
                                              · skip
                                                refine AL_cons (LR_on rfl rfl rfl (LR_move (at_tmp 8 _) rfl)) (sS (sT rfl (sT1 rfl)) sB0 sF0) ?_
                                                refine AL_cons (LR_on rfl rfl rfl (LR_bin (at_tmp 76 _) (at_c (v' := I64 7) rfl) (leq_I64 x20 7) rfl)) (sS (sT rfl (sA (sT1 rfl) sT0)) sB0 sF0) ?_
                                                refine AL_cons (LR_pick (b := true) (at_tmp 75 _) (at_tmp 77 _) (at_c (v' := Bl false) rfl) rfl) (sS (sA (sT1 rfl) (sA (sT1 rfl) sT0)) sB0 sF0) ?_
                                                exact AL_nil ⟨rfl, weak0 ((sT rfl (sT rfl (sT rfl (sT rfl (sT rfl (sT rfl (sT rfl (sT rfl (sT rfl (sT rfl (sT rfl (sT rfl (sT rfl (sT rfl (sT rfl (sT rfl (sT rfl (sT rfl sT0))))))))))))))))))) (sub_keep (sub_keep (sub_keep sub_nil)))⟩
                                            refine AL_cons (LR_move (at_tmp 78 _) rfl) (sS (sT1 rfl) sB0 sF0) ?_
                                            refine AL_cutAt 2 ⟨[(0, .inl (is (Sv a0))), (2, .inr (.inl (2, 0))), (3, .inl (is ( sv22))), (4, .inl (is (Bl x16))), (5, .inl (is (Bl x17))), (6, .inl (is (I64 x18))), (7, .inl (is (I64 x19))), (8, .inl (is (I64 x20))), (20, .inr (.inl (20, 0))), (9, .inl (is (I64 x25))), (10, .inl (is (I32 x26))), (11, .inl (is (Bl x27))), (12, .inl (is (Bl x28))), (57, .inl (is (Bl x33))), (73, .inl (is (I64 x20))), (74, .inl (is (Bl (decide (x20 ≥ 5))))), (75, .inl (is (Bl (decide (x20 ≥ 5))))), (78, .inl (is (Bl ((decide (x20 ≥ 5)) && (decide (x20 ≤ 7)))))), (79, .inl (is (Bl ((decide (x20 ≥ 5)) && (decide (x20 ≤ 7)))))), (81, .inl (is (Bl (((decide (x20 ≥ 5)) && (decide (x20 ≤ 7))) && x27))))], [(2, pb 307 [is (U8 (0#8)), is (Bl false), is (Sv ([] : List UInt8)), is (I16 0), is (I64 0), is (I32 0)]), (1001, rowc sv22 (k1 U8) 1 x21), (20, itc a0 x24)]⟩ ?_ ?_
                                            · cases hb : (decide (x20 ≥ 5)) && (decide (x20 ≤ 7))
                                              · skip
                                                refine AL_cons (LR_off (b := false) rfl rfl rfl rfl) (sS (sT1 rfl) sB0 sF0) ?_
                                                refine AL_cons (LR_pick (b := false) (at_tmp 79 _) (at_tmp 80 _) (at_c (v' := Bl false) rfl) rfl) (sS (sA (sT1 rfl) (sA (sT1 rfl) sT0)) sB0 sF0) ?_
                                                exact AL_nil ⟨rfl, weak0 ((sT rfl (sT rfl (sT rfl (sT rfl (sT rfl (sT rfl (sT rfl (sT rfl (sT rfl (sT rfl (sT rfl (sT rfl (sT rfl (sT rfl (sT rfl (sT rfl (sT rfl (sT rfl (sT rfl (sT rfl sT0))))))))))))))))))))) (sub_keep (sub_keep (sub_keep sub_nil)))⟩
                                              · skip
                                                refine AL_cons (LR_on rfl rfl rfl (LR_move (at_tmp 11 _) rfl)) (sS (sT rfl (sT1 rfl)) sB0 sF0) ?_
                                                refine AL_cons (LR_pick (b := true) (at_tmp 79 _) (at_tmp 80 _) (at_c (v' := Bl false) rfl) rfl) (sS (sA (sT1 rfl) (sA (sT1 rfl) sT0)) sB0 sF0) ?_
                                                exact AL_nil ⟨rfl, weak0 ((sT rfl (sT rfl (sT rfl (sT rfl (sT rfl (sT rfl (sT rfl (sT rfl (sT rfl (sT rfl (sT rfl (sT rfl (sT rfl (sT rfl (sT rfl (sT rfl (sT rfl (sT rfl (sT rfl (sT rfl sT0))))))))))))))))))))) (sub_keep (sub_keep (sub_keep sub_nil)))⟩
                                            refine AL_cons (LR_assign (at_tmp 81 _) rfl) (sS (sT1 rfl) sB0 sF0) ?_
                                            refine AL_nil ?_
                                            exact thenN (cutLeaf (v := (sv22, ((decide (x20 ≥ 5)) && (decide (x20 ≤ 7))) && x27)) ⟨hsv22, hr⟩ (weak0 ((sT rfl (sT rfl (sT rfl (sT rfl (sT rfl (sT rfl (sT rfl (sT rfl (sT rfl (sT rfl (sT rfl (sT rfl (sT rfl sT0)))))))))))))) (sub_keep (sub_keep (sub_keep sub_nil)))))
                                          · rintro ⟨sv25, x35⟩ ⟨hsv25, hr⟩
                                            show AW Hfaa.prog _ _ _ ⟨[(0, .inl (is (Sv a0))), (2, .inr (.inl (2, 0))), (3, .inl (is ( sv25))), (4, .inl (is (Bl x16))), (5, .inl (is (Bl x17))), (6, .inl (is (I64 x18))), (7, .inl (is (I64 x19))), (8, .inl (is (I64 x20))), (20, .inr (.inl (20, 0))), (9, .inl (is (I64 x25))), (10, .inl (is (I32 x26))), (12, .inl (is (Bl x28))), (72, .inl (is (Bl x35)))], [(2, pb 307 [is (U8 (0#8)), is (Bl false), is (Sv ([] : List UInt8)), is (I16 0), is (I64 0), is (I32 0)]), (1001, rowc sv25 (k1 U8) 1 x21), (20, itc a0 x24)]⟩
                                            have hr : some out2 = F323_27 N a0 x16 x17 x18 x19 x20 x21 x24 x25 x26 x28 x35 := hr
                                            refine AW_condT (b := x35) rfl (fun h => ?_) (fun h => ?_)
                                            · have hr := hr.trans (cond_t h)
                                              clear h
                                              refine AW_cut (σ := Value × NS (BitVec 8)) (fun v => ⟨[(0, .inl (is (Sv a0))), (2, .inr (.inl (2, 0))), (3, .inl (is ( v.1))), (4, .inl (is (Bl x16))), (5, .inl (is (Bl x17))), (6, .inl (is (I64 x18))), (7, .inl (is (I64 x19))), (8, .inl (is (I64 7))), (20, .inr (.inl (20, 0)))], [(2, pb 307 [is (U8 (0#8)), is (Bl false), is (Sv ([] : List UInt8)), is (I16 0), is (I64 0), is (I32 0)]), (1001, rowc v.1 (k1 U8) 1 v.2), (20, itc a0 x24)]⟩) (fun v => isCell v.1 = true ∧ some out2 = F323_28 N a0 x16 x17 x18 x19 x24 v.2) ?_ ?_
                                              · skip
                                                refine AW_region ?_
                                                refine AL_cons (LR_move (at_tmp 3 _) rfl) (sS (sT1 rfl) sB0 sF0) ?_
                                                refine AL_cons (LR_move (at_tmp 10 _) rfl) (sS (sT1 rfl) sB0 sF0) ?_
                                                refine AL_cons (LR_conv (vx := I32 x26) (at_tmp 83 _) (conv_U8 Hfaa.underlying21 Hfaa.underlying5 x26) rfl) (sS (sT1 rfl) sB0 sF0) ?_
                                                refine AL_cons (LR_bs1 Hfaa.underlying227 el5 (fun _ => rfl) (at_tmp 84 _) rfl) (sS (sT1 rfl) sB0 sF0) ?_
                                                obtain ⟨hg70, hr⟩ := guard_some hr
                                                refine AL_consV (app_opk (K := (k1 U8)) (r := 1001) (z := x21) (u := BitVec.ofInt 8 x26) Hfaa.underlying227 eN5 k1_len (k1_cell fun _ => rfl) (at_tmp 82 _) (at_tmp 85 _) (oneAt_k1 rfl) (of_decide_eq_true hg70) rfl rfl) (sS (sA (sT1 rfl) (sT1 rfl)) (sB1 rfl) sF0) rfl ?_
                                                intro sv28 hsv28
                                                refine AL_cons (LR_assign (at_tmp 86 _) rfl) (sS (sT1 rfl) sB0 sF0) ?_
                                                refine AL_cons (LR_assign (at_c (v' := I64 7) rfl) rfl) (sS sT0 sB0 sF0) ?_
                                                refine AL_nil ?_
                                                exact thenN (cutLeaf (v := (sv28, app x21 (BitVec.ofInt 8 x26))) ⟨hsv28, hr⟩ (weak0 ((sT rfl (sT rfl (sT rfl (sT rfl (sT rfl (sT rfl (sT rfl (sT rfl (sT rfl sT0)))))))))) (sub_keep (sub_keep (sub_keep sub_nil)))))
                                              · rintro ⟨sv26, x36⟩ ⟨hsv26, hr⟩
                                                show AW Hfaa.prog _ _ _ ⟨[(0, .inl (is (Sv a0))), (2, .inr (.inl (2, 0))), (3, .inl (is ( sv26))), (4, .inl (is (Bl x16))), (5, .inl (is (Bl x17))), (6, .inl (is (I64 x18))), (7, .inl (is (I64 x19))), (8, .inl (is (I64 7))), (20, .inr (.inl (20, 0)))], [(2, pb 307 [is (U8 (0#8)), is (Bl false), is (Sv ([] : List UInt8)), is (I16 0), is (I64 0), is (I32 0)]), (1001, rowc sv26 (k1 U8) 1 x36), (20, itc a0 x24)]⟩
                                                have hr : some out2 = F323_28 N a0 x16 x17 x18 x19 x24 x36 := hr
                                                refine AW_cut (σ := Value × Int) (fun v => ⟨[(0, .inl (is (Sv a0))), (2, .inr (.inl (2, 0))), (3, .inl (is ( v.1))), (4, .inl (is (Bl x16))), (5, .inl (is (Bl x17))), (6, .inl (is (I64 v.2))), (7, .inl (is (I64 x19))), (8, .inl (is (I64 7))), (20, .inr (.inl (20, 0)))], [(2, pb 307 [is (U8 (0#8)), is (Bl false), is (Sv ([] : List UInt8)), is (I16 0), is (I64 0), is (I32 0)]), (1001, rowc v.1 (k1 U8) 1 x36), (20, itc a0 x24)]⟩) (fun v => isCell v.1 = true ∧ some out2 = F323_29 N a0 x16 x17 x19 x24 x36 v.2) ?_ ?_
                                                · skip
                                                  refine AW_region ?_
                                                  refine AL_cons (LR_move (at_tmp 6 _) rfl) (sS (sT1 rfl) sB0 sF0) ?_
                                                  refine AL_cons (LR_bin (at_tmp 87 _) (at_c (v' := I64 1) rfl) (add_I64 x18 1) rfl) (sS (sA (sT1 rfl) sT0) sB0 sF0) ?_
                                                  refine AL_cons (LR_assign (at_tmp 88 _) rfl) (sS (sT1 rfl) sB0 sF0) ?_
                                                  refine AL_nil ?_
                                                  exact thenN (cutLeaf (v := (sv26, w64 (x18 + 1))) ⟨hsv26, hr⟩ (weak0 ((sT rfl (sT rfl (sT rfl (sT rfl (sT rfl (sT rfl (sT rfl (sT rfl (sT rfl sT0)))))))))) (sub_keep (sub_keep (sub_keep sub_nil)))))
                                                · rintro ⟨sv27, x37⟩ ⟨hsv27, hr⟩
                                                  show AW Hfaa.prog _ _ _ ⟨[(0, .inl (is (Sv a0))), (2, .inr (.inl (2, 0))), (3, .inl (is ( sv27))), (4, .inl (is (Bl x16))), (5, .inl (is (Bl x17))), (6, .inl (is (I64 x37))), (7, .inl (is (I64 x19))), (8, .inl (is (I64 7))), (20, .inr (.inl (20, 0)))], [(2, pb 307 [is (U8 (0#8)), is (Bl false), is (Sv ([] : List UInt8)), is (I16 0), is (I64 0), is (I32 0)]), (1001, rowc sv27 (k1 U8) 1 x36), (20, itc a0 x24)]⟩
                                                  have hr : some out2 = F323_29 N a0 x16 x17 x19 x24 x36 x37 := hr
                                                  refine AW_exit ?_
                                                  refine blO (by decide) ?_
                                                  refine thenX ?_
                                                  refine blH ?_
                                                  exact thenN (loopNextV (v' := sv27) (x' := (x16, x17, x37, x19, 7, x36, x24)) hsv27 hr (weak0 ((sT rfl (sT rfl (sT rfl (sT rfl (sT rfl (sT rfl (sT rfl (sT rfl (sT rfl sT0)))))))))) (sub_keep (sub_keep (sub_keep sub_nil)))))
                                            · have hr := hr.trans (cond_f h)
                                              clear h
                                              refine AW_cut (σ := Value × Bool) (fun v => ⟨[(0, .inl (is (Sv a0))), (2, .inr (.inl (2, 0))), (3, .inl (is ( v.1))), (4, .inl (is (Bl x16))), (5, .inl (is (Bl x17))), (6, .inl (is (I64 x18))), (7, .inl (is (I64 x19))), (8, .inl (is (I64 x20))), (20, .inr (.inl (20, 0))), (9, .inl (is (I64 x25))), (10, .inl (is (I32 x26))), (12, .inl (is (Bl x28))), (89, .inl (is (Bl v.2)))], [(2, pb 307 [is (U8 (0#8)), is (Bl false), is (Sv ([] : List UInt8)), is (I16 0), is (I64 0), is (I32 0)]), (1001, rowc v.1 (k1 U8) 1 x21), (20, itc a0 x24)]⟩) (fun v => isCell v.1 = true ∧ some out2 = F323_30 N a0 x16 x17 x18 x19 x20 x21 x24 x25 x26 x28 v.2) ?_ ?_
                                              · skip
                                                refine AW_region ?_
                                                refine AL_cons (LR_move (at_tmp 8 _) rfl) (sS (sT1 rfl) sB0 sF0) ?_
                                                refine AL_cons (LR_bin (at_tmp 90 _) (at_c (v' := I64 3) rfl) (eql_I64 x20 3) rfl) (sS (sA (sT1 rfl) sT0) sB0 sF0) ?_
                                                refine AL_cons (LR_move (at_tmp 91 _) rfl) (sS (sT1 rfl) sB0 sF0) ?_
                                                refine AL_cutAt 3 ⟨[(0, .inl (is (Sv a0))), (2, .inr (.inl (2, 0))), (3, .inl (is ( sv25))), (4, .inl (is (Bl x16))), (5, .inl (is (Bl x17))), (6, .inl (is (I64 x18))), (7, .inl (is (I64 x19))), (8, .inl (is (I64 x20))), (20, .inr (.inl (20, 0))), (9, .inl (is (I64 x25))), (10, .inl (is (I32 x26))), (12, .inl (is (Bl x28))), (72, .inl (is (Bl x35))), (90, .inl (is (I64 x20))), (91, .inl (is (Bl (x20 == 3)))), (92, .inl (is (Bl (x20 == 3)))), (95, .inl (is (Bl ((x20 == 3) && (x26 == 46)))))], [(2, pb 307 [is (U8 (0#8)), is (Bl false), is (Sv ([] : List UInt8)), is (I16 0), is (I64 0), is (I32 0)]), (1001, rowc sv25 (k1 U8) 1 x21), (20, itc a0 x24)]⟩ ?_ ?_
                                                · cases hb : x20 == 3
                                                  · skip
                                                    refine AL_cons (LR_off (b := false) rfl rfl rfl rfl) (sS (sT1 rfl) sB0 sF0) ?_
                                                    refine AL_cons (LR_off (b := false) rfl rfl rfl rfl) (sS (sT1 rfl) sB0 sF0) ?_
                                                    refine AL_cons (LR_pick (b := false) (at_tmp 92 _) (at_tmp 94 _) (at_c (v' := Bl false) rfl) rfl) (sS (sA (sT1 rfl) (sA (sT1 rfl) sT0)) sB0 sF0) ?_
                                                    exact AL_nil ⟨rfl, weak0 ((sT rfl (sT rfl (sT rfl (sT rfl (sT rfl (sT rfl (sT rfl (sT rfl (sT rfl (sT rfl (sT rfl (sT rfl (sT rfl (sT rfl (sT rfl (sT rfl (sT rfl sT0)))))))))))))))))) (sub_keep (sub_keep (sub_keep sub_nil)))⟩
                                                  · skip
                                                    refine AL_cons (LR_on rfl rfl rfl (LR_move (at_tmp 10 _) rfl)) (sS (sT rfl (sT1 rfl)) sB0 sF0) ?_
                                                    refine AL_cons (LR_on rfl rfl rfl (LR_bin (at_tmp 93 _) (at_c (v' := I32 46) rfl) (eql_I32 x26 46) rfl)) (sS (sT rfl (sA (sT1 rfl) sT0)) sB0 sF0) ?_
                                                    refine AL_cons (LR_pick (b := true) (at_tmp 92 _) (at_tmp 94 _) (at_c (v' := Bl false) rfl) rfl) (sS (sA (sT1 rfl) (sA (sT1 rfl) sT0)) sB0 sF0) ?_
                                                    exact AL_nil ⟨rfl, weak0 ((sT rfl (sT rfl (sT rfl (sT rfl (sT rfl (sT rfl (sT rfl (sT rfl (sT rfl (sT rfl (sT rfl (sT rfl (sT rfl (sT rfl (sT rfl (sT rfl (sT rfl sT0)))))))))))))))))) (sub_keep (sub_keep (sub_keep sub_nil)))⟩
                                                refine AL_cons (LR_assign (at_tmp 95 _) rfl) (sS (sT1 rfl) sB0 sF0) ?_
                                                refine AL_nil ?_
                                                exact thenN (cutLeaf (v := (sv25, (x20 == 3) && (x26 == 46))) ⟨hsv25, hr⟩ (weak0 ((sT rfl (sT rfl (sT rfl (sT rfl (sT rfl (sT rfl (sT rfl (sT rfl (sT rfl (sT rfl (sT rfl (sT rfl (sT rfl sT0)))))))))))))) (sub_keep (sub_keep (sub_keep sub_nil)))))
                                              · rintro ⟨sv29, x38⟩ ⟨hsv29, hr⟩
                                                show AW Hfaa.prog _ _ _ ⟨[(0, .inl (is (Sv a0))), (2, .inr (.inl (2, 0))), (3, .inl (is ( sv29))), (4, .inl (is (Bl x16))), (5, .inl (is (Bl x17))), (6, .inl (is (I64 x18))), (7, .inl (is (I64 x19))), (8, .inl (is (I64 x20))), (20, .inr (.inl (20, 0))), (9, .inl (is (I64 x25))), (10, .inl (is (I32 x26))), (12, .inl (is (Bl x28))), (89, .inl (is (Bl x38)))], [(2, pb 307 [is (U8 (0#8)), is (Bl false), is (Sv ([] : List UInt8)), is (I16 0), is (I64 0), is (I32 0)]), (1001, rowc sv29 (k1 U8) 1 x21), (20, itc a0 x24)]⟩
                                                have hr : some out2 = F323_30 N a0 x16 x17 x18 x19 x20 x21 x24 x25 x26 x28 x38 := hr
                                                refine AW_condT (b := x38) rfl (fun h => ?_) (fun h => ?_)
                                                · have hr := hr.trans (cond_t h)
                                                  clear h
                                                  refine AW_cut (σ := Value) (fun v => ⟨[(0, .inl (is (Sv a0))), (2, .inr (.inl (2, 0))), (3, .inl (is ( v))), (4, .inl (is (Bl x16))), (5, .inl (is (Bl x17))), (6, .inl (is (I64 x18))), (7, .inl (is (I64 x19))), (8, .inl (is (I64 6))), (20, .inr (.inl (20, 0)))], [(2, pb 307 [is (U8 (0#8)), is (Bl false), is (Sv ([] : List UInt8)), is (I16 0), is (I64 0), is (I32 0)]), (1001, rowc v (k1 U8) 1 x21), (20, itc a0 x24)]⟩) (fun v => isCell v = true ∧ some out2 = F323_31 N a0 x16 x17 x18 x19 x21 x24) ?_ ?_
                                                  · skip
                                                    refine AW_region ?_
                                                    refine AL_cons (LR_assign (at_c (v' := I64 6) rfl) rfl) (sS sT0 sB0 sF0) ?_
                                                    refine AL_nil ?_
                                                    exact thenN (cutLeaf (v := sv29) ⟨hsv29, hr⟩ (weak0 ((sT rfl (sT rfl (sT rfl (sT rfl (sT rfl (sT rfl (sT rfl (sT rfl (sT rfl sT0)))))))))) (sub_keep (sub_keep (sub_keep sub_nil)))))
                                                  · rintro sv30 ⟨hsv30, hr⟩
                                                    show AW Hfaa.prog _ _ _ ⟨[(0, .inl (is (Sv a0))), (2, .inr (.inl (2, 0))), (3, .inl (is ( sv30))), (4, .inl (is (Bl x16))), (5, .inl (is (Bl x17))), (6, .inl (is (I64 x18))), (7, .inl (is (I64 x19))), (8, .inl (is (I64 6))), (20, .inr (.inl (20, 0)))], [(2, pb 307 [is (U8 (0#8)), is (Bl false), is (Sv ([] : List UInt8)), is (I16 0), is (I64 0), is (I32 0)]), (1001, rowc sv30 (k1 U8) 1 x21), (20, itc a0 x24)]⟩
                                                    have hr : some out2 = F323_31 N a0 x16 x17 x18 x19 x21 x24 := hr
                                                    refine AW_exit ?_
                                                    refine blO (by decide) ?_
                                                    refine thenX ?_
                                                    refine blH ?_
                                                    exact thenN (loopNextV (v' := sv30) (x' := (x16, x17, x18, x19, 6, x21, x24)) hsv30 hr (weak0 ((sT rfl (sT rfl (sT rfl (sT rfl (sT rfl (sT rfl (sT rfl (sT rfl (sT rfl sT0)))))))))) (sub_keep (sub_keep (sub_keep sub_nil)))))
                                                · have hr := hr.trans (cond_f h)
                                                  clear h
                                                  refine AW_cut (σ := Value × Bool) (fun v => ⟨[(0, .inl (is (Sv a0))), (2, .inr (.inl (2, 0))), (3, .inl (is ( v.1))), (4, .inl (is (Bl x16))), (5, .inl (is (Bl x17))), (6, .inl (is (I64 x18))), (7, .inl (is (I64 x19))), (8, .inl (is (I64 x20))), (20, .inr (.inl (20, 0))), (9, .inl (is (I64 x25))), (10, .inl (is (I32 x26))), (12, .inl (is (Bl x28))), (96, .inl (is (Bl v.2)))], [(2, pb 307 [is (U8 (0#8)), is (Bl false), is (Sv ([] : List UInt8)), is (I16 0), is (I64 0), is (I32 0)]), (1001, rowc v.1 (k1 U8) 1 x21), (20, itc a0 x24)]⟩) (fun v => isCell v.1 = true ∧ some out2 = F323_32 N a0 x16 x17 x18 x19 x20 x21 x24 x25 x26 x28 v.2) ?_ ?_
                                                  · skip
                                                    refine AW_region ?_
                                                    refine AL_cons (LR_move (at_tmp 8 _) rfl) (sS (sT1 rfl) sB0 sF0) ?_
                                                    refine AL_cons (LR_bin (at_tmp 97 _) (at_c (v' := I64 4) rfl) (eql_I64 x20 4) rfl) (sS (sA (sT1 rfl) sT0) sB0 sF0) ?_
                                                    refine AL_cons (LR_move (at_tmp 98 _) rfl) (sS (sT1 rfl) sB0 sF0) ?_
                                                    refine AL_cutAt 3 ⟨[(0, .inl (is (Sv a0))), (2, .inr (.inl (2, 0))), (3, .inl (is ( sv29))), (4, .inl (is (Bl x16))), (5, .inl (is (Bl x17))), (6, .inl (is (I64 x18))), (7, .inl (is (I64 x19))), (8, .inl (is (I64 x20))), (20, .inr (.inl (20, 0))), (9, .inl (is (I64 x25))), (10, .inl (is (I32 x26))), (12, .inl (is (Bl x28))), (89, .inl (is (Bl x38))), (97, .inl (is (I64 x20))), (98, .inl (is (Bl (x20 == 4)))), (99, .inl (is (Bl (x20 == 4)))), (102, .inl (is (Bl ((x20 == 4) && (x26 == 46)))))], [(2, pb 307 [is (U8 (0#8)), is (Bl false), is (Sv ([] : List UInt8)), is (I16 0), is (I64 0), is (I32 0)]), (1001, rowc sv29 (k1 U8) 1 x21), (20, itc a0 x24)]⟩ ?_ ?_
                                                    · cases hb : x20 == 4
                                                      · skip
                                                        refine AL_cons (LR_off (b := false) rfl rfl rfl rfl) (sS (sT1 rfl) sB0 sF0) ?_
                                                        refine AL_cons (LR_off (b := false) rfl rfl rfl rfl) (sS (sT1 rfl) sB0 sF0) ?_
                                                        refine AL_cons (LR_pick (b := false) (at_tmp 99 _) (at_tmp 101 _) (at_c (v' := Bl false) rfl) rfl) (sS (sA (sT1 rfl) (sA (sT1 rfl) sT0)) sB0 sF0) ?_
                                                        exact AL_nil ⟨rfl, weak0 ((sT rfl (sT rfl (sT rfl (sT rfl (sT rfl (sT rfl (sT rfl (sT rfl (sT rfl (sT rfl (sT rfl (sT rfl (sT rfl (sT rfl (sT rfl (sT rfl (sT rfl sT0)))))))))))))))))) (sub_keep (sub_keep (sub_keep sub_nil)))⟩
                                                      · skip
                                                        refine AL_cons (LR_on rfl rfl rfl (LR_move (at_tmp 10 _) rfl)) (sS (sT rfl (sT1 rfl)) sB0 sF0) ?_
                                                        refine AL_cons (LR_on rfl rfl rfl (LR_bin (at_tmp 100 _) (at_c (v' := I32 46) rfl) (eql_I32 x26 46) rfl)) (sS (sT rfl (sA (sT1 rfl) sT0)) sB0 sF0) ?_
                                                        refine AL_cons (LR_pick (b := true) (at_tmp 99 _) (at_tmp 101 _) (at_c (v' := Bl false) rfl) rfl) (sS (sA (sT1 rfl) (sA (sT1 rfl) sT0)) sB0 sF0) ?_
                                                        exact AL_nil ⟨rfl, weak0 ((sT rfl (sT rfl (sT rfl (sT rfl (sT rfl (sT rfl (sT rfl (sT rfl (sT rfl (sT rfl (sT rfl (sT rfl (sT rfl (sT rfl (sT rfl (sT rfl (sT rfl sT0)))))))))))))))))) (sub_keep (sub_keep (sub_keep sub_nil)))⟩
                                                    refine AL_cons (LR_assign (at_tmp 102 _) rfl) (sS (sT1 rfl) sB0 sF0) ?_
                                                    refine AL_nil ?_
                                                    exact thenN (cutLeaf (v := (sv29, (x20 == 4) && (x26 == 46))) ⟨hsv29, hr⟩ (weak0 ((sT rfl (sT rfl (sT rfl (sT rfl (sT rfl (sT rfl (sT rfl (sT rfl (sT rfl (sT rfl (sT rfl (sT rfl (sT rfl sT0)))))))))))))) (sub_keep (sub_keep (sub_keep sub_nil)))))
                                                  · rintro ⟨sv31, x39⟩ ⟨hsv31, hr⟩
                                                    show AW Hfaa.prog _ _ _ ⟨[(0, .inl (is (Sv a0))), (2, .inr (.inl (2, 0))), (3, .inl (is ( sv31))), (4, .inl (is (Bl x16))), (5, .inl (is (Bl x17))), (6, .inl (is (I64 x18))), (7, .inl (is (I64 x19))), (8, .inl (is (I64 x20))), (20, .inr (.inl (20, 0))), (9, .inl (is (I64 x25))), (10, .inl (is (I32 x26))), (12, .inl (is (Bl x28))), (96, .inl (is (Bl x39)))], [(2, pb 307 [is (U8 (0#8)), is (Bl false), is (Sv ([] : List UInt8)), is (I16 0), is (I64 0), is (I32 0)]), (1001, rowc sv31 (k1 U8) 1 x21), (20, itc a0 x24)]⟩
                                                    have hr : some out2 = F323_32 N a0 x16 x17 x18 x19 x20 x21 x24 x25 x26 x28 x39 := hr
                                                    refine AW_condT (b := x39) rfl (fun h => ?_) (fun h => ?_)
                                                    · have hr := hr.trans (cond_t h)
                                                      clear h
                                                      refine AW_cut (σ := Value) (fun v => ⟨[(0, .inl (is (Sv a0))), (2, .inr (.inl (2, 0))), (3, .inl (is ( v))), (4, .inl (is (Bl x16))), (5, .inl (is (Bl x17))), (6, .inl (is (I64 x18))), (7, .inl (is (I64 x19))), (8, .inl (is (I64 5))), (20, .inr (.inl (20, 0)))], [(2, pb 307 [is (U8 (0#8)), is (Bl false), is (Sv ([] : List UInt8)), is (I16 0), is (I64 0), is (I32 0)]), (1001, rowc v (k1 U8) 1 x21), (20, itc a0 x24)]⟩) (fun v => isCell v = true ∧ some out2 = F323_33 N a0 x16 x17 x18 x19 x21 x24) ?_ ?_
                                                      · skip
                                                        refine AW_region ?_
                                                        refine AL_cons (LR_assign (at_c (v' := I64 5) rfl) rfl) (sS sT0 sB0 sF0) ?_
                                                        refine AL_nil ?_
                                                        exact thenN (cutLeaf (v := sv31) ⟨hsv31, hr⟩ (weak0 ((sT rfl (sT rfl (sT rfl (sT rfl (sT rfl (sT rfl (sT rfl (sT rfl (sT rfl sT0)))))))))) (sub_keep (sub_keep (sub_keep sub_nil)))))
                                                      · rintro sv32 ⟨hsv32, hr⟩
                                                        show AW Hfaa.prog _ _ _ ⟨[(0, .inl (is (Sv a0))), (2, .inr (.inl (2, 0))), (3, .inl (is ( sv32))), (4, .inl (is (Bl x16))), (5, .inl (is (Bl x17))), (6, .inl (is (I64 x18))), (7, .inl (is (I64 x19))), (8, .inl (is (I64 5))), (20, .inr (.inl (20, 0)))], [(2, pb 307 [is (U8 (0#8)), is (Bl false), is (Sv ([] : List UInt8)), is (I16 0), is (I64 0), is (I32 0)]), (1001, rowc sv32 (k1 U8) 1 x21), (20, itc a0 x24)]⟩
                                                        have hr : some out2 = F323_33 N a0 x16 x17 x18 x19 x21 x24 := hr
                                                        refine AW_exit ?_
                                                        refine blO (by decide) ?_
                                                        refine thenX ?_
                                                        refine blH ?_
                                                        exact thenN (loopNextV (v' := sv32) (x' := (x16, x17, x18, x19, 5, x21, x24)) hsv32 hr (weak0 ((sT rfl (sT rfl (sT rfl (sT rfl (sT rfl (sT rfl (sT rfl (sT rfl (sT rfl sT0)))))))))) (sub_keep (sub_keep (sub_keep sub_nil)))))
                                                    · have hr := hr.trans (cond_f h)
                                                      clear h
                                                      refine AW_cut (σ := Value × Bool) (fun v => ⟨[(0, .inl (is (Sv a0))), (2, .inr (.inl (2, 0))), (3, .inl (is ( v.1))), (4, .inl (is (Bl x16))), (5, .inl (is (Bl x17))), (6, .inl (is (I64 x18))), (7, .inl (is (I64 x19))), (8, .inl (is (I64 x20))), (20, .inr (.inl (20, 0))), (9, .inl (is (I64 x25))), (10, .inl (is (I32 x26))), (12, .inl (is (Bl x28))), (103, .inl (is (Bl v.2)))], [(2, pb 307 [is (U8 (0#8)), is (Bl false), is (Sv ([] : List UInt8)), is (I16 0), is (I64 0), is (I32 0)]), (1001, rowc v.1 (k1 U8) 1 x21), (20, itc a0 x24)]⟩) (fun v => isCell v.1 = true ∧ some out2 = F323_34 N a0 x16 x17 x18 x19 x20 x21 x24 x25 x26 x28 v.2) ?_ ?_
                                                      · skip
                                                        refine AW_region ?_
                                                        refine AL_cons (LR_move (at_tmp 8 _) rfl) (sS (sT1 rfl) sB0 sF0) ?_
                                                        refine AL_cons (LR_bin (at_tmp 104 _) (at_c (v' := I64 4) rfl) (eql_I64 x20 4) rfl) (sS (sA (sT1 rfl) sT0) sB0 sF0) ?_
                                                        refine AL_cons (LR_move (at_tmp 105 _) rfl) (sS (sT1 rfl) sB0 sF0) ?_
                                                        refine AL_cutAt 3 ⟨[(0, .inl (is (Sv a0))), (2, .inr (.inl (2, 0))), (3, .inl (is ( sv31))), (4, .inl (is (Bl x16))), (5, .inl (is (Bl x17))), (6, .inl (is (I64 x18))), (7, .inl (is (I64 x19))), (8, .inl (is (I64 x20))), (20, .inr (.inl (20, 0))), (9, .inl (is (I64 x25))), (10, .inl (is (I32 x26))), (12, .inl (is (Bl x28))), (96, .inl (is (Bl x39))), (104, .inl (is (I64 x20))), (105, .inl (is (Bl (x20 == 4)))), (106, .inl (is (Bl (x20 == 4)))), (109, .inl (is (Bl ((x20 == 4) || (x20 == 5)))))], [(2, pb 307 [is (U8 (0#8)), is (Bl false), is (Sv ([] : List UInt8)), is (I16 0), is (I64 0), is (I32 0)]), (1001, rowc sv31 (k1 U8) 1 x21), (20, itc a0 x24)]⟩ ?_ ?_
                                                        · cases hb : x20 == 4
                                                          · skip
                                                            refine AL_cons (LR_on rfl rfl rfl (LR_move (at_tmp 8 _) rfl)) (sS (sT rfl (sT1 rfl)) sB0 sF0) ?_
                                                            refine AL_cons (LR_on rfl rfl rfl (LR_bin (at_tmp 107 _) (at_c (v' := I64 5) rfl) (eql_I64 x20 5) rfl)) (sS (sT rfl (sA (sT1 rfl) sT0)) sB0 sF0) ?_
                                                            refine AL_cons (LR_pick (b := false) (at_tmp 106 _) (at_c (v' := Bl true) rfl) (at_tmp 108 _) rfl) (sS (sA (sT1 rfl) (sA sT0 (sT1 rfl))) sB0 sF0) ?_
                                                            exact AL_nil ⟨rfl, weak0 ((sT rfl (sT rfl (sT rfl (sT rfl (sT rfl (sT rfl (sT rfl (sT rfl (sT rfl (sT rfl (sT rfl (sT rfl (sT rfl (sT rfl (sT rfl (sT rfl (sT rfl sT0)))))))))))))))))) (sub_keep (sub_keep (sub_keep sub_nil)))⟩
                                                          · skip
                                                            refine AL_cons (LR_off (b := true) rfl rfl rfl rfl) (sS (sT1 rfl) sB0 sF0) ?_
                                                            refine AL_cons (LR_off (b := true) rfl rfl rfl rfl) (sS (sT1 rfl) sB0 sF0) ?_
                                                            refine AL_cons (LR_pick (b := true) (at_tmp 106 _) (at_c (v' := Bl true) rfl) (at_tmp 108 _) rfl) (sS (sA (sT1 rfl) (sA sT0 (sT1 rfl))) sB0 sF0) ?_
                                                            exact AL_nil ⟨rfl, weak0 ((sT rfl (sT rfl (sT rfl (sT rfl (sT rfl (sT rfl (sT rfl (sT rfl (sT rfl (sT rfl (sT rfl (sT rfl (sT rfl (sT rfl (sT rfl (sT rfl (sT rfl sT0)))))))))))))))))) (sub_keep (sub_keep (sub_keep sub_nil)))⟩
                                                        refine AL_cons (LR_move (at_tmp 109 _) rfl) (sS (sT1 rfl) sB0 sF0) ?_
                                                        refine AL_cutAt 3 ⟨[(0, .inl (is (Sv a0))), (2, .inr (.inl (2, 0))), (3, .inl (is ( sv31))), (4, .inl (is (Bl x16))), (5, .inl (is (Bl x17))), (6, .inl (is (I64 x18))), (7, .inl (is (I64 x19))), (8, .inl (is (I64 x20))), (20, .inr (.inl (20, 0))), (9, .inl (is (I64 x25))), (10, .inl (is (I32 x26))), (12, .inl (is (Bl x28))), (96, .inl (is (Bl x39))), (104, .inl (is (I64 x20))), (105, .inl (is (Bl (x20 == 4)))), (106, .inl (is (Bl (x20 == 4)))), (109, .inl (is (Bl ((x20 == 4) || (x20 == 5))))), (110, .inl (is (Bl ((x20 == 4) || (x20 == 5))))), (113, .inl (is (Bl (((x20 == 4) || (x20 == 5)) || (x20 == 7)))))], [(2, pb 307 [is (U8 (0#8)), is (Bl false), is (Sv ([] : List UInt8)), is (I16 0), is (I64 0), is (I32 0)]), (1001, rowc sv31 (k1 U8) 1 x21), (20, itc a0 x24)]⟩ ?_ ?_
                                                        · cases hb : (x20 == 4) || (x20 == 5)
                                                          · skip
                                                            refine AL_cons (LR_on rfl rfl rfl (LR_move (at_tmp 8 _) rfl)) (sS (sT rfl (sT1 rfl)) sB0 sF0) ?_
                                                            refine AL_cons (LR_on rfl rfl rfl (LR_bin (at_tmp 111 _) (at_c (v' := I64 7) rfl) (eql_I64 x20 7) rfl)) (sS (sT rfl (sA (sT1 rfl) sT0)) sB0 sF0) ?_
                                                            refine AL_cons (LR_pick (b := false) (at_tmp 110 _) (at_c (v' := Bl true) rfl) (at_tmp 112 _) rfl) (sS (sA (sT1 rfl) (sA sT0 (sT1 rfl))) sB0 sF0) ?_
                                                            exact AL_nil ⟨rfl, weak0 ((sT rfl (sT rfl (sT rfl (sT rfl (sT rfl (sT rfl (sT rfl (sT rfl (sT rfl (sT rfl (sT rfl (sT rfl (sT rfl (sT rfl (sT rfl (sT rfl (sT rfl (sT rfl (sT rfl sT0)))))))))))))))))))) (sub_keep (sub_keep (sub_keep sub_nil)))⟩
                                                          · skip
                                                            refine AL_cons (LR_off (b := true) rfl rfl rfl rfl) (sS (sT1 rfl) sB0 sF0) ?_
                                                            refine AL_cons (LR_off (b := true) rfl rfl rfl rfl) (sS (sT1 rfl) sB0 sF0) ?_
                                                            refine AL_cons (LR_pick (b := true) (at_tmp 110 _) (at_c (v' := Bl true) rfl) (at_tmp 112 _) rfl) (sS (sA (sT1 rfl) (sA sT0 (sT1 rfl))) sB0 sF0) ?_
                                                            exact AL_nil ⟨rfl, weak0 ((sT rfl (sT rfl (sT rfl (sT rfl (sT rfl (sT rfl (sT rfl (sT rfl (sT rfl (sT rfl (sT rfl (sT rfl (sT rfl (sT rfl (sT rfl (sT rfl (sT rfl (sT rfl (sT rfl sT0)))))))))))))))))))) (sub_keep (sub_keep (sub_keep sub_nil)))⟩
                                                        refine AL_cons (LR_move (at_tmp 113 _) rfl) (sS (sT1 rfl) sB0 sF0) ?_
                                                        refine AL_cutAt 4 ⟨[(0, .inl (is (Sv a0))), (2, .inr (.inl (2, 0))), (3, .inl (is ( sv31))), (4, .inl (is (Bl x16))), (5, .inl (is (Bl x17))), (6, .inl (is (I64 x18))), (7, .inl (is (I64 x19))), (8, .inl (is (I64 x20))), (20, .inr (.inl (20, 0))), (9, .inl (is (I64 x25))), (10, .inl (is (I32 x26))), (12, .inl (is (Bl x28))), (96, .inl (is (Bl x39))), (104, .inl (is (I64 x20))), (105, .inl (is (Bl (x20 == 4)))), (106, .inl (is (Bl (x20 == 4)))), (109, .inl (is (Bl ((x20 == 4) || (x20 == 5))))), (110, .inl (is (Bl ((x20 == 4) || (x20 == 5))))), (113, .inl (is (Bl (((x20 == 4) || (x20 == 5)) || (x20 == 7))))), (114, .inl (is (Bl (((x20 == 4) || (x20 == 5)) || (x20 == 7))))), (118, .inl (is (Bl ((((x20 == 4) || (x20 == 5)) || (x20 == 7)) && ((w32 ((BitVec.ofInt 32 x26 ||| BitVec.ofInt 32 32).toNat : Int)) == 112)))))], [(2, pb 307 [is (U8 (0#8)), is (Bl false), is (Sv ([] : List UInt8)), is (I16 0), is (I64 0), is (I32 0)]), (1001, rowc sv31 (k1 U8) 1 x21), (20, itc a0 x24)]⟩ ?_ ?_
                                                        · cases hb : ((x20 == 4) || (x20 == 5)) || (x20 == 7)
                                                          · skip
                                                            refine AL_cons (LR_off (b := false) rfl rfl rfl rfl) (sS (sT1 rfl) sB0 sF0) ?_
                                                            refine AL_cons (LR_off (b := false) rfl rfl rfl rfl) (sS (sT1 rfl) sB0 sF0) ?_
                                                            refine AL_cons (LR_off (b := false) rfl rfl rfl rfl) (sS (sT1 rfl) sB0 sF0) ?_
                                                            refine AL_cons (LR_pick (b := false) (at_tmp 114 _) (at_tmp 117 _) (at_c (v' := Bl false) rfl) rfl) (sS (sA (sT1 rfl) (sA (sT1 rfl) sT0)) sB0 sF0) ?_
                                                            exact AL_nil ⟨rfl, weak0 ((sT rfl (sT rfl (sT rfl (sT rfl (sT rfl (sT rfl (sT rfl (sT rfl (sT rfl (sT rfl (sT rfl (sT rfl (sT rfl (sT rfl (sT rfl (sT rfl (sT rfl (sT rfl (sT rfl (sT rfl (sT rfl sT0)))))))))))))))))))))) (sub_keep (sub_keep (sub_keep sub_nil)))⟩
                                                          · skip
                                                            refine AL_cons (LR_on rfl rfl rfl (LR_move (at_tmp 10 _) rfl)) (sS (sT rfl (sT1 rfl)) sB0 sF0) ?_
                                                            refine AL_cons (LR_on rfl rfl rfl (LR_bin (at_tmp 115 _) (at_c (v' := I32 32) rfl) (or_I32 x26 32) rfl)) (sS (sT rfl (sA (sT1 rfl) sT0)) sB0 sF0) ?_
                                                            refine AL_cons (LR_on rfl rfl rfl (LR_bin (at_tmp 116 _) (at_c (v' := I32 112) rfl) (eql_I32 (w32 ((BitVec.ofInt 32 x26 ||| BitVec.ofInt 32 32).toNat : Int)) 112) rfl)) (sS (sT rfl (sA (sT1 rfl) sT0)) sB0 sF0) ?_
                                                            refine AL_cons (LR_pick (b := true) (at_tmp 114 _) (at_tmp 117 _) (at_c (v' := Bl false) rfl) rfl) (sS (sA (sT1 rfl) (sA (sT1 rfl) sT0)) sB0 sF0) ?_
                                                            exact AL_nil ⟨rfl, weak0 ((sT rfl (sT rfl (sT rfl (sT rfl (sT rfl (sT rfl (sT rfl (sT rfl (sT rfl (sT rfl (sT rfl (sT rfl (sT rfl (sT rfl (sT rfl (sT rfl (sT rfl (sT rfl (sT rfl (sT rfl (sT rfl sT0)))))))))))))))))))))) (sub_keep (sub_keep (sub_keep sub_nil)))⟩
                                                        refine AL_cons (LR_assign (at_tmp 118 _) rfl) (sS (sT1 rfl) sB0 sF0) ?_
                                                        refine AL_nil ?_
                                                        exact thenN (cutLeaf (v := (sv31, (((x20 == 4) || (x20 == 5)) || (x20 == 7)) && ((w32 ((BitVec.ofInt 32 x26 ||| BitVec.ofInt 32 32).toNat : Int)) == 112))) ⟨hsv31, hr⟩ (weak0 ((sT rfl (sT rfl (sT rfl (sT rfl (sT rfl (sT rfl (sT rfl (sT rfl (sT rfl (sT rfl (sT rfl (sT rfl (sT rfl sT0)))))))))))))) (sub_keep (sub_keep (sub_keep sub_nil)))))
                                                      · rintro ⟨sv33, x40⟩ ⟨hsv33, hr⟩
                                                        show AW Hfaa.prog _ _ _ ⟨[(0, .inl (is (Sv a0))), (2, .inr (.inl (2, 0))), (3, .inl (is ( sv33))), (4, .inl (is (Bl x16))), (5, .inl (is (Bl x17))), (6, .inl (is (I64 x18))), (7, .inl (is (I64 x19))), (8, .inl (is (I64 x20))), (20, .inr (.inl (20, 0))), (9, .inl (is (I64 x25))), (10, .inl (is (I32 x26))), (12, .inl (is (Bl x28))), (103, .inl (is (Bl x40)))], [(2, pb 307 [is (U8 (0#8)), is (Bl false), is (Sv ([] : List UInt8)), is (I16 0), is (I64 0), is (I32 0)]), (1001, rowc sv33 (k1 U8) 1 x21), (20, itc a0 x24)]⟩
                                                        have hr : some out2 = F323_34 N a0 x16 x17 x18 x19 x20 x21 x24 x25 x26 x28 x40 := hr
                                                        refine AW_condT (b := x40) rfl (fun h => ?_) (fun h => ?_)
                                                        · have hr := hr.trans (cond_t h)
                                                          clear h
                                                          refine AW_cut (σ := Value) (fun v => ⟨[(0, .inl (is (Sv a0))), (2, .inr (.inl (2, 0))), (3, .inl (is ( v))), (4, .inl (is (Bl x16))), (5, .inl (is (Bl x17))), (6, .inl (is (I64 x18))), (7, .inl (is (I64 x19))), (8, .inl (is (I64 8))), (20, .inr (.inl (20, 0)))], [(2, pb 307 [is (U8 (0#8)), is (Bl false), is (Sv ([] : List UInt8)), is (I16 0), is (I64 0), is (I32 0)]), (1001, rowc v (k1 U8) 1 x21), (20, itc a0 x24)]⟩) (fun v => isCell v = true ∧ some out2 = F323_35 N a0 x16 x17 x18 x19 x21 x24) ?_ ?_
                                                          · skip
                                                            refine AW_region ?_
                                                            refine AL_cons (LR_assign (at_c (v' := I64 8) rfl) rfl) (sS sT0 sB0 sF0) ?_
                                                            refine AL_nil ?_
                                                            exact thenN (cutLeaf (v := sv33) ⟨hsv33, hr⟩ (weak0 ((sT rfl (sT rfl (sT rfl (sT rfl (sT rfl (sT rfl (sT rfl (sT rfl (sT rfl sT0)))))))))) (sub_keep (sub_keep (sub_keep sub_nil)))))
                                                          · rintro sv34 ⟨hsv34, hr⟩
                                                            show AW Hfaa.prog _ _ _ ⟨[(0, .inl (is (Sv a0))), (2, .inr (.inl (2, 0))), (3, .inl (is ( sv34))), (4, .inl (is (Bl x16))), (5, .inl (is (Bl x17))), (6, .inl (is (I64 x18))), (7, .inl (is (I64 x19))), (8, .inl (is (I64 8))), (20, .inr (.inl (20, 0)))], [(2, pb 307 [is (U8 (0#8)), is (Bl false), is (Sv ([] : List UInt8)), is (I16 0), is (I64 0), is (I32 0)]), (1001, rowc sv34 (k1 U8) 1 x21), (20, itc a0 x24)]⟩
                                                            have hr : some out2 = F323_35 N a0 x16 x17 x18 x19 x21 x24 := hr
                                                            refine AW_exit ?_
                                                            refine blO (by decide) ?_
                                                            refine thenX ?_
                                                            refine blH ?_
                                                            exact thenN (loopNextV (v' := sv34) (x' := (x16, x17, x18, x19, 8, x21, x24)) hsv34 hr (weak0 ((sT rfl (sT rfl (sT rfl (sT rfl (sT rfl (sT rfl (sT rfl (sT rfl (sT rfl sT0)))))))))) (sub_keep (sub_keep (sub_keep sub_nil)))))
                                                        · have hr := hr.trans (cond_f h)
                                                          clear h
                                                          refine AW_cut (σ := Value × Bool) (fun v => ⟨[(0, .inl (is (Sv a0))), (2, .inr (.inl (2, 0))), (3, .inl (is ( v.1))), (4, .inl (is (Bl x16))), (5, .inl (is (Bl x17))), (6, .inl (is (I64 x18))), (7, .inl (is (I64 x19))), (8, .inl (is (I64 x20))), (20, .inr (.inl (20, 0))), (9, .inl (is (I64 x25))), (10, .inl (is (I32 x26))), (119, .inl (is (Bl v.2)))], [(2, pb 307 [is (U8 (0#8)), is (Bl false), is (Sv ([] : List UInt8)), is (I16 0), is (I64 0), is (I32 0)]), (1001, rowc v.1 (k1 U8) 1 x21), (20, itc a0 x24)]⟩) (fun v => isCell v.1 = true ∧ some out2 = F323_36 N a0 x16 x17 x18 x19 x20 x21 x24 x25 x26 v.2) ?_ ?_
                                                          · skip
                                                            refine AW_region ?_
                                                            refine AL_cons (LR_move (at_tmp 8 _) rfl) (sS (sT1 rfl) sB0 sF0) ?_
                                                            refine AL_cons (LR_bin (at_tmp 120 _) (at_c (v' := I64 8) rfl) (eql_I64 x20 8) rfl) (sS (sA (sT1 rfl) sT0) sB0 sF0) ?_
                                                            refine AL_cons (LR_move (at_tmp 121 _) rfl) (sS (sT1 rfl) sB0 sF0) ?_
                                                            refine AL_cutAt 2 ⟨[(0, .inl (is (Sv a0))), (2, .inr (.inl (2, 0))), (3, .inl (is ( sv33))), (4, .inl (is (Bl x16))), (5, .inl (is (Bl x17))), (6, .inl (is (I64 x18))), (7, .inl (is (I64 x19))), (8, .inl (is (I64 x20))), (20, .inr (.inl (20, 0))), (9, .inl (is (I64 x25))), (10, .inl (is (I32 x26))), (12, .inl (is (Bl x28))), (103, .inl (is (Bl x40))), (120, .inl (is (I64 x20))), (121, .inl (is (Bl (x20 == 8)))), (122, .inl (is (Bl (x20 == 8)))), (124, .inl (is (Bl ((x20 == 8) && x28))))], [(2, pb 307 [is (U8 (0#8)), is (Bl false), is (Sv ([] : List UInt8)), is (I16 0), is (I64 0), is (I32 0)]), (1001, rowc sv33 (k1 U8) 1 x21), (20, itc a0 x24)]⟩ ?_ ?_
                                                            · cases hb : x20 == 8
                                                              · skip
                                                                refine AL_cons (LR_off (b := false) rfl rfl rfl rfl) (sS (sT1 rfl) sB0 sF0) ?_
                                                                refine AL_cons (LR_pick (b := false) (at_tmp 122 _) (at_tmp 123 _) (at_c (v' := Bl false) rfl) rfl) (sS (sA (sT1 rfl) (sA (sT1 rfl) sT0)) sB0 sF0) ?_
                                                                exact AL_nil ⟨rfl, weak0 ((sT rfl (sT rfl (sT rfl (sT rfl (sT rfl (sT rfl (sT rfl (sT rfl (sT rfl (sT rfl (sT rfl (sT rfl (sT rfl (sT rfl (sT rfl (sT rfl (sT rfl sT0)))))))))))))))))) (sub_keep (sub_keep (sub_keep sub_nil)))⟩
                                                              · skip
                                                                refine AL_cons (LR_on rfl rfl rfl (LR_move (at_tmp 12 _) rfl)) (sS (sT rfl (sT1 rfl)) sB0 sF0) ?_
                                                                refine AL_cons (LR_pick (b := true) (at_tmp 122 _) (at_tmp 123 _) (at_c (v' := Bl false) rfl) rfl) (sS (sA (sT1 rfl) (sA (sT1 rfl) sT0)) sB0 sF0) ?_
                                                                exact AL_nil ⟨rfl, weak0 ((sT rfl (sT rfl (sT rfl (sT rfl (sT rfl (sT rfl (sT rfl (sT rfl (sT rfl (sT rfl (sT rfl (sT rfl (sT rfl (sT rfl (sT rfl (sT rfl (sT rfl sT0)))))))))))))))))) (sub_keep (sub_keep (sub_keep sub_nil)))⟩
                                                            refine AL_cons (LR_assign (at_tmp 124 _) rfl) (sS (sT1 rfl) sB0 sF0) ?_
                                                            refine AL_nil ?_
                                                            exact thenN (cutLeaf (v := (sv33, (x20 == 8) && x28)) ⟨hsv33, hr⟩ (weak0 ((sT rfl (sT rfl (sT rfl (sT rfl (sT rfl (sT rfl (sT rfl (sT rfl (sT rfl (sT rfl (sT rfl (sT rfl sT0))))))))))))) (sub_keep (sub_keep (sub_keep sub_nil)))))
                                                          · rintro ⟨sv35, x41⟩ ⟨hsv35, hr⟩
                                                            show AW Hfaa.prog _ _ _ ⟨[(0, .inl (is (Sv a0))), (2, .inr (.inl (2, 0))), (3, .inl (is ( sv35))), (4, .inl (is (Bl x16))), (5, .inl (is (Bl x17))), (6, .inl (is (I64 x18))), (7, .inl (is (I64 x19))), (8, .inl (is (I64 x20))), (20, .inr (.inl (20, 0))), (9, .inl (is (I64 x25))), (10, .inl (is (I32 x26))), (119, .inl (is (Bl x41)))], [(2, pb 307 [is (U8 (0#8)), is (Bl false), is (Sv ([] : List UInt8)), is (I16 0), is (I64 0), is (I32 0)]), (1001, rowc sv35 (k1 U8) 1 x21), (20, itc a0 x24)]⟩
                                                            have hr : some out2 = F323_36 N a0 x16 x17 x18 x19 x20 x21 x24 x25 x26 x41 := hr
                                                            refine AW_condT (b := x41) rfl (fun h => ?_) (fun h => ?_)
                                                            · have hr := hr.trans (cond_t h)
                                                              clear h
                                                              refine AW_cut (σ := Value × Bool) (fun v => ⟨[(0, .inl (is (Sv a0))), (2, .inr (.inl (2, 0))), (3, .inl (is ( v.1))), (4, .inl (is (Bl x16))), (5, .inl (is (Bl v.2))), (6, .inl (is (I64 x18))), (7, .inl (is (I64 x19))), (8, .inl (is (I64 9))), (20, .inr (.inl (20, 0)))], [(2, pb 307 [is (U8 (0#8)), is (Bl false), is (Sv ([] : List UInt8)), is (I16 0), is (I64 0), is (I32 0)]), (1001, rowc v.1 (k1 U8) 1 x21), (20, itc a0 x24)]⟩) (fun v => isCell v.1 = true ∧ some out2 = F323_37 N a0 x16 x18 x19 x21 x24 v.2) ?_ ?_
                                                              · skip
                                                                refine AW_region ?_
                                                                refine AL_cons (LR_move (at_tmp 10 _) rfl) (sS (sT1 rfl) sB0 sF0) ?_
                                                                refine AL_cons (LR_bin (at_tmp 125 _) (at_c (v' := I32 45) rfl) (eql_I32 x26 45) rfl) (sS (sA (sT1 rfl) sT0) sB0 sF0) ?_
                                                                refine AL_cons (LR_assign (at_tmp 126 _) rfl) (sS (sT1 rfl) sB0 sF0) ?_
                                                                refine AL_cons (LR_assign (at_c (v' := I64 9) rfl) rfl) (sS sT0 sB0 sF0) ?_
                                                                refine AL_nil ?_
                                                                exact thenN (cutLeaf (v := (sv35, x26 == 45)) ⟨hsv35, hr⟩ (weak0 ((sT rfl (sT rfl (sT rfl (sT rfl (sT rfl (sT rfl (sT rfl (sT rfl (sT rfl sT0)))))))))) (sub_keep (sub_keep (sub_keep sub_nil)))))
                                                              · rintro ⟨sv36, x42⟩ ⟨hsv36, hr⟩
                                                                show AW Hfaa.prog _ _ _ ⟨[(0, .inl (is (Sv a0))), (2, .inr (.inl (2, 0))), (3, .inl (is ( sv36))), (4, .inl (is (Bl x16))), (5, .inl (is (Bl x42))), (6, .inl (is (I64 x18))), (7, .inl (is (I64 x19))), (8, .inl (is (I64 9))), (20, .inr (.inl (20, 0)))], [(2, pb 307 [is (U8 (0#8)), is (Bl false), is (Sv ([] : List UInt8)), is (I16 0), is (I64 0), is (I32 0)]), (1001, rowc sv36 (k1 U8) 1 x21), (20, itc a0 x24)]⟩
                                                                have hr : some out2 = F323_37 N a0 x16 x18 x19 x21 x24 x42 := hr
                                                                refine AW_exit ?_
                                                                refine blO (by decide) ?_
                                                                refine thenX ?_
                                                                refine blH ?_
                                                                exact thenN (loopNextV (v' := sv36) (x' := (x16, x42, x18, x19, 9, x21, x24)) hsv36 hr (weak0 ((sT rfl (sT rfl (sT rfl (sT rfl (sT rfl (sT rfl (sT rfl (sT rfl (sT rfl sT0)))))))))) (sub_keep (sub_keep (sub_keep sub_nil)))))
                                                            · have hr := hr.trans (cond_f h)
                                                              clear h
                                                              refine AW_cut (σ := Value × Bool) (fun v => ⟨[(0, .inl (is (Sv a0))), (2, .inr (.inl (2, 0))), (3, .inl (is ( v.1))), (4, .inl (is (Bl x16))), (5, .inl (is (Bl x17))), (6, .inl (is (I64 x18))), (7, .inl (is (I64 x19))), (20, .inr (.inl (20, 0))), (9, .inl (is (I64 x25))), (10, .inl (is (I32 x26))), (127, .inl (is (Bl v.2)))], [(2, pb 307 [is (U8 (0#8)), is (Bl false), is (Sv ([] : List UInt8)), is (I16 0), is (I64 0), is (I32 0)]), (1001, rowc v.1 (k1 U8) 1 x21), (20, itc a0 x24)]⟩) (fun v => isCell v.1 = true ∧ some out2 = F323_38 N a0 x16 x17 x18 x19 x21 x24 x25 x26 v.2) ?_ ?_
                                                              · skip
                                                                refine AW_region ?_
                                                                refine AL_cons (LR_move (at_tmp 8 _) rfl) (sS (sT1 rfl) sB0 sF0) ?_
                                                                refine AL_cons (LR_bin (at_tmp 128 _) (at_c (v' := I64 8) rfl) (geq_I64 x20 8) rfl) (sS (sA (sT1 rfl) sT0) sB0 sF0) ?_
                                                                refine AL_cons (LR_move (at_tmp 129 _) rfl) (sS (sT1 rfl) sB0 sF0) ?_
                                                                refine AL_cutAt 3 ⟨[(0, .inl (is (Sv a0))), (2, .inr (.inl (2, 0))), (3, .inl (is ( sv35))), (4, .inl (is (Bl x16))), (5, .inl (is (Bl x17))), (6, .inl (is (I64 x18))), (7, .inl (is (I64 x19))), (8, .inl (is (I64 x20))), (20, .inr (.inl (20, 0))), (9, .inl (is (I64 x25))), (10, .inl (is (I32 x26))), (119, .inl (is (Bl x41))), (128, .inl (is (I64 x20))), (129, .inl (is (Bl (decide (x20 ≥ 8))))), (130, .inl (is (Bl (decide (x20 ≥ 8))))), (133, .inl (is (Bl ((decide (x20 ≥ 8)) && (decide (48 ≤ x26))))))], [(2, pb 307 [is (U8 (0#8)), is (Bl false), is (Sv ([] : List UInt8)), is (I16 0), is (I64 0), is (I32 0)]), (1001, rowc sv35 (k1 U8) 1 x21), (20, itc a0 x24)]⟩ ?_ ?_
                                                                · cases hb : decide (x20 ≥ 8)
                                                                  · skip
                                                                    refine AL_cons (LR_off (b := false) rfl rfl rfl rfl) (sS (sT1 rfl) sB0 sF0) ?_
                                                                    refine AL_cons (LR_off (b := false) rfl rfl rfl rfl) (sS (sT1 rfl) sB0 sF0) ?_
                                                                    refine AL_cons (LR_pick (b := false) (at_tmp 130 _) (at_tmp 132 _) (at_c (v' := Bl false) rfl) rfl) (sS (sA (sT1 rfl) (sA (sT1 rfl) sT0)) sB0 sF0) ?_
                                                                    exact AL_nil ⟨rfl, weak0 ((sT rfl (sT rfl (sT rfl (sT rfl (sT rfl (sT rfl (sT rfl (sT rfl (sT rfl (sT rfl (sT rfl (sT rfl (sT rfl (sT rfl (sT rfl (sT rfl sT0))))))))))))))))) (sub_keep (sub_keep (sub_keep sub_nil)))⟩
                                                                  · skip
                                                                    refine AL_cons (LR_on rfl rfl rfl (LR_move (at_tmp 10 _) rfl)) (sS (sT rfl (sT1 rfl)) sB0 sF0) ?_
                                                                    refine AL_cons (LR_on rfl rfl rfl (LR_bin (at_c (v' := I32 48) rfl) (at_tmp 131 _) (leq_I32 48 x26) rfl)) (sS (sT rfl (sA sT0 (sT1 rfl))) sB0 sF0) ?_
                                                                    refine AL_cons (LR_pick (b := true) (at_tmp 130 _) (at_tmp 132 _) (at_c (v' := Bl false) rfl) rfl) (sS (sA (sT1 rfl) (sA (sT1 rfl) sT0)) sB0 sF0) ?_
                                                                    exact AL_nil ⟨rfl, weak0 ((sT rfl (sT rfl (sT rfl (sT rfl (sT rfl (sT rfl (sT rfl (sT rfl (sT rfl (sT rfl (sT rfl (sT rfl (sT rfl (sT rfl (sT rfl (sT rfl sT0))))))))))))))))) (sub_keep (sub_keep (sub_keep sub_nil)))⟩
                                                                refine AL_cons (LR_move (at_tmp 133 _) rfl) (sS (sT1 rfl) sB0 sF0) ?_
                                                                refine AL_cutAt 3 ⟨[(0, .inl (is (Sv a0))), (2, .inr (.inl (2, 0))), (3, .inl (is ( sv35))), (4, .inl (is (Bl x16))), (5, .inl (is (Bl x17))), (6, .inl (is (I64 x18))), (7, .inl (is (I64 x19))), (8, .inl (is (I64 x20))), (20, .inr (.inl (20, 0))), (9, .inl (is (I64 x25))), (10, .inl (is (I32 x26))), (119, .inl (is (Bl x41))), (128, .inl (is (I64 x20))), (129, .inl (is (Bl (decide (x20 ≥ 8))))), (130, .inl (is (Bl (decide (x20 ≥ 8))))), (133, .inl (is (Bl ((decide (x20 ≥ 8)) && (decide (48 ≤ x26)))))), (134, .inl (is (Bl ((decide (x20 ≥ 8)) && (decide (48 ≤ x26)))))), (137, .inl (is (Bl (((decide (x20 ≥ 8)) && (decide (48 ≤ x26))) && (decide (x26 ≤ 57))))))], [(2, pb 307 [is (U8 (0#8)), is (Bl false), is (Sv ([] : List UInt8)), is (I16 0), is (I64 0), is (I32 0)]), (1001, rowc sv35 (k1 U8) 1 x21), (20, itc a0 x24)]⟩ ?_ ?_
                                                                · cases hb : (decide (x20 ≥ 8)) && (decide (48 ≤ x26))
                                                                  · skip
                                                                    refine AL_cons (LR_off (b := false) rfl rfl rfl rfl) (sS (sT1 rfl) sB0 sF0) ?_
                                                                    refine AL_cons (LR_off (b := false) rfl rfl rfl rfl) (sS (sT1 rfl) sB0 sF0) ?_
                                                                    refine AL_cons (LR_pick (b := false) (at_tmp 134 _) (at_tmp 136 _) (at_c (v' := Bl false) rfl) rfl) (sS (sA (sT1 rfl) (sA (sT1 rfl) sT0)) sB0 sF0) ?_
                                                                    exact AL_nil ⟨rfl, weak0 ((sT rfl (sT rfl (sT rfl (sT rfl (sT rfl (sT rfl (sT rfl (sT rfl (sT rfl (sT rfl (sT rfl (sT rfl (sT rfl (sT rfl (sT rfl (sT rfl (sT rfl (sT rfl sT0))))))))))))))))))) (sub_keep (sub_keep (sub_keep sub_nil)))⟩
                                                                  · skip
                                                                    refine AL_cons (LR_on rfl rfl rfl (LR_move (at_tmp 10 _) rfl)) (sS (sT rfl (sT1 rfl)) sB0 sF0) ?_
                                                                    refine AL_cons (LR_on rfl rfl rfl (LR_bin (at_tmp 135 _) (at_c (v' := I32 57) rfl) (leq_I32 x26 57) rfl)) (sS (sT rfl (sA (sT1 rfl) sT0)) sB0 sF0) ?_
                                                                    refine AL_cons (LR_pick (b := true) (at_tmp 134 _) (at_tmp 136 _) (at_c (v' := Bl false) rfl) rfl) (sS (sA (sT1 rfl) (sA (sT1 rfl) sT0)) sB0 sF0) ?_
                                                                    exact AL_nil ⟨rfl, weak0 ((sT rfl (sT rfl (sT rfl (sT rfl (sT rfl (sT rfl (sT rfl (sT rfl (sT rfl (sT rfl (sT rfl (sT rfl (sT rfl (sT rfl (sT rfl (sT rfl (sT rfl (sT rfl sT0))))))))))))))))))) (sub_keep (sub_keep (sub_keep sub_nil)))⟩
                                                                refine AL_cons (LR_assign (at_tmp 137 _) rfl) (sS (sT1 rfl) sB0 sF0) ?_
                                                                refine AL_nil ?_
                                                                exact thenN (cutLeaf (v := (sv35, ((decide (x20 ≥ 8)) && (decide (48 ≤ x26))) && (decide (x26 ≤ 57)))) ⟨hsv35, hr⟩ (weak0 ((sT rfl (sT rfl (sT rfl (sT rfl (sT rfl (sT rfl (sT rfl (sT rfl (sT rfl (sT rfl (sT rfl sT0)))))))))))) (sub_keep (sub_keep (sub_keep sub_nil)))))
                                                              · rintro ⟨sv37, x43⟩ ⟨hsv37, hr⟩
                                                                show AW Hfaa.prog _ _ _ ⟨[(0, .inl (is (Sv a0))), (2, .inr (.inl (2, 0))), (3, .inl (is ( sv37))), (4, .inl (is (Bl x16))), (5, .inl (is (Bl x17))), (6, .inl (is (I64 x18))), (7, .inl (is (I64 x19))), (20, .inr (.inl (20, 0))), (9, .inl (is (I64 x25))), (10, .inl (is (I32 x26))), (127, .inl (is (Bl x43)))], [(2, pb 307 [is (U8 (0#8)), is (Bl false), is (Sv ([] : List UInt8)), is (I16 0), is (I64 0), is (I32 0)]), (1001, rowc sv37 (k1 U8) 1 x21), (20, itc a0 x24)]⟩
                                                                have hr : some out2 = F323_38 N a0 x16 x17 x18 x19 x21 x24 x25 x26 x43 := hr
                                                                refine AW_condT (b := x43) rfl (fun h => ?_) (fun h => ?_)
                                                                · have hr := hr.trans (cond_t h)
                                                                  clear h
                                                                  refine AW_cut (σ := Value × Int) (fun v => ⟨[(0, .inl (is (Sv a0))), (2, .inr (.inl (2, 0))), (3, .inl (is ( v.1))), (4, .inl (is (Bl x16))), (5, .inl (is (Bl x17))), (6, .inl (is (I64 x18))), (7, .inl (is (I64 v.2))), (20, .inr (.inl (20, 0))), (8, .inl (is (I64 10)))], [(2, pb 307 [is (U8 (0#8)), is (Bl false), is (Sv ([] : List UInt8)), is (I16 0), is (I64 0), is (I32 0)]), (1001, rowc v.1 (k1 U8) 1 x21), (20, itc a0 x24)]⟩) (fun v => isCell v.1 = true ∧ some out2 = F323_39 N a0 x16 x17 x18 x21 x24 v.2) ?_ ?_
                                                                  · skip
                                                                    refine AW_region ?_
                                                                    refine AL_cons (LR_move (at_tmp 7 _) rfl) (sS (sT1 rfl) sB0 sF0) ?_
                                                                    refine AL_cons (LR_bin (at_c (v' := I64 10) rfl) (at_tmp 138 _) (mul_I64 10 x19) rfl) (sS (sA sT0 (sT1 rfl)) sB0 sF0) ?_
                                                                    refine AL_cons (LR_move (at_tmp 10 _) rfl) (sS (sT1 rfl) sB0 sF0) ?_
                                                                    refine AL_cons (LR_bin (at_tmp 140 _) (at_c (v' := I32 48) rfl) (sub_I32 x26 48) rfl) (sS (sA (sT1 rfl) sT0) sB0 sF0) ?_
                                                                    refine AL_cons (LR_conv (vx := I32 (w32 (x26 - 48))) (at_tmp 141 _) (conv_I64 Hfaa.underlying21 Hfaa.underlying3 (w32 (x26 - 48))) rfl) (sS (sT1 rfl) sB0 sF0) ?_
                                                                    refine AL_cons (LR_bin (at_tmp 139 _) (at_tmp 142 _) (add_I64 (w64 (10 * x19)) (w64 (w32 (x26 - 48)))) rfl) (sS (sA (sT1 rfl) (sT1 rfl)) sB0 sF0) ?_
                                                                    refine AL_cons (LR_bi2 (vx := I64 (w64 ((w64 (10 * x19)) + (w64 (w32 (x26 - 48)))))) (vy := I64 1000000) (v := I64 (min (w64 ((w64 (10 * x19)) + (w64 (w32 (x26 - 48))))) 1000000)) (at_tmp 143 _) (at_c (v' := I64 1000000) rfl) (fun cs w => min_I .i64 (w64 ((w64 (10 * x19)) + (w64 (w32 (x26 - 48))))) 1000000 cs w) rfl) (sS (sA (sT1 rfl) sT0) sB0 sF0) ?_
                                                                    refine AL_cons (LR_assign (at_tmp 144 _) rfl) (sS (sT1 rfl) sB0 sF0) ?_
                                                                    refine AL_cons (LR_assign (at_c (v' := I64 10) rfl) rfl) (sS sT0 sB0 sF0) ?_
                                                                    refine AL_nil ?_
                                                                    exact thenN (cutLeaf (v := (sv37, min (w64 ((w64 (10 * x19)) + (w64 (w32 (x26 - 48))))) 1000000)) ⟨hsv37, hr⟩ (weak0 ((sT rfl (sT rfl (sT rfl (sT rfl (sT rfl (sT rfl (sT rfl (sT rfl (sT rfl sT0)))))))))) (sub_keep (sub_keep (sub_keep sub_nil)))))
                                                                  · rintro ⟨sv38, x44⟩ ⟨hsv38, hr⟩
                                                                    show AW Hfaa.prog _ _ _ ⟨[(0, .inl (is (Sv a0))), (2, .inr (.inl (2, 0))), (3, .inl (is ( sv38))), (4, .inl (is (Bl x16))), (5, .inl (is (Bl x17))), (6, .inl (is (I64 x18))), (7, .inl (is (I64 x44))), (20, .inr (.inl (20, 0))), (8, .inl (is (I64 10)))], [(2, pb 307 [is (U8 (0#8)), is (Bl false), is (Sv ([] : List UInt8)), is (I16 0), is (I64 0), is (I32 0)]), (1001, rowc sv38 (k1 U8) 1 x21), (20, itc a0 x24)]⟩
                                                                    have hr : some out2 = F323_39 N a0 x16 x17 x18 x21 x24 x44 := hr
                                                                    refine AW_exit ?_
                                                                    refine blO (by decide) ?_
                                                                    refine thenX ?_
                                                                    refine blH ?_
                                                                    exact thenN (loopNextV (v' := sv38) (x' := (x16, x17, x18, x44, 10, x21, x24)) hsv38 hr (weak0 ((sT rfl (sT rfl (sT rfl (sT rfl (sT rfl (sT rfl (sT rfl (sT rfl (sT rfl sT0)))))))))) (sub_keep (sub_keep (sub_keep sub_nil)))))
                                                                · have hr := hr.trans (cond_f h)
                                                                  clear h
                                                                  refine AW_skip ?_
                                                                  refine blN ?_
                                                                  refine thenN ?_
                                                                  refine AW_seq1 ?_
                                                                  refine AW_region ?_
                                                                  refine AL_cons (LR_move (at_tmp 9 _) rfl) (sS (sT1 rfl) sB0 sF0) ?_
                                                                  refine AL_cons (LR_move (at_tmp 10 _) rfl) (sS (sT1 rfl) sB0 sF0) ?_
                                                                  refine AL_cons (bl307 (parts_cons (i := 0) (off := 0) (at_c (v' := U8 (3#8)) rfl) (cells_one (one_is rfl)) rfl rfl (parts_cons (i := 2) (off := 4) (at_tmp 145 _) (cells_one (one_is rfl)) rfl rfl (parts_cons (i := 3) (off := 5) (at_tmp 146 _) (cells_one (one_is rfl)) rfl rfl parts_nil))) rfl rfl) (sS (sA sT0 (sA (sT1 rfl) (sA (sT1 rfl) sT0))) sB0 sF0) ?_
                                                                  refine AL_cons (LR_store (at_tmp 2 _) (at_tmp 147 _) (cells_agg _) (onC (one_is rfl) (onC (one_is rfl) (onC (one_is rfl) (onC (one_is rfl) (onC (one_is rfl) (onC (one_is rfl) onN)))))) sz307 rfl rfl) (sS (sA (sT1 rfl) (sT1 rfl)) (sB1 rfl) sF0) ?_
                                                                  refine AL_nil ?_
                                                                  refine thenN ?_
                                                                  refine AW_ret ?_
                                                                  refine blR ?_
                                                                  obtain ⟨r', hro, hr⟩ := map_inr hr
                                                                  refine thenR (loopOut hro (fun he => ?_))
                                                                  rw [he] at hr
                                                                  refine blR ?_
                                                                  refine thenR ?_
                                                                  refine scR ?_
                                                                  obtain rfl := Option.some.inj hr
                                                                  exact res1 rfl (rvC rfl rfl ag307 sz307 rfl)
            · rintro ⟨sv4, x3, x4, x5, x6, x7, x8⟩ ⟨hsv4, hr⟩
              show AW Hfaa.prog _ _ _ ⟨[(0, .inl (is (Sv a0))), (2, .inr (.inl (2, 0))), (3, .inl (is ( sv4))), (4, .inl (is (Bl x3))), (5, .inl (is (Bl x4))), (6, .inl (is (I64 x5))), (7, .inl (is (I64 x6))), (8, .inl (is (I64 x7)))], [(2, pb 307 [is (U8 (0#8)), is (Bl false), is (Sv ([] : List UInt8)), is (I16 0), is (I64 0), is (I32 0)]), (1001, rowc sv4 (k1 U8) 1 x8)]⟩
              have hr : some r = F323_5 N a0 x3 x4 x5 x6 x7 x8 := hr
              refine AW_cut (σ := Value) (fun v => ⟨[(2, .inr (.inl (2, 0))), (3, .inl (is ( v))), (4, .inl (is (Bl x3))), (5, .inl (is (Bl x4))), (6, .inl (is (I64 x5))), (7, .inl (is (I64 x6)))], [(2, pb 307 [is (U8 (0#8)), is (Bl false), is (Sv ([] : List UInt8)), is (I16 0), is (I64 0), is (I32 0)]), (1001, rowc v (k1 U8) 1 x8)]⟩) (fun v => isCell v = true ∧ some r = F323_6 N x3 x4 x5 x6 x8) ?_ ?_
              · skip
                refine AW_cut (σ := Value × Bool) (fun v => ⟨[(0, .inl (is (Sv a0))), (2, .inr (.inl (2, 0))), (3, .inl (is ( v.1))), (4, .inl (is (Bl x3))), (5, .inl (is (Bl x4))), (6, .inl (is (I64 x5))), (7, .inl (is (I64 x6))), (149, .inl (is (Bl v.2)))], [(2, pb 307 [is (U8 (0#8)), is (Bl false), is (Sv ([] : List UInt8)), is (I16 0), is (I64 0), is (I32 0)]), (1001, rowc v.1 (k1 U8) 1 x8)]⟩) (fun v => isCell v.1 = true ∧ some r = F323_11 N a0 x3 x4 x5 x6 x8 v.2) ?_ ?_
                · skip
                  refine AW_region ?_
                  refine AL_cons (LR_move (at_tmp 8 _) rfl) (sS (sT1 rfl) sB0 sF0) ?_
                  refine AL_cons (LR_bin (at_tmp 148 _) (at_c (v' := I64 10) rfl) (neq_I64 x7 10) rfl) (sS (sA (sT1 rfl) sT0) sB0 sF0) ?_
                  refine AL_nil ?_
                  exact thenN (cutLeaf (v := (sv4, x7 != 10)) ⟨hsv4, hr⟩ (weak0 ((sT rfl (sT rfl (sT rfl (sT rfl (sT rfl (sT rfl (sT rfl (sT rfl sT0))))))))) (sub_keep (sub_keep sub_nil))))
                · rintro ⟨sv8, x15⟩ ⟨hsv8, hr⟩
                  show AW Hfaa.prog _ _ _ ⟨[(0, .inl (is (Sv a0))), (2, .inr (.inl (2, 0))), (3, .inl (is ( sv8))), (4, .inl (is (Bl x3))), (5, .inl (is (Bl x4))), (6, .inl (is (I64 x5))), (7, .inl (is (I64 x6))), (149, .inl (is (Bl x15)))], [(2, pb 307 [is (U8 (0#8)), is (Bl false), is (Sv ([] : List UInt8)), is (I16 0), is (I64 0), is (I32 0)]), (1001, rowc sv8 (k1 U8) 1 x8)]⟩
                  have hr : some r = F323_11 N a0 x3 x4 x5 x6 x8 x15 := hr
                  refine AW_condT (b := x15) rfl (fun h => ?_) (fun h => ?_)
                  · have hr := hr.trans (cond_t h)
                    clear h
                    refine AW_seq1 ?_
                    refine AW_region ?_
                    refine AL_cons (LR_move (at_tmp 0 _) rfl) (sS (sT1 rfl) sB0 sF0) ?_
                    refine AL_cons (LR_bi1 (at_tmp 150 _) (len_S Hfaa.underlying9 a0) rfl) (sS (sT1 rfl) sB0 sF0) ?_
                    refine AL_cons (bl307 (parts_cons (i := 0) (off := 0) (at_c (v' := U8 (3#8)) rfl) (cells_one (one_is rfl)) rfl rfl (parts_cons (i := 2) (off := 4) (at_tmp 151 _) (cells_one (one_is rfl)) rfl rfl (parts_cons (i := 3) (off := 5) (at_c (v' := I32 (-1)) rfl) (cells_one (one_is rfl)) rfl rfl parts_nil))) rfl rfl) (sS (sA sT0 (sA (sT1 rfl) (sA sT0 sT0))) sB0 sF0) ?_
                    refine AL_cons (LR_store (at_tmp 2 _) (at_tmp 152 _) (cells_agg _) (onC (one_is rfl) (onC (one_is rfl) (onC (one_is rfl) (onC (one_is rfl) (onC (one_is rfl) (onC (one_is rfl) onN)))))) sz307 rfl rfl) (sS (sA (sT1 rfl) (sT1 rfl)) (sB1 rfl) sF0) ?_
                    refine AL_nil ?_
                    refine thenN ?_
                    refine AW_ret ?_
                    refine thenR ?_
                    refine scR ?_
                    obtain rfl := Option.some.inj hr
                    exact res1 rfl (rvC rfl rfl ag307 sz307 rfl)
                  · have hr := hr.trans (cond_f h)
                    clear h
                    refine AW_skip ?_
                    exact thenN (cutLeaf (v := sv8) ⟨hsv8, hr⟩ (weak0 ((sT rfl (sT rfl (sT rfl (sT rfl (sT rfl (sT rfl sT0))))))) (sub_keep (sub_keep sub_nil))))
              · rintro sv5 ⟨hsv5, hr⟩
                show AW Hfaa.prog _ _ _ ⟨[(2, .inr (.inl (2, 0))), (3, .inl (is ( sv5))), (4, .inl (is (Bl x3))), (5, .inl (is (Bl x4))), (6, .inl (is (I64 x5))), (7, .inl (is (I64 x6)))], [(2, pb 307 [is (U8 (0#8)), is (Bl false), is (Sv ([] : List UInt8)), is (I16 0), is (I64 0), is (I32 0)]), (1001, rowc sv5 (k1 U8) 1 x8)]⟩
                have hr : some r = F323_6 N x3 x4 x5 x6 x8 := hr
                refine AW_cut (σ := Value × Int) (fun v => ⟨[(2, .inr (.inl (2, 0))), (3, .inl (is ( v.1))), (4, .inl (is (Bl x3))), (6, .inl (is (I64 x5))), (7, .inl (is (I64 v.2)))], [(2, pb 307 [is (U8 (0#8)), is (Bl false), is (Sv ([] : List UInt8)), is (I16 0), is (I64 0), is (I32 0)]), (1001, rowc v.1 (k1 U8) 1 x8)]⟩) (fun v => isCell v.1 = true ∧ some r = F323_7 N x3 x5 x8 v.2) ?_ ?_
                · skip
                  refine AW_cut (σ := Value) (fun v => ⟨[(2, .inr (.inl (2, 0))), (3, .inl (is ( v))), (4, .inl (is (Bl x3))), (6, .inl (is (I64 x5))), (7, .inl (is (I64 x6))), (153, .inl (is (Bl x4)))], [(2, pb 307 [is (U8 (0#8)), is (Bl false), is (Sv ([] : List UInt8)), is (I16 0), is (I64 0), is (I32 0)]), (1001, rowc v (k1 U8) 1 x8)]⟩) (fun v => isCell v = true ∧ some r = F323_10 N x3 x4 x5 x6 x8) ?_ ?_
                  · skip
                    refine AW_region ?_
                    refine AL_cons (LR_move (at_tmp 5 _) rfl) (sS (sT1 rfl) sB0 sF0) ?_
                    refine AL_nil ?_
                    exact thenN (cutLeaf (v := sv5) ⟨hsv5, hr⟩ (weak0 ((sT rfl (sT rfl (sT rfl (sT rfl (sT rfl (sT rfl sT0))))))) (sub_keep (sub_keep sub_nil))))
                  · rintro sv7 ⟨hsv7, hr⟩
                    show AW Hfaa.prog _ _ _ ⟨[(2, .inr (.inl (2, 0))), (3, .inl (is ( sv7))), (4, .inl (is (Bl x3))), (6, .inl (is (I64 x5))), (7, .inl (is (I64 x6))), (153, .inl (is (Bl x4)))], [(2, pb 307 [is (U8 (0#8)), is (Bl false), is (Sv ([] : List UInt8)), is (I16 0), is (I64 0), is (I32 0)]), (1001, rowc sv7 (k1 U8) 1 x8)]⟩
                    have hr : some r = F323_10 N x3 x4 x5 x6 x8 := hr
                    refine AW_condT (b := x4) rfl (fun h => ?_) (fun h => ?_)
                    · have hr := hr.trans (cond_t h)
                      clear h
                      refine AW_region ?_
                      refine AL_cons (LR_move (at_tmp 7 _) rfl) (sS (sT1 rfl) sB0 sF0) ?_
                      refine AL_cons (LR_un (at_tmp 154 _) (neg_I64 x6) rfl) (sS (sT1 rfl) sB0 sF0) ?_
                      refine AL_cons (LR_assign (at_tmp 155 _) rfl) (sS (sT1 rfl) sB0 sF0) ?_
                      refine AL_nil ?_
                      exact thenN (cutLeaf (v := (sv7, w64 (0 - x6))) ⟨hsv7, hr⟩ (weak0 ((sT rfl (sT rfl (sT rfl (sT rfl (sT rfl sT0)))))) (sub_keep (sub_keep sub_nil))))
                    · have hr := hr.trans (cond_f h)
                      clear h
                      refine AW_skip ?_
                      exact thenN (cutLeaf (v := (sv7, x6)) ⟨hsv7, hr⟩ (weak0 ((sT rfl (sT rfl (sT rfl (sT rfl (sT rfl sT0)))))) (sub_keep (sub_keep sub_nil))))
                · rintro ⟨sv6, x9⟩ ⟨hsv6, hr⟩
                  show AW Hfaa.prog _ _ _ ⟨[(2, .inr (.inl (2, 0))), (3, .inl (is ( sv6))), (4, .inl (is (Bl x3))), (6, .inl (is (I64 x5))), (7, .inl (is (I64 x9)))], [(2, pb 307 [is (U8 (0#8)), is (Bl false), is (Sv ([] : List UInt8)), is (I16 0), is (I64 0), is (I32 0)]), (1001, rowc sv6 (k1 U8) 1 x8)]⟩
                  have hr : some r = F323_7 N x3 x5 x8 x9 := hr
                  refine AW_cut (σ := Bool × Bool × List UInt8 × Int) (fun v => ⟨[(2, .inr (.inl (2, 0))), (13, .inr (.inl (13, 0))), (14, .inl (is (Bl v.1)))], [(2, pb 307 [is (U8 (0#8)), is (Bl false), is (Sv ([] : List UInt8)), is (I16 0), is (I64 0), is (I32 0)]), (13, pb 151 [is (Bl v.2.1), is (Sv v.2.2.1), is (I16 v.2.2.2)])]⟩) (fun v => some r = F323_8 N v.1 v.2.1 v.2.2.1 v.2.2.2) ?_ ?_
                  · skip
                    refine AW_region ?_
                    refine AL_cons (LR_move (at_tmp 4 _) rfl) (sS (sT1 rfl) sB0 sF0) ?_
                    refine AL_cons (LR_move (at_tmp 3 _) rfl) (sS (sT1 rfl) sB0 sF0) ?_
                    refine AL_frzRow (fun H => (nsq (k1 U8) 1 x8).p H sv6) 1001 ⟨[(2, .inr (.inl (2, 0))), (3, .inl (ns U8 x8)), (4, .inl (is (Bl x3))), (6, .inl (is (I64 x5))), (7, .inl (is (I64 x9))), (157, .inl (is (Bl x3))), (158, .inl (ns U8 x8))], [(2, pb 307 [is (U8 (0#8)), is (Bl false), is (Sv ([] : List UInt8)), is (I16 0), is (I64 0), is (I32 0)])]⟩ k1_len rfl (fun _ h => h) (cbK rfl (cbD cb0)) (ctP rfl rfl (ctC rfl (cv_sv (fun _ h => nsq_k1 h)) (ctC rfl cv_refl (ctC rfl cv_refl (ctC rfl cv_refl (ctC rfl cv_refl (ctC rfl (cv_sv (fun _ h => nsq_k1 h)) ct0))))))) ?_
                    refine AL_cons (LR_convQ Hfaa.underlying227 Hfaa.underlying5 Hfaa.underlying9 (at_tmp 158 _) rfl) (sS (sT1 rfl) sB0 sF0) ?_
                    refine AL_cons (LR_move (at_tmp 7 _) rfl) (sS (sT1 rfl) sB0 sF0) ?_
                    refine AL_cons (LR_move (at_tmp 6 _) rfl) (sS (sT1 rfl) sB0 sF0) ?_
                    refine AL_cons (LR_bin (at_c (v' := I64 4) rfl) (at_tmp 161 _) (mul_I64 4 x5) rfl) (sS (sA sT0 (sT1 rfl)) sB0 sF0) ?_
                    refine AL_cons (LR_bin (at_tmp 160 _) (at_tmp 162 _) (sub_I64 x9 (w64 (4 * x5))) rfl) (sS (sA (sT1 rfl) (sT1 rfl)) sB0 sF0) ?_
                    obtain ⟨y8, hy8, hr⟩ := bind_some hr
                    refine AL_cons (LR_call Hfaa.func284 rfl rfl (C284 N x3 (bys x8.2.1 x8.2.2) (w64 (x9 - (w64 (4 * x5)))) y8 hy8) (all_cons (at_tmp 157 _) (all_cons (at_tmp 159 _) (all_cons (at_tmp 163 _) all_nil))) rfl) (sS (sA (sT1 rfl) (sA (sT1 rfl) (sA (sT1 rfl) sT0))) sB0 sF0) ?_
                    refine AL_cons (LR_move (at_tmp 164 _) rfl) (sS (sT1 rfl) sB0 sF0) ?_
                    refine AL_cons (LR_extract (at_tmp 156 _) rfl rfl) (sS (sT1 rfl) sB0 sF0) ?_
                    refine AL_cons (LR_extract (at_tmp 156 _) rfl rfl) (sS (sT1 rfl) sB0 sF0) ?_
                    refine AL_cons (zl151 rfl) (sS sT0 sB0 (sF1 rfl)) ?_
                    refine AL_cons (LR_store (at_tmp 13 _) (at_tmp 165 _) (cells_agg _) (onC (one_is rfl) (onC (one_is rfl) (onC (one_is rfl) onN))) sz151 rfl rfl) (sS (sA (sT1 rfl) (sT1 rfl)) (sB1 rfl) sF0) ?_
                    refine AL_cons (LR_assign (at_tmp 166 _) rfl) (sS (sT1 rfl) sB0 sF0) ?_
                    refine AL_nil ?_
                    exact thenN (cutLeaf (v := (y8.2.2.2, y8.1, y8.2.1, y8.2.2.1)) hr (weak0 ((sT rfl (sT rfl (sT rfl sT0)))) (sub_keep (sub_keep sub_nil))))
                  · rintro ⟨x10, x11, x12, x13⟩ hr
                    show AW Hfaa.prog _ _ _ ⟨[(2, .inr (.inl (2, 0))), (13, .inr (.inl (13, 0))), (14, .inl (is (Bl x10)))], [(2, pb 307 [is (U8 (0#8)), is (Bl false), is (Sv ([] : List UInt8)), is (I16 0), is (I64 0), is (I32 0)]), (13, pb 151 [is (Bl x11), is (Sv x12), is (I16 x13)])]⟩
                    have hr : some r = F323_8 N x10 x11 x12 x13 := hr
                    refine AW_seq1 ?_
                    refine AW_cut (σ := Bool) (fun v => ⟨[(2, .inr (.inl (2, 0))), (13, .inr (.inl (13, 0))), (168, .inl (is (Bl v)))], [(2, pb 307 [is (U8 (0#8)), is (Bl false), is (Sv ([] : List UInt8)), is (I16 0), is (I64 0), is (I32 0)]), (13, pb 151 [is (Bl x11), is (Sv x12), is (I16 x13)])]⟩) (fun v => some r = F323_9 N x11 x12 x13 v) ?_ ?_
                    · skip
                      refine AW_region ?_
                      refine AL_cons (LR_move (at_tmp 14 _) rfl) (sS (sT1 rfl) sB0 sF0) ?_
                      refine AL_cons (LR_un (at_tmp 167 _) (not_Bl x10) rfl) (sS (sT1 rfl) sB0 sF0) ?_
                      refine AL_nil ?_
                      exact thenN (cutLeaf (v := !x10) hr (weak0 ((sT rfl (sT rfl (sT rfl sT0)))) (sub_keep (sub_keep sub_nil))))
                    · rintro x14 hr
                      show AW Hfaa.prog _ _ _ ⟨[(2, .inr (.inl (2, 0))), (13, .inr (.inl (13, 0))), (168, .inl (is (Bl x14)))], [(2, pb 307 [is (U8 (0#8)), is (Bl false), is (Sv ([] : List UInt8)), is (I16 0), is (I64 0), is (I32 0)]), (13, pb 151 [is (Bl x11), is (Sv x12), is (I16 x13)])]⟩
                      have hr : some r = F323_9 N x11 x12 x13 x14 := hr
                      refine AW_condT (b := x14) rfl (fun h => ?_) (fun h => ?_)
                      · have hr := hr.trans (cond_t h)
                        clear h
                        refine AW_seq1 ?_
                        refine AW_region ?_
                        refine AL_cons (bl307 (parts_cons (i := 0) (off := 0) (at_c (v' := U8 (4#8)) rfl) (cells_one (one_is rfl)) rfl rfl parts_nil) rfl rfl) (sS (sA sT0 sT0) sB0 sF0) ?_
                        refine AL_cons (LR_store (at_tmp 2 _) (at_tmp 169 _) (cells_agg _) (onC (one_is rfl) (onC (one_is rfl) (onC (one_is rfl) (onC (one_is rfl) (onC (one_is rfl) (onC (one_is rfl) onN)))))) sz307 rfl rfl) (sS (sA (sT1 rfl) (sT1 rfl)) (sB1 rfl) sF0) ?_
                        refine AL_nil ?_
                        refine thenN ?_
                        refine AW_ret ?_
                        refine thenR ?_
                        refine scR ?_
                        obtain rfl := Option.some.inj hr
                        exact res1 rfl (rvC rfl rfl ag307 sz307 rfl)
                      · have hr := hr.trans (cond_f h)
                        clear h
                        refine AW_skip ?_
                        refine thenN ?_
                        refine AW_seq1 ?_
                        refine AW_region ?_
                        refine AL_cons (LR_loads (at_tmp 13 _) ag151 sz151 rfl rfl rfl) (sS (sT1 rfl) (sB1 rfl) sF0) ?_
                        refine AL_cons (bl307 (parts_cons (i := 1) (off := 1) (at_tmp 170 _) (cells_agg _) rfl rfl parts_nil) rfl rfl) (sS (sA (sT1 rfl) sT0) sB0 sF0) ?_
                        refine AL_cons (LR_store (at_tmp 2 _) (at_tmp 171 _) (cells_agg _) (onC (one_is rfl) (onC (one_is rfl) (onC (one_is rfl) (onC (one_is rfl) (onC (one_is rfl) (onC (one_is rfl) onN)))))) sz307 rfl rfl) (sS (sA (sT1 rfl) (sT1 rfl)) (sB1 rfl) sF0) ?_
                        refine AL_nil ?_
                        refine thenN ?_
                        refine AW_ret ?_
                        refine scR ?_
                        obtain rfl := Option.some.inj hr
                        exact res1 rfl (rvC rfl rfl ag307 sz307 rfl)
end Go.Proofs.YfwaawGreat
