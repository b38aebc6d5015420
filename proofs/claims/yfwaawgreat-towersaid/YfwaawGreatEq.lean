/-
  '==' on the program's structs and arrays. (Written by tools/geneq.py.)
-/
import Derived.Test.YfwaawGreatProg
import Derived.Test.YfwaawGreatOps2
namespace Go.Proofs.YfwaawGreat
open Go.Aw
set_option maxRecDepth 100000
theorem mixed : Hfaa.prog.follows .mixedOrders = true := by kernel_rfl
theorem run_part1 {P : Program} {t : TypeId} (ht : ∀ w, (isAgg t).run P w = .ok false w) (cs : Array Value) (off : Nat) (v : Value) (h : cs[off]? = some v) (w : World) : (part t cs off).run P w = .ok v w := by
  unfold part
  rw [Sem.run_bind, ht, Result.andThen_ok]
  simp [h]
theorem nat_beq {w : Nat} (x y : BitVec w) : ((x.toNat : Int) == (y.toNat : Int)) = (x == y) := by rw [Bool.eq_iff_iff]; simp [BitVec.toNat_inj, Int.natCast_inj]
theorem ba_beq (a b : List UInt8) : ((ByteArray.mk a.toArray) == (ByteArray.mk b.toArray)) = (a == b) := by
  show (a.toArray == b.toArray) = _
  simp
theorem na5 : ∀ w, (isAgg 5).run Hfaa.prog w = .ok false w := fun w => by kernel_rfl
theorem all2_is {H : PH} : ∀ {vs : List Value} {us : List Value}, All2 H (us.map is) vs → vs = us
  | [], [], _ => rfl
  | v :: vs, u :: us, h => by rw [show v = u from h.1, all2_is h.2]
  | [], _ :: _, h => h.elim
  | _ :: _, [], h => h.elim
theorem equalV23 (d : Nat) (a0 : BitVec 8) (a1 : BitVec 8) (b0 : BitVec 8) (b1 : BitVec 8) (w : World) : (Op.equalIn (d + 2) 23 (.agg #[U8 a0, U8 a1]) (.agg #[U8 b0, U8 b1])).run Hfaa.prog w = .ok ((a0 == b0) && (a1 == b1)) w := by
  have p0 : ∀ w, (part 5 #[U8 a0, U8 a1] 0).run Hfaa.prog w = .ok (U8 a0) w := run_part1 na5 _ _ _ rfl
  have q0 : ∀ w, (part 5 #[U8 b0, U8 b1] 0).run Hfaa.prog w = .ok (U8 b0) w := run_part1 na5 _ _ _ rfl
  have g0 : ∀ w, (Op.equalIn (d + 1) 5 (U8 a0) (U8 b0)).run Hfaa.prog w = .ok (a0 == b0) w := fun w => by rw [U8, U8, eqIn_int Hfaa.underlying5, nat_beq]
  have p1 : ∀ w, (part 5 #[U8 a0, U8 a1] 1).run Hfaa.prog w = .ok (U8 a1) w := run_part1 na5 _ _ _ rfl
  have q1 : ∀ w, (part 5 #[U8 b0, U8 b1] 1).run Hfaa.prog w = .ok (U8 b1) w := run_part1 na5 _ _ _ rfl
  have g1 : ∀ w, (Op.equalIn (d + 1) 5 (U8 a1) (U8 b1)).run Hfaa.prog w = .ok (a1 == b1) w := fun w => by rw [U8, U8, eqIn_int Hfaa.underlying5, nat_beq]
  rw [Op.equalIn]
  simp only [Sem.run_bind, run_underlying Hfaa.underlying23, Result.andThen_ok]
  simp [p0, q0, g0, p1, q1, g1]
  by_cases c0 : a0 = b0
  case neg => simp [c0]
  by_cases c1 : a1 = b1
  case neg => simp [c0, c1]
  simp [c0, c1]
theorem eqlA23 {x y : Operand} (a0 : BitVec 8) (a1 : BitVec 8) (b0 : BitVec 8) (b1 : BitVec 8) : ∀ (H : PH) vx vy w, (agg [is (U8 a0), is (U8 a1)]).p H vx → (agg [is (U8 b0), is (U8 b1)]).p H vy → (do eqGuard .eql 23 x y vx vy; binOp .eql 23 vx vy : Sem Value).run Hfaa.prog w = .ok (Bl ((a0 == b0) && (a1 == b1))) w := by
  rintro H vx vy w ⟨vs, rfl, h⟩ ⟨us, rfl, g⟩
  have hv : vs = [U8 a0, U8 a1] := all2_is h
  have hu : us = [U8 b0, U8 b1] := all2_is g
  subst hv; subst hu
  rw [Sem.run_bind]
  have : (eqGuard .eql 23 x y (.agg #[U8 a0, U8 a1]) (.agg #[U8 b0, U8 b1])).run Hfaa.prog w = .ok () w := by
    unfold eqGuard
    simp
  rw [this, Result.andThen_ok]
  show (do pure (Value.bool ((← Op.equal 23 (.agg #[U8 a0, U8 a1]) (.agg #[U8 b0, U8 b1])))) : Sem Value).run Hfaa.prog w = _
  rw [Sem.run_bind, Op.equal, Op.maxDepth, equalV23]
  rfl
theorem neqA23 {x y : Operand} (a0 : BitVec 8) (a1 : BitVec 8) (b0 : BitVec 8) (b1 : BitVec 8) : ∀ (H : PH) vx vy w, (agg [is (U8 a0), is (U8 a1)]).p H vx → (agg [is (U8 b0), is (U8 b1)]).p H vy → (do eqGuard .neq 23 x y vx vy; binOp .neq 23 vx vy : Sem Value).run Hfaa.prog w = .ok (Bl (!((a0 == b0) && (a1 == b1)))) w := by
  rintro H vx vy w ⟨vs, rfl, h⟩ ⟨us, rfl, g⟩
  have hv : vs = [U8 a0, U8 a1] := all2_is h
  have hu : us = [U8 b0, U8 b1] := all2_is g
  subst hv; subst hu
  rw [Sem.run_bind]
  have : (eqGuard .neq 23 x y (.agg #[U8 a0, U8 a1]) (.agg #[U8 b0, U8 b1])).run Hfaa.prog w = .ok () w := by
    unfold eqGuard
    simp
  rw [this, Result.andThen_ok]
  show (do pure (Value.bool (!(← Op.equal 23 (.agg #[U8 a0, U8 a1]) (.agg #[U8 b0, U8 b1])))) : Sem Value).run Hfaa.prog w = _
  rw [Sem.run_bind, Op.equal, Op.maxDepth, equalV23]
  rfl
theorem na30 : ∀ w, (isAgg 30).run Hfaa.prog w = .ok false w := fun w => by kernel_rfl
theorem equalV42 (d : Nat) (a0 : BitVec 64) (a1 : BitVec 64) (b0 : BitVec 64) (b1 : BitVec 64) (w : World) : (Op.equalIn (d + 2) 42 (.agg #[U64 a0, U64 a1]) (.agg #[U64 b0, U64 b1])).run Hfaa.prog w = .ok ((a0 == b0) && (a1 == b1)) w := by
  have p0 : ∀ w, (part 30 #[U64 a0, U64 a1] 0).run Hfaa.prog w = .ok (U64 a0) w := run_part1 na30 _ _ _ rfl
  have q0 : ∀ w, (part 30 #[U64 b0, U64 b1] 0).run Hfaa.prog w = .ok (U64 b0) w := run_part1 na30 _ _ _ rfl
  have g0 : ∀ w, (Op.equalIn (d + 1) 30 (U64 a0) (U64 b0)).run Hfaa.prog w = .ok (a0 == b0) w := fun w => by rw [U64, U64, eqIn_int Hfaa.underlying30, nat_beq]
  have p1 : ∀ w, (part 30 #[U64 a0, U64 a1] 1).run Hfaa.prog w = .ok (U64 a1) w := run_part1 na30 _ _ _ rfl
  have q1 : ∀ w, (part 30 #[U64 b0, U64 b1] 1).run Hfaa.prog w = .ok (U64 b1) w := run_part1 na30 _ _ _ rfl
  have g1 : ∀ w, (Op.equalIn (d + 1) 30 (U64 a1) (U64 b1)).run Hfaa.prog w = .ok (a1 == b1) w := fun w => by rw [U64, U64, eqIn_int Hfaa.underlying30, nat_beq]
  rw [Op.equalIn]
  simp only [Sem.run_bind, run_underlying Hfaa.underlying42, Result.andThen_ok]
  simp [p0, q0, g0, p1, q1, g1]
  by_cases c0 : a0 = b0
  case neg => simp [c0]
  by_cases c1 : a1 = b1
  case neg => simp [c0, c1]
  simp [c0, c1]
theorem eqlA42 {x y : Operand} (a0 : BitVec 64) (a1 : BitVec 64) (b0 : BitVec 64) (b1 : BitVec 64) : ∀ (H : PH) vx vy w, (agg [is (U64 a0), is (U64 a1)]).p H vx → (agg [is (U64 b0), is (U64 b1)]).p H vy → (do eqGuard .eql 42 x y vx vy; binOp .eql 42 vx vy : Sem Value).run Hfaa.prog w = .ok (Bl ((a0 == b0) && (a1 == b1))) w := by
  rintro H vx vy w ⟨vs, rfl, h⟩ ⟨us, rfl, g⟩
  have hv : vs = [U64 a0, U64 a1] := all2_is h
  have hu : us = [U64 b0, U64 b1] := all2_is g
  subst hv; subst hu
  rw [Sem.run_bind]
  have : (eqGuard .eql 42 x y (.agg #[U64 a0, U64 a1]) (.agg #[U64 b0, U64 b1])).run Hfaa.prog w = .ok () w := by
    unfold eqGuard
    simp
  rw [this, Result.andThen_ok]
  show (do pure (Value.bool ((← Op.equal 42 (.agg #[U64 a0, U64 a1]) (.agg #[U64 b0, U64 b1])))) : Sem Value).run Hfaa.prog w = _
  rw [Sem.run_bind, Op.equal, Op.maxDepth, equalV42]
  rfl
theorem neqA42 {x y : Operand} (a0 : BitVec 64) (a1 : BitVec 64) (b0 : BitVec 64) (b1 : BitVec 64) : ∀ (H : PH) vx vy w, (agg [is (U64 a0), is (U64 a1)]).p H vx → (agg [is (U64 b0), is (U64 b1)]).p H vy → (do eqGuard .neq 42 x y vx vy; binOp .neq 42 vx vy : Sem Value).run Hfaa.prog w = .ok (Bl (!((a0 == b0) && (a1 == b1)))) w := by
  rintro H vx vy w ⟨vs, rfl, h⟩ ⟨us, rfl, g⟩
  have hv : vs = [U64 a0, U64 a1] := all2_is h
  have hu : us = [U64 b0, U64 b1] := all2_is g
  subst hv; subst hu
  rw [Sem.run_bind]
  have : (eqGuard .neq 42 x y (.agg #[U64 a0, U64 a1]) (.agg #[U64 b0, U64 b1])).run Hfaa.prog w = .ok () w := by
    unfold eqGuard
    simp
  rw [this, Result.andThen_ok]
  show (do pure (Value.bool (!(← Op.equal 42 (.agg #[U64 a0, U64 a1]) (.agg #[U64 b0, U64 b1])))) : Sem Value).run Hfaa.prog w = _
  rw [Sem.run_bind, Op.equal, Op.maxDepth, equalV42]
  rfl
theorem na44 : ∀ w, (isAgg 44).run Hfaa.prog w = .ok false w := fun w => by kernel_rfl
theorem na9 : ∀ w, (isAgg 9).run Hfaa.prog w = .ok false w := fun w => by kernel_rfl
theorem na4 : ∀ w, (isAgg 4).run Hfaa.prog w = .ok false w := fun w => by kernel_rfl
theorem equalV151 (d : Nat) (a0 : Bool) (a1 : List UInt8) (a2 : Int) (b0 : Bool) (b1 : List UInt8) (b2 : Int) (w : World) : (Op.equalIn (d + 2) 151 (.agg #[Bl a0, Sv a1, I16 a2]) (.agg #[Bl b0, Sv b1, I16 b2])).run Hfaa.prog w = .ok ((a0 == b0) && (a1 == b1) && (a2 == b2)) w := by
  have p0 : ∀ w, (part 4 #[Bl a0, Sv a1, I16 a2] 0).run Hfaa.prog w = .ok (Bl a0) w := run_part1 na4 _ _ _ rfl
  have q0 : ∀ w, (part 4 #[Bl b0, Sv b1, I16 b2] 0).run Hfaa.prog w = .ok (Bl b0) w := run_part1 na4 _ _ _ rfl
  have g0 : ∀ w, (Op.equalIn (d + 1) 4 (Bl a0) (Bl b0)).run Hfaa.prog w = .ok (a0 == b0) w := fun w => by rw [Bl, Bl, eqIn_bool Hfaa.underlying4]
  have p1 : ∀ w, (part 9 #[Bl a0, Sv a1, I16 a2] 1).run Hfaa.prog w = .ok (Sv a1) w := run_part1 na9 _ _ _ rfl
  have q1 : ∀ w, (part 9 #[Bl b0, Sv b1, I16 b2] 1).run Hfaa.prog w = .ok (Sv b1) w := run_part1 na9 _ _ _ rfl
  have g1 : ∀ w, (Op.equalIn (d + 1) 9 (Sv a1) (Sv b1)).run Hfaa.prog w = .ok (a1 == b1) w := fun w => by rw [Sv, Sv, eqIn_str Hfaa.underlying9, ba_beq]
  have p2 : ∀ w, (part 44 #[Bl a0, Sv a1, I16 a2] 2).run Hfaa.prog w = .ok (I16 a2) w := run_part1 na44 _ _ _ rfl
  have q2 : ∀ w, (part 44 #[Bl b0, Sv b1, I16 b2] 2).run Hfaa.prog w = .ok (I16 b2) w := run_part1 na44 _ _ _ rfl
  have g2 : ∀ w, (Op.equalIn (d + 1) 44 (I16 a2) (I16 b2)).run Hfaa.prog w = .ok (a2 == b2) w := fun w => by rw [I16, I16, eqIn_int Hfaa.underlying44]
  rw [Op.equalIn]
  simp only [Sem.run_bind, run_underlying Hfaa.underlying151, Result.andThen_ok]
  simp [p0, q0, g0, p1, q1, g1, p2, q2, g2]
  by_cases c0 : a0 = b0
  case neg => simp [c0]
  by_cases c1 : a1 = b1
  case neg => simp [c0, c1]
  by_cases c2 : a2 = b2
  case neg => simp [c0, c1, c2]
  simp [c0, c1, c2]
theorem eqlA151 {x y : Operand} (a0 : Bool) (a1 : List UInt8) (a2 : Int) (b0 : Bool) (b1 : List UInt8) (b2 : Int) : ∀ (H : PH) vx vy w, (agg [is (Bl a0), is (Sv a1), is (I16 a2)]).p H vx → (agg [is (Bl b0), is (Sv b1), is (I16 b2)]).p H vy → (do eqGuard .eql 151 x y vx vy; binOp .eql 151 vx vy : Sem Value).run Hfaa.prog w = .ok (Bl ((a0 == b0) && (a1 == b1) && (a2 == b2))) w := by
  rintro H vx vy w ⟨vs, rfl, h⟩ ⟨us, rfl, g⟩
  have hv : vs = [Bl a0, Sv a1, I16 a2] := all2_is h
  have hu : us = [Bl b0, Sv b1, I16 b2] := all2_is g
  subst hv; subst hu
  rw [Sem.run_bind]
  have : (eqGuard .eql 151 x y (.agg #[Bl a0, Sv a1, I16 a2]) (.agg #[Bl b0, Sv b1, I16 b2])).run Hfaa.prog w = .ok () w := by
    unfold eqGuard
    simp
  rw [this, Result.andThen_ok]
  show (do pure (Value.bool ((← Op.equal 151 (.agg #[Bl a0, Sv a1, I16 a2]) (.agg #[Bl b0, Sv b1, I16 b2])))) : Sem Value).run Hfaa.prog w = _
  rw [Sem.run_bind, Op.equal, Op.maxDepth, equalV151]
  rfl
theorem neqA151 {x y : Operand} (a0 : Bool) (a1 : List UInt8) (a2 : Int) (b0 : Bool) (b1 : List UInt8) (b2 : Int) : ∀ (H : PH) vx vy w, (agg [is (Bl a0), is (Sv a1), is (I16 a2)]).p H vx → (agg [is (Bl b0), is (Sv b1), is (I16 b2)]).p H vy → (do eqGuard .neq 151 x y vx vy; binOp .neq 151 vx vy : Sem Value).run Hfaa.prog w = .ok (Bl (!((a0 == b0) && (a1 == b1) && (a2 == b2)))) w := by
  rintro H vx vy w ⟨vs, rfl, h⟩ ⟨us, rfl, g⟩
  have hv : vs = [Bl a0, Sv a1, I16 a2] := all2_is h
  have hu : us = [Bl b0, Sv b1, I16 b2] := all2_is g
  subst hv; subst hu
  rw [Sem.run_bind]
  have : (eqGuard .neq 151 x y (.agg #[Bl a0, Sv a1, I16 a2]) (.agg #[Bl b0, Sv b1, I16 b2])).run Hfaa.prog w = .ok () w := by
    unfold eqGuard
    simp
  rw [this, Result.andThen_ok]
  show (do pure (Value.bool (!(← Op.equal 151 (.agg #[Bl a0, Sv a1, I16 a2]) (.agg #[Bl b0, Sv b1, I16 b2])))) : Sem Value).run Hfaa.prog w = _
  rw [Sem.run_bind, Op.equal, Op.maxDepth, equalV151]
  rfl
end Go.Proofs.YfwaawGreat
