/-
  What the operators yield: unsigned integers as bit vectors, signed ones as integers under their wrap. (Written by tools/genops.py.)
-/
import Derived.Test.YfwaawGreatAwDraw
namespace Go.Aw

def w8 (n : Int) : Int := IntKind.i8.wrap n
def w16 (n : Int) : Int := IntKind.i16.wrap n
def w32 (n : Int) : Int := IntKind.i32.wrap n
def w64 (n : Int) : Int := IntKind.i64.wrap n

theorem w8_id {n : Int} (h : -128 ≤ n ∧ n < 128) : w8 n = n := by simp only [w8, IntKind.wrap, IntKind.bits, IntKind.signed]; simp; split <;> omega
theorem w16_id {n : Int} (h : -32768 ≤ n ∧ n < 32768) : w16 n = n := by simp only [w16, IntKind.wrap, IntKind.bits, IntKind.signed]; simp; split <;> omega
theorem w32_id {n : Int} (h : -2147483648 ≤ n ∧ n < 2147483648) : w32 n = n := by simp only [w32, IntKind.wrap, IntKind.bits, IntKind.signed]; simp; split <;> omega
theorem w64_id {n : Int} (h : -9223372036854775808 ≤ n ∧ n < 9223372036854775808) : w64 n = n := by simp only [w64, IntKind.wrap, IntKind.bits, IntKind.signed]; simp; split <;> omega

def U8 (x : BitVec 8) : Value := .int .u8 (x.toNat : Int)
def U16 (x : BitVec 16) : Value := .int .u16 (x.toNat : Int)
def U32 (x : BitVec 32) : Value := .int .u32 (x.toNat : Int)
def U64 (x : BitVec 64) : Value := .int .u64 (x.toNat : Int)
def I8 (n : Int) : Value := .int .i8 n
def I16 (n : Int) : Value := .int .i16 n
def I32 (n : Int) : Value := .int .i32 n
def I64 (n : Int) : Value := .int .i64 n
def Bl (b : Bool) : Value := .bool b
def F64 (n : Nat) : Value := .float .f64 n
def F32 (n : Nat) : Value := .float .f32 n
def S (s : ByteArray) : Value := .string s

section
variable {P : Program}

/-- The run of a binary operation, its look at interfaces ahead of it. -/
theorem bin_int {op : BinOp} {t : TypeId} {x y : Operand} {k k' : IntKind} {a b : Int} {v : Value} (h : ∀ w, (binOp op t (.int k a) (.int k' b)).run P w = .ok v w) :
    ∀ w, (do eqGuard op t x y (.int k a) (.int k' b); binOp op t (.int k a) (.int k' b) : Sem Value).run P w = .ok v w := by
  intro w
  rw [Sem.run_bind]
  have : (eqGuard op t x y (.int k a) (.int k' b)).run P w = .ok () w := by
    unfold eqGuard
    split <;> rfl
  rw [this]
  exact h w

theorem bin_bool {op : BinOp} {t : TypeId} {x y : Operand} {a b : Bool} {v : Value} (h : ∀ w, (binOp op t (.bool a) (.bool b)).run P w = .ok v w) :
    ∀ w, (do eqGuard op t x y (.bool a) (.bool b); binOp op t (.bool a) (.bool b) : Sem Value).run P w = .ok v w := by
  intro w
  rw [Sem.run_bind]
  have : (eqGuard op t x y (.bool a) (.bool b)).run P w = .ok () w := by
    unfold eqGuard
    split <;> rfl
  rw [this]
  exact h w

theorem wrap_u {k : IntKind} (hk : k.signed = false) (n : Int) : k.wrap n = n % (2 ^ k.bits : Int) := by simp [IntKind.wrap, hk]

theorem add_U8 {t : TypeId} {x y : Operand} (a b : BitVec 8) : ∀ w, (do eqGuard .add t x y (U8 a) (U8 b); binOp .add t (U8 a) (U8 b) : Sem Value).run P w = .ok (U8 (a + b)) w :=
  bin_int fun w => by
    have : IntKind.wrap .u8 ((a.toNat : Int) + b.toNat) = ((a + b).toNat : Int) := by
      rw [wrap_u rfl]; simp only [IntKind.bits]
      have ha := a.isLt; have hb := b.isLt
      simp [BitVec.toNat_add]
    show (Result.ok (Value.int .u8 (IntKind.wrap .u8 ((a.toNat : Int) + b.toNat))) w : Result Value) = _
    rw [this]; rfl

theorem sub_U8 {t : TypeId} {x y : Operand} (a b : BitVec 8) : ∀ w, (do eqGuard .sub t x y (U8 a) (U8 b); binOp .sub t (U8 a) (U8 b) : Sem Value).run P w = .ok (U8 (a - b)) w :=
  bin_int fun w => by
    have : IntKind.wrap .u8 ((a.toNat : Int) - b.toNat) = ((a - b).toNat : Int) := by
      rw [wrap_u rfl]; simp only [IntKind.bits]
      have ha := a.isLt; have hb := b.isLt
      simp only [BitVec.toNat_sub]; omega
    show (Result.ok (Value.int .u8 (IntKind.wrap .u8 ((a.toNat : Int) - b.toNat))) w : Result Value) = _
    rw [this]; rfl

theorem mul_U8 {t : TypeId} {x y : Operand} (a b : BitVec 8) : ∀ w, (do eqGuard .mul t x y (U8 a) (U8 b); binOp .mul t (U8 a) (U8 b) : Sem Value).run P w = .ok (U8 (a * b)) w :=
  bin_int fun w => by
    have : IntKind.wrap .u8 ((a.toNat : Int) * b.toNat) = ((a * b).toNat : Int) := by
      rw [wrap_u rfl]; simp only [IntKind.bits]
      have ha := a.isLt; have hb := b.isLt
      simp [BitVec.toNat_mul]
    show (Result.ok (Value.int .u8 (IntKind.wrap .u8 ((a.toNat : Int) * b.toNat))) w : Result Value) = _
    rw [this]; rfl

theorem and_U8 {t : TypeId} {x y : Operand} (a b : BitVec 8) : ∀ w, (do eqGuard .and t x y (U8 a) (U8 b); binOp .and t (U8 a) (U8 b) : Sem Value).run P w = .ok (U8 (a &&& b)) w :=
  bin_int fun w => by
    show (Result.ok (Value.int .u8 (IntKind.wrap .u8 ((BitVec.ofInt 8 (a.toNat : Int) &&& BitVec.ofInt 8 (b.toNat : Int)).toNat : Int))) w : Result Value) = _
    rw [wrap_u rfl]; simp only [IntKind.bits, BitVec.ofInt_natCast, BitVec.ofNat_toNat, BitVec.setWidth_eq]
    have h := (a &&& b).isLt
    rw [Int.emod_eq_of_lt (by omega) (by omega)]; rfl

theorem or_U8 {t : TypeId} {x y : Operand} (a b : BitVec 8) : ∀ w, (do eqGuard .or t x y (U8 a) (U8 b); binOp .or t (U8 a) (U8 b) : Sem Value).run P w = .ok (U8 (a ||| b)) w :=
  bin_int fun w => by
    show (Result.ok (Value.int .u8 (IntKind.wrap .u8 ((BitVec.ofInt 8 (a.toNat : Int) ||| BitVec.ofInt 8 (b.toNat : Int)).toNat : Int))) w : Result Value) = _
    rw [wrap_u rfl]; simp only [IntKind.bits, BitVec.ofInt_natCast, BitVec.ofNat_toNat, BitVec.setWidth_eq]
    have h := (a ||| b).isLt
    rw [Int.emod_eq_of_lt (by omega) (by omega)]; rfl

theorem xor_U8 {t : TypeId} {x y : Operand} (a b : BitVec 8) : ∀ w, (do eqGuard .xor t x y (U8 a) (U8 b); binOp .xor t (U8 a) (U8 b) : Sem Value).run P w = .ok (U8 (a ^^^ b)) w :=
  bin_int fun w => by
    show (Result.ok (Value.int .u8 (IntKind.wrap .u8 ((BitVec.ofInt 8 (a.toNat : Int) ^^^ BitVec.ofInt 8 (b.toNat : Int)).toNat : Int))) w : Result Value) = _
    rw [wrap_u rfl]; simp only [IntKind.bits, BitVec.ofInt_natCast, BitVec.ofNat_toNat, BitVec.setWidth_eq]
    have h := (a ^^^ b).isLt
    rw [Int.emod_eq_of_lt (by omega) (by omega)]; rfl

theorem andNot_U8 {t : TypeId} {x y : Operand} (a b : BitVec 8) : ∀ w, (do eqGuard .andNot t x y (U8 a) (U8 b); binOp .andNot t (U8 a) (U8 b) : Sem Value).run P w = .ok (U8 (a &&& ~~~b)) w :=
  bin_int fun w => by
    show (Result.ok (Value.int .u8 (IntKind.wrap .u8 ((BitVec.ofInt 8 (a.toNat : Int) &&& ~~~BitVec.ofInt 8 (b.toNat : Int)).toNat : Int))) w : Result Value) = _
    rw [wrap_u rfl]; simp only [IntKind.bits, BitVec.ofInt_natCast, BitVec.ofNat_toNat, BitVec.setWidth_eq]
    have h := (a &&& ~~~b).isLt
    rw [Int.emod_eq_of_lt (by omega) (by omega)]; rfl

theorem eql_U8 {t : TypeId} {x y : Operand} (a b : BitVec 8) : ∀ w, (do eqGuard .eql t x y (U8 a) (U8 b); binOp .eql t (U8 a) (U8 b) : Sem Value).run P w = .ok (Bl (a == b)) w :=
  bin_int fun w => by
    show (Result.ok (Value.bool ((a.toNat : Int) == b.toNat)) w : Result Value) = _
    have : ((a.toNat : Int) == b.toNat) = (a == b) := by
      rw [Bool.eq_iff_iff]; simp [BitVec.toNat_inj, Int.natCast_inj]
    rw [this]; rfl

theorem neq_U8 {t : TypeId} {x y : Operand} (a b : BitVec 8) : ∀ w, (do eqGuard .neq t x y (U8 a) (U8 b); binOp .neq t (U8 a) (U8 b) : Sem Value).run P w = .ok (Bl (a != b)) w :=
  bin_int fun w => by
    show (Result.ok (Value.bool ((a.toNat : Int) != b.toNat)) w : Result Value) = _
    have : ((a.toNat : Int) != b.toNat) = (a != b) := by
      rw [Bool.eq_iff_iff]; simp [BitVec.toNat_inj, Int.natCast_inj]
    rw [this]; rfl

theorem lss_U8 {t : TypeId} {x y : Operand} (a b : BitVec 8) : ∀ w, (do eqGuard .lss t x y (U8 a) (U8 b); binOp .lss t (U8 a) (U8 b) : Sem Value).run P w = .ok (Bl (decide (a.toNat < b.toNat))) w :=
  bin_int fun w => by
    show (Result.ok (Value.bool (decide ((a.toNat : Int) < b.toNat))) w : Result Value) = _
    have : decide ((a.toNat : Int) < b.toNat) = decide (a.toNat < b.toNat) := by
      rw [Bool.eq_iff_iff]; simp
    rw [this]; rfl

theorem leq_U8 {t : TypeId} {x y : Operand} (a b : BitVec 8) : ∀ w, (do eqGuard .leq t x y (U8 a) (U8 b); binOp .leq t (U8 a) (U8 b) : Sem Value).run P w = .ok (Bl (decide (a.toNat ≤ b.toNat))) w :=
  bin_int fun w => by
    show (Result.ok (Value.bool (decide ((a.toNat : Int) ≤ b.toNat))) w : Result Value) = _
    have : decide ((a.toNat : Int) ≤ b.toNat) = decide (a.toNat ≤ b.toNat) := by
      rw [Bool.eq_iff_iff]; simp
    rw [this]; rfl

theorem gtr_U8 {t : TypeId} {x y : Operand} (a b : BitVec 8) : ∀ w, (do eqGuard .gtr t x y (U8 a) (U8 b); binOp .gtr t (U8 a) (U8 b) : Sem Value).run P w = .ok (Bl (decide (b.toNat < a.toNat))) w :=
  bin_int fun w => by
    show (Result.ok (Value.bool (decide ((a.toNat : Int) > b.toNat))) w : Result Value) = _
    have : decide ((a.toNat : Int) > b.toNat) = decide (b.toNat < a.toNat) := by
      rw [Bool.eq_iff_iff]; simp
    rw [this]; rfl

theorem geq_U8 {t : TypeId} {x y : Operand} (a b : BitVec 8) : ∀ w, (do eqGuard .geq t x y (U8 a) (U8 b); binOp .geq t (U8 a) (U8 b) : Sem Value).run P w = .ok (Bl (decide (b.toNat ≤ a.toNat))) w :=
  bin_int fun w => by
    show (Result.ok (Value.bool (decide ((a.toNat : Int) ≥ b.toNat))) w : Result Value) = _
    have : decide ((a.toNat : Int) ≥ b.toNat) = decide (b.toNat ≤ a.toNat) := by
      rw [Bool.eq_iff_iff]; simp
    rw [this]; rfl

theorem quo_U8 {t : TypeId} {x y : Operand} (a b : BitVec 8) (hb : b ≠ 0#8) : ∀ w, (do eqGuard .quo t x y (U8 a) (U8 b); binOp .quo t (U8 a) (U8 b) : Sem Value).run P w = .ok (U8 (a / b)) w :=
  bin_int fun w => by
    have hb' : ¬ (b.toNat : Int) = 0 := fun e => hb (BitVec.eq_of_toNat_eq (by simpa using e))
    have h : IntKind.wrap .u8 ((a.toNat : Int).tdiv b.toNat) = ((a / b).toNat : Int) := by
      rw [Int.tdiv_eq_ediv_of_nonneg (by omega), wrap_u rfl]; simp only [IntKind.bits]; have hq := (a / b).isLt; rw [BitVec.toNat_udiv] at hq ⊢; rw [← Int.natCast_ediv, Int.emod_eq_of_lt (Int.natCast_nonneg _) (by exact_mod_cast hq)]
    show (Op.intDiv .quo .u8 (a.toNat : Int) (b.toNat : Int)).run P w = _
    unfold Op.intDiv
    rw [if_neg hb']
    show (Result.ok (Value.int .u8 (IntKind.wrap .u8 ((a.toNat : Int).tdiv b.toNat))) w : Result Value) = _
    rw [h]; rfl

theorem rem_U8 {t : TypeId} {x y : Operand} (a b : BitVec 8) (hb : b ≠ 0#8) : ∀ w, (do eqGuard .rem t x y (U8 a) (U8 b); binOp .rem t (U8 a) (U8 b) : Sem Value).run P w = .ok (U8 (a % b)) w :=
  bin_int fun w => by
    have hb' : ¬ (b.toNat : Int) = 0 := fun e => hb (BitVec.eq_of_toNat_eq (by simpa using e))
    have h : (a.toNat : Int).tmod b.toNat = ((a % b).toNat : Int) := by
      rw [Int.tmod_eq_emod_of_nonneg (by omega), BitVec.toNat_umod]; rfl
    show (Op.intDiv .rem .u8 (a.toNat : Int) (b.toNat : Int)).run P w = _
    unfold Op.intDiv
    rw [if_neg hb']
    show (Result.ok (Value.int .u8 ((a.toNat : Int).tmod b.toNat)) w : Result Value) = _
    rw [h]; rfl

theorem shl_U8 {t : TypeId} {x y : Operand} {yk : IntKind} (a : BitVec 8) (n : Int) (hn : 0 ≤ n) : ∀ w, (do eqGuard .shl t x y (U8 a) (.int yk n); binOp .shl t (U8 a) (.int yk n) : Sem Value).run P w = .ok (U8 (a <<< n.toNat)) w :=
  bin_int fun w => by
    show (Op.shift .shl .u8 (a.toNat : Int) yk n).run P w = _
    unfold Op.shift
    rw [if_neg (by omega)]
    have h : IntKind.wrap .u8 ((a.toNat : Int) * 2 ^ (min n.toNat (IntKind.bits .u8))) = ((a <<< n.toNat).toNat : Int) := by
      rw [wrap_u rfl, BitVec.toNat_shiftLeft, Nat.shiftLeft_eq]
      simp only [IntKind.bits]
      rcases Nat.lt_or_ge n.toNat 8 with h | h
      · rw [Nat.min_eq_left (by omega)]; simp
      · rw [Nat.min_eq_right h]
        obtain ⟨m, hm⟩ := Nat.exists_eq_add_of_le h
        rw [hm, Nat.pow_add, ← Nat.mul_assoc, Nat.mul_right_comm, Nat.mul_mod_left]
        simp
    show (Result.ok (Value.int .u8 (IntKind.wrap .u8 ((a.toNat : Int) * 2 ^ (min n.toNat (IntKind.bits .u8))))) w : Result Value) = _
    rw [h]; rfl
theorem shr_U8 {t : TypeId} {x y : Operand} {yk : IntKind} (a : BitVec 8) (n : Int) (hn : 0 ≤ n) : ∀ w, (do eqGuard .shr t x y (U8 a) (.int yk n); binOp .shr t (U8 a) (.int yk n) : Sem Value).run P w = .ok (U8 (a >>> n.toNat)) w :=
  bin_int fun w => by
    show (Op.shift .shr .u8 (a.toNat : Int) yk n).run P w = _
    unfold Op.shift
    rw [if_neg (by omega)]
    have h : (a.toNat : Int).fdiv (2 ^ (min n.toNat (IntKind.bits .u8))) = ((a >>> n.toNat).toNat : Int) := by
      rw [Int.fdiv_eq_ediv_of_nonneg _ (Int.le_of_lt (Int.pow_pos (by decide))), BitVec.toNat_ushiftRight, Nat.shiftRight_eq_div_pow]
      simp only [IntKind.bits]
      rcases Nat.lt_or_ge n.toNat 8 with h | h
      · rw [Nat.min_eq_left (by omega)]; simp
      · rw [Nat.min_eq_right h]
        have h1 : a.toNat / 2 ^ n.toNat = 0 := Nat.div_eq_of_lt (Nat.lt_of_lt_of_le a.isLt (Nat.pow_le_pow_right (by decide) h))
        have h2 : a.toNat / 2 ^ 8 = 0 := Nat.div_eq_of_lt a.isLt
        rw [h1]
        have : ((a.toNat : Int) / 2 ^ 8) = ((a.toNat / 2 ^ 8 : Nat) : Int) := by simp
        rw [this, h2]
    show (Result.ok (Value.int .u8 ((a.toNat : Int).fdiv (2 ^ (min n.toNat (IntKind.bits .u8))))) w : Result Value) = _
    rw [h]; rfl
theorem neg_U8 (a : BitVec 8) : ∀ w, (Op.unary .neg (U8 a)).run P w = .ok (U8 (-a)) w := fun w => by
    have h : IntKind.wrap .u8 (0 - (a.toNat : Int)) = ((-a).toNat : Int) := by
      rw [wrap_u rfl, BitVec.toNat_neg]; simp only [IntKind.bits]; have := a.isLt; omega
    show (Result.ok (Value.int .u8 (IntKind.wrap .u8 (0 - (a.toNat : Int)))) w : Result Value) = _
    rw [h]; rfl
theorem conv_U8 {s d : TypeId} {k : IntKind} {td : TypeDesc} (hs : P.underlying s = some td) (hd : P.underlying d = some (.int .u8)) (n : Int) : ∀ w, (convert s d (.int k n)).run P w = .ok (U8 (BitVec.ofInt 8 n)) w := fun w => by
    have h : IntKind.wrap .u8 n = ((BitVec.ofInt 8 n).toNat : Int) := by
      rw [wrap_u rfl, BitVec.toNat_ofInt]; simp only [IntKind.bits]; omega
    unfold convert
    rw [Sem.run_bind, run_underlying hs, Result.andThen_ok, Sem.run_bind, run_underlying hd, Result.andThen_ok]
    show (Result.ok (Value.int .u8 (IntKind.wrap .u8 n)) w : Result Value) = _
    rw [h]; rfl

theorem add_U16 {t : TypeId} {x y : Operand} (a b : BitVec 16) : ∀ w, (do eqGuard .add t x y (U16 a) (U16 b); binOp .add t (U16 a) (U16 b) : Sem Value).run P w = .ok (U16 (a + b)) w :=
  bin_int fun w => by
    have : IntKind.wrap .u16 ((a.toNat : Int) + b.toNat) = ((a + b).toNat : Int) := by
      rw [wrap_u rfl]; simp only [IntKind.bits]
      have ha := a.isLt; have hb := b.isLt
      simp [BitVec.toNat_add]
    show (Result.ok (Value.int .u16 (IntKind.wrap .u16 ((a.toNat : Int) + b.toNat))) w : Result Value) = _
    rw [this]; rfl

theorem sub_U16 {t : TypeId} {x y : Operand} (a b : BitVec 16) : ∀ w, (do eqGuard .sub t x y (U16 a) (U16 b); binOp .sub t (U16 a) (U16 b) : Sem Value).run P w = .ok (U16 (a - b)) w :=
  bin_int fun w => by
    have : IntKind.wrap .u16 ((a.toNat : Int) - b.toNat) = ((a - b).toNat : Int) := by
      rw [wrap_u rfl]; simp only [IntKind.bits]
      have ha := a.isLt; have hb := b.isLt
      simp only [BitVec.toNat_sub]; omega
    show (Result.ok (Value.int .u16 (IntKind.wrap .u16 ((a.toNat : Int) - b.toNat))) w : Result Value) = _
    rw [this]; rfl

theorem mul_U16 {t : TypeId} {x y : Operand} (a b : BitVec 16) : ∀ w, (do eqGuard .mul t x y (U16 a) (U16 b); binOp .mul t (U16 a) (U16 b) : Sem Value).run P w = .ok (U16 (a * b)) w :=
  bin_int fun w => by
    have : IntKind.wrap .u16 ((a.toNat : Int) * b.toNat) = ((a * b).toNat : Int) := by
      rw [wrap_u rfl]; simp only [IntKind.bits]
      have ha := a.isLt; have hb := b.isLt
      simp [BitVec.toNat_mul]
    show (Result.ok (Value.int .u16 (IntKind.wrap .u16 ((a.toNat : Int) * b.toNat))) w : Result Value) = _
    rw [this]; rfl

theorem and_U16 {t : TypeId} {x y : Operand} (a b : BitVec 16) : ∀ w, (do eqGuard .and t x y (U16 a) (U16 b); binOp .and t (U16 a) (U16 b) : Sem Value).run P w = .ok (U16 (a &&& b)) w :=
  bin_int fun w => by
    show (Result.ok (Value.int .u16 (IntKind.wrap .u16 ((BitVec.ofInt 16 (a.toNat : Int) &&& BitVec.ofInt 16 (b.toNat : Int)).toNat : Int))) w : Result Value) = _
    rw [wrap_u rfl]; simp only [IntKind.bits, BitVec.ofInt_natCast, BitVec.ofNat_toNat, BitVec.setWidth_eq]
    have h := (a &&& b).isLt
    rw [Int.emod_eq_of_lt (by omega) (by omega)]; rfl

theorem or_U16 {t : TypeId} {x y : Operand} (a b : BitVec 16) : ∀ w, (do eqGuard .or t x y (U16 a) (U16 b); binOp .or t (U16 a) (U16 b) : Sem Value).run P w = .ok (U16 (a ||| b)) w :=
  bin_int fun w => by
    show (Result.ok (Value.int .u16 (IntKind.wrap .u16 ((BitVec.ofInt 16 (a.toNat : Int) ||| BitVec.ofInt 16 (b.toNat : Int)).toNat : Int))) w : Result Value) = _
    rw [wrap_u rfl]; simp only [IntKind.bits, BitVec.ofInt_natCast, BitVec.ofNat_toNat, BitVec.setWidth_eq]
    have h := (a ||| b).isLt
    rw [Int.emod_eq_of_lt (by omega) (by omega)]; rfl

theorem xor_U16 {t : TypeId} {x y : Operand} (a b : BitVec 16) : ∀ w, (do eqGuard .xor t x y (U16 a) (U16 b); binOp .xor t (U16 a) (U16 b) : Sem Value).run P w = .ok (U16 (a ^^^ b)) w :=
  bin_int fun w => by
    show (Result.ok (Value.int .u16 (IntKind.wrap .u16 ((BitVec.ofInt 16 (a.toNat : Int) ^^^ BitVec.ofInt 16 (b.toNat : Int)).toNat : Int))) w : Result Value) = _
    rw [wrap_u rfl]; simp only [IntKind.bits, BitVec.ofInt_natCast, BitVec.ofNat_toNat, BitVec.setWidth_eq]
    have h := (a ^^^ b).isLt
    rw [Int.emod_eq_of_lt (by omega) (by omega)]; rfl

theorem andNot_U16 {t : TypeId} {x y : Operand} (a b : BitVec 16) : ∀ w, (do eqGuard .andNot t x y (U16 a) (U16 b); binOp .andNot t (U16 a) (U16 b) : Sem Value).run P w = .ok (U16 (a &&& ~~~b)) w :=
  bin_int fun w => by
    show (Result.ok (Value.int .u16 (IntKind.wrap .u16 ((BitVec.ofInt 16 (a.toNat : Int) &&& ~~~BitVec.ofInt 16 (b.toNat : Int)).toNat : Int))) w : Result Value) = _
    rw [wrap_u rfl]; simp only [IntKind.bits, BitVec.ofInt_natCast, BitVec.ofNat_toNat, BitVec.setWidth_eq]
    have h := (a &&& ~~~b).isLt
    rw [Int.emod_eq_of_lt (by omega) (by omega)]; rfl

theorem eql_U16 {t : TypeId} {x y : Operand} (a b : BitVec 16) : ∀ w, (do eqGuard .eql t x y (U16 a) (U16 b); binOp .eql t (U16 a) (U16 b) : Sem Value).run P w = .ok (Bl (a == b)) w :=
  bin_int fun w => by
    show (Result.ok (Value.bool ((a.toNat : Int) == b.toNat)) w : Result Value) = _
    have : ((a.toNat : Int) == b.toNat) = (a == b) := by
      rw [Bool.eq_iff_iff]; simp [BitVec.toNat_inj, Int.natCast_inj]
    rw [this]; rfl

theorem neq_U16 {t : TypeId} {x y : Operand} (a b : BitVec 16) : ∀ w, (do eqGuard .neq t x y (U16 a) (U16 b); binOp .neq t (U16 a) (U16 b) : Sem Value).run P w = .ok (Bl (a != b)) w :=
  bin_int fun w => by
    show (Result.ok (Value.bool ((a.toNat : Int) != b.toNat)) w : Result Value) = _
    have : ((a.toNat : Int) != b.toNat) = (a != b) := by
      rw [Bool.eq_iff_iff]; simp [BitVec.toNat_inj, Int.natCast_inj]
    rw [this]; rfl

theorem lss_U16 {t : TypeId} {x y : Operand} (a b : BitVec 16) : ∀ w, (do eqGuard .lss t x y (U16 a) (U16 b); binOp .lss t (U16 a) (U16 b) : Sem Value).run P w = .ok (Bl (decide (a.toNat < b.toNat))) w :=
  bin_int fun w => by
    show (Result.ok (Value.bool (decide ((a.toNat : Int) < b.toNat))) w : Result Value) = _
    have : decide ((a.toNat : Int) < b.toNat) = decide (a.toNat < b.toNat) := by
      rw [Bool.eq_iff_iff]; simp
    rw [this]; rfl

theorem leq_U16 {t : TypeId} {x y : Operand} (a b : BitVec 16) : ∀ w, (do eqGuard .leq t x y (U16 a) (U16 b); binOp .leq t (U16 a) (U16 b) : Sem Value).run P w = .ok (Bl (decide (a.toNat ≤ b.toNat))) w :=
  bin_int fun w => by
    show (Result.ok (Value.bool (decide ((a.toNat : Int) ≤ b.toNat))) w : Result Value) = _
    have : decide ((a.toNat : Int) ≤ b.toNat) = decide (a.toNat ≤ b.toNat) := by
      rw [Bool.eq_iff_iff]; simp
    rw [this]; rfl

theorem gtr_U16 {t : TypeId} {x y : Operand} (a b : BitVec 16) : ∀ w, (do eqGuard .gtr t x y (U16 a) (U16 b); binOp .gtr t (U16 a) (U16 b) : Sem Value).run P w = .ok (Bl (decide (b.toNat < a.toNat))) w :=
  bin_int fun w => by
    show (Result.ok (Value.bool (decide ((a.toNat : Int) > b.toNat))) w : Result Value) = _
    have : decide ((a.toNat : Int) > b.toNat) = decide (b.toNat < a.toNat) := by
      rw [Bool.eq_iff_iff]; simp
    rw [this]; rfl

theorem geq_U16 {t : TypeId} {x y : Operand} (a b : BitVec 16) : ∀ w, (do eqGuard .geq t x y (U16 a) (U16 b); binOp .geq t (U16 a) (U16 b) : Sem Value).run P w = .ok (Bl (decide (b.toNat ≤ a.toNat))) w :=
  bin_int fun w => by
    show (Result.ok (Value.bool (decide ((a.toNat : Int) ≥ b.toNat))) w : Result Value) = _
    have : decide ((a.toNat : Int) ≥ b.toNat) = decide (b.toNat ≤ a.toNat) := by
      rw [Bool.eq_iff_iff]; simp
    rw [this]; rfl

theorem quo_U16 {t : TypeId} {x y : Operand} (a b : BitVec 16) (hb : b ≠ 0#16) : ∀ w, (do eqGuard .quo t x y (U16 a) (U16 b); binOp .quo t (U16 a) (U16 b) : Sem Value).run P w = .ok (U16 (a / b)) w :=
  bin_int fun w => by
    have hb' : ¬ (b.toNat : Int) = 0 := fun e => hb (BitVec.eq_of_toNat_eq (by simpa using e))
    have h : IntKind.wrap .u16 ((a.toNat : Int).tdiv b.toNat) = ((a / b).toNat : Int) := by
      rw [Int.tdiv_eq_ediv_of_nonneg (by omega), wrap_u rfl]; simp only [IntKind.bits]; have hq := (a / b).isLt; rw [BitVec.toNat_udiv] at hq ⊢; rw [← Int.natCast_ediv, Int.emod_eq_of_lt (Int.natCast_nonneg _) (by exact_mod_cast hq)]
    show (Op.intDiv .quo .u16 (a.toNat : Int) (b.toNat : Int)).run P w = _
    unfold Op.intDiv
    rw [if_neg hb']
    show (Result.ok (Value.int .u16 (IntKind.wrap .u16 ((a.toNat : Int).tdiv b.toNat))) w : Result Value) = _
    rw [h]; rfl

theorem rem_U16 {t : TypeId} {x y : Operand} (a b : BitVec 16) (hb : b ≠ 0#16) : ∀ w, (do eqGuard .rem t x y (U16 a) (U16 b); binOp .rem t (U16 a) (U16 b) : Sem Value).run P w = .ok (U16 (a % b)) w :=
  bin_int fun w => by
    have hb' : ¬ (b.toNat : Int) = 0 := fun e => hb (BitVec.eq_of_toNat_eq (by simpa using e))
    have h : (a.toNat : Int).tmod b.toNat = ((a % b).toNat : Int) := by
      rw [Int.tmod_eq_emod_of_nonneg (by omega), BitVec.toNat_umod]; rfl
    show (Op.intDiv .rem .u16 (a.toNat : Int) (b.toNat : Int)).run P w = _
    unfold Op.intDiv
    rw [if_neg hb']
    show (Result.ok (Value.int .u16 ((a.toNat : Int).tmod b.toNat)) w : Result Value) = _
    rw [h]; rfl

theorem shl_U16 {t : TypeId} {x y : Operand} {yk : IntKind} (a : BitVec 16) (n : Int) (hn : 0 ≤ n) : ∀ w, (do eqGuard .shl t x y (U16 a) (.int yk n); binOp .shl t (U16 a) (.int yk n) : Sem Value).run P w = .ok (U16 (a <<< n.toNat)) w :=
  bin_int fun w => by
    show (Op.shift .shl .u16 (a.toNat : Int) yk n).run P w = _
    unfold Op.shift
    rw [if_neg (by omega)]
    have h : IntKind.wrap .u16 ((a.toNat : Int) * 2 ^ (min n.toNat (IntKind.bits .u16))) = ((a <<< n.toNat).toNat : Int) := by
      rw [wrap_u rfl, BitVec.toNat_shiftLeft, Nat.shiftLeft_eq]
      simp only [IntKind.bits]
      rcases Nat.lt_or_ge n.toNat 16 with h | h
      · rw [Nat.min_eq_left (by omega)]; simp
      · rw [Nat.min_eq_right h]
        obtain ⟨m, hm⟩ := Nat.exists_eq_add_of_le h
        rw [hm, Nat.pow_add, ← Nat.mul_assoc, Nat.mul_right_comm, Nat.mul_mod_left]
        simp
    show (Result.ok (Value.int .u16 (IntKind.wrap .u16 ((a.toNat : Int) * 2 ^ (min n.toNat (IntKind.bits .u16))))) w : Result Value) = _
    rw [h]; rfl
theorem shr_U16 {t : TypeId} {x y : Operand} {yk : IntKind} (a : BitVec 16) (n : Int) (hn : 0 ≤ n) : ∀ w, (do eqGuard .shr t x y (U16 a) (.int yk n); binOp .shr t (U16 a) (.int yk n) : Sem Value).run P w = .ok (U16 (a >>> n.toNat)) w :=
  bin_int fun w => by
    show (Op.shift .shr .u16 (a.toNat : Int) yk n).run P w = _
    unfold Op.shift
    rw [if_neg (by omega)]
    have h : (a.toNat : Int).fdiv (2 ^ (min n.toNat (IntKind.bits .u16))) = ((a >>> n.toNat).toNat : Int) := by
      rw [Int.fdiv_eq_ediv_of_nonneg _ (Int.le_of_lt (Int.pow_pos (by decide))), BitVec.toNat_ushiftRight, Nat.shiftRight_eq_div_pow]
      simp only [IntKind.bits]
      rcases Nat.lt_or_ge n.toNat 16 with h | h
      · rw [Nat.min_eq_left (by omega)]; simp
      · rw [Nat.min_eq_right h]
        have h1 : a.toNat / 2 ^ n.toNat = 0 := Nat.div_eq_of_lt (Nat.lt_of_lt_of_le a.isLt (Nat.pow_le_pow_right (by decide) h))
        have h2 : a.toNat / 2 ^ 16 = 0 := Nat.div_eq_of_lt a.isLt
        rw [h1]
        have : ((a.toNat : Int) / 2 ^ 16) = ((a.toNat / 2 ^ 16 : Nat) : Int) := by simp
        rw [this, h2]
    show (Result.ok (Value.int .u16 ((a.toNat : Int).fdiv (2 ^ (min n.toNat (IntKind.bits .u16))))) w : Result Value) = _
    rw [h]; rfl
theorem neg_U16 (a : BitVec 16) : ∀ w, (Op.unary .neg (U16 a)).run P w = .ok (U16 (-a)) w := fun w => by
    have h : IntKind.wrap .u16 (0 - (a.toNat : Int)) = ((-a).toNat : Int) := by
      rw [wrap_u rfl, BitVec.toNat_neg]; simp only [IntKind.bits]; have := a.isLt; omega
    show (Result.ok (Value.int .u16 (IntKind.wrap .u16 (0 - (a.toNat : Int)))) w : Result Value) = _
    rw [h]; rfl
theorem conv_U16 {s d : TypeId} {k : IntKind} {td : TypeDesc} (hs : P.underlying s = some td) (hd : P.underlying d = some (.int .u16)) (n : Int) : ∀ w, (convert s d (.int k n)).run P w = .ok (U16 (BitVec.ofInt 16 n)) w := fun w => by
    have h : IntKind.wrap .u16 n = ((BitVec.ofInt 16 n).toNat : Int) := by
      rw [wrap_u rfl, BitVec.toNat_ofInt]; simp only [IntKind.bits]; omega
    unfold convert
    rw [Sem.run_bind, run_underlying hs, Result.andThen_ok, Sem.run_bind, run_underlying hd, Result.andThen_ok]
    show (Result.ok (Value.int .u16 (IntKind.wrap .u16 n)) w : Result Value) = _
    rw [h]; rfl

theorem add_U32 {t : TypeId} {x y : Operand} (a b : BitVec 32) : ∀ w, (do eqGuard .add t x y (U32 a) (U32 b); binOp .add t (U32 a) (U32 b) : Sem Value).run P w = .ok (U32 (a + b)) w :=
  bin_int fun w => by
    have : IntKind.wrap .u32 ((a.toNat : Int) + b.toNat) = ((a + b).toNat : Int) := by
      rw [wrap_u rfl]; simp only [IntKind.bits]
      have ha := a.isLt; have hb := b.isLt
      simp [BitVec.toNat_add]
    show (Result.ok (Value.int .u32 (IntKind.wrap .u32 ((a.toNat : Int) + b.toNat))) w : Result Value) = _
    rw [this]; rfl

theorem sub_U32 {t : TypeId} {x y : Operand} (a b : BitVec 32) : ∀ w, (do eqGuard .sub t x y (U32 a) (U32 b); binOp .sub t (U32 a) (U32 b) : Sem Value).run P w = .ok (U32 (a - b)) w :=
  bin_int fun w => by
    have : IntKind.wrap .u32 ((a.toNat : Int) - b.toNat) = ((a - b).toNat : Int) := by
      rw [wrap_u rfl]; simp only [IntKind.bits]
      have ha := a.isLt; have hb := b.isLt
      simp only [BitVec.toNat_sub]; omega
    show (Result.ok (Value.int .u32 (IntKind.wrap .u32 ((a.toNat : Int) - b.toNat))) w : Result Value) = _
    rw [this]; rfl

theorem mul_U32 {t : TypeId} {x y : Operand} (a b : BitVec 32) : ∀ w, (do eqGuard .mul t x y (U32 a) (U32 b); binOp .mul t (U32 a) (U32 b) : Sem Value).run P w = .ok (U32 (a * b)) w :=
  bin_int fun w => by
    have : IntKind.wrap .u32 ((a.toNat : Int) * b.toNat) = ((a * b).toNat : Int) := by
      rw [wrap_u rfl]; simp only [IntKind.bits]
      have ha := a.isLt; have hb := b.isLt
      simp [BitVec.toNat_mul]
    show (Result.ok (Value.int .u32 (IntKind.wrap .u32 ((a.toNat : Int) * b.toNat))) w : Result Value) = _
    rw [this]; rfl

theorem and_U32 {t : TypeId} {x y : Operand} (a b : BitVec 32) : ∀ w, (do eqGuard .and t x y (U32 a) (U32 b); binOp .and t (U32 a) (U32 b) : Sem Value).run P w = .ok (U32 (a &&& b)) w :=
  bin_int fun w => by
    show (Result.ok (Value.int .u32 (IntKind.wrap .u32 ((BitVec.ofInt 32 (a.toNat : Int) &&& BitVec.ofInt 32 (b.toNat : Int)).toNat : Int))) w : Result Value) = _
    rw [wrap_u rfl]; simp only [IntKind.bits, BitVec.ofInt_natCast, BitVec.ofNat_toNat, BitVec.setWidth_eq]
    have h := (a &&& b).isLt
    rw [Int.emod_eq_of_lt (by omega) (by omega)]; rfl

theorem or_U32 {t : TypeId} {x y : Operand} (a b : BitVec 32) : ∀ w, (do eqGuard .or t x y (U32 a) (U32 b); binOp .or t (U32 a) (U32 b) : Sem Value).run P w = .ok (U32 (a ||| b)) w :=
  bin_int fun w => by
    show (Result.ok (Value.int .u32 (IntKind.wrap .u32 ((BitVec.ofInt 32 (a.toNat : Int) ||| BitVec.ofInt 32 (b.toNat : Int)).toNat : Int))) w : Result Value) = _
    rw [wrap_u rfl]; simp only [IntKind.bits, BitVec.ofInt_natCast, BitVec.ofNat_toNat, BitVec.setWidth_eq]
    have h := (a ||| b).isLt
    rw [Int.emod_eq_of_lt (by omega) (by omega)]; rfl

theorem xor_U32 {t : TypeId} {x y : Operand} (a b : BitVec 32) : ∀ w, (do eqGuard .xor t x y (U32 a) (U32 b); binOp .xor t (U32 a) (U32 b) : Sem Value).run P w = .ok (U32 (a ^^^ b)) w :=
  bin_int fun w => by
    show (Result.ok (Value.int .u32 (IntKind.wrap .u32 ((BitVec.ofInt 32 (a.toNat : Int) ^^^ BitVec.ofInt 32 (b.toNat : Int)).toNat : Int))) w : Result Value) = _
    rw [wrap_u rfl]; simp only [IntKind.bits, BitVec.ofInt_natCast, BitVec.ofNat_toNat, BitVec.setWidth_eq]
    have h := (a ^^^ b).isLt
    rw [Int.emod_eq_of_lt (by omega) (by omega)]; rfl

theorem andNot_U32 {t : TypeId} {x y : Operand} (a b : BitVec 32) : ∀ w, (do eqGuard .andNot t x y (U32 a) (U32 b); binOp .andNot t (U32 a) (U32 b) : Sem Value).run P w = .ok (U32 (a &&& ~~~b)) w :=
  bin_int fun w => by
    show (Result.ok (Value.int .u32 (IntKind.wrap .u32 ((BitVec.ofInt 32 (a.toNat : Int) &&& ~~~BitVec.ofInt 32 (b.toNat : Int)).toNat : Int))) w : Result Value) = _
    rw [wrap_u rfl]; simp only [IntKind.bits, BitVec.ofInt_natCast, BitVec.ofNat_toNat, BitVec.setWidth_eq]
    have h := (a &&& ~~~b).isLt
    rw [Int.emod_eq_of_lt (by omega) (by omega)]; rfl

theorem eql_U32 {t : TypeId} {x y : Operand} (a b : BitVec 32) : ∀ w, (do eqGuard .eql t x y (U32 a) (U32 b); binOp .eql t (U32 a) (U32 b) : Sem Value).run P w = .ok (Bl (a == b)) w :=
  bin_int fun w => by
    show (Result.ok (Value.bool ((a.toNat : Int) == b.toNat)) w : Result Value) = _
    have : ((a.toNat : Int) == b.toNat) = (a == b) := by
      rw [Bool.eq_iff_iff]; simp [BitVec.toNat_inj, Int.natCast_inj]
    rw [this]; rfl

theorem neq_U32 {t : TypeId} {x y : Operand} (a b : BitVec 32) : ∀ w, (do eqGuard .neq t x y (U32 a) (U32 b); binOp .neq t (U32 a) (U32 b) : Sem Value).run P w = .ok (Bl (a != b)) w :=
  bin_int fun w => by
    show (Result.ok (Value.bool ((a.toNat : Int) != b.toNat)) w : Result Value) = _
    have : ((a.toNat : Int) != b.toNat) = (a != b) := by
      rw [Bool.eq_iff_iff]; simp [BitVec.toNat_inj, Int.natCast_inj]
    rw [this]; rfl

theorem lss_U32 {t : TypeId} {x y : Operand} (a b : BitVec 32) : ∀ w, (do eqGuard .lss t x y (U32 a) (U32 b); binOp .lss t (U32 a) (U32 b) : Sem Value).run P w = .ok (Bl (decide (a.toNat < b.toNat))) w :=
  bin_int fun w => by
    show (Result.ok (Value.bool (decide ((a.toNat : Int) < b.toNat))) w : Result Value) = _
    have : decide ((a.toNat : Int) < b.toNat) = decide (a.toNat < b.toNat) := by
      rw [Bool.eq_iff_iff]; simp
    rw [this]; rfl

theorem leq_U32 {t : TypeId} {x y : Operand} (a b : BitVec 32) : ∀ w, (do eqGuard .leq t x y (U32 a) (U32 b); binOp .leq t (U32 a) (U32 b) : Sem Value).run P w = .ok (Bl (decide (a.toNat ≤ b.toNat))) w :=
  bin_int fun w => by
    show (Result.ok (Value.bool (decide ((a.toNat : Int) ≤ b.toNat))) w : Result Value) = _
    have : decide ((a.toNat : Int) ≤ b.toNat) = decide (a.toNat ≤ b.toNat) := by
      rw [Bool.eq_iff_iff]; simp
    rw [this]; rfl

theorem gtr_U32 {t : TypeId} {x y : Operand} (a b : BitVec 32) : ∀ w, (do eqGuard .gtr t x y (U32 a) (U32 b); binOp .gtr t (U32 a) (U32 b) : Sem Value).run P w = .ok (Bl (decide (b.toNat < a.toNat))) w :=
  bin_int fun w => by
    show (Result.ok (Value.bool (decide ((a.toNat : Int) > b.toNat))) w : Result Value) = _
    have : decide ((a.toNat : Int) > b.toNat) = decide (b.toNat < a.toNat) := by
      rw [Bool.eq_iff_iff]; simp
    rw [this]; rfl

theorem geq_U32 {t : TypeId} {x y : Operand} (a b : BitVec 32) : ∀ w, (do eqGuard .geq t x y (U32 a) (U32 b); binOp .geq t (U32 a) (U32 b) : Sem Value).run P w = .ok (Bl (decide (b.toNat ≤ a.toNat))) w :=
  bin_int fun w => by
    show (Result.ok (Value.bool (decide ((a.toNat : Int) ≥ b.toNat))) w : Result Value) = _
    have : decide ((a.toNat : Int) ≥ b.toNat) = decide (b.toNat ≤ a.toNat) := by
      rw [Bool.eq_iff_iff]; simp
    rw [this]; rfl

theorem quo_U32 {t : TypeId} {x y : Operand} (a b : BitVec 32) (hb : b ≠ 0#32) : ∀ w, (do eqGuard .quo t x y (U32 a) (U32 b); binOp .quo t (U32 a) (U32 b) : Sem Value).run P w = .ok (U32 (a / b)) w :=
  bin_int fun w => by
    have hb' : ¬ (b.toNat : Int) = 0 := fun e => hb (BitVec.eq_of_toNat_eq (by simpa using e))
    have h : IntKind.wrap .u32 ((a.toNat : Int).tdiv b.toNat) = ((a / b).toNat : Int) := by
      rw [Int.tdiv_eq_ediv_of_nonneg (by omega), wrap_u rfl]; simp only [IntKind.bits]; have hq := (a / b).isLt; rw [BitVec.toNat_udiv] at hq ⊢; rw [← Int.natCast_ediv, Int.emod_eq_of_lt (Int.natCast_nonneg _) (by exact_mod_cast hq)]
    show (Op.intDiv .quo .u32 (a.toNat : Int) (b.toNat : Int)).run P w = _
    unfold Op.intDiv
    rw [if_neg hb']
    show (Result.ok (Value.int .u32 (IntKind.wrap .u32 ((a.toNat : Int).tdiv b.toNat))) w : Result Value) = _
    rw [h]; rfl

theorem rem_U32 {t : TypeId} {x y : Operand} (a b : BitVec 32) (hb : b ≠ 0#32) : ∀ w, (do eqGuard .rem t x y (U32 a) (U32 b); binOp .rem t (U32 a) (U32 b) : Sem Value).run P w = .ok (U32 (a % b)) w :=
  bin_int fun w => by
    have hb' : ¬ (b.toNat : Int) = 0 := fun e => hb (BitVec.eq_of_toNat_eq (by simpa using e))
    have h : (a.toNat : Int).tmod b.toNat = ((a % b).toNat : Int) := by
      rw [Int.tmod_eq_emod_of_nonneg (by omega), BitVec.toNat_umod]; rfl
    show (Op.intDiv .rem .u32 (a.toNat : Int) (b.toNat : Int)).run P w = _
    unfold Op.intDiv
    rw [if_neg hb']
    show (Result.ok (Value.int .u32 ((a.toNat : Int).tmod b.toNat)) w : Result Value) = _
    rw [h]; rfl

theorem shl_U32 {t : TypeId} {x y : Operand} {yk : IntKind} (a : BitVec 32) (n : Int) (hn : 0 ≤ n) : ∀ w, (do eqGuard .shl t x y (U32 a) (.int yk n); binOp .shl t (U32 a) (.int yk n) : Sem Value).run P w = .ok (U32 (a <<< n.toNat)) w :=
  bin_int fun w => by
    show (Op.shift .shl .u32 (a.toNat : Int) yk n).run P w = _
    unfold Op.shift
    rw [if_neg (by omega)]
    have h : IntKind.wrap .u32 ((a.toNat : Int) * 2 ^ (min n.toNat (IntKind.bits .u32))) = ((a <<< n.toNat).toNat : Int) := by
      rw [wrap_u rfl, BitVec.toNat_shiftLeft, Nat.shiftLeft_eq]
      simp only [IntKind.bits]
      rcases Nat.lt_or_ge n.toNat 32 with h | h
      · rw [Nat.min_eq_left (by omega)]; simp
      · rw [Nat.min_eq_right h]
        obtain ⟨m, hm⟩ := Nat.exists_eq_add_of_le h
        rw [hm, Nat.pow_add, ← Nat.mul_assoc, Nat.mul_right_comm, Nat.mul_mod_left]
        simp
    show (Result.ok (Value.int .u32 (IntKind.wrap .u32 ((a.toNat : Int) * 2 ^ (min n.toNat (IntKind.bits .u32))))) w : Result Value) = _
    rw [h]; rfl
theorem shr_U32 {t : TypeId} {x y : Operand} {yk : IntKind} (a : BitVec 32) (n : Int) (hn : 0 ≤ n) : ∀ w, (do eqGuard .shr t x y (U32 a) (.int yk n); binOp .shr t (U32 a) (.int yk n) : Sem Value).run P w = .ok (U32 (a >>> n.toNat)) w :=
  bin_int fun w => by
    show (Op.shift .shr .u32 (a.toNat : Int) yk n).run P w = _
    unfold Op.shift
    rw [if_neg (by omega)]
    have h : (a.toNat : Int).fdiv (2 ^ (min n.toNat (IntKind.bits .u32))) = ((a >>> n.toNat).toNat : Int) := by
      rw [Int.fdiv_eq_ediv_of_nonneg _ (Int.le_of_lt (Int.pow_pos (by decide))), BitVec.toNat_ushiftRight, Nat.shiftRight_eq_div_pow]
      simp only [IntKind.bits]
      rcases Nat.lt_or_ge n.toNat 32 with h | h
      · rw [Nat.min_eq_left (by omega)]; simp
      · rw [Nat.min_eq_right h]
        have h1 : a.toNat / 2 ^ n.toNat = 0 := Nat.div_eq_of_lt (Nat.lt_of_lt_of_le a.isLt (Nat.pow_le_pow_right (by decide) h))
        have h2 : a.toNat / 2 ^ 32 = 0 := Nat.div_eq_of_lt a.isLt
        rw [h1]
        have : ((a.toNat : Int) / 2 ^ 32) = ((a.toNat / 2 ^ 32 : Nat) : Int) := by simp
        rw [this, h2]
    show (Result.ok (Value.int .u32 ((a.toNat : Int).fdiv (2 ^ (min n.toNat (IntKind.bits .u32))))) w : Result Value) = _
    rw [h]; rfl
theorem neg_U32 (a : BitVec 32) : ∀ w, (Op.unary .neg (U32 a)).run P w = .ok (U32 (-a)) w := fun w => by
    have h : IntKind.wrap .u32 (0 - (a.toNat : Int)) = ((-a).toNat : Int) := by
      rw [wrap_u rfl, BitVec.toNat_neg]; simp only [IntKind.bits]; have := a.isLt; omega
    show (Result.ok (Value.int .u32 (IntKind.wrap .u32 (0 - (a.toNat : Int)))) w : Result Value) = _
    rw [h]; rfl
theorem conv_U32 {s d : TypeId} {k : IntKind} {td : TypeDesc} (hs : P.underlying s = some td) (hd : P.underlying d = some (.int .u32)) (n : Int) : ∀ w, (convert s d (.int k n)).run P w = .ok (U32 (BitVec.ofInt 32 n)) w := fun w => by
    have h : IntKind.wrap .u32 n = ((BitVec.ofInt 32 n).toNat : Int) := by
      rw [wrap_u rfl, BitVec.toNat_ofInt]; simp only [IntKind.bits]; omega
    unfold convert
    rw [Sem.run_bind, run_underlying hs, Result.andThen_ok, Sem.run_bind, run_underlying hd, Result.andThen_ok]
    show (Result.ok (Value.int .u32 (IntKind.wrap .u32 n)) w : Result Value) = _
    rw [h]; rfl

theorem add_U64 {t : TypeId} {x y : Operand} (a b : BitVec 64) : ∀ w, (do eqGuard .add t x y (U64 a) (U64 b); binOp .add t (U64 a) (U64 b) : Sem Value).run P w = .ok (U64 (a + b)) w :=
  bin_int fun w => by
    have : IntKind.wrap .u64 ((a.toNat : Int) + b.toNat) = ((a + b).toNat : Int) := by
      rw [wrap_u rfl]; simp only [IntKind.bits]
      have ha := a.isLt; have hb := b.isLt
      simp [BitVec.toNat_add]
    show (Result.ok (Value.int .u64 (IntKind.wrap .u64 ((a.toNat : Int) + b.toNat))) w : Result Value) = _
    rw [this]; rfl

theorem sub_U64 {t : TypeId} {x y : Operand} (a b : BitVec 64) : ∀ w, (do eqGuard .sub t x y (U64 a) (U64 b); binOp .sub t (U64 a) (U64 b) : Sem Value).run P w = .ok (U64 (a - b)) w :=
  bin_int fun w => by
    have : IntKind.wrap .u64 ((a.toNat : Int) - b.toNat) = ((a - b).toNat : Int) := by
      rw [wrap_u rfl]; simp only [IntKind.bits]
      have ha := a.isLt; have hb := b.isLt
      simp only [BitVec.toNat_sub]; omega
    show (Result.ok (Value.int .u64 (IntKind.wrap .u64 ((a.toNat : Int) - b.toNat))) w : Result Value) = _
    rw [this]; rfl

theorem mul_U64 {t : TypeId} {x y : Operand} (a b : BitVec 64) : ∀ w, (do eqGuard .mul t x y (U64 a) (U64 b); binOp .mul t (U64 a) (U64 b) : Sem Value).run P w = .ok (U64 (a * b)) w :=
  bin_int fun w => by
    have : IntKind.wrap .u64 ((a.toNat : Int) * b.toNat) = ((a * b).toNat : Int) := by
      rw [wrap_u rfl]; simp only [IntKind.bits]
      have ha := a.isLt; have hb := b.isLt
      simp [BitVec.toNat_mul]
    show (Result.ok (Value.int .u64 (IntKind.wrap .u64 ((a.toNat : Int) * b.toNat))) w : Result Value) = _
    rw [this]; rfl

theorem and_U64 {t : TypeId} {x y : Operand} (a b : BitVec 64) : ∀ w, (do eqGuard .and t x y (U64 a) (U64 b); binOp .and t (U64 a) (U64 b) : Sem Value).run P w = .ok (U64 (a &&& b)) w :=
  bin_int fun w => by
    show (Result.ok (Value.int .u64 (IntKind.wrap .u64 ((BitVec.ofInt 64 (a.toNat : Int) &&& BitVec.ofInt 64 (b.toNat : Int)).toNat : Int))) w : Result Value) = _
    rw [wrap_u rfl]; simp only [IntKind.bits, BitVec.ofInt_natCast, BitVec.ofNat_toNat, BitVec.setWidth_eq]
    have h := (a &&& b).isLt
    rw [Int.emod_eq_of_lt (by omega) (by omega)]; rfl

theorem or_U64 {t : TypeId} {x y : Operand} (a b : BitVec 64) : ∀ w, (do eqGuard .or t x y (U64 a) (U64 b); binOp .or t (U64 a) (U64 b) : Sem Value).run P w = .ok (U64 (a ||| b)) w :=
  bin_int fun w => by
    show (Result.ok (Value.int .u64 (IntKind.wrap .u64 ((BitVec.ofInt 64 (a.toNat : Int) ||| BitVec.ofInt 64 (b.toNat : Int)).toNat : Int))) w : Result Value) = _
    rw [wrap_u rfl]; simp only [IntKind.bits, BitVec.ofInt_natCast, BitVec.ofNat_toNat, BitVec.setWidth_eq]
    have h := (a ||| b).isLt
    rw [Int.emod_eq_of_lt (by omega) (by omega)]; rfl

theorem xor_U64 {t : TypeId} {x y : Operand} (a b : BitVec 64) : ∀ w, (do eqGuard .xor t x y (U64 a) (U64 b); binOp .xor t (U64 a) (U64 b) : Sem Value).run P w = .ok (U64 (a ^^^ b)) w :=
  bin_int fun w => by
    show (Result.ok (Value.int .u64 (IntKind.wrap .u64 ((BitVec.ofInt 64 (a.toNat : Int) ^^^ BitVec.ofInt 64 (b.toNat : Int)).toNat : Int))) w : Result Value) = _
    rw [wrap_u rfl]; simp only [IntKind.bits, BitVec.ofInt_natCast, BitVec.ofNat_toNat, BitVec.setWidth_eq]
    have h := (a ^^^ b).isLt
    rw [Int.emod_eq_of_lt (by omega) (by omega)]; rfl

theorem andNot_U64 {t : TypeId} {x y : Operand} (a b : BitVec 64) : ∀ w, (do eqGuard .andNot t x y (U64 a) (U64 b); binOp .andNot t (U64 a) (U64 b) : Sem Value).run P w = .ok (U64 (a &&& ~~~b)) w :=
  bin_int fun w => by
    show (Result.ok (Value.int .u64 (IntKind.wrap .u64 ((BitVec.ofInt 64 (a.toNat : Int) &&& ~~~BitVec.ofInt 64 (b.toNat : Int)).toNat : Int))) w : Result Value) = _
    rw [wrap_u rfl]; simp only [IntKind.bits, BitVec.ofInt_natCast, BitVec.ofNat_toNat, BitVec.setWidth_eq]
    have h := (a &&& ~~~b).isLt
    rw [Int.emod_eq_of_lt (by omega) (by omega)]; rfl

theorem eql_U64 {t : TypeId} {x y : Operand} (a b : BitVec 64) : ∀ w, (do eqGuard .eql t x y (U64 a) (U64 b); binOp .eql t (U64 a) (U64 b) : Sem Value).run P w = .ok (Bl (a == b)) w :=
  bin_int fun w => by
    show (Result.ok (Value.bool ((a.toNat : Int) == b.toNat)) w : Result Value) = _
    have : ((a.toNat : Int) == b.toNat) = (a == b) := by
      rw [Bool.eq_iff_iff]; simp [BitVec.toNat_inj, Int.natCast_inj]
    rw [this]; rfl

theorem neq_U64 {t : TypeId} {x y : Operand} (a b : BitVec 64) : ∀ w, (do eqGuard .neq t x y (U64 a) (U64 b); binOp .neq t (U64 a) (U64 b) : Sem Value).run P w = .ok (Bl (a != b)) w :=
  bin_int fun w => by
    show (Result.ok (Value.bool ((a.toNat : Int) != b.toNat)) w : Result Value) = _
    have : ((a.toNat : Int) != b.toNat) = (a != b) := by
      rw [Bool.eq_iff_iff]; simp [BitVec.toNat_inj, Int.natCast_inj]
    rw [this]; rfl

theorem lss_U64 {t : TypeId} {x y : Operand} (a b : BitVec 64) : ∀ w, (do eqGuard .lss t x y (U64 a) (U64 b); binOp .lss t (U64 a) (U64 b) : Sem Value).run P w = .ok (Bl (decide (a.toNat < b.toNat))) w :=
  bin_int fun w => by
    show (Result.ok (Value.bool (decide ((a.toNat : Int) < b.toNat))) w : Result Value) = _
    have : decide ((a.toNat : Int) < b.toNat) = decide (a.toNat < b.toNat) := by
      rw [Bool.eq_iff_iff]; simp
    rw [this]; rfl

theorem leq_U64 {t : TypeId} {x y : Operand} (a b : BitVec 64) : ∀ w, (do eqGuard .leq t x y (U64 a) (U64 b); binOp .leq t (U64 a) (U64 b) : Sem Value).run P w = .ok (Bl (decide (a.toNat ≤ b.toNat))) w :=
  bin_int fun w => by
    show (Result.ok (Value.bool (decide ((a.toNat : Int) ≤ b.toNat))) w : Result Value) = _
    have : decide ((a.toNat : Int) ≤ b.toNat) = decide (a.toNat ≤ b.toNat) := by
      rw [Bool.eq_iff_iff]; simp
    rw [this]; rfl

theorem gtr_U64 {t : TypeId} {x y : Operand} (a b : BitVec 64) : ∀ w, (do eqGuard .gtr t x y (U64 a) (U64 b); binOp .gtr t (U64 a) (U64 b) : Sem Value).run P w = .ok (Bl (decide (b.toNat < a.toNat))) w :=
  bin_int fun w => by
    show (Result.ok (Value.bool (decide ((a.toNat : Int) > b.toNat))) w : Result Value) = _
    have : decide ((a.toNat : Int) > b.toNat) = decide (b.toNat < a.toNat) := by
      rw [Bool.eq_iff_iff]; simp
    rw [this]; rfl

theorem geq_U64 {t : TypeId} {x y : Operand} (a b : BitVec 64) : ∀ w, (do eqGuard .geq t x y (U64 a) (U64 b); binOp .geq t (U64 a) (U64 b) : Sem Value).run P w = .ok (Bl (decide (b.toNat ≤ a.toNat))) w :=
  bin_int fun w => by
    show (Result.ok (Value.bool (decide ((a.toNat : Int) ≥ b.toNat))) w : Result Value) = _
    have : decide ((a.toNat : Int) ≥ b.toNat) = decide (b.toNat ≤ a.toNat) := by
      rw [Bool.eq_iff_iff]; simp
    rw [this]; rfl

theorem quo_U64 {t : TypeId} {x y : Operand} (a b : BitVec 64) (hb : b ≠ 0#64) : ∀ w, (do eqGuard .quo t x y (U64 a) (U64 b); binOp .quo t (U64 a) (U64 b) : Sem Value).run P w = .ok (U64 (a / b)) w :=
  bin_int fun w => by
    have hb' : ¬ (b.toNat : Int) = 0 := fun e => hb (BitVec.eq_of_toNat_eq (by simpa using e))
    have h : IntKind.wrap .u64 ((a.toNat : Int).tdiv b.toNat) = ((a / b).toNat : Int) := by
      rw [Int.tdiv_eq_ediv_of_nonneg (by omega), wrap_u rfl]; simp only [IntKind.bits]; have hq := (a / b).isLt; rw [BitVec.toNat_udiv] at hq ⊢; rw [← Int.natCast_ediv, Int.emod_eq_of_lt (Int.natCast_nonneg _) (by exact_mod_cast hq)]
    show (Op.intDiv .quo .u64 (a.toNat : Int) (b.toNat : Int)).run P w = _
    unfold Op.intDiv
    rw [if_neg hb']
    show (Result.ok (Value.int .u64 (IntKind.wrap .u64 ((a.toNat : Int).tdiv b.toNat))) w : Result Value) = _
    rw [h]; rfl

theorem rem_U64 {t : TypeId} {x y : Operand} (a b : BitVec 64) (hb : b ≠ 0#64) : ∀ w, (do eqGuard .rem t x y (U64 a) (U64 b); binOp .rem t (U64 a) (U64 b) : Sem Value).run P w = .ok (U64 (a % b)) w :=
  bin_int fun w => by
    have hb' : ¬ (b.toNat : Int) = 0 := fun e => hb (BitVec.eq_of_toNat_eq (by simpa using e))
    have h : (a.toNat : Int).tmod b.toNat = ((a % b).toNat : Int) := by
      rw [Int.tmod_eq_emod_of_nonneg (by omega), BitVec.toNat_umod]; rfl
    show (Op.intDiv .rem .u64 (a.toNat : Int) (b.toNat : Int)).run P w = _
    unfold Op.intDiv
    rw [if_neg hb']
    show (Result.ok (Value.int .u64 ((a.toNat : Int).tmod b.toNat)) w : Result Value) = _
    rw [h]; rfl

theorem shl_U64 {t : TypeId} {x y : Operand} {yk : IntKind} (a : BitVec 64) (n : Int) (hn : 0 ≤ n) : ∀ w, (do eqGuard .shl t x y (U64 a) (.int yk n); binOp .shl t (U64 a) (.int yk n) : Sem Value).run P w = .ok (U64 (a <<< n.toNat)) w :=
  bin_int fun w => by
    show (Op.shift .shl .u64 (a.toNat : Int) yk n).run P w = _
    unfold Op.shift
    rw [if_neg (by omega)]
    have h : IntKind.wrap .u64 ((a.toNat : Int) * 2 ^ (min n.toNat (IntKind.bits .u64))) = ((a <<< n.toNat).toNat : Int) := by
      rw [wrap_u rfl, BitVec.toNat_shiftLeft, Nat.shiftLeft_eq]
      simp only [IntKind.bits]
      rcases Nat.lt_or_ge n.toNat 64 with h | h
      · rw [Nat.min_eq_left (by omega)]; simp
      · rw [Nat.min_eq_right h]
        obtain ⟨m, hm⟩ := Nat.exists_eq_add_of_le h
        rw [hm, Nat.pow_add, ← Nat.mul_assoc, Nat.mul_right_comm, Nat.mul_mod_left]
        simp
    show (Result.ok (Value.int .u64 (IntKind.wrap .u64 ((a.toNat : Int) * 2 ^ (min n.toNat (IntKind.bits .u64))))) w : Result Value) = _
    rw [h]; rfl
theorem shr_U64 {t : TypeId} {x y : Operand} {yk : IntKind} (a : BitVec 64) (n : Int) (hn : 0 ≤ n) : ∀ w, (do eqGuard .shr t x y (U64 a) (.int yk n); binOp .shr t (U64 a) (.int yk n) : Sem Value).run P w = .ok (U64 (a >>> n.toNat)) w :=
  bin_int fun w => by
    show (Op.shift .shr .u64 (a.toNat : Int) yk n).run P w = _
    unfold Op.shift
    rw [if_neg (by omega)]
    have h : (a.toNat : Int).fdiv (2 ^ (min n.toNat (IntKind.bits .u64))) = ((a >>> n.toNat).toNat : Int) := by
      rw [Int.fdiv_eq_ediv_of_nonneg _ (Int.le_of_lt (Int.pow_pos (by decide))), BitVec.toNat_ushiftRight, Nat.shiftRight_eq_div_pow]
      simp only [IntKind.bits]
      rcases Nat.lt_or_ge n.toNat 64 with h | h
      · rw [Nat.min_eq_left (by omega)]; simp
      · rw [Nat.min_eq_right h]
        have h1 : a.toNat / 2 ^ n.toNat = 0 := Nat.div_eq_of_lt (Nat.lt_of_lt_of_le a.isLt (Nat.pow_le_pow_right (by decide) h))
        have h2 : a.toNat / 2 ^ 64 = 0 := Nat.div_eq_of_lt a.isLt
        rw [h1]
        have : ((a.toNat : Int) / 2 ^ 64) = ((a.toNat / 2 ^ 64 : Nat) : Int) := by simp
        rw [this, h2]
    show (Result.ok (Value.int .u64 ((a.toNat : Int).fdiv (2 ^ (min n.toNat (IntKind.bits .u64))))) w : Result Value) = _
    rw [h]; rfl
theorem neg_U64 (a : BitVec 64) : ∀ w, (Op.unary .neg (U64 a)).run P w = .ok (U64 (-a)) w := fun w => by
    have h : IntKind.wrap .u64 (0 - (a.toNat : Int)) = ((-a).toNat : Int) := by
      rw [wrap_u rfl, BitVec.toNat_neg]; simp only [IntKind.bits]; have := a.isLt; omega
    show (Result.ok (Value.int .u64 (IntKind.wrap .u64 (0 - (a.toNat : Int)))) w : Result Value) = _
    rw [h]; rfl
theorem conv_U64 {s d : TypeId} {k : IntKind} {td : TypeDesc} (hs : P.underlying s = some td) (hd : P.underlying d = some (.int .u64)) (n : Int) : ∀ w, (convert s d (.int k n)).run P w = .ok (U64 (BitVec.ofInt 64 n)) w := fun w => by
    have h : IntKind.wrap .u64 n = ((BitVec.ofInt 64 n).toNat : Int) := by
      rw [wrap_u rfl, BitVec.toNat_ofInt]; simp only [IntKind.bits]; omega
    unfold convert
    rw [Sem.run_bind, run_underlying hs, Result.andThen_ok, Sem.run_bind, run_underlying hd, Result.andThen_ok]
    show (Result.ok (Value.int .u64 (IntKind.wrap .u64 n)) w : Result Value) = _
    rw [h]; rfl

theorem add_I8 {t : TypeId} {x y : Operand} (a b : Int) : ∀ w, (do eqGuard .add t x y (I8 a) (I8 b); binOp .add t (I8 a) (I8 b) : Sem Value).run P w = .ok (I8 (w8 (a + b))) w := bin_int fun _ => rfl
theorem sub_I8 {t : TypeId} {x y : Operand} (a b : Int) : ∀ w, (do eqGuard .sub t x y (I8 a) (I8 b); binOp .sub t (I8 a) (I8 b) : Sem Value).run P w = .ok (I8 (w8 (a - b))) w := bin_int fun _ => rfl
theorem mul_I8 {t : TypeId} {x y : Operand} (a b : Int) : ∀ w, (do eqGuard .mul t x y (I8 a) (I8 b); binOp .mul t (I8 a) (I8 b) : Sem Value).run P w = .ok (I8 (w8 (a * b))) w := bin_int fun _ => rfl
theorem eql_I8 {t : TypeId} {x y : Operand} (a b : Int) : ∀ w, (do eqGuard .eql t x y (I8 a) (I8 b); binOp .eql t (I8 a) (I8 b) : Sem Value).run P w = .ok (Bl (a == b)) w := bin_int fun _ => rfl
theorem neq_I8 {t : TypeId} {x y : Operand} (a b : Int) : ∀ w, (do eqGuard .neq t x y (I8 a) (I8 b); binOp .neq t (I8 a) (I8 b) : Sem Value).run P w = .ok (Bl (a != b)) w := bin_int fun _ => rfl
theorem lss_I8 {t : TypeId} {x y : Operand} (a b : Int) : ∀ w, (do eqGuard .lss t x y (I8 a) (I8 b); binOp .lss t (I8 a) (I8 b) : Sem Value).run P w = .ok (Bl (decide (a < b))) w := bin_int fun _ => rfl
theorem leq_I8 {t : TypeId} {x y : Operand} (a b : Int) : ∀ w, (do eqGuard .leq t x y (I8 a) (I8 b); binOp .leq t (I8 a) (I8 b) : Sem Value).run P w = .ok (Bl (decide (a ≤ b))) w := bin_int fun _ => rfl
theorem gtr_I8 {t : TypeId} {x y : Operand} (a b : Int) : ∀ w, (do eqGuard .gtr t x y (I8 a) (I8 b); binOp .gtr t (I8 a) (I8 b) : Sem Value).run P w = .ok (Bl (decide (a > b))) w := bin_int fun _ => rfl
theorem geq_I8 {t : TypeId} {x y : Operand} (a b : Int) : ∀ w, (do eqGuard .geq t x y (I8 a) (I8 b); binOp .geq t (I8 a) (I8 b) : Sem Value).run P w = .ok (Bl (decide (a ≥ b))) w := bin_int fun _ => rfl
theorem and_I8 {t : TypeId} {x y : Operand} (a b : Int) : ∀ w, (do eqGuard .and t x y (I8 a) (I8 b); binOp .and t (I8 a) (I8 b) : Sem Value).run P w = .ok (I8 (w8 ((BitVec.ofInt 8 a &&& BitVec.ofInt 8 b).toNat : Int))) w := bin_int fun _ => rfl
theorem or_I8 {t : TypeId} {x y : Operand} (a b : Int) : ∀ w, (do eqGuard .or t x y (I8 a) (I8 b); binOp .or t (I8 a) (I8 b) : Sem Value).run P w = .ok (I8 (w8 ((BitVec.ofInt 8 a ||| BitVec.ofInt 8 b).toNat : Int))) w := bin_int fun _ => rfl
theorem quo_I8 {t : TypeId} {x y : Operand} (a b : Int) (hb : b ≠ 0) : ∀ w, (do eqGuard .quo t x y (I8 a) (I8 b); binOp .quo t (I8 a) (I8 b) : Sem Value).run P w = .ok (I8 (w8 (a.tdiv b))) w :=
  bin_int fun w => by
    show (Op.intDiv .quo .i8 a b).run P w = _
    unfold Op.intDiv
    rw [if_neg hb]; rfl
theorem rem_I8 {t : TypeId} {x y : Operand} (a b : Int) (hb : b ≠ 0) : ∀ w, (do eqGuard .rem t x y (I8 a) (I8 b); binOp .rem t (I8 a) (I8 b) : Sem Value).run P w = .ok (I8 (a.tmod b)) w :=
  bin_int fun w => by
    show (Op.intDiv .rem .i8 a b).run P w = _
    unfold Op.intDiv
    rw [if_neg hb]; rfl
theorem shr_I8 {t : TypeId} {x y : Operand} {yk : IntKind} (a : Int) (n : Int) (hn : 0 ≤ n) (hw : n.toNat ≤ 8) : ∀ w, (do eqGuard .shr t x y (I8 a) (.int yk n); binOp .shr t (I8 a) (.int yk n) : Sem Value).run P w = .ok (I8 (a / 2 ^ n.toNat)) w :=
  bin_int fun w => by
    show (Op.shift .shr .i8 a yk n).run P w = _
    unfold Op.shift
    rw [if_neg (by omega)]
    show (Result.ok (Value.int .i8 (a.fdiv (2 ^ (min n.toNat 8)))) w : Result Value) = _
    rw [Int.fdiv_eq_ediv_of_nonneg _ (Int.le_of_lt (Int.pow_pos (by decide))), Nat.min_eq_left hw]; rfl
theorem shl_I8 {t : TypeId} {x y : Operand} {yk : IntKind} (a : Int) (n : Int) (hn : 0 ≤ n) : ∀ w, (do eqGuard .shl t x y (I8 a) (.int yk n); binOp .shl t (I8 a) (.int yk n) : Sem Value).run P w = .ok (I8 (w8 (a * 2 ^ (min n.toNat 8)))) w :=
  bin_int fun w => by
    show (Op.shift .shl .i8 a yk n).run P w = _
    unfold Op.shift
    rw [if_neg (by omega)]; rfl
theorem neg_I8 (a : Int) : ∀ w, (Op.unary .neg (I8 a)).run P w = .ok (I8 (w8 (0 - a))) w := fun _ => rfl
theorem conv_I8 {s d : TypeId} {k : IntKind} {td : TypeDesc} (hs : P.underlying s = some td) (hd : P.underlying d = some (.int .i8)) (n : Int) : ∀ w, (convert s d (.int k n)).run P w = .ok (I8 (w8 n)) w := fun w => by
    unfold convert
    rw [Sem.run_bind, run_underlying hs, Result.andThen_ok, Sem.run_bind, run_underlying hd, Result.andThen_ok]
    rfl
theorem add_I16 {t : TypeId} {x y : Operand} (a b : Int) : ∀ w, (do eqGuard .add t x y (I16 a) (I16 b); binOp .add t (I16 a) (I16 b) : Sem Value).run P w = .ok (I16 (w16 (a + b))) w := bin_int fun _ => rfl
theorem sub_I16 {t : TypeId} {x y : Operand} (a b : Int) : ∀ w, (do eqGuard .sub t x y (I16 a) (I16 b); binOp .sub t (I16 a) (I16 b) : Sem Value).run P w = .ok (I16 (w16 (a - b))) w := bin_int fun _ => rfl
theorem mul_I16 {t : TypeId} {x y : Operand} (a b : Int) : ∀ w, (do eqGuard .mul t x y (I16 a) (I16 b); binOp .mul t (I16 a) (I16 b) : Sem Value).run P w = .ok (I16 (w16 (a * b))) w := bin_int fun _ => rfl
theorem eql_I16 {t : TypeId} {x y : Operand} (a b : Int) : ∀ w, (do eqGuard .eql t x y (I16 a) (I16 b); binOp .eql t (I16 a) (I16 b) : Sem Value).run P w = .ok (Bl (a == b)) w := bin_int fun _ => rfl
theorem neq_I16 {t : TypeId} {x y : Operand} (a b : Int) : ∀ w, (do eqGuard .neq t x y (I16 a) (I16 b); binOp .neq t (I16 a) (I16 b) : Sem Value).run P w = .ok (Bl (a != b)) w := bin_int fun _ => rfl
theorem lss_I16 {t : TypeId} {x y : Operand} (a b : Int) : ∀ w, (do eqGuard .lss t x y (I16 a) (I16 b); binOp .lss t (I16 a) (I16 b) : Sem Value).run P w = .ok (Bl (decide (a < b))) w := bin_int fun _ => rfl
theorem leq_I16 {t : TypeId} {x y : Operand} (a b : Int) : ∀ w, (do eqGuard .leq t x y (I16 a) (I16 b); binOp .leq t (I16 a) (I16 b) : Sem Value).run P w = .ok (Bl (decide (a ≤ b))) w := bin_int fun _ => rfl
theorem gtr_I16 {t : TypeId} {x y : Operand} (a b : Int) : ∀ w, (do eqGuard .gtr t x y (I16 a) (I16 b); binOp .gtr t (I16 a) (I16 b) : Sem Value).run P w = .ok (Bl (decide (a > b))) w := bin_int fun _ => rfl
theorem geq_I16 {t : TypeId} {x y : Operand} (a b : Int) : ∀ w, (do eqGuard .geq t x y (I16 a) (I16 b); binOp .geq t (I16 a) (I16 b) : Sem Value).run P w = .ok (Bl (decide (a ≥ b))) w := bin_int fun _ => rfl
theorem and_I16 {t : TypeId} {x y : Operand} (a b : Int) : ∀ w, (do eqGuard .and t x y (I16 a) (I16 b); binOp .and t (I16 a) (I16 b) : Sem Value).run P w = .ok (I16 (w16 ((BitVec.ofInt 16 a &&& BitVec.ofInt 16 b).toNat : Int))) w := bin_int fun _ => rfl
theorem or_I16 {t : TypeId} {x y : Operand} (a b : Int) : ∀ w, (do eqGuard .or t x y (I16 a) (I16 b); binOp .or t (I16 a) (I16 b) : Sem Value).run P w = .ok (I16 (w16 ((BitVec.ofInt 16 a ||| BitVec.ofInt 16 b).toNat : Int))) w := bin_int fun _ => rfl
theorem quo_I16 {t : TypeId} {x y : Operand} (a b : Int) (hb : b ≠ 0) : ∀ w, (do eqGuard .quo t x y (I16 a) (I16 b); binOp .quo t (I16 a) (I16 b) : Sem Value).run P w = .ok (I16 (w16 (a.tdiv b))) w :=
  bin_int fun w => by
    show (Op.intDiv .quo .i16 a b).run P w = _
    unfold Op.intDiv
    rw [if_neg hb]; rfl
theorem rem_I16 {t : TypeId} {x y : Operand} (a b : Int) (hb : b ≠ 0) : ∀ w, (do eqGuard .rem t x y (I16 a) (I16 b); binOp .rem t (I16 a) (I16 b) : Sem Value).run P w = .ok (I16 (a.tmod b)) w :=
  bin_int fun w => by
    show (Op.intDiv .rem .i16 a b).run P w = _
    unfold Op.intDiv
    rw [if_neg hb]; rfl
theorem shr_I16 {t : TypeId} {x y : Operand} {yk : IntKind} (a : Int) (n : Int) (hn : 0 ≤ n) (hw : n.toNat ≤ 16) : ∀ w, (do eqGuard .shr t x y (I16 a) (.int yk n); binOp .shr t (I16 a) (.int yk n) : Sem Value).run P w = .ok (I16 (a / 2 ^ n.toNat)) w :=
  bin_int fun w => by
    show (Op.shift .shr .i16 a yk n).run P w = _
    unfold Op.shift
    rw [if_neg (by omega)]
    show (Result.ok (Value.int .i16 (a.fdiv (2 ^ (min n.toNat 16)))) w : Result Value) = _
    rw [Int.fdiv_eq_ediv_of_nonneg _ (Int.le_of_lt (Int.pow_pos (by decide))), Nat.min_eq_left hw]; rfl
theorem shl_I16 {t : TypeId} {x y : Operand} {yk : IntKind} (a : Int) (n : Int) (hn : 0 ≤ n) : ∀ w, (do eqGuard .shl t x y (I16 a) (.int yk n); binOp .shl t (I16 a) (.int yk n) : Sem Value).run P w = .ok (I16 (w16 (a * 2 ^ (min n.toNat 16)))) w :=
  bin_int fun w => by
    show (Op.shift .shl .i16 a yk n).run P w = _
    unfold Op.shift
    rw [if_neg (by omega)]; rfl
theorem neg_I16 (a : Int) : ∀ w, (Op.unary .neg (I16 a)).run P w = .ok (I16 (w16 (0 - a))) w := fun _ => rfl
theorem conv_I16 {s d : TypeId} {k : IntKind} {td : TypeDesc} (hs : P.underlying s = some td) (hd : P.underlying d = some (.int .i16)) (n : Int) : ∀ w, (convert s d (.int k n)).run P w = .ok (I16 (w16 n)) w := fun w => by
    unfold convert
    rw [Sem.run_bind, run_underlying hs, Result.andThen_ok, Sem.run_bind, run_underlying hd, Result.andThen_ok]
    rfl
theorem add_I32 {t : TypeId} {x y : Operand} (a b : Int) : ∀ w, (do eqGuard .add t x y (I32 a) (I32 b); binOp .add t (I32 a) (I32 b) : Sem Value).run P w = .ok (I32 (w32 (a + b))) w := bin_int fun _ => rfl
theorem sub_I32 {t : TypeId} {x y : Operand} (a b : Int) : ∀ w, (do eqGuard .sub t x y (I32 a) (I32 b); binOp .sub t (I32 a) (I32 b) : Sem Value).run P w = .ok (I32 (w32 (a - b))) w := bin_int fun _ => rfl
theorem mul_I32 {t : TypeId} {x y : Operand} (a b : Int) : ∀ w, (do eqGuard .mul t x y (I32 a) (I32 b); binOp .mul t (I32 a) (I32 b) : Sem Value).run P w = .ok (I32 (w32 (a * b))) w := bin_int fun _ => rfl
theorem eql_I32 {t : TypeId} {x y : Operand} (a b : Int) : ∀ w, (do eqGuard .eql t x y (I32 a) (I32 b); binOp .eql t (I32 a) (I32 b) : Sem Value).run P w = .ok (Bl (a == b)) w := bin_int fun _ => rfl
theorem neq_I32 {t : TypeId} {x y : Operand} (a b : Int) : ∀ w, (do eqGuard .neq t x y (I32 a) (I32 b); binOp .neq t (I32 a) (I32 b) : Sem Value).run P w = .ok (Bl (a != b)) w := bin_int fun _ => rfl
theorem lss_I32 {t : TypeId} {x y : Operand} (a b : Int) : ∀ w, (do eqGuard .lss t x y (I32 a) (I32 b); binOp .lss t (I32 a) (I32 b) : Sem Value).run P w = .ok (Bl (decide (a < b))) w := bin_int fun _ => rfl
theorem leq_I32 {t : TypeId} {x y : Operand} (a b : Int) : ∀ w, (do eqGuard .leq t x y (I32 a) (I32 b); binOp .leq t (I32 a) (I32 b) : Sem Value).run P w = .ok (Bl (decide (a ≤ b))) w := bin_int fun _ => rfl
theorem gtr_I32 {t : TypeId} {x y : Operand} (a b : Int) : ∀ w, (do eqGuard .gtr t x y (I32 a) (I32 b); binOp .gtr t (I32 a) (I32 b) : Sem Value).run P w = .ok (Bl (decide (a > b))) w := bin_int fun _ => rfl
theorem geq_I32 {t : TypeId} {x y : Operand} (a b : Int) : ∀ w, (do eqGuard .geq t x y (I32 a) (I32 b); binOp .geq t (I32 a) (I32 b) : Sem Value).run P w = .ok (Bl (decide (a ≥ b))) w := bin_int fun _ => rfl
theorem and_I32 {t : TypeId} {x y : Operand} (a b : Int) : ∀ w, (do eqGuard .and t x y (I32 a) (I32 b); binOp .and t (I32 a) (I32 b) : Sem Value).run P w = .ok (I32 (w32 ((BitVec.ofInt 32 a &&& BitVec.ofInt 32 b).toNat : Int))) w := bin_int fun _ => rfl
theorem or_I32 {t : TypeId} {x y : Operand} (a b : Int) : ∀ w, (do eqGuard .or t x y (I32 a) (I32 b); binOp .or t (I32 a) (I32 b) : Sem Value).run P w = .ok (I32 (w32 ((BitVec.ofInt 32 a ||| BitVec.ofInt 32 b).toNat : Int))) w := bin_int fun _ => rfl
theorem quo_I32 {t : TypeId} {x y : Operand} (a b : Int) (hb : b ≠ 0) : ∀ w, (do eqGuard .quo t x y (I32 a) (I32 b); binOp .quo t (I32 a) (I32 b) : Sem Value).run P w = .ok (I32 (w32 (a.tdiv b))) w :=
  bin_int fun w => by
    show (Op.intDiv .quo .i32 a b).run P w = _
    unfold Op.intDiv
    rw [if_neg hb]; rfl
theorem rem_I32 {t : TypeId} {x y : Operand} (a b : Int) (hb : b ≠ 0) : ∀ w, (do eqGuard .rem t x y (I32 a) (I32 b); binOp .rem t (I32 a) (I32 b) : Sem Value).run P w = .ok (I32 (a.tmod b)) w :=
  bin_int fun w => by
    show (Op.intDiv .rem .i32 a b).run P w = _
    unfold Op.intDiv
    rw [if_neg hb]; rfl
theorem shr_I32 {t : TypeId} {x y : Operand} {yk : IntKind} (a : Int) (n : Int) (hn : 0 ≤ n) (hw : n.toNat ≤ 32) : ∀ w, (do eqGuard .shr t x y (I32 a) (.int yk n); binOp .shr t (I32 a) (.int yk n) : Sem Value).run P w = .ok (I32 (a / 2 ^ n.toNat)) w :=
  bin_int fun w => by
    show (Op.shift .shr .i32 a yk n).run P w = _
    unfold Op.shift
    rw [if_neg (by omega)]
    show (Result.ok (Value.int .i32 (a.fdiv (2 ^ (min n.toNat 32)))) w : Result Value) = _
    rw [Int.fdiv_eq_ediv_of_nonneg _ (Int.le_of_lt (Int.pow_pos (by decide))), Nat.min_eq_left hw]; rfl
theorem shl_I32 {t : TypeId} {x y : Operand} {yk : IntKind} (a : Int) (n : Int) (hn : 0 ≤ n) : ∀ w, (do eqGuard .shl t x y (I32 a) (.int yk n); binOp .shl t (I32 a) (.int yk n) : Sem Value).run P w = .ok (I32 (w32 (a * 2 ^ (min n.toNat 32)))) w :=
  bin_int fun w => by
    show (Op.shift .shl .i32 a yk n).run P w = _
    unfold Op.shift
    rw [if_neg (by omega)]; rfl
theorem neg_I32 (a : Int) : ∀ w, (Op.unary .neg (I32 a)).run P w = .ok (I32 (w32 (0 - a))) w := fun _ => rfl
theorem conv_I32 {s d : TypeId} {k : IntKind} {td : TypeDesc} (hs : P.underlying s = some td) (hd : P.underlying d = some (.int .i32)) (n : Int) : ∀ w, (convert s d (.int k n)).run P w = .ok (I32 (w32 n)) w := fun w => by
    unfold convert
    rw [Sem.run_bind, run_underlying hs, Result.andThen_ok, Sem.run_bind, run_underlying hd, Result.andThen_ok]
    rfl
theorem add_I64 {t : TypeId} {x y : Operand} (a b : Int) : ∀ w, (do eqGuard .add t x y (I64 a) (I64 b); binOp .add t (I64 a) (I64 b) : Sem Value).run P w = .ok (I64 (w64 (a + b))) w := bin_int fun _ => rfl
theorem sub_I64 {t : TypeId} {x y : Operand} (a b : Int) : ∀ w, (do eqGuard .sub t x y (I64 a) (I64 b); binOp .sub t (I64 a) (I64 b) : Sem Value).run P w = .ok (I64 (w64 (a - b))) w := bin_int fun _ => rfl
theorem mul_I64 {t : TypeId} {x y : Operand} (a b : Int) : ∀ w, (do eqGuard .mul t x y (I64 a) (I64 b); binOp .mul t (I64 a) (I64 b) : Sem Value).run P w = .ok (I64 (w64 (a * b))) w := bin_int fun _ => rfl
theorem eql_I64 {t : TypeId} {x y : Operand} (a b : Int) : ∀ w, (do eqGuard .eql t x y (I64 a) (I64 b); binOp .eql t (I64 a) (I64 b) : Sem Value).run P w = .ok (Bl (a == b)) w := bin_int fun _ => rfl
theorem neq_I64 {t : TypeId} {x y : Operand} (a b : Int) : ∀ w, (do eqGuard .neq t x y (I64 a) (I64 b); binOp .neq t (I64 a) (I64 b) : Sem Value).run P w = .ok (Bl (a != b)) w := bin_int fun _ => rfl
theorem lss_I64 {t : TypeId} {x y : Operand} (a b : Int) : ∀ w, (do eqGuard .lss t x y (I64 a) (I64 b); binOp .lss t (I64 a) (I64 b) : Sem Value).run P w = .ok (Bl (decide (a < b))) w := bin_int fun _ => rfl
theorem leq_I64 {t : TypeId} {x y : Operand} (a b : Int) : ∀ w, (do eqGuard .leq t x y (I64 a) (I64 b); binOp .leq t (I64 a) (I64 b) : Sem Value).run P w = .ok (Bl (decide (a ≤ b))) w := bin_int fun _ => rfl
theorem gtr_I64 {t : TypeId} {x y : Operand} (a b : Int) : ∀ w, (do eqGuard .gtr t x y (I64 a) (I64 b); binOp .gtr t (I64 a) (I64 b) : Sem Value).run P w = .ok (Bl (decide (a > b))) w := bin_int fun _ => rfl
theorem geq_I64 {t : TypeId} {x y : Operand} (a b : Int) : ∀ w, (do eqGuard .geq t x y (I64 a) (I64 b); binOp .geq t (I64 a) (I64 b) : Sem Value).run P w = .ok (Bl (decide (a ≥ b))) w := bin_int fun _ => rfl
theorem and_I64 {t : TypeId} {x y : Operand} (a b : Int) : ∀ w, (do eqGuard .and t x y (I64 a) (I64 b); binOp .and t (I64 a) (I64 b) : Sem Value).run P w = .ok (I64 (w64 ((BitVec.ofInt 64 a &&& BitVec.ofInt 64 b).toNat : Int))) w := bin_int fun _ => rfl
theorem or_I64 {t : TypeId} {x y : Operand} (a b : Int) : ∀ w, (do eqGuard .or t x y (I64 a) (I64 b); binOp .or t (I64 a) (I64 b) : Sem Value).run P w = .ok (I64 (w64 ((BitVec.ofInt 64 a ||| BitVec.ofInt 64 b).toNat : Int))) w := bin_int fun _ => rfl
theorem quo_I64 {t : TypeId} {x y : Operand} (a b : Int) (hb : b ≠ 0) : ∀ w, (do eqGuard .quo t x y (I64 a) (I64 b); binOp .quo t (I64 a) (I64 b) : Sem Value).run P w = .ok (I64 (w64 (a.tdiv b))) w :=
  bin_int fun w => by
    show (Op.intDiv .quo .i64 a b).run P w = _
    unfold Op.intDiv
    rw [if_neg hb]; rfl
theorem rem_I64 {t : TypeId} {x y : Operand} (a b : Int) (hb : b ≠ 0) : ∀ w, (do eqGuard .rem t x y (I64 a) (I64 b); binOp .rem t (I64 a) (I64 b) : Sem Value).run P w = .ok (I64 (a.tmod b)) w :=
  bin_int fun w => by
    show (Op.intDiv .rem .i64 a b).run P w = _
    unfold Op.intDiv
    rw [if_neg hb]; rfl
theorem shr_I64 {t : TypeId} {x y : Operand} {yk : IntKind} (a : Int) (n : Int) (hn : 0 ≤ n) (hw : n.toNat ≤ 64) : ∀ w, (do eqGuard .shr t x y (I64 a) (.int yk n); binOp .shr t (I64 a) (.int yk n) : Sem Value).run P w = .ok (I64 (a / 2 ^ n.toNat)) w :=
  bin_int fun w => by
    show (Op.shift .shr .i64 a yk n).run P w = _
    unfold Op.shift
    rw [if_neg (by omega)]
    show (Result.ok (Value.int .i64 (a.fdiv (2 ^ (min n.toNat 64)))) w : Result Value) = _
    rw [Int.fdiv_eq_ediv_of_nonneg _ (Int.le_of_lt (Int.pow_pos (by decide))), Nat.min_eq_left hw]; rfl
theorem shl_I64 {t : TypeId} {x y : Operand} {yk : IntKind} (a : Int) (n : Int) (hn : 0 ≤ n) : ∀ w, (do eqGuard .shl t x y (I64 a) (.int yk n); binOp .shl t (I64 a) (.int yk n) : Sem Value).run P w = .ok (I64 (w64 (a * 2 ^ (min n.toNat 64)))) w :=
  bin_int fun w => by
    show (Op.shift .shl .i64 a yk n).run P w = _
    unfold Op.shift
    rw [if_neg (by omega)]; rfl
theorem neg_I64 (a : Int) : ∀ w, (Op.unary .neg (I64 a)).run P w = .ok (I64 (w64 (0 - a))) w := fun _ => rfl
theorem conv_I64 {s d : TypeId} {k : IntKind} {td : TypeDesc} (hs : P.underlying s = some td) (hd : P.underlying d = some (.int .i64)) (n : Int) : ∀ w, (convert s d (.int k n)).run P w = .ok (I64 (w64 n)) w := fun w => by
    unfold convert
    rw [Sem.run_bind, run_underlying hs, Result.andThen_ok, Sem.run_bind, run_underlying hd, Result.andThen_ok]
    rfl
theorem not_Bl (a : Bool) : ∀ w, (Op.unary .not (Bl a)).run P w = .ok (Bl (!a)) w := fun _ => rfl
end
end Go.Aw
