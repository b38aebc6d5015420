/-
  Floats: a value is known by its bits, or known to be a NaN.
-/
import Derived.Test.YfwaawGreatAwIt
import Derived.Laws.FloatArith
import Derived.Laws.Externs
namespace Go.Aw
open Go.RowKit

def isN (k : FloatKind) (b : Nat) : Bool := (k.decode b).isNaN
/-- A float: 'some b': its bits; 'none': a NaN, whatever its bits. -/
def fl (k : FloatKind) (o : Option Nat) : AV := ⟨fun _ v => ∃ b, v = .float k b ∧ b < 2 ^ k.format.width ∧ (match o with | some n => b = n | none => isN k b = true), fun _ _ _ _ h => h⟩

def fbits (op : BinOp) (k : FloatKind) (x y : Option Nat) : Option Nat := x.bind fun a => y.bind fun b => floatBits op k a b
def ford (k : FloatKind) (x y : Option Nat) : Option Ordering := x.bind fun a => y.bind fun b => k.format.order a b
def fneg (k : FloatKind) (x : Option Nat) : Option Nat := x.map (Op.negFloat k)
def feq (k : FloatKind) (x y : Option Nat) : Bool := ford k x y == some .eq
def flt (k : FloatKind) (x y : Option Nat) : Bool := ford k x y == some .lt
def fle (k : FloatKind) (x y : Option Nat) : Bool := ford k x y == some .lt || ford k x y == some .eq
def fgt (k : FloatKind) (x y : Option Nat) : Bool := ford k x y == some .gt
def fge (k : FloatKind) (x y : Option Nat) : Bool := ford k x y == some .gt || ford k x y == some .eq
def fmin (k : FloatKind) (x y : Option Nat) : Option Nat := match ford k x y with
  | none => none
  | some .lt => x
  | some .gt => y
  | some .eq => x.bind fun a => if (k.decode a).neg then x else y
def fmax (k : FloatKind) (x y : Option Nat) : Option Nat := match ford k x y with
  | none => none
  | some .lt => y
  | some .gt => x
  | some .eq => x.bind fun a => if (k.decode a).neg then y else x

theorem isN_read {k : FloatKind} {b : Nat} (h : isN k b = true) : ∃ s t, k.format.read b = .nan s t := by
  unfold isN FloatKind.decode at h
  cases hd : k.format.read b with
  | nan s t => exact ⟨s, t, rfl⟩
  | number => rw [hd] at h; cases h
  | infinity => rw [hd] at h; cases h

theorem bits_nan_l {op : BinOp} {k : FloatKind} {a b : Nat} (h : isN k a = true) : floatBits op k a b = none := by
  obtain ⟨s, t, h⟩ := isN_read h
  cases op <;> simp only [floatBits, Ieee.Format.add, Ieee.Format.sub, Ieee.Format.mul, Ieee.Format.div, h] <;> rfl
theorem bits_nan_r {op : BinOp} {k : FloatKind} {a b : Nat} (h : isN k b = true) : floatBits op k a b = none := by
  obtain ⟨s, t, h⟩ := isN_read h
  cases op <;> simp only [floatBits, Ieee.Format.add, Ieee.Format.sub, Ieee.Format.mul, Ieee.Format.div, h] <;> cases k.format.read a <;> rfl
theorem ord_nan_l {k : FloatKind} {a b : Nat} (h : isN k a = true) : k.format.order a b = none := by
  obtain ⟨s, t, h⟩ := isN_read h
  simp only [Ieee.Format.order, h]; rfl
theorem ord_nan_r {k : FloatKind} {a b : Nat} (h : isN k b = true) : k.format.order a b = none := by
  obtain ⟨s, t, h⟩ := isN_read h
  simp only [Ieee.Format.order, h]
  cases k.format.read a <;> rfl

theorem nan64 (t : Nat) : (t % 2) * 2 ^ 63 + 0x7ff0000000000000 + 1 + (t / 2) % (2 ^ 52 - 1) < 2 ^ 64 ∧ isN .f64 ((t % 2) * 2 ^ 63 + 0x7ff0000000000000 + 1 + (t / 2) % (2 ^ 52 - 1)) = true := by
  have h1 : t % 2 < 2 := Nat.mod_lt _ (by decide)
  have h2 : (t / 2) % (2 ^ 52 - 1) < 2 ^ 52 - 1 := Nat.mod_lt _ (by decide)
  refine ⟨by omega, ?_⟩
  have e : ((t % 2) * 2 ^ 63 + 0x7ff0000000000000 + 1 + (t / 2) % (2 ^ 52 - 1)) % 2 ^ 63 = 0x7ff0000000000000 + 1 + (t / 2) % (2 ^ 52 - 1) := by omega
  unfold isN FloatKind.decode Ieee.Format.read
  have hs : FloatKind.f64.format.signWeight = 2 ^ 63 := rfl
  have hb : FloatKind.f64.format.binade = 2 ^ 52 := rfl
  have hi : FloatKind.f64.format.infRung = 0x7ff0000000000000 := by decide
  simp only [hs, hb, hi, e]
  rw [if_neg (by omega), if_neg (by omega), if_neg (by omega)]
  rfl
theorem nan32 (t : Nat) : (t % 2) * 2 ^ 31 + 0x7f800000 + 1 + (t / 2) % (2 ^ 23 - 1) < 2 ^ 32 ∧ isN .f32 ((t % 2) * 2 ^ 31 + 0x7f800000 + 1 + (t / 2) % (2 ^ 23 - 1)) = true := by
  have h1 : t % 2 < 2 := Nat.mod_lt _ (by decide)
  have h2 : (t / 2) % (2 ^ 23 - 1) < 2 ^ 23 - 1 := Nat.mod_lt _ (by decide)
  refine ⟨by omega, ?_⟩
  have e : ((t % 2) * 2 ^ 31 + 0x7f800000 + 1 + (t / 2) % (2 ^ 23 - 1)) % 2 ^ 31 = 0x7f800000 + 1 + (t / 2) % (2 ^ 23 - 1) := by omega
  unfold isN FloatKind.decode Ieee.Format.read
  have hs : FloatKind.f32.format.signWeight = 2 ^ 31 := rfl
  have hb : FloatKind.f32.format.binade = 2 ^ 23 := rfl
  have hi : FloatKind.f32.format.infRung = 0x7f800000 := by decide
  simp only [hs, hb, hi, e]
  rw [if_neg (by omega), if_neg (by omega), if_neg (by omega)]
  rfl

/-- A question that asks for a NaN of kind k. -/
def asksNaN (k : FloatKind) (q : Question) : Prop := q.forced = false ∧ ∀ t, q.cut t < 2 ^ k.format.width ∧ isN k (q.cut t) = true
theorem asks_bits (k : FloatKind) (x y : Nat) : asksNaN k (.nanBits k x y) := ⟨rfl, fun t => by cases k; exact nan32 t; exact nan64 t⟩
theorem asks_conv (k : FloatKind) (x : Nat) : asksNaN k (.nanConv k x) := ⟨rfl, fun t => by cases k; exact nan32 t; exact nan64 t⟩
theorem asks_mm (k : FloatKind) (b : Bool) (x y : Nat) : asksNaN k (.nanMinMax k b x y) := ⟨rfl, fun t => by cases k; exact nan32 t; exact nan64 t⟩

section
variable {P : Program} {n : Nat} {ops : Array Oper}

theorem run_askNaN {k : FloatKind} {q : Question} (h : asksNaN k q) (w : World) : ∃ b m, (do pure (.float k (← choose q)) : Sem Value).run P w = .ok (.float k b) { w with drawn := m } ∧ b < 2 ^ k.format.width ∧ isN k b = true := by
  refine ⟨_, w.drawn + 1, ?_, (h.2 (w.tape w.drawn q)).1, (h.2 (w.tape w.drawn q)).2⟩
  rw [Sem.run_bind, run_choose_drew, h.1]
  rfl

theorem LR_valD {op : Op} {ty : TypeId} {pos : String} {after : Array Edge} {d : Nat} {R : Req} {tv : TV} (hn : Nat.blt d n = true)
    (h : ∀ (B : Base) (bn : Nat → Loc) (s : St) (a : Act) (w : World), Sat s R → RelB B bn s a w →
      ∃ v m, (execOp a.eval ⟨some d, op, ty, pos, after, none⟩).run P w = .ok (.value v) { w with drawn := m } ∧ TV.holds (cur B (blks bn s.b) { w with drawn := m }) bn tv v) :
    LR P n ops ⟨some d, op, ty, pos, after, none⟩ R ⟨[(d, tv)], []⟩ := by
  refine ⟨?_⟩
  intro B s a w hB hs ⟨bn, hr⟩
  obtain ⟨v, m, h1, h2⟩ := h B bn s a w hs hr
  unfold OpK
  rw [if_pos (by simp [Region.wanted])]
  unfold Oper.wp
  rw [h1]
  exact ⟨bn, (hr.drew (m := m)).put (by rw [hB]; simpa [Nat.blt_eq] using hn) h2⟩

theorem one_fl (k : FloatKind) (o : Option Nat) : One (fl k o) := by rintro H v ⟨b, rfl, _⟩; rfl
theorem at_f {k : FloatKind} {b : Nat} (h : Nat.blt b (2 ^ k.format.width) = true) : OpAt (.const (.float k b)) (.inl (fl k (some b))) [] := fun _ _ _ _ _ _ _ => ⟨b, rfl, by simpa [Nat.blt_eq] using h, rfl⟩

def isAr (op : BinOp) : Bool := op == .add || op == .sub || op == .mul || op == .quo

theorem eqGuard_f {op : BinOp} {t : TypeId} {x y : Operand} {k k' : FloatKind} {a b : Nat} (w : World) : (eqGuard op t x y (.float k a) (.float k' b)).run P w = .ok () w := by
  unfold eqGuard
  split <;> rfl

theorem run_far (op : BinOp) (ho : isAr op = true) (t : TypeId) (k : FloatKind) (a b : Nat) (w : World) : ∃ r m, (binOp op t (.float k a) (.float k b)).run P w = .ok (.float k r) { w with drawn := m } ∧ ((∃ q, floatBits op k a b = some q ∧ r = q) ∨ (floatBits op k a b = none ∧ isN k r = true)) ∧ r < 2 ^ k.format.width := by
  cases h : floatBits op k a b with
  | some q =>
    refine ⟨q, w.drawn, run_float_arith w op t k a b q h, .inl ⟨q, rfl, rfl⟩, ?_⟩
    have := floatBits_wf h
    cases k with
    | f32 => show q < 4294967296; simpa [Lit.wf] using this
    | f64 => show q < 18446744073709551616; simpa [Lit.wf] using this
  | none =>
    obtain ⟨r, m, h1, h2, h3⟩ := run_askNaN (P := P) (asks_bits k a b) w
    refine ⟨r, m, ?_, .inr ⟨rfl, h3⟩, h2⟩
    rw [← h1]
    unfold floatBits at h
    cases op <;> simp only at h <;> first | (simp [binOp, Op.floatArith, h]; done) | (exact absurd ho (by decide))

theorem LR_fbin {op : BinOp} {t yt : TypeId} {x y : Operand} {ty : TypeId} {pos : String} {after : Array Edge} {d : Nat} {rx ry : List (Nat × TV)} {k : FloatKind} {o1 o2 : Option Nat} (ho : isAr op = true) (hx : OpAt x (.inl (fl k o1)) rx) (hy : OpAt y (.inl (fl k o2)) ry) (hn : Nat.blt d n = true) :
    LR P n ops ⟨some d, .binOp op t x y yt, ty, pos, after, none⟩ ⟨rx ++ ry, [], []⟩ ⟨[(d, .inl (fl k (fbits op k o1 o2)))], []⟩ :=
  LR_valD hn fun B bn s a w hs h => by
    have h0 := SatT_append.1 hs.1
    obtain ⟨p, h1, h2, h3⟩ := hx B bn s a w h0.1 h
    obtain ⟨q, g1, g2, g3⟩ := hy B bn s a w h0.2 h
    obtain ⟨r, m, e1, e2, e3⟩ := run_far (P := P) op ho t k p q w
    refine ⟨.float k r, m, ?_, r, rfl, e3, ?_⟩
    · simp only [execOp, h1, g1]
      rw [Sem.run_bind, Sem.run_bind, eqGuard_f, Result.andThen_ok, e1]
      rfl
    · match o1, h3 with
      | none, h3 =>
        have hb := bits_nan_l (op := op) (b := q) h3
        rcases e2 with ⟨_, e, _⟩ | ⟨_, e⟩
        · rw [hb] at e; cases e
        · exact e
      | some p', h3 =>
        match o2, g3 with
        | none, g3 =>
          have hb := bits_nan_r (op := op) (a := p) g3
          rcases e2 with ⟨_, e, _⟩ | ⟨_, e⟩
          · rw [hb] at e; cases e
          · exact e
        | some q', g3 =>
          subst h3; subst g3
          show match floatBits op k p q with | some n => r = n | none => isN k r = true
          rcases e2 with ⟨z, e, e'⟩ | ⟨e, e'⟩
          · rw [e]; exact e'
          · rw [e]; exact e'

theorem ford_of {k : FloatKind} {o1 o2 : Option Nat} {p q : Nat} (h3 : match o1 with | some n => p = n | none => isN k p = true) (g3 : match o2 with | some n => q = n | none => isN k q = true) : k.format.order p q = ford k o1 o2 := by
  match o1, o2, h3, g3 with
  | none, _, h3, _ => exact ord_nan_l h3
  | some _, none, _, g3 => rw [ord_nan_r g3]; rfl
  | some _, some _, h3, g3 => rw [h3, g3]; rfl

theorem run_fcmp (op : BinOp) (t : TypeId) (k : FloatKind) (a b : Nat) (c : Bool) (w : World)
    (hc : match op with | .eql => c = (k.format.order a b == some .eq) | .neq => c = !(k.format.order a b == some .eq) | .lss => c = (k.format.order a b == some .lt) | .leq => c = (k.format.order a b == some .lt || k.format.order a b == some .eq) | .gtr => c = (k.format.order a b == some .gt) | .geq => c = (k.format.order a b == some .gt || k.format.order a b == some .eq) | _ => False) :
    (binOp op t (.float k a) (.float k b)).run P w = .ok (.bool c) w := by
  cases op <;> simp only at hc <;> first | exact hc.elim | skip
  all_goals (subst hc; simp [binOp, Op.floatCmp, bne])

def fcmp (op : BinOp) (k : FloatKind) (x y : Option Nat) : Bool := match op with
  | .eql => feq k x y
  | .neq => !feq k x y
  | .lss => flt k x y
  | .leq => fle k x y
  | .gtr => fgt k x y
  | .geq => fge k x y
  | _ => false
def isCm (op : BinOp) : Bool := op == .eql || op == .neq || op == .lss || op == .leq || op == .gtr || op == .geq

theorem LR_fcmp {op : BinOp} {t yt : TypeId} {x y : Operand} {ty : TypeId} {pos : String} {after : Array Edge} {d : Nat} {rx ry : List (Nat × TV)} {k : FloatKind} {o1 o2 : Option Nat} (ho : isCm op = true) (hx : OpAt x (.inl (fl k o1)) rx) (hy : OpAt y (.inl (fl k o2)) ry) (hn : Nat.blt d n = true) :
    LR P n ops ⟨some d, .binOp op t x y yt, ty, pos, after, none⟩ ⟨rx ++ ry, [], []⟩ ⟨[(d, .inl (is (Bl (fcmp op k o1 o2))))], []⟩ :=
  LR_val hn fun B bn s a w hs h => by
    have h0 := SatT_append.1 hs.1
    obtain ⟨p, h1, h2, h3⟩ := hx B bn s a w h0.1 h
    obtain ⟨q, g1, g2, g3⟩ := hy B bn s a w h0.2 h
    have ho' := ford_of h3 g3
    refine ⟨.bool (fcmp op k o1 o2), ?_, rfl⟩
    have := run_fcmp (P := P) op t k p q (fcmp op k o1 o2) w (by rw [ho']; cases op <;> first | rfl | exact absurd ho (by decide))
    simp only [execOp, h1, g1]
    rw [Sem.run_bind, Sem.run_bind, eqGuard_f, Result.andThen_ok, this]
    rfl

theorem neg_lt (k : FloatKind) {b : Nat} (h : b < 2 ^ k.format.width) : Op.negFloat k b < 2 ^ k.format.width := by
  unfold Op.negFloat
  refine Nat.xor_lt_two_pow h ?_
  cases k <;> decide
theorem neg_nan (k : FloatKind) {b : Nat} (h : b < 2 ^ k.format.width) : isN k (Op.negFloat k b) = isN k b := by
  have key : ∀ w e : Nat, e + 1 = w → b < 2 ^ w → (b ^^^ 2 ^ e) % 2 ^ e = b % 2 ^ e := fun w e _ _ => by
    rw [Nat.xor_mod_two_pow, Nat.mod_self, Nat.xor_zero]
  cases k with
  | f64 =>
    have := key 64 63 rfl h
    unfold isN FloatKind.decode Ieee.Format.read
    have hs : FloatKind.f64.format.signWeight = 2 ^ 63 := rfl
    have hn : Op.negFloat .f64 b = b ^^^ 2 ^ 63 := rfl
    simp only [hs, hn, this]
    repeat' split
    all_goals rfl
  | f32 =>
    have := key 32 31 rfl h
    unfold isN FloatKind.decode Ieee.Format.read
    have hs : FloatKind.f32.format.signWeight = 2 ^ 31 := rfl
    have hn : Op.negFloat .f32 b = b ^^^ 2 ^ 31 := rfl
    simp only [hs, hn, this]
    repeat' split
    all_goals rfl

theorem LR_fneg {t : TypeId} {x : Operand} {ty : TypeId} {pos : String} {after : Array Edge} {d : Nat} {rx : List (Nat × TV)} {k : FloatKind} {o : Option Nat} (hx : OpAt x (.inl (fl k o)) rx) (hn : Nat.blt d n = true) :
    LR P n ops ⟨some d, .unOp .neg t x, ty, pos, after, none⟩ ⟨rx, [], []⟩ ⟨[(d, .inl (fl k (fneg k o)))], []⟩ :=
  LR_val hn fun B bn s a w hs h => by
    obtain ⟨p, h1, h2, h3⟩ := hx B bn s a w hs.1 h
    refine ⟨.float k (Op.negFloat k p), ?_, _, rfl, neg_lt k h2, ?_⟩
    · simp only [execOp, h1]
      rfl
    · match o, h3 with
      | none, h3 => exact (neg_nan k h2).trans h3
      | some p', h3 => exact congrArg (Op.negFloat k) h3

/-! ### Conversions -/
def fcOk (src dst : FloatKind) (x : Option Nat) : Bool := match x with
  | none => true
  | some b => if src = dst then true else match src.decode b with
    | .nan _ _ => true
    | .infinity _ => true
    | .number s m e => !(dst.decode (dst.encode (.number s m e))).isInfinity
theorem fcOk_self (k : FloatKind) (x : Option Nat) : fcOk k k x = true := by cases x <;> simp [fcOk]
def fcVal (src dst : FloatKind) (x : Option Nat) : Option Nat := x.bind fun b => floatToFloatBits src b dst

theorem LR_convFF {ts td : TypeId} {x : Operand} {ty : TypeId} {pos : String} {after : Array Edge} {d : Nat} {rx : List (Nat × TV)} {k k' : FloatKind} {o : Option Nat} (hs : P.underlying ts = some (.float k)) (hd : P.underlying td = some (.float k')) (hx : OpAt x (.inl (fl k o)) rx) (hok : fcOk k k' o = true) (hn : Nat.blt d n = true) :
    LR P n ops ⟨some d, .convert ts td x, ty, pos, after, none⟩ ⟨rx, [], []⟩ ⟨[(d, .inl (fl k' (fcVal k k' o)))], []⟩ :=
  LR_valD hn fun B bn s a w hst h => by
    obtain ⟨p, h1, h2, h3⟩ := hx B bn s a w hst.1 h
    have hex : ∀ v m, (convert ts td (.float k p)).run P w = .ok v { w with drawn := m } → (execOp a.eval ⟨some d, .convert ts td x, ty, pos, after, none⟩).run P w = .ok (.value v) { w with drawn := m } := fun v m hv => by
      simp only [execOp, h1]
      rw [Sem.run_bind, hv]; rfl
    have wf_lt : ∀ (k : FloatKind) (r : Nat), (Lit.float k r).wf = true → r < 2 ^ k.format.width := fun k r hw => by
      cases k with
      | f32 => show r < 4294967296; simpa [Lit.wf] using hw
      | f64 => show r < 18446744073709551616; simpa [Lit.wf] using hw
    cases hc : floatToFloatBits k p k' with
    | some r =>
      refine ⟨.float k' r, w.drawn, hex _ _ (run_convert_float_float (P := P) w ts td k k' p r (by rw [hs]; rfl) hd hc), r, rfl, wf_lt _ _ (floatToFloatBits_wf (wf_of_lt k p h2) hc), ?_⟩
      match o, h3 with
      | some p', h3 => subst h3; show match floatToFloatBits k p k' with | some n => r = n | none => _; rw [hc]
      | none, h3 =>
        show isN k' r = true
        obtain ⟨sg, tt, hr⟩ := isN_read h3
        unfold floatToFloatBits at hc
        split at hc
        · rename_i e; cases hc; subst e; exact h3
        · have : k.decode p = .nan sg tt := hr
          rw [this] at hc; cases hc
    | none =>
      have hne : k ≠ k' := fun e => by unfold floatToFloatBits at hc; rw [if_pos e] at hc; cases hc
      have hnan : ∃ sg tt, k.decode p = .nan sg tt := by
        match o, h3, hok with
        | none, h3, _ => exact isN_read h3
        | some p', h3, hok =>
          subst h3
          simp only [fcOk, if_neg hne] at hok
          unfold floatToFloatBits at hc
          rw [if_neg hne] at hc
          cases hdc : k.decode p with
          | nan sg tt => exact ⟨sg, tt, rfl⟩
          | infinity sg => rw [hdc] at hc; cases hc
          | number sg m e =>
            rw [hdc] at hc hok
            simp only at hc hok
            split at hc
            · rename_i hi; rw [hi] at hok; cases hok
            · cases hc
      obtain ⟨sg, tt, hnan⟩ := hnan
      obtain ⟨r, m, e1, e2, e3⟩ := run_askNaN (P := P) (asks_conv k' p) w
      refine ⟨.float k' r, m, hex _ _ ?_, r, rfl, e2, ?_⟩
      · rw [← e1]
        simp [convert, run_underlying hs, run_underlying hd, Conv.floatToFloat, hne, hnan]
      · have : fcVal k k' o = none := by
          match o, h3 with
          | none, _ => rfl
          | some p', h3 => subst h3; exact hc
        rw [this]; exact e3

def fiOk (k : FloatKind) (q : IntKind) (x : Option Nat) : Bool := (x.bind fun b => floatToIntVal k b q).isSome
def fiVal (k : FloatKind) (q : IntKind) (x : Option Nat) : Int := (x.bind fun b => floatToIntVal k b q).getD 0
theorem LR_convFI {ts td : TypeId} {x : Operand} {ty : TypeId} {pos : String} {after : Array Edge} {d : Nat} {rx : List (Nat × TV)} {k : FloatKind} {q : IntKind} {o : Option Nat} (hs : P.underlying ts = some (.float k)) (hd : P.underlying td = some (.int q)) (hx : OpAt x (.inl (fl k o)) rx) (hok : fiOk k q o = true) (hn : Nat.blt d n = true) :
    LR P n ops ⟨some d, .convert ts td x, ty, pos, after, none⟩ ⟨rx, [], []⟩ ⟨[(d, .inl (is (.int q (fiVal k q o))))], []⟩ :=
  LR_val hn fun B bn s a w hst h => by
    obtain ⟨p, h1, h2, h3⟩ := hx B bn s a w hst.1 h
    match o, h3, hok with
    | some p', h3, hok =>
      subst h3
      obtain ⟨v, hv⟩ := Option.isSome_iff_exists.1 hok
      have hv' : floatToIntVal k p q = some v := hv
      refine ⟨.int q v, ?_, ?_⟩
      · simp only [execOp, h1]
        rw [Sem.run_bind, run_convert_float_int (P := P) w ts td k q p v (by rw [hs]; rfl) hd hv']; rfl
      · show _ = Value.int q (fiVal k q (some p))
        unfold fiVal; rw [hv]; rfl
    | none, _, hok => cases hok
theorem LR_convIF {ts td : TypeId} {x : Operand} {ty : TypeId} {pos : String} {after : Array Edge} {d : Nat} {rx : List (Nat × TV)} {k : FloatKind} {q q' : IntKind} {i : Int} (hs : P.underlying ts = some (.int q')) (hd : P.underlying td = some (.float k)) (hx : OpAt x (.inl (is (.int q i))) rx) (hn : Nat.blt d n = true) :
    LR P n ops ⟨some d, .convert ts td x, ty, pos, after, none⟩ ⟨rx, [], []⟩ ⟨[(d, .inl (fl k (some (k.nearest i))))], []⟩ :=
  LR_val hn fun B bn s a w hst h => by
    have h1 : a.eval x = .int q i := hx B bn s a w hst.1 h
    refine ⟨.float k (k.nearest i), ?_, _, rfl, k.format.write_lt (.number (i < 0) i.natAbs 0), rfl⟩
    simp only [execOp, h1]
    rw [Sem.run_bind, run_convert_int_float (P := P) w ts td q k i (by rw [hs]; rfl) hd]; rfl

/-! ### Functions in place -/
theorem quiet_nan (sg : Bool) (t : Nat) : isN .f64 (FloatKind.f64.encode (.nan sg (FloatKind.f64.format.quiet t))) = true := by
  have hq : FloatKind.f64.format.quiet t = t ||| 2 ^ 51 := rfl
  have hm : 0 < (t ||| 2 ^ 51) % 2 ^ 52 := by
    have : ((t ||| 2 ^ 51) % 2 ^ 52).testBit 51 = true := by rw [Nat.testBit_mod_two_pow, Nat.testBit_or, Nat.testBit_two_pow_self]; simp
    rcases Nat.eq_zero_or_pos ((t ||| 2 ^ 51) % 2 ^ 52) with h | h
    · rw [h] at this; simp at this
    · exact h
  have hl : (t ||| 2 ^ 51) % 2 ^ 52 < 2 ^ 52 := Nat.mod_lt _ (by decide)
  have he : FloatKind.f64.encode (.nan sg (FloatKind.f64.format.quiet t)) = if sg then 2 ^ 63 + (0x7ff0000000000000 + (t ||| 2 ^ 51) % 2 ^ 52) else 0x7ff0000000000000 + (t ||| 2 ^ 51) % 2 ^ 52 := rfl
  rw [he]
  unfold isN FloatKind.decode Ieee.Format.read
  have hs : FloatKind.f64.format.signWeight = 2 ^ 63 := rfl
  have hb : FloatKind.f64.format.binade = 2 ^ 52 := rfl
  have hi : FloatKind.f64.format.infRung = 0x7ff0000000000000 := by decide
  generalize (t ||| 2 ^ 51) % 2 ^ 52 = u at *
  have e : (if sg = true then 2 ^ 63 + (0x7ff0000000000000 + u) else 0x7ff0000000000000 + u) % 2 ^ 63 = 0x7ff0000000000000 + u := by split <;> omega
  simp only [hs, hb, hi, e]
  rw [if_neg (by omega), if_neg (by omega), if_neg (by omega)]
  rfl

/-- A function without a body answers in place. -/
structure ExtF (P : Program) (f : FuncId) (avs : List AV) (res : AV) : Prop where
  run : ∀ (H : PH) (vs : List Value) (w : World), All2 H avs vs → ∃ v m, (callFunc f vs.toArray).run P w = .ok (.value v) { w with drawn := m } ∧ ∀ H, res.p H v

theorem LR_ext {f : FuncId} {xs : List Operand} {ats : Array TypeId} {ty : TypeId} {pos : String} {after : Array Edge} {d : Nat} {r : List (Nat × TV)} {avs : List AV} {res : AV} (hE : ExtF P f avs res) (hx : AllAt xs avs r) (hn : Nat.blt d n = true) :
    LR P n ops ⟨some d, .call ⟨.value (.func f), xs.toArray, ats⟩, ty, pos, after, none⟩ ⟨r, [], []⟩ ⟨[(d, .inl res)], []⟩ :=
  LR_valD hn fun B bn s a w hs h => by
    obtain ⟨v, m, h1, h2⟩ := hE.run _ _ w (hx B bn s a w hs.1 h)
    refine ⟨v, m, ?_, h2 _⟩
    simp only [execOp, resolve, Act.eval, Deferred.ofValue]
    rw [Sem.run_bind]
    simp only [Sem.run_pure, Result.andThen_ok, invoke]
    rw [← h1]
    simp

theorem ext_of {f : FuncId} {fn : Func} {e : Array Value → Sem Value} {avs : List AV} {res : AV} (hf : P.funcs[f]? = some fn) (hname : (fn.name == "runtime.NumGoroutine") = false) (hb : fn.body.isNone = true) (hn : Extern.findNext fn = none) (he : Extern.find fn = some e)
    (h : ∀ (H : PH) (vs : List Value) (w : World), All2 H avs vs → ∃ v m, (e vs.toArray).run P w = .ok v { w with drawn := m } ∧ ∀ H, res.p H v) : ExtF P f avs res := by
  refine ⟨fun H vs w hA => ?_⟩
  obtain ⟨v, m, h1, h2⟩ := h H vs w hA
  refine ⟨v, m, ?_, h2⟩
  rw [run_callFunc_extern hf hname hb hn he, h1]; rfl

theorem all1 {H : PH} {a : AV} {vs : List Value} (h : All2 H [a] vs) : ∃ v, vs = [v] ∧ a.p H v := by
  match vs, h with
  | [v], h => exact ⟨v, rfl, h.1⟩
  | [], h => exact h.elim
  | _ :: _ :: _, h => exact h.2.elim
theorem all3 {H : PH} {a b c : AV} {vs : List Value} (h : All2 H [a, b, c] vs) : ∃ u v w, vs = [u, v, w] ∧ a.p H u ∧ b.p H v ∧ c.p H w := by
  match vs, h with
  | [u, v, w], h => exact ⟨u, v, w, rfl, h.1, h.2.1, h.2.2.1⟩
  | [], h => exact h.elim
  | [_], h => exact h.2.elim
  | [_, _], h => exact h.2.2.elim
  | _ :: _ :: _ :: _ :: _, h => exact h.2.2.2.elim

def fsqrt (x : Option Nat) : Option Nat := x.bind fun b => Ieee.double.sqrt b
def ffma (x y z : Option Nat) : Option Nat := x.bind fun a => y.bind fun b => z.bind fun c => Ieee.double.fma a b c
def fint (way : Ieee.Toward) (x : Option Nat) : Option Nat := x.bind fun b => if isN .f64 b then none else some (FloatKind.f64.encode ((FloatKind.f64.decode b).integral way))

theorem row_bits64 (x : Option Nat) (hx : x.isSome = true) (H : PH) (vs : List Value) (w : World) (h : All2 H [fl .f64 x] vs) : ∃ v m, (Extern.MathFloatBits.float64bits vs.toArray).run P w = .ok v { w with drawn := m } ∧ ∀ H, (is (U64 (BitVec.ofNat 64 (x.getD 0)))).p H v := by
  obtain ⟨v, rfl, b, rfl, hb, hm⟩ := all1 h
  match x, hm with
  | some b', hm =>
    subst hm
    refine ⟨.int .u64 b, w.drawn, rfl, fun _ => ?_⟩
    show Value.int .u64 b = U64 (BitVec.ofNat 64 b)
    have hb' : b < 2 ^ 64 := hb
    simp [U64, Nat.mod_eq_of_lt hb']
  | none, _ => cases hx
theorem row_bits32 (x : Option Nat) (hx : x.isSome = true) (H : PH) (vs : List Value) (w : World) (h : All2 H [fl .f32 x] vs) : ∃ v m, (Extern.MathFloatBits.float32bits vs.toArray).run P w = .ok v { w with drawn := m } ∧ ∀ H, (is (U32 (BitVec.ofNat 32 (x.getD 0)))).p H v := by
  obtain ⟨v, rfl, b, rfl, hb, hm⟩ := all1 h
  match x, hm with
  | some b', hm =>
    subst hm
    refine ⟨.int .u32 b, w.drawn, rfl, fun _ => ?_⟩
    show Value.int .u32 b = U32 (BitVec.ofNat 32 b)
    have hb' : b < 2 ^ 32 := hb
    simp [U32, Nat.mod_eq_of_lt hb']
  | none, _ => cases hx
theorem row_from64 (x : BitVec 64) (H : PH) (vs : List Value) (w : World) (h : All2 H [is (U64 x)] vs) : ∃ v m, (Extern.MathFloatBits.float64frombits vs.toArray).run P w = .ok v { w with drawn := m } ∧ ∀ H, (fl .f64 (some x.toNat)).p H v := by
  obtain ⟨v, rfl, hv⟩ := all1 h
  have hv : v = U64 x := hv
  subst hv
  exact ⟨.float .f64 x.toNat, w.drawn, rfl, fun _ => ⟨x.toNat, rfl, x.isLt, rfl⟩⟩
theorem row_from32 (x : BitVec 32) (H : PH) (vs : List Value) (w : World) (h : All2 H [is (U32 x)] vs) : ∃ v m, (Extern.MathFloatBits.float32frombits vs.toArray).run P w = .ok v { w with drawn := m } ∧ ∀ H, (fl .f32 (some x.toNat)).p H v := by
  obtain ⟨v, rfl, hv⟩ := all1 h
  have hv : v = U32 x := hv
  subst hv
  exact ⟨.float .f32 x.toNat, w.drawn, rfl, fun _ => ⟨x.toNat, rfl, x.isLt, rfl⟩⟩

theorem write_lt64 {d : Option Ieee.Datum} {r : Nat} (h : d.map Ieee.double.write = some r) : r < 2 ^ FloatKind.f64.format.width := by
  cases d with
  | none => cases h
  | some d => cases h; exact Ieee.double.write_lt d

theorem row_sqrt (x : Option Nat) (H : PH) (vs : List Value) (w : World) (h : All2 H [fl .f64 x] vs) : ∃ v m, (Extern.MathSqrt.sqrt vs.toArray).run P w = .ok v { w with drawn := m } ∧ ∀ H, (fl .f64 (fsqrt x)).p H v := by
  obtain ⟨v, rfl, b, rfl, hb, hm⟩ := all1 h
  cases hs : Ieee.double.sqrt b with
  | some r =>
    refine ⟨.float .f64 r, w.drawn, ?_, fun _ => ⟨r, rfl, write_lt64 hs, ?_⟩⟩
    · have hs' : FloatKind.f64.format.sqrt b = some r := hs
      have e : Extern.MathSqrt.sqrt #[.float .f64 b] = (match FloatKind.f64.format.sqrt b with | some r => pure (.float .f64 r) | none => do pure (.float .f64 (← choose (.nanBits .f64 b b)))) := rfl
      show (Extern.MathSqrt.sqrt #[.float .f64 b]).run P w = _
      rw [e, hs']; rfl
    · match x, hm with
      | some b', hm => subst hm; show match Ieee.double.sqrt b with | some n => r = n | none => _; rw [hs]
      | none, hm =>
        obtain ⟨sg, tt, hr⟩ := isN_read hm
        have hr : Ieee.double.read b = .nan sg tt := hr
        unfold Ieee.Format.sqrt at hs
        rw [hr] at hs; cases hs
  | none =>
    obtain ⟨r, m, e1, e2, e3⟩ := run_askNaN (P := P) (asks_bits .f64 b b) w
    refine ⟨.float .f64 r, m, ?_, fun _ => ⟨r, rfl, e2, ?_⟩⟩
    · have hs' : FloatKind.f64.format.sqrt b = none := hs
      have e : Extern.MathSqrt.sqrt #[.float .f64 b] = (match FloatKind.f64.format.sqrt b with | some r => pure (.float .f64 r) | none => do pure (.float .f64 (← choose (.nanBits .f64 b b)))) := rfl
      show (Extern.MathSqrt.sqrt #[.float .f64 b]).run P w = _
      rw [e, hs', ← e1]
    · have : fsqrt x = none := by
        match x, hm with
        | some b', hm => subst hm; exact hs
        | none, _ => rfl
      rw [this]; exact e3

theorem fma_nan {a b c : Nat} (h : isN .f64 a = true ∨ isN .f64 b = true ∨ isN .f64 c = true) : Ieee.double.fma a b c = none := by
  unfold Ieee.Format.fma
  rcases h with h | h | h
  · obtain ⟨sg, tt, hr⟩ := isN_read h
    have hr : Ieee.double.read a = .nan sg tt := hr
    rw [hr]; rfl
  · obtain ⟨sg, tt, hr⟩ := isN_read h
    have hr : Ieee.double.read b = .nan sg tt := hr
    rw [hr]; cases Ieee.double.read a <;> rfl
  · obtain ⟨sg, tt, hr⟩ := isN_read h
    have hr : Ieee.double.read c = .nan sg tt := hr
    rw [hr]
    cases (Ieee.double.read a).product (Ieee.double.read b) with
    | none => rfl
    | some d => cases d <;> rfl

theorem fmaE (a b c : Nat) : Extern.MathFMA.fma #[.float .f64 a, .float .f64 b, .float .f64 c] = (match FloatKind.f64.format.fma a b c with | some r => pure (.float .f64 r) | none => (do pure (.float .f64 (← choose (.nanBits .f64 (if Extern.MathFMA.isNaN a then (a, b) else if Extern.MathFMA.isNaN b then (b, c) else (c, c)).1 (if Extern.MathFMA.isNaN a then (a, b) else if Extern.MathFMA.isNaN b then (b, c) else (c, c)).2))) : Sem Value)) := rfl
theorem row_fma (x y z : Option Nat) (H : PH) (vs : List Value) (w : World) (h : All2 H [fl .f64 x, fl .f64 y, fl .f64 z] vs) : ∃ v m, (Extern.MathFMA.fma vs.toArray).run P w = .ok v { w with drawn := m } ∧ ∀ H, (fl .f64 (ffma x y z)).p H v := by
  obtain ⟨u1, u2, u3, rfl, ⟨a, rfl, ha, hma⟩, ⟨b, rfl, hb, hmb⟩, ⟨c, rfl, hc, hmc⟩⟩ := all3 h
  have hval : (Ieee.double.fma a b c = ffma x y z) := by
    match x, hma with
    | none, hma => exact fma_nan (.inl hma)
    | some a', hma =>
      match y, hmb with
      | none, hmb => exact fma_nan (.inr (.inl hmb))
      | some b', hmb =>
        match z, hmc with
        | none, hmc => exact fma_nan (.inr (.inr hmc))
        | some c', hmc => subst hma; subst hmb; subst hmc; rfl
  cases hs : Ieee.double.fma a b c with
  | some r =>
    refine ⟨.float .f64 r, w.drawn, ?_, fun _ => ⟨r, rfl, write_lt64 hs, ?_⟩⟩
    · have hs' : FloatKind.f64.format.fma a b c = some r := hs
      show (Extern.MathFMA.fma #[.float .f64 a, .float .f64 b, .float .f64 c]).run P w = _
      rw [fmaE, hs']; rfl
    · rw [← hval, hs]
  | none =>
    have hs' : FloatKind.f64.format.fma a b c = none := hs
    let p : Nat × Nat := if Extern.MathFMA.isNaN a then (a, b) else if Extern.MathFMA.isNaN b then (b, c) else (c, c)
    obtain ⟨r, m, e1, e2, e3⟩ := run_askNaN (P := P) (asks_bits .f64 p.1 p.2) w
    refine ⟨.float .f64 r, m, ?_, fun _ => ⟨r, rfl, e2, ?_⟩⟩
    · show (Extern.MathFMA.fma #[.float .f64 a, .float .f64 b, .float .f64 c]).run P w = _
      rw [fmaE, hs', ← e1]
    · rw [← hval, hs]; exact e3

theorem intE (name : String) (way : Ieee.Toward) (x : Nat) : Extern.MathFloor.toIntegral name way #[.float .f64 x] = (match FloatKind.f64.decode x with
    | .nan s t => (if FloatKind.f64.format.quiet t = t then pure (.float .f64 x) else do
      let kept ← choose (.extern "math.Floor,Ceil,Trunc,RoundToEven.signallingNaN kept" 2)
      pure (.float .f64 (if kept == 1 then x else FloatKind.f64.encode (.nan s (FloatKind.f64.format.quiet t)))) : Sem Value)
    | d => pure (.float .f64 (FloatKind.f64.encode (d.integral way)))) := rfl
theorem row_int (name : String) (way : Ieee.Toward) (x : Option Nat) (H : PH) (vs : List Value) (w : World) (h : All2 H [fl .f64 x] vs) : ∃ v m, (Extern.MathFloor.toIntegral name way vs.toArray).run P w = .ok v { w with drawn := m } ∧ ∀ H, (fl .f64 (fint way x)).p H v := by
  obtain ⟨v, rfl, b, rfl, hb, hm⟩ := all1 h
  cases hd : FloatKind.f64.decode b with
  | nan sg tt =>
    have hN : isN .f64 b = true := by unfold isN; rw [hd]; rfl
    have hv : fint way x = none := by
      match x, hm with
      | some b', hm => subst hm; show (if isN .f64 b then none else _) = _; rw [if_pos hN]
      | none, _ => rfl
    rw [hv]
    by_cases hq : FloatKind.f64.format.quiet tt = tt
    · refine ⟨.float .f64 b, w.drawn, ?_, fun _ => ⟨b, rfl, hb, hN⟩⟩
      show (Extern.MathFloor.toIntegral name way #[.float .f64 b]).run P w = _
      rw [intE, hd]
      simp only [hq, if_true]; rfl
    · have hkq : (Question.extern "math.Floor,Ceil,Trunc,RoundToEven.signallingNaN kept" 2).forced = false := rfl
      let q0 := Question.extern "math.Floor,Ceil,Trunc,RoundToEven.signallingNaN kept" 2
      refine ⟨.float .f64 (if q0.cut (w.tape w.drawn q0) == 1 then b else FloatKind.f64.encode (.nan sg (FloatKind.f64.format.quiet tt))), w.drawn + 1, ?_, fun _ => ⟨_, rfl, ?_, ?_⟩⟩
      · show (Extern.MathFloor.toIntegral name way #[.float .f64 b]).run P w = _
        rw [intE, hd]
        simp only [hq, if_false]
        rw [Sem.run_bind, run_choose_drew, hkq]
        rfl
      · split
        · exact hb
        · exact FloatKind.f64.format.write_lt _
      · show isN .f64 _ = true
        split
        · exact hN
        · exact quiet_nan sg tt
  | infinity sg =>
    have hN : isN .f64 b = false := by unfold isN; rw [hd]; rfl
    refine ⟨.float .f64 (FloatKind.f64.encode ((FloatKind.f64.decode b).integral way)), w.drawn, ?_, fun _ => ⟨_, rfl, FloatKind.f64.format.write_lt _, ?_⟩⟩
    · show (Extern.MathFloor.toIntegral name way #[.float .f64 b]).run P w = _
      rw [intE, hd]; rfl
    · match x, hm with
      | some b', hm => subst hm; simp only [fint, Option.bind_some, hN, Bool.false_eq_true, if_false]
      | none, hm => rw [hN] at hm; cases hm
  | number sg m e =>
    have hN : isN .f64 b = false := by unfold isN; rw [hd]; rfl
    refine ⟨.float .f64 (FloatKind.f64.encode ((FloatKind.f64.decode b).integral way)), w.drawn, ?_, fun _ => ⟨_, rfl, FloatKind.f64.format.write_lt _, ?_⟩⟩
    · show (Extern.MathFloor.toIntegral name way #[.float .f64 b]).run P w = _
      rw [intE, hd]; rfl
    · match x, hm with
      | some b', hm => subst hm; simp only [fint, Option.bind_some, hN, Bool.false_eq_true, if_false]
      | none, hm => rw [hN] at hm; cases hm

/-! ### min and max -/
theorem LR_fmm {x y : Operand} {t1 t2 : TypeId} {ty : TypeId} {pos : String} {after : Array Edge} {d : Nat} {rx ry : List (Nat × TV)} {k : FloatKind} {o1 o2 : Option Nat} (hx : OpAt x (.inl (fl k o1)) rx) (hy : OpAt y (.inl (fl k o2)) ry) (hn : Nat.blt d n = true) :
    LR P n ops ⟨some d, .call ⟨.builtin .min, #[x, y], #[t1, t2]⟩, ty, pos, after, none⟩ ⟨rx ++ ry, [], []⟩ ⟨[(d, .inl (fl k (fmin k o1 o2)))], []⟩ :=
  LR_valD hn fun B bn s a w hs h => by
    have h0 := SatT_append.1 hs.1
    obtain ⟨p, h1, h2, h3⟩ := hx B bn s a w h0.1 h
    obtain ⟨q, g1, g2, g3⟩ := hy B bn s a w h0.2 h
    have ho := ford_of h3 g3
    have hex : ∀ v m, (Builtin.min2 (.float k p) (.float k q)).run P w = .ok v { w with drawn := m } → (execOp a.eval ⟨some d, .call ⟨.builtin .min, #[x, y], #[t1, t2]⟩, ty, pos, after, none⟩).run P w = .ok (.value v) { w with drawn := m } := fun v m hv => by
      simp only [execOp, resolve]
      rw [Sem.run_bind]
      simp only [Sem.run_pure, Result.andThen_ok, invoke]
      have : (#[x, y].map a.eval) = #[.float k p, .float k q] := by simp [h1, g1]
      rw [this]
      show (do pure (Next.value (← (Builtin.min2 (.float k p) (.float k q) >>= pure))) : Sem Next).run P w = _
      rw [Sem.run_bind, Sem.run_bind, hv]; rfl
    have hxo : ∀ z, o1 = some z → p = z := fun z e => by subst e; exact h3
    have hyo : ∀ z, o2 = some z → q = z := fun z e => by subst e; exact g3
    cases hf : ford k o1 o2 with
    | none =>
      obtain ⟨r, m, e1, e2, e3⟩ := run_askNaN (P := P) (asks_mm k false p q) w
      refine ⟨.float k r, m, hex _ _ ?_, r, rfl, e2, ?_⟩
      · rw [← e1]; simp [Builtin.min2, ho, hf]
      · simp only [fmin, hf]; exact e3
    | some c =>
      obtain ⟨p', q', rfl, rfl⟩ : ∃ p' q', o1 = some p' ∧ o2 = some q' := by
        match o1, o2, hf with
        | some p', some q', _ => exact ⟨p', q', rfl, rfl⟩
        | none, _, hf => cases hf
        | some _, none, hf => cases hf
      have e1 := hxo _ rfl; have e2 := hyo _ rfl
      subst e1; subst e2
      cases c with
      | lt => exact ⟨.float k p, w.drawn, hex _ _ (by simp [Builtin.min2, ho, hf]), p, rfl, h2, by simp only [fmin, hf]⟩
      | gt => exact ⟨.float k q, w.drawn, hex _ _ (by simp [Builtin.min2, ho, hf]), q, rfl, g2, by simp only [fmin, hf]⟩
      | eq =>
        refine ⟨.float k (if (k.decode p).neg then p else q), w.drawn, hex _ _ (by simp [Builtin.min2, ho, hf]), _, rfl, by split <;> assumption, ?_⟩
        simp only [fmin, hf, Option.bind_some]
        cases (k.decode p).neg <;> rfl
theorem LR_fmx {x y : Operand} {t1 t2 : TypeId} {ty : TypeId} {pos : String} {after : Array Edge} {d : Nat} {rx ry : List (Nat × TV)} {k : FloatKind} {o1 o2 : Option Nat} (hx : OpAt x (.inl (fl k o1)) rx) (hy : OpAt y (.inl (fl k o2)) ry) (hn : Nat.blt d n = true) :
    LR P n ops ⟨some d, .call ⟨.builtin .max, #[x, y], #[t1, t2]⟩, ty, pos, after, none⟩ ⟨rx ++ ry, [], []⟩ ⟨[(d, .inl (fl k (fmax k o1 o2)))], []⟩ :=
  LR_valD hn fun B bn s a w hs h => by
    have h0 := SatT_append.1 hs.1
    obtain ⟨p, h1, h2, h3⟩ := hx B bn s a w h0.1 h
    obtain ⟨q, g1, g2, g3⟩ := hy B bn s a w h0.2 h
    have ho := ford_of h3 g3
    have hex : ∀ v m, (Builtin.max2 (.float k p) (.float k q)).run P w = .ok v { w with drawn := m } → (execOp a.eval ⟨some d, .call ⟨.builtin .max, #[x, y], #[t1, t2]⟩, ty, pos, after, none⟩).run P w = .ok (.value v) { w with drawn := m } := fun v m hv => by
      simp only [execOp, resolve]
      rw [Sem.run_bind]
      simp only [Sem.run_pure, Result.andThen_ok, invoke]
      have : (#[x, y].map a.eval) = #[.float k p, .float k q] := by simp [h1, g1]
      rw [this]
      show (do pure (Next.value (← (Builtin.max2 (.float k p) (.float k q) >>= pure))) : Sem Next).run P w = _
      rw [Sem.run_bind, Sem.run_bind, hv]; rfl
    have hxo : ∀ z, o1 = some z → p = z := fun z e => by subst e; exact h3
    have hyo : ∀ z, o2 = some z → q = z := fun z e => by subst e; exact g3
    cases hf : ford k o1 o2 with
    | none =>
      obtain ⟨r, m, e1, e2, e3⟩ := run_askNaN (P := P) (asks_mm k true p q) w
      refine ⟨.float k r, m, hex _ _ ?_, r, rfl, e2, ?_⟩
      · rw [← e1]; simp [Builtin.max2, ho, hf]
      · simp only [fmax, hf]; exact e3
    | some c =>
      obtain ⟨p', q', rfl, rfl⟩ : ∃ p' q', o1 = some p' ∧ o2 = some q' := by
        match o1, o2, hf with
        | some p', some q', _ => exact ⟨p', q', rfl, rfl⟩
        | none, _, hf => cases hf
        | some _, none, hf => cases hf
      have e1 := hxo _ rfl; have e2 := hyo _ rfl
      subst e1; subst e2
      cases c with
      | lt => exact ⟨.float k q, w.drawn, hex _ _ (by simp [Builtin.max2, ho, hf]), q, rfl, g2, by simp only [fmax, hf]⟩
      | gt => exact ⟨.float k p, w.drawn, hex _ _ (by simp [Builtin.max2, ho, hf]), p, rfl, h2, by simp only [fmax, hf]⟩
      | eq =>
        refine ⟨.float k (if (k.decode p).neg then q else p), w.drawn, hex _ _ (by simp [Builtin.max2, ho, hf]), _, rfl, by split <;> assumption, ?_⟩
        simp only [fmax, hf, Option.bind_some]
        cases (k.decode p).neg <;> rfl

theorem AW_condC {B : Base} {Q : Exit → St → Prop} {s : St} {x y : Code} {b : Bool} (ht : b = true → AW P B x Q s) (hf : b = false → AW P B y Q s) : AW P B (.cond (.const (.bool b)) x y) Q s :=
  fun a w hr => wp_cond_split (show a.eval (.const (.bool b)) = .bool b from rfl) (fun h => ht h a w hr) (fun h => hf h a w hr)
end
end Go.Aw
