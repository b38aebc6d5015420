/-
  Plain tools: loops by an invariant, wraps that do nothing, values of limbs.
-/
import Derived.Test.YfwaawGreatNum
namespace Go.Proofs.YfwaawGreat
open Go.Aw

theorem iter_inv {σ ρ : Type} {L : σ → Option (σ ⊕ ρ)} (I : σ → Prop) (μ : σ → Nat) (Post : ρ → Prop)
    (step : ∀ x, I x → (∃ x', L x = some (.inl x') ∧ I x' ∧ μ x' < μ x) ∨ (∃ y, L x = some (.inr y) ∧ Post y)) :
    ∀ (N : Nat) (x : σ), I x → μ x < N → ∃ y, iterL L N x = some y ∧ Post y
  | 0, _, _, h => by omega
  | N + 1, x, hI, h => by
    rcases step x hI with ⟨x', e, hI', hm⟩ | ⟨y, e, hp⟩
    · obtain ⟨y, h1, h2⟩ := iter_inv I μ Post step N x' hI' (by omega)
      exact ⟨y, by simp only [iterL, e]; exact h1, h2⟩
    · exact ⟨y, by simp only [iterL, e], hp⟩

theorem bt {c : Bool} {α : Type} {a b : α} (h : c = true) : (bif c then a else b) = a := by rw [h]; rfl
theorem bf {c : Bool} {α : Type} {a b : α} (h : c = false) : (bif c then a else b) = b := by rw [h]; rfl

/-- The number that n limbs spell. -/
def vl : Nat → (Nat → BitVec 32) → Nat
  | 0, _ => 0
  | n + 1, f => vl n f + (f n).toNat * 2 ^ (32 * n)
def vN (x : NS (BitVec 32)) : Nat := vl x.2.1 x.2.2
/-- No zero limb at the top; zero is nil. -/
def NN (x : NS (BitVec 32)) : Prop := (x.1 = true ∧ x.2.1 = 0) ∨ (x.1 = false ∧ 0 < x.2.1 ∧ x.2.2 (x.2.1 - 1) ≠ 0#32)
/-- A slice as it can be: a nil one has no length. -/
def OKs (x : NS (BitVec 32)) : Prop := x.1 = true → x.2.1 = 0

theorem NN.ok {x : NS (BitVec 32)} (h : NN x) : OKs x := fun e => by
  rcases h with h | h
  · exact h.2
  · rw [h.1] at e; cases e

theorem vl_congr {f g : Nat → BitVec 32} : ∀ {n : Nat}, (∀ i, i < n → f i = g i) → vl n f = vl n g
  | 0, _ => rfl
  | n + 1, h => by rw [vl, vl, vl_congr fun i hi => h i (by omega), h n (by omega)]
theorem vl_lt {f : Nat → BitVec 32} : ∀ {n : Nat}, vl n f < 2 ^ (32 * n)
  | 0 => by simp [vl]
  | n + 1 => by
    have h := vl_lt (f := f) (n := n)
    have hf := (f n).isLt
    rw [vl, Nat.mul_add, Nat.pow_add]
    have : (f n).toNat * 2 ^ (32 * n) ≤ (2 ^ 32 - 1) * 2 ^ (32 * n) := Nat.mul_le_mul_right _ (by omega)
    have e : 2 ^ (32 * n) * 2 ^ 32 = (2 ^ 32 - 1) * 2 ^ (32 * n) + 2 ^ (32 * n) := by
      rw [Nat.mul_comm, ← Nat.succ_mul]
    have e2 : 32 * 1 = 32 := rfl
    rw [e2]
    omega
theorem NN.ge {x : NS (BitVec 32)} (h : NN x) (hp : 0 < x.2.1) : 2 ^ (32 * (x.2.1 - 1)) ≤ vN x := by
  rcases h with h | ⟨_, _, h⟩
  · omega
  · obtain ⟨n, hn⟩ : ∃ n, x.2.1 = n + 1 := ⟨x.2.1 - 1, by omega⟩
    unfold vN
    rw [hn, vl]
    rw [hn] at h
    simp only [Nat.add_sub_cancel] at h ⊢
    have : 1 ≤ (x.2.2 n).toNat := by
      rcases Nat.eq_zero_or_pos (x.2.2 n).toNat with h0 | h0
      · exact (h (BitVec.eq_of_toNat_eq (by simpa using h0))).elim
      · exact h0
    have := Nat.mul_le_mul_right (2 ^ (32 * n)) this
    omega
theorem NN.zero {x : NS (BitVec 32)} (h : NN x) : vN x = 0 ↔ x.2.1 = 0 := by
  constructor
  · intro e
    rcases Nat.eq_zero_or_pos x.2.1 with h0 | h0
    · exact h0
    · have := h.ge h0
      have hp : 0 < 2 ^ (32 * (x.2.1 - 1)) := Nat.two_pow_pos _
      omega
  · intro e; unfold vN; rw [e]; rfl
theorem pow_gap (e : Nat) {k : Nat} (h : 2 ^ k < 2 ^ e) : k < e := (Nat.pow_lt_pow_iff_right (by decide : 1 < 2)).1 h
theorem lim_pow {k : Nat} (h : 2 ^ k < Lim) : k < 1048576 := by
  unfold Lim at h
  exact pow_gap _ h
/-- Few limbs. -/
theorem NN.len {x : NS (BitVec 32)} (h : NN x) (hl : vN x < Lim) : x.2.1 ≤ 32768 := by
  rcases Nat.eq_zero_or_pos x.2.1 with h0 | h0
  · omega
  · have := h.ge h0
    have h2 : 2 ^ (32 * (x.2.1 - 1)) < Lim := Nat.lt_of_le_of_lt this hl
    have := lim_pow h2
    omega

/-! ### trim -/
theorem vl_drop {f : Nat → BitVec 32} {m : Nat} : ∀ {n : Nat}, m ≤ n → (∀ i, m ≤ i → i < n → f i = 0#32) → vl n f = vl m f
  | 0, h, _ => by have : m = 0 := by omega
                  subst this; rfl
  | n + 1, h, hz => by
    rcases Nat.lt_or_ge n m with h' | h'
    · have : m = n + 1 := by omega
      subst this; rfl
    · rw [vl, hz n h' (by omega), vl_drop h' fun i h1 h2 => hz i h1 (by omega)]
      simp

/-- What trim gives. -/
structure Trim (a r : NS (BitVec 32)) : Prop where
  nn : NN r
  val : vN r = vN a
  le : r.2.1 ≤ a.2.1
  get : ∀ i, i < r.2.1 → r.2.2 i = a.2.2 i

theorem F33_ok {N : Nat} {a : NS (BitVec 32)} (ho : OKs a) (hl : a.2.1 < 2147483648) (hN : a.2.1 < N) : ∃ r, F33 N a = some r ∧ Trim a r := by
  unfold F33 F33_1
  refine iter_inv (I := fun n : Int => 0 ≤ n ∧ n ≤ (a.2.1 : Int) ∧ ∀ i : Nat, n ≤ i → i < a.2.1 → a.2.2 i = 0#32) (μ := fun n => n.toNat) (Post := Trim a) ?_ N _ ⟨by omega, by omega, fun i h1 h2 => by omega⟩ (by simpa using hN)
  rintro n ⟨h0, h1, hz⟩
  simp only [F33_L4, F33_L4b, F33_5]
  by_cases hp : n > 0
  · have hw : w64 (n - 1) = n - 1 := w64_id (by omega)
    rw [bt (by simpa using hp), hw, bt (by simp; omega)]
    cases hb : (a.2.2 (n - 1).toNat == 0#32) with
    | true =>
      left
      refine ⟨n - 1, rfl, ⟨by omega, by omega, fun i h2 h3 => ?_⟩, by omega⟩
      rcases Int.lt_or_le (i : Int) n with h4 | h4
      · have : i = (n - 1).toNat := by omega
        rw [this]; simpa using hb
      · exact hz i h4 h3
    | false =>
      right
      refine ⟨(a.1, n.toNat, fun m => a.2.2 (0 + m)), ?_, ?_⟩
      · simp only [cond_false, F33_2, F33_3]
        rw [bf (by simpa using (show n ≠ 0 by omega)), bt (by simp; omega)]
        rfl
      · have hnz : a.2.2 (n - 1).toNat ≠ 0#32 := by simpa using hb
        have hlt : n.toNat ≤ a.2.1 := by omega
        refine ⟨.inr ⟨?_, by show 0 < n.toNat; omega, ?_⟩, ?_, hlt, fun i _ => by show a.2.2 (0 + i) = _; rw [Nat.zero_add]⟩
        · cases he : a.1 with
          | false => rfl
          | true => have := ho he; omega
        · show a.2.2 (0 + (n.toNat - 1)) ≠ _
          rw [show 0 + (n.toNat - 1) = (n - 1).toNat from by omega]; exact hnz
        · show vl n.toNat _ = vl _ _
          rw [vl_drop (f := a.2.2) hlt fun i h2 h3 => hz i (by omega) h3]
          exact vl_congr fun i _ => by show a.2.2 (0 + i) = _; rw [Nat.zero_add]
  · have hn : n = 0 := by omega
    subst hn
    right
    rw [bf (by simp)]
    refine ⟨(true, 0, fun _ => 0#32), ?_, .inl ⟨rfl, rfl⟩, ?_, Nat.zero_le _, fun i hi => by have : i < 0 := hi; omega⟩
    · simp [F33_2, F33_3]
    · show 0 = vl _ _
      rw [vl_drop (m := 0) (Nat.zero_le _) fun i _ h3 => hz i (by omega) h3]; rfl
end Go.Proofs.YfwaawGreat
