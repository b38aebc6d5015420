/-
  Texts read: runes and bytes; the pieces of the models.
-/
import Derived.Test.YfwaawGreatH1
import Derived.Test.YfwaawGreatG20
import Derived.Test.YfwaawGreatG21
import Derived.Test.YfwaawGreatG52
namespace Go.Proofs.YfwaawGreat
open Go.Aw
set_option linter.unusedVariables false
set_option linter.unusedSimpArgs false

/-- A rune and the byte it begins with. -/
def RC (r : Int) (c : Nat) : Prop := (c < 128 ∧ r = c) ∨ (128 ≤ c ∧ 128 ≤ r ∧ r < 2147483648)
theorem getE {t : List UInt8} {p : Nat} {c : UInt8} (h : t[p]? = some c) : ∃ hp : p < (⟨t.toArray⟩ : ByteArray).size, (⟨t.toArray⟩ : ByteArray)[p]'hp = c := by
  obtain ⟨hp, he⟩ := List.getElem?_eq_some_iff.1 h
  exact ⟨hp, he⟩
theorem rune_rc {t : List UInt8} {p : Nat} {c : UInt8} (h : t[p]? = some c) : RC (runeAt t p) c.toNat := by
  obtain ⟨hp, he⟩ := getE h
  unfold runeAt
  by_cases hc : c.toNat < 128
  · left
    refine ⟨hc, ?_⟩
    rw [Go.decode_ascii _ p hp (by rw [he]; exact hc), he]
  · right
    have h1 := (Go.decode_high _ p hp (by rw [he]; omega)).1
    have h2 := Go.decode_le ⟨t.toArray⟩ p
    omega
theorem nxt_ascii {t : List UInt8} {p : Nat} {c : UInt8} (h : t[p]? = some c) (hc : c.toNat < 128) : nxt t p = p + 1 := by
  obtain ⟨hp, he⟩ := getE h
  unfold nxt
  have hp' : p < t.length := hp
  rw [bt (by simpa [Nat.blt_eq] using hp'), Go.decode_ascii _ p hp (by rw [he]; exact hc)]
theorem decode_drop (t : List UInt8) (p : Nat) : Utf8.decode ⟨(t.drop p).toArray⟩ 0 = Utf8.decode ⟨t.toArray⟩ p := by
  have h1 : ∀ k, (ByteArray.mk (t.drop p).toArray).get! k = (ByteArray.mk t.toArray).get! (p + k) := by
    intro k
    show (t.drop p).toArray[k]! = t.toArray[p + k]!
    simp [Array.getElem!_eq_getD]
  have h2 : ∀ k, decide (k < (ByteArray.mk (t.drop p).toArray).size) = decide (p + k < (ByteArray.mk t.toArray).size) := by
    intro k
    refine decide_eq_decide.2 ?_
    show k < (t.drop p).length ↔ p + k < t.length
    rw [List.length_drop]; omega
  unfold Utf8.decode
  simp only [Nat.zero_add, h1, h2]
theorem runeAt_drop (t : List UInt8) (p : Nat) : runeAt (t.drop p) 0 = runeAt t p := by
  unfold runeAt; rw [decode_drop]

section
variable {r : Int} {c : Nat}
theorem RC.beq (h : RC r c) (k : Nat) (hk : k < 128) : (r == (k : Int)) = (c == k) := by
  rcases h with ⟨h1, h2⟩ | ⟨h1, h2, h3⟩
  · rw [h2]
    cases hx : c == k with
    | true => rw [beq_iff_eq] at hx; rw [hx]; simp
    | false => rw [beq_eq_false_iff_ne] at hx ⊢; omega
  · rw [beq_eq_false_iff_ne.2 (by omega : r ≠ (k : Int)), beq_eq_false_iff_ne.2 (by omega : c ≠ k)]
theorem RC.le (h : RC r c) (k : Nat) (hk : k < 128) : decide ((k : Int) ≤ r) = decide (k ≤ c) := by
  refine decide_eq_decide.2 ?_
  rcases h with ⟨h1, h2⟩ | ⟨h1, h2, h3⟩ <;> omega
theorem RC.ge (h : RC r c) (k : Nat) (hk : k < 128) : decide (r ≤ (k : Int)) = decide (c ≤ k) := by
  refine decide_eq_decide.2 ?_
  rcases h with ⟨h1, h2⟩ | ⟨h1, h2, h3⟩ <;> omega
end
/-- Upper and lower case. -/
theorem RC.low {r : Int} {c : UInt8} (h : RC r c.toNat) : RC (w32 ((BitVec.ofInt 32 r ||| BitVec.ofInt 32 32).toNat : Int)) (c ||| 32).toNat := by
  rcases h with ⟨h1, h2⟩ | ⟨h1, h2, h3⟩
  · have key : ∀ d : Fin 128, (BitVec.ofInt 32 (d.val : Int) ||| BitVec.ofInt 32 32).toNat = (UInt8.ofNat d.val ||| 32).toNat ∧ (UInt8.ofNat d.val ||| 32).toNat < 128 := by decide
    have k1 := key ⟨c.toNat, h1⟩
    have e : UInt8.ofNat c.toNat = c := by simp
    simp only [e] at k1
    rw [h2, k1.1, w32_id (by omega)]
    exact Or.inl ⟨k1.2, rfl⟩
  · right
    obtain ⟨n, rfl⟩ : ∃ n : Nat, r = n := ⟨r.toNat, by omega⟩
    have e1 : (BitVec.ofInt 32 (n : Int)).toNat = n := by
      rw [BitVec.toNat_ofInt]; omega
    have hlt : n ||| 32 < 2 ^ 31 := Nat.or_lt_two_pow (by omega) (by decide)
    have hge : n ≤ n ||| 32 := Nat.left_le_or
    have e2 : (BitVec.ofInt 32 (n : Int) ||| BitVec.ofInt 32 32).toNat = n ||| 32 := by
      rw [BitVec.toNat_or, e1]; rfl
    rw [e2, w32_id (by omega)]
    refine ⟨?_, by omega, by omega⟩
    rw [UInt8.toNat_or]
    have : c.toNat ≤ c.toNat ||| (32 : UInt8).toNat := Nat.left_le_or
    omega
theorem u8_beq (c : UInt8) (k : Nat) (hk : k < 256) : (c.toBitVec == BitVec.ofNat 8 k) = (c.toNat == k) := by
  have hb : c.toNat < 256 := c.toNat_lt
  cases hx : c.toNat == k with
  | true =>
    rw [beq_iff_eq] at hx
    rw [beq_iff_eq]
    apply BitVec.eq_of_toNat_eq
    rw [BitVec.toNat_ofNat]
    show c.toNat = _
    omega
  | false =>
    rw [beq_eq_false_iff_ne] at hx ⊢
    intro he
    have := congrArg BitVec.toNat he
    rw [BitVec.toNat_ofNat] at this
    have h2 : c.toNat = k % 2 ^ 8 := this
    omega

/-- Where a text goes wrong. -/
def wrg (t : List UInt8) (p : Nat) : BitVec 8 × Bool × List UInt8 × Int × Int × Int := (3#8, false, [], 0, (p : Int), if p < t.length then runeAt t p else -1)
theorem tk_all (t : List UInt8) (p : Nat) : (t.drop p).take (t.length - p) = t.drop p := by
  rw [List.take_of_length_le]; rw [List.length_drop]; omega
theorem F380_ok {N : Nat} (hN : 1 ≤ N) {t : List UInt8} {p : Nat} (hp : p ≤ t.length) : F380 N t (p : Int) = some (wrg t p) := by
  obtain ⟨M, rfl⟩ : ∃ M, N = M + 1 := ⟨N - 1, by omega⟩
  unfold F380
  rw [bt (by simp only [Bool.and_eq_true, decide_eq_true_eq]; omega)]
  unfold iterL F380_L1 F380_L1b F380_2 F380_3
  simp only [Int.toNat_natCast, tk_all, runeAt_drop, List.length_drop]
  unfold wrg
  by_cases h : p < t.length
  · rw [show Nat.blt 0 (t.length - p) = true from by simp [Nat.blt_eq]; omega, if_pos h]; rfl
  · rw [show Nat.blt 0 (t.length - p) = false from by rw [show t.length - p = 0 from by omega]; rfl, if_neg h]; rfl
theorem F376_ok {N : Nat} (hN : 1 ≤ N) {t : List UInt8} {p : Nat} (hp : p ≤ t.length) : F376 N t (p : Int) = some (wrg t p) := by
  obtain ⟨M, rfl⟩ : ∃ M, N = M + 1 := ⟨N - 1, by omega⟩
  unfold F376
  rw [bt (by simp only [Bool.and_eq_true, decide_eq_true_eq]; omega)]
  unfold iterL F376_L1 F376_L1b F376_2 F376_3
  simp only [Int.toNat_natCast, tk_all, runeAt_drop, List.length_drop]
  unfold wrg
  by_cases h : p < t.length
  · rw [show Nat.blt 0 (t.length - p) = true from by simp [Nat.blt_eq]; omega, if_pos h]; rfl
  · rw [show Nat.blt 0 (t.length - p) = false from by rw [show t.length - p = 0 from by omega]; rfl, if_neg h]; rfl

/-- A piece up to the first byte that satisfies q. -/
def cutB (q : UInt8 → Bool) : List UInt8 → List UInt8 × Option (List UInt8)
  | [] => ([], none)
  | c :: s => bif q c then ([], some s) else ((c :: (cutB q s).1), (cutB q s).2)
theorem cutB_eq (q : UInt8 → Bool) : ∀ s, (∃ c v, q c = true ∧ (cutB q s).2 = some v ∧ s = (cutB q s).1 ++ c :: v ∧ ∀ d ∈ (cutB q s).1, q d = false) ∨ ((cutB q s).2 = none ∧ (cutB q s).1 = s ∧ ∀ d ∈ s, q d = false)
  | [] => Or.inr ⟨rfl, rfl, fun d hd => by cases hd⟩
  | c :: s => by
    unfold cutB
    cases hq : q c with
    | true => exact Or.inl ⟨c, s, hq, rfl, rfl, fun d hd => by cases hd⟩
    | false =>
      rcases cutB_eq q s with ⟨c', v, h1, h2, h3, h4⟩ | ⟨h1, h2, h3⟩
      · refine Or.inl ⟨c', v, h1, h2, ?_, ?_⟩
        · show c :: s = (c :: (cutB q s).1) ++ c' :: v
          rw [List.cons_append, ← h3]
        · intro d hd
          rcases List.mem_cons.1 hd with k | k
          · rw [k]; exact hq
          · exact h4 d k
      · refine Or.inr ⟨h1, ?_, ?_⟩
        · show c :: (cutB q s).1 = c :: s
          rw [h2]
        · intro d hd
          rcases List.mem_cons.1 hd with k | k
          · rw [k]; exact hq
          · exact h3 d k
end Go.Proofs.YfwaawGreat
