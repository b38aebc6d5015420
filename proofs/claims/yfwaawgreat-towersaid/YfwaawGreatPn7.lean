/-
  Package nat, its plain part: long division, the whole; the square root.
-/
import Derived.Test.YfwaawGreatPn6
namespace Go.Proofs.YfwaawGreat
open Go.Aw
set_option linter.unusedVariables false
set_option linter.unusedSimpArgs false

theorem sub32 (x y : BitVec 32) : (x - y).toNat = (4294967296 - y.toNat + x.toNat) % 4294967296 := by rw [BitVec.toNat_sub]
theorem vl_split {f : Nat → BitVec 32} {j : Nat} : ∀ k, vl (j + k) f = vl j f + vl k (win j f) * 2 ^ (32 * j)
  | 0 => by simp [vl]
  | k + 1 => by
    rw [← Nat.add_assoc, vl, vl, vl_split k, Nat.mul_add 32 j k, Nat.pow_add]
    show _ + (f (j + k)).toNat * _ = _ + (_ + (f (j + k)).toNat * _) * _
    grind
theorem vl_low {f : Nat → BitVec 32} {j n : Nat} (h : j ≤ n) : vl n f % 2 ^ (32 * j) = vl j f :=
  (vl_mod fun i hi => (limb_get (by omega)).symm).symm
theorem high_zero {f : Nat → BitVec 32} {n k : Nat} (h : vl n f < 2 ^ (32 * k)) {i : Nat} (h1 : k ≤ i) (h2 : i < n) : f i = 0#32 := by
  have := limb_get (f := f) h2
  have h3 : vl n f < 2 ^ (32 * i) := Nat.lt_of_lt_of_le h (Nat.pow_le_pow_right (by decide) (by omega))
  rw [Nat.div_eq_of_lt h3] at this
  exact BitVec.eq_of_toNat_eq (by rw [← this]; rfl)
/-- The three top limbs. -/
theorem top3 {f : Nat → BitVec 32} {n : Nat} : vl (n + 3) f = (((f (n + 2)).toNat * 4294967296 + (f (n + 1)).toNat) * 4294967296 + (f n).toNat) * 2 ^ (32 * n) + vl n f := by
  rw [vl, vl, vl, pow32_succ (n + 1), pow32_succ n]; grind
theorem top2 {f : Nat → BitVec 32} {n : Nat} : vl (n + 2) f = ((f (n + 1)).toNat * 4294967296 + (f n).toNat) * 2 ^ (32 * n) + vl n f := by
  rw [vl, vl, pow32_succ n]; grind

/-- One digit of the long division: what the window holds afterwards, and the digit. -/
theorem digit_step {N m o c n : Nat} {w : Nat → BitVec 32} {d : NS (BitVec 32)} (hn : d.2.1 = n + 2) (hm : o + (n + 3) ≤ m) (hl : m < 1073741824) (htop : 2147483648 ≤ (d.2.2 (n + 1)).toNat)
    (hW : vl (n + 3) (win o w) < vN d * 4294967296) (hN : 4294967300 < N) (hN2 : m < N) :
    ∃ r, F124 N (w (o + (n + 2))) (w (o + (n + 1))) (w (o + n)) (d.2.2 (n + 1)) (d.2.2 n) = some r ∧
      ∃ b w1, F125 N m o (n + 3) c w d r = some (b, w1) ∧
        ((b = false ∧ r.toNat = vl (n + 3) (win o w) / vN d ∧ vl (n + 3) (win o w1) = vl (n + 3) (win o w) % vN d ∧ ∀ i, (i < o ∨ o + (n + 3) ≤ i) → w1 i = w i) ∨
         (b = true ∧ (r - 1#32).toNat = vl (n + 3) (win o w) / vN d ∧ ∃ w2, F126 N m o (n + 3) c w1 d = some w2 ∧ vl (n + 3) (win o w2) = vl (n + 3) (win o w) % vN d ∧ ∀ i, (i < o ∨ o + (n + 3) ≤ i) → w2 i = w i)) := by
  have hD : vN d = ((d.2.2 (n + 1)).toNat * 4294967296 + (d.2.2 n).toNat) * 2 ^ (32 * n) + vl n d.2.2 := by
    unfold vN; rw [hn, top2]
  have hWv := top3 (f := win o w) (n := n)
  have hp : 0 < 2 ^ (32 * n) := Nat.two_pow_pos _
  have hlw := vl_lt (f := win o w) (n := n)
  have hld := vl_lt (f := d.2.2) (n := n)
  have e2 : win o w (n + 2) = w (o + (n + 2)) := rfl
  have e1 : win o w (n + 1) = w (o + (n + 1)) := rfl
  have e0 : win o w n = w (o + n) := rfl
  rw [e2, e1, e0] at hWv
  obtain ⟨T, hT⟩ : ∃ T, ((w (o + (n + 2))).toNat * 4294967296 + (w (o + (n + 1))).toNat) * 4294967296 + (w (o + n)).toNat = T := ⟨_, rfl⟩
  obtain ⟨E, hE⟩ : ∃ E, (d.2.2 (n + 1)).toNat * 4294967296 + (d.2.2 n).toNat = E := ⟨_, rfl⟩
  rw [hT] at hWv
  rw [hE] at hD
  have hdp : 0 < vN d := by
    have : 1 * 2 ^ (32 * n) ≤ E * 2 ^ (32 * n) := Nat.mul_le_mul_right _ (by omega)
    omega
  have hTE : T < (E + 1) * 4294967296 := by
    have h1 : T * 2 ^ (32 * n) < (E + 1) * 4294967296 * 2 ^ (32 * n) := by
      have h2 : vN d < (E + 1) * 2 ^ (32 * n) := by rw [hD, Nat.add_mul, Nat.one_mul]; omega
      have h3 : vN d * 4294967296 < (E + 1) * 2 ^ (32 * n) * 4294967296 := Nat.mul_lt_mul_of_pos_right h2 (by decide)
      have h4 : (E + 1) * 2 ^ (32 * n) * 4294967296 = (E + 1) * 4294967296 * 2 ^ (32 * n) := by grind
      omega
    exact Nat.lt_of_mul_lt_mul_right h1
  have hu : (w (o + (n + 2))).toNat ≤ (d.2.2 (n + 1)).toNat := by
    have := bv32 (d.2.2 n)
    omega
  obtain ⟨r, er, hr1, hr2⟩ := F124_ok (N := N) hT hE htop hu hN
  refine ⟨r, er, ?_⟩
  have hrlt := bv32 r
  have near := guess_near hp hlw hld hWv hD (by omega) hW hrlt hr1 hr2
  obtain ⟨b, w1, eb, hout, hval⟩ := F125_ok (N := N) (m := m) (o := o) (l := n + 3) (c := c) (w := w) (d := d) (g := r) (by omega) hm (by omega) (by omega)
  refine ⟨b, w1, eb, ?_⟩
  have hWlt := vl_lt (f := win o w) (n := n + 3)
  have hw1lt := vl_lt (f := win o w1) (n := n + 3)
  generalize hWg : vl (n + 3) (win o w) = W at *
  have hdm := Nat.div_add_mod W (vN d)
  have hml := Nat.mod_lt W hdp
  cases b with
  | false =>
    left
    simp only [cond_false, Nat.zero_mul, Nat.add_zero] at hval
    rcases near with h | h
    · refine ⟨rfl, h, ?_, hout⟩
      rw [h, Nat.mul_comm] at hval; omega
    · exfalso
      rw [h, Nat.add_mul, Nat.one_mul, Nat.mul_comm] at hval; omega
  | true =>
    right
    simp only [cond_true, Nat.one_mul] at hval
    rcases near with h | h
    · exfalso
      rw [h, Nat.mul_comm] at hval; omega
    · refine ⟨rfl, ?_, ?_⟩
      · rw [sub32, show (1#32).toNat = 1 from rfl, h]
        generalize W / vN d = Q at *
        omega
      · obtain ⟨w2, k, ew, hout2, hk, hval2⟩ := F126_ok (N := N) (m := m) (o := o) (l := n + 3) (c := c) (w := w1) (d := d) (by omega) hm (by omega) (by omega)
        have hw2lt := vl_lt (f := win o w2) (n := n + 3)
        refine ⟨w2, ew, ?_, fun i hi => by rw [hout2 i hi, hout i hi]⟩
        have hk' : k = 0 ∨ k = 1 := by omega
        rw [h, Nat.add_mul, Nat.one_mul, Nat.mul_comm] at hval
        rcases hk' with hk' | hk' <;> subst hk'
        · rw [Nat.zero_mul] at hval2
          exfalso; omega
        · rw [Nat.one_mul] at hval2; omega

set_option maxHeartbeats 1000000 in
theorem F63_ok {N : Nat} {a b : NS (BitVec 32)} {n : Nat} (ha : NN a) (hb : NN b) (hn : b.2.1 = n + 2) (hle : vN b ≤ vN a) (hl : a.2.1 < 1000000) (hN : 4294967300 < N) :
    ∃ q r, F63 N a b = some (q, r) ∧ NN q ∧ NN r ∧ vN q = vN a / vN b ∧ vN r = vN a % vN b := by
  have hba : b.2.1 ≤ a.2.1 := by
    rcases Nat.lt_or_ge a.2.1 b.2.1 with h | h
    · have := len_lt (x := a) hb h; omega
    · exact h
  have htop : (b.2.2 (n + 1)).toNat ≠ 0 := by
    rcases hb with ⟨_, h⟩ | ⟨_, _, h⟩
    · omega
    · rw [hn] at h
      exact fun e => h (BitVec.eq_of_toNat_eq (by simpa using e))
  unfold F63 F63_1
  rw [w64_id (by omega), hn, bt (by simp; omega), show ((n + 2 : Nat) : Int) - 1 = ((n + 1 : Nat) : Int) from by omega]
  simp only [Int.toNat_natCast]
  rw [F59_ok _ (by omega)]
  simp only [Option.bind_some, F63_2]
  have hbl : blen (b.2.2 (n + 1)).toNat ≤ 32 := blen_le_iff.2 (b.2.2 (n + 1)).isLt
  have hblp := blen_pos htop
  rw [w64_id (by omega)]
  obtain ⟨s, hs⟩ : ∃ s : Nat, (32 : Int) - (blen (b.2.2 (n + 1)).toNat : Int) = (s : Int) := ⟨32 - blen (b.2.2 (n + 1)).toNat, by omega⟩
  rw [hs]
  have hs31 : s ≤ 31 := by omega
  -- the divisor, lifted
  obtain ⟨d, ed, hdn, hdv⟩ := F64_ok (N := N) (a := b) (k := (s : Int)) hb.ok (by omega) (by omega) (by simp only [Int.toNat_natCast]; omega)
  simp only [Int.toNat_natCast] at hdv
  rw [ed]
  simp only [Option.bind_some]
  have hbB := blen_top (x := b) (n := n + 1) hn htop
  have hbB0 : vN b ≠ 0 := by
    intro h
    rw [h, blen_zero] at hbB
    omega
  have hB1 : 2 ^ (32 * n + 63 - s) ≤ vN b := by
    have := blen_le hbB0
    rw [hbB] at this
    rw [show 32 * n + 63 - s = 32 * (n + 1) + blen (b.2.2 (n + 1)).toNat - 1 from by omega]; exact this
  have hB2 : vN b < 2 ^ (32 * n + 64 - s) := by
    have := blen_lt (vN b)
    rw [hbB] at this
    rw [show 32 * n + 64 - s = 32 * (n + 1) + blen (b.2.2 (n + 1)).toNat from by omega]; exact this
  have hD1 : 2 ^ (32 * n + 63) ≤ vN d := by
    rw [hdv]
    have := Nat.mul_le_mul_right (2 ^ s) hB1
    rw [← Nat.pow_add, show 32 * n + 63 - s + s = 32 * n + 63 from by omega] at this; exact this
  have hD2 : vN d < 2 ^ (32 * n + 64) := by
    rw [hdv]
    have := Nat.mul_lt_mul_of_pos_right hB2 (Nat.two_pow_pos s)
    rw [← Nat.pow_add, show 32 * n + 64 - s + s = 32 * n + 64 from by omega] at this; exact this
  have hdl : d.2.1 = n + 2 := by
    have h1 : d.2.1 ≤ n + 2 := len_of_lt hdn (by rw [show 32 * (n + 2) = 32 * n + 64 from by omega]; exact hD2)
    have h2 := vN_lt (y := d)
    have h3 := pow_gap _ (Nat.lt_of_le_of_lt hD1 h2)
    omega
  have hdtop : 2147483648 ≤ (d.2.2 (n + 1)).toNat := by
    have h1 : vN d = (d.2.2 (n + 1)).toNat * 2 ^ (32 * (n + 1)) + vl (n + 1) d.2.2 := by unfold vN; rw [hdl, vl, Nat.add_comm]
    have h2 := vl_lt (f := d.2.2) (n := n + 1)
    have h3 : 2 ^ (32 * n + 63) = 2147483648 * 2 ^ (32 * (n + 1)) := by
      rw [show 32 * n + 63 = 31 + 32 * (n + 1) from by omega, Nat.pow_add]
    have h4 : 2147483648 * 2 ^ (32 * (n + 1)) < ((d.2.2 (n + 1)).toNat + 1) * 2 ^ (32 * (n + 1)) := by
      rw [Nat.add_mul, Nat.one_mul]; omega
    have := Nat.lt_of_mul_lt_mul_right h4
    omega
  unfold F63_3
  have hwm : w64 ((a.2.1 : Int) + 1) = ((a.2.1 + 1 : Nat) : Int) := by rw [w64_id (by omega)]; omega
  rw [hwm, bt (by simp; omega)]
  unfold F63_4
  obtain ⟨u0, eu, hun, huv⟩ := F64_ok (N := N) (a := a) (k := (s : Int)) ha.ok (by omega) (by omega) (by simp only [Int.toNat_natCast]; omega)
  simp only [Int.toNat_natCast] at huv
  rw [eu]
  simp only [Option.bind_some]
  have hAlt : vN a * 2 ^ s < 2 ^ (32 * (a.2.1 + 1)) := by
    have h1 := vN_lt (y := a)
    have h2 : 2 ^ s ≤ 2 ^ 32 := Nat.pow_le_pow_right (by decide) (by omega)
    rw [pow32_succ]
    exact Nat.mul_lt_mul_of_lt_of_le h1 h2 (by decide)
  have hu0l : u0.2.1 ≤ a.2.1 + 1 := len_of_lt hun (by rw [huv]; exact hAlt)
  rw [hwm]
  simp only [Int.toNat_natCast]
  rw [bt (by simpa using hu0l)]
  unfold F63_5
  have hwq1 : w64 ((a.2.1 : Int) - ((n + 2 : Nat) : Int)) = ((a.2.1 - (n + 2) : Nat) : Int) := by rw [w64_id (by omega)]; omega
  have hwq : w64 (((a.2.1 - (n + 2) : Nat) : Int) + 1) = ((a.2.1 - (n + 2) + 1 : Nat) : Int) := by rw [w64_id (by omega)]; omega
  rw [hwq1, hwq, bt (by simp; omega)]
  unfold F63_6 F63_9
  rw [hwq1, hwq]
  simp only [Int.toNat_natCast]
  obtain ⟨p, hp⟩ : ∃ p, a.2.1 = n + 2 + p := ⟨a.2.1 - (n + 2), by omega⟩
  have hpe : a.2.1 - (n + 2) = p := by omega
  rw [hpe] at hwq1 hwq ⊢
  rw [w64_id (by omega)]
  have hvu : vl (a.2.1 + 1) (cpy (fun _ => 0#32) u0.2.1 u0.2.2) = vN a * 2 ^ s := by
    rw [← huv, ← vl_ext0 (y := u0) (n := a.2.1 + 1) hu0l]; rfl
  have hdp : 0 < vN d := by have := Nat.two_pow_pos (32 * n + 63); omega
  have key := iter_inv (L := F63_L10 N a ((n + 2 : Nat) : Int) (s : Int) d) (I := fun v : Int × (Nat → BitVec 32) × (Nat → BitVec 32) => -1 ≤ v.1 ∧ v.1 ≤ (p : Int) ∧ vl (a.2.1 + 1) v.2.1 + vl (p + 1) v.2.2 * vN d = vN a * 2 ^ s ∧ vl (a.2.1 + 1) v.2.1 < vN d * 2 ^ (32 * (v.1 + 1).toNat) ∧ ∀ i : Nat, (i : Int) ≤ v.1 → v.2.2 i = 0#32) (μ := fun v => (v.1 + 1).toNat)
    (Post := fun r => NN r.1 ∧ NN r.2 ∧ vN r.1 = vN a / vN b ∧ vN r.2 = vN a % vN b) (by
    rintro ⟨j, u, q⟩ ⟨g0, g1, g2, g3, g4⟩
    simp only at g0 g1 g2 g3 g4 ⊢
    simp only [F63_L10, F63_L10b, F63_11]
    by_cases hj : 0 ≤ j
    · left
      obtain ⟨o, rfl⟩ : ∃ o : Nat, j = (o : Int) := ⟨j.toNat, by omega⟩
      have hw0 : w64 ((o : Int) + ((n + 2 : Nat) : Int)) = ((o + (n + 2) : Nat) : Int) := by rw [w64_id (by omega)]; omega
      have hw1 : w64 (((o + (n + 2) : Nat) : Int) - 1) = ((o + (n + 1) : Nat) : Int) := by rw [w64_id (by omega)]; omega
      have hw2 : w64 (((o + (n + 2) : Nat) : Int) - 2) = ((o + n : Nat) : Int) := by rw [w64_id (by omega)]; omega
      have hw3 : w64 (((n + 2 : Nat) : Int) - 1) = ((n + 1 : Nat) : Int) := by rw [w64_id (by omega)]; omega
      have hw4 : w64 (((n + 2 : Nat) : Int) - 2) = ((n : Nat) : Int) := by rw [w64_id (by omega)]; omega
      have hw5 : w64 (((o + (n + 2) : Nat) : Int) + 1) = ((o + (n + 3) : Nat) : Int) := by rw [w64_id (by omega)]; omega
      rw [show ((o : Int) + 1).toNat = o + 1 from by omega, pow32_succ] at g3
      rw [hwm, hw0, hw1, hw2, hw3, hw4]
      simp only [Int.toNat_natCast]
      rw [bt (by simp), bt (by simp; omega), bt (by simp; omega), bt (by simp; omega), bt (by simp; omega), bt (by simp; omega)]
      -- the window
      have hU : vl (a.2.1 + 1) u < 2 ^ (32 * (o + (n + 3))) := by
        refine Nat.lt_of_lt_of_le g3 ?_
        have h1 : vN d * (2 ^ (32 * o) * 4294967296) ≤ 2 ^ (32 * n + 64) * (2 ^ (32 * o) * 4294967296) := Nat.mul_le_mul_right _ (by omega)
        have h2 : 2 ^ (32 * (o + (n + 3))) = 2 ^ (32 * n + 64) * (2 ^ (32 * o) * 4294967296) := by
          rw [show 32 * (o + (n + 3)) = 32 * n + 64 + (32 * o + 32) from by omega, Nat.pow_add, Nat.pow_add 2 (32 * o)]
        omega
      have hlo : ∀ (f : Nat → BitVec 32), (∀ i, o + (n + 3) ≤ i → i < a.2.1 + 1 → f i = 0#32) → vl (a.2.1 + 1) f = vl o f + vl (n + 3) (win o f) * 2 ^ (32 * o) := by
        intro f hf
        rw [vl_drop (m := o + (n + 3)) (by omega) hf, vl_split]
      have hz : ∀ i, o + (n + 3) ≤ i → i < a.2.1 + 1 → u i = 0#32 := fun i h1 h2 => high_zero hU h1 h2
      have hUe := hlo u hz
      have hW : vl (n + 3) (win o u) < vN d * 4294967296 := by
        have h1 : vl (n + 3) (win o u) * 2 ^ (32 * o) < vN d * 4294967296 * 2 ^ (32 * o) := by
          have : vN d * 4294967296 * 2 ^ (32 * o) = vN d * (2 ^ (32 * o) * 4294967296) := by grind
          omega
        exact Nat.lt_of_mul_lt_mul_right h1
      obtain ⟨r, er, bo, u1, eu1, hcase⟩ := digit_step (N := N) (m := a.2.1 + 1) (o := o) (c := a.2.1 + 1 - o) (n := n) (w := u) (d := d) hdl (by omega) (by omega) hdtop hW hN (by omega)
      rw [er]
      simp only [Option.bind_some, F63_13]
      rw [hwm, hw0, hw5]
      simp only [Int.toNat_natCast]
      rw [bt (by simp; omega), bt (by simp; omega), show o + (n + 3) - o = n + 3 from by omega, eu1]
      simp only [Option.bind_some, F63_15, F63_14, F63_12, F63_16]
      rw [hwq1, hwq, hwm, hw0, hw5, w64_id (by omega)]
      simp only [Int.toNat_natCast]
      rw [show o + (n + 3) - o = n + 3 from by omega]
      -- what a round leaves
      have fin : ∀ (u2 : Nat → BitVec 32) (g : BitVec 32), g.toNat = vl (n + 3) (win o u) / vN d → vl (n + 3) (win o u2) = vl (n + 3) (win o u) % vN d → (∀ i, (i < o ∨ o + (n + 3) ≤ i) → u2 i = u i) →
          ∃ x', (bif (decide (0 ≤ (o : Int)) && decide ((o : Int) < ((p + 1 : Nat) : Int))) then (some (.inl ((o : Int) - 1, u2, upd q o g)) : Option ((Int × (Nat → BitVec 32) × (Nat → BitVec 32)) ⊕ (NS (BitVec 32) × NS (BitVec 32)))) else none) = some (.inl x') ∧ (-1 ≤ x'.1 ∧ x'.1 ≤ (p : Int) ∧ vl (a.2.1 + 1) x'.2.1 + vl (p + 1) x'.2.2 * vN d = vN a * 2 ^ s ∧ vl (a.2.1 + 1) x'.2.1 < vN d * 2 ^ (32 * (x'.1 + 1).toNat) ∧ ∀ i : Nat, (i : Int) ≤ x'.1 → x'.2.2 i = 0#32) ∧ (x'.1 + 1).toNat < ((o : Int) + 1).toNat := by
        intro u2 g hg hw hout
        rw [bt (by simp; omega)]
        have hu2 := hlo u2 fun i h1 h2 => by rw [hout i (.inr h1)]; exact hz i h1 h2
        have hlow : vl o u2 = vl o u := vl_congr fun i hi => hout i (.inl hi)
        rw [hlow, hw] at hu2
        have hdm := Nat.div_add_mod (vl (n + 3) (win o u)) (vN d)
        have hml := Nat.mod_lt (vl (n + 3) (win o u)) hdp
        have hlw := vl_lt (f := u) (n := o)
        refine ⟨_, rfl, ⟨show -1 ≤ (o : Int) - 1 by omega, show (o : Int) - 1 ≤ (p : Int) by omega, ?_, ?_, ?_⟩, show ((o : Int) - 1 + 1).toNat < _ by omega⟩
        · show vl (a.2.1 + 1) u2 + vl (p + 1) (upd q o g) * vN d = _
          have hs := vl_set (c := q) (v := g) (i := o) (n := p + 1) (by omega)
          rw [g4 o (by omega), show (0#32).toNat = 0 from rfl, Nat.zero_mul, Nat.add_zero, hg] at hs
          rw [hs, hu2, ← g2, hUe]
          generalize vl (n + 3) (win o u) % vN d = R at *
          generalize hQ : vl (n + 3) (win o u) / vN d = Q at *
          rw [← hdm]
          grind
        · show vl (a.2.1 + 1) u2 < vN d * 2 ^ (32 * ((o : Int) - 1 + 1).toNat)
          rw [show ((o : Int) - 1 + 1).toNat = o from by omega, hu2]
          have : (vl (n + 3) (win o u) % vN d + 1) * 2 ^ (32 * o) ≤ vN d * 2 ^ (32 * o) := Nat.mul_le_mul_right _ hml
          rw [Nat.add_mul, Nat.one_mul] at this
          omega
        · intro i hi
          have hi' : (i : Int) ≤ (o : Int) - 1 := hi
          show upd q o g i = _
          rw [upd_ne (by omega)]; exact g4 i (by omega)
      rcases hcase with ⟨hb', h1, h2, h3⟩ | ⟨hb', h1, w2, h2, h3, h4⟩
      · subst hb'
        rw [bf rfl]
        exact fin u1 r h1 h2 h3
      · subst hb'
        rw [bt rfl, bt (by simp; omega), bt (by simp; omega), h2]
        simp only [Option.bind_some]
        exact fin w2 _ h1 h3 h4
    · right
      rw [bf (by simp; omega)]
      unfold F63_7
      rw [show (j + 1).toNat = 0 from by omega] at g3
      simp only [Nat.mul_zero, Nat.pow_zero, Nat.mul_one] at g3
      rw [hwm]
      simp only [Int.toNat_natCast]
      have hs16 : (BitVec.ofInt 16 (s : Int)).toNat = s := by
        rw [ofInt_nat, BitVec.toNat_ofNat]; exact Nat.mod_eq_of_lt (by omega)
      obtain ⟨r, er, hr1, hr2⟩ := F38_ok (N := N) (a := (false, a.2.1 + 1, u)) (k := BitVec.ofInt 16 (s : Int)) (fun h => by cases h) (show a.2.1 + 1 < _ by omega) (show a.2.1 + 1 + 1 < N by omega)
      rw [er]
      simp only [Option.bind_some, F63_8]
      rw [hwq1, hwq]
      simp only [Int.toNat_natCast]
      obtain ⟨t, e', ht⟩ := F33_ok (N := N) (a := (false, p + 1, q)) (fun h => by cases h) (show p + 1 < 2147483648 by omega) (show p + 1 < N by omega)
      rw [e']
      have hsp : 0 < 2 ^ s := Nat.two_pow_pos _
      have hq : vl (p + 1) q = vN a / vN b := by
        have : vN a * 2 ^ s / vN d = vl (p + 1) q := by
          rw [← g2, Nat.add_mul_div_right _ _ hdp, Nat.div_eq_of_lt g3, Nat.zero_add]
        rw [← this, hdv, Nat.mul_div_mul_right _ _ hsp]
      refine ⟨(t, r), rfl, ht.nn, hr1, ?_, ?_⟩
      · show vN t = _
        rw [ht.val]; exact hq
      · show vN r = _
        rw [hr2, hs16]
        show vl (a.2.1 + 1) u / 2 ^ s = _
        have : vN a * 2 ^ s % vN d = vl (a.2.1 + 1) u := by
          rw [← g2, Nat.add_mul_mod_self_right, Nat.mod_eq_of_lt g3]
        rw [← this, hdv, Nat.mul_mod_mul_right, Nat.mul_div_cancel _ hsp]) N (((p + 1 : Nat) : Int) - 1, cpy (fun _ => 0#32) u0.2.1 u0.2.2, fun _ => 0#32) ⟨show -1 ≤ ((p + 1 : Nat) : Int) - 1 by omega, show ((p + 1 : Nat) : Int) - 1 ≤ (p : Int) by omega, ?_, ?_, fun _ _ => rfl⟩ (show (((p + 1 : Nat) : Int) - 1 + 1).toNat < N by omega)
  · obtain ⟨⟨q, r⟩, e, h1, h2, h3, h4⟩ := key
    exact ⟨q, r, e, h1, h2, h3, h4⟩
  · show vl (a.2.1 + 1) (cpy (fun _ => 0#32) u0.2.1 u0.2.2) + vl (p + 1) (fun _ => 0#32) * vN d = _
    rw [hvu, vl_drop (m := 0) (n := p + 1) (Nat.zero_le _) fun _ _ _ => rfl]
    simp [vl]
  · show vl (a.2.1 + 1) (cpy (fun _ => 0#32) u0.2.1 u0.2.2) < vN d * 2 ^ (32 * (((p + 1 : Nat) : Int) - 1 + 1).toNat)
    rw [hvu, show (((p + 1 : Nat) : Int) - 1 + 1).toNat = p + 1 from by omega]
    have h1 := vN_lt (y := a)
    have h2 : vN a * 2 ^ s < 2 ^ (32 * a.2.1) * 2 ^ s := Nat.mul_lt_mul_of_pos_right h1 (Nat.two_pow_pos _)
    have h3 : 2 ^ (32 * a.2.1) * 2 ^ s ≤ 2 ^ (32 * n + 63) * 2 ^ (32 * (p + 1)) := by
      rw [← Nat.pow_add, ← Nat.pow_add]
      exact Nat.pow_le_pow_right (by decide) (by omega)
    have h4 : 2 ^ (32 * n + 63) * 2 ^ (32 * (p + 1)) ≤ vN d * 2 ^ (32 * (p + 1)) := Nat.mul_le_mul_right _ hD1
    omega

/-! ### DivMod -/
theorem F35_ok {N : Nat} {a b : NS (BitVec 32)} (ha : OKs a) (hb : OKs b) (hl : a.2.1 < 1000000) (hl2 : b.2.1 < 1000000) (hN : 4294967300 < N) :
    ∃ q r, F35 N a b = some (q, r, vN b != 0) ∧ NN q ∧ NN r ∧ vN q = vN a / vN b ∧ vN r = nmod (vN a) (vN b) := by
  obtain ⟨x, e, hx⟩ := F33_ok (N := N) ha (by omega) (by omega)
  obtain ⟨y, e', hy⟩ := F33_ok (N := N) hb (by omega) (by omega)
  have h1 := hx.le
  have h2 := hy.le
  unfold F35
  rw [e, e']
  simp only [Option.bind_some, F35_1, F35_2]
  rw [← hx.val, ← hy.val]
  rcases hy.nn with ⟨h3, h4⟩ | ⟨h3, h4, h5⟩
  · have hy0 : vN y = 0 := by unfold vN; rw [h4]; rfl
    rw [h3, bt rfl, hy0]
    exact ⟨_, _, rfl, NN_nil, NN_nil, by rw [Nat.div_zero]; rfl, rfl⟩
  · have hy0 : vN y ≠ 0 := fun h => by have := hy.nn.zero.1 h; omega
    have hb1 : (vN y != 0) = true := by simpa using hy0
    rw [h3, bf rfl, F60_ok hx.nn.ok hy.nn.ok (by omega) (by omega) (by omega) (by omega), hb1]
    simp only [Option.bind_some, F35_3]
    have hnm : nmod (vN x) (vN y) = vN x % vN y := if_neg hy0
    rw [hnm]
    by_cases hlt : vN x < vN y
    · rw [bt (by unfold ncmp; rw [if_pos hlt]; rfl)]
      obtain ⟨r, er, hr1, hr2⟩ := F61_ok (N := N) hx.nn.ok (by omega) (by omega)
      rw [er]
      exact ⟨_, _, rfl, NN_nil, hr1, by rw [Nat.div_eq_of_lt hlt]; rfl, by rw [hr2, Nat.mod_eq_of_lt hlt]⟩
    · rw [bf (by unfold ncmp; rw [if_neg hlt]; split <;> rfl)]
      unfold F35_4
      by_cases h1' : y.2.1 = 1
      · have hyv : vN y = (y.2.2 0).toNat := by unfold vN; rw [h1']; simp [vl]
        rw [bt (by simp [h1']), bt (by simp; omega)]
        obtain ⟨q, r, er, hq1, hq2, hq3⟩ := F62_ok (N := N) (a := x) (d := y.2.2 0) (by rw [← hyv]; exact hy0) (by omega) (by omega)
        rw [er]
        simp only [Option.bind_some, F35_5]
        obtain ⟨t, et, ht1, ht2⟩ := F20_ok (N := N) (BitVec.ofInt 64 (r.toNat : Int)) (by omega)
        rw [et]
        exact ⟨_, _, rfl, hq1, ht1, by rw [hq2, hyv], by rw [ht2, of32, hq3, hyv]⟩
      · rw [bf (by simp; omega)]
        obtain ⟨n, hn⟩ : ∃ n, y.2.1 = n + 2 := ⟨y.2.1 - 2, by omega⟩
        obtain ⟨q, r, er, hq1, hq2, hq3, hq4⟩ := F63_ok (N := N) hx.nn hy.nn hn (by omega) (by omega) hN
        rw [er]
        exact ⟨_, _, rfl, hq1, hq2, hq3, hq4⟩

/-! ### The square root -/
theorem isq_le : ∀ n : Nat, isq n * isq n ≤ n
  | 0 => by decide
  | n + 1 => by
    rw [isq]
    split
    · assumption
    · have := isq_le n; omega
theorem isq_lt : ∀ n : Nat, n < (isq n + 1) * (isq n + 1)
  | 0 => by decide
  | n + 1 => by
    rw [isq]
    have := isq_lt n
    split
    · rename_i h
      have : (isq n + 1 + 1) * (isq n + 1 + 1) = (isq n + 1) * (isq n + 1) + 2 * (isq n + 1) + 1 := by grind
      omega
    · omega
theorem le_isq {n s : Nat} (h : s * s ≤ n) : s ≤ isq n := by
  rcases Nat.lt_or_ge (isq n) s with h' | h'
  · have h1 := isq_lt n
    have : (isq n + 1) * (isq n + 1) ≤ s * s := Nat.mul_le_mul h' h'
    omega
  · exact h'
theorem isq_unique {n s : Nat} (h : s * s ≤ n) (h2 : n < (s + 1) * (s + 1)) : isq n = s := by
  have h1 := le_isq h
  rcases Nat.lt_or_ge s (isq n) with h' | h'
  · have h3 := isq_le n
    have : (s + 1) * (s + 1) ≤ isq n * isq n := Nat.mul_le_mul h' h'
    omega
  · omega
theorem newton_ge {n s : Nat} (hs : 0 < s) : isq n ≤ (s + n / s) / 2 := by
  have h := isq_le n
  generalize isq n = r at *
  rw [Nat.le_div_iff_mul_le (by decide)]
  rcases Nat.lt_or_ge (2 * r) s with h1 | h1
  · exact Nat.le_trans (by omega) (Nat.le_add_right s _)
  · obtain ⟨t, ht⟩ : ∃ t, 2 * r = s + t := ⟨2 * r - s, by omega⟩
    have h2 : t * s ≤ n := by
      refine Nat.le_trans ?_ h
      -- (2r - s) s ≤ r²
      have h3 : (4 : Nat) * (t * s) ≤ 4 * (r * r) := by
        have e : 4 * (r * r) = (s + t) * (s + t) := by rw [← ht]; grind
        rw [e]
        rcases Nat.le_total s t with hh | hh
        · obtain ⟨k, rfl⟩ : ∃ k, t = s + k := ⟨t - s, by omega⟩
          have : (s + (s + k)) * (s + (s + k)) = 4 * ((s + k) * s) + k * k := by grind
          omega
        · obtain ⟨k, rfl⟩ : ∃ k, s = t + k := ⟨s - t, by omega⟩
          have : (t + k + t) * (t + k + t) = 4 * (t * (t + k)) + k * k := by grind
          omega
      omega
    have h4 : t ≤ n / s := (Nat.le_div_iff_mul_le hs).2 h2
    omega

theorem F360_ok {N : Nat} {a : NS (BitVec 32)} (ha : OKs a) (hl : a.2.1 < 400000) (hN : 4294967300 < N) (hN2 : 2 ^ (32 * a.2.1 + 1) < N) :
    ∃ r, F360 N a = some (r, isq (vN a) * isq (vN a) == vN a) ∧ NN r ∧ vN r = isq (vN a) := by
  obtain ⟨x, e, hx⟩ := F33_ok (N := N) ha (by omega) (by omega)
  have h1 := hx.le
  unfold F360
  rw [e]
  simp only [Option.bind_some, F360_1, F360_2]
  rw [← hx.val]
  rcases hx.nn with ⟨h3, h4⟩ | ⟨h3, h4, h5⟩
  · have hx0 : vN x = 0 := by unfold vN; rw [h4]; rfl
    rw [h3, bt rfl, hx0]
    exact ⟨_, rfl, NN_nil, rfl⟩
  · have hx0 : vN x ≠ 0 := fun h => by have := hx.nn.zero.1 h; omega
    rw [h3, bf rfl, F34_ok hx.nn.ok (by omega) (by omega)]
    simp only [Option.bind_some]
    have hbl : blen (vN x) ≤ 32 * x.2.1 := blen_le_iff.2 vN_lt
    have hblp := blen_pos hx0
    have hw1 : w64 ((blen (vN x) : Int) + 1) = ((blen (vN x) + 1 : Nat) : Int) := by rw [w64_id (by omega)]; omega
    have htd : ((blen (vN x) + 1 : Nat) : Int).tdiv 2 = (((blen (vN x) + 1) / 2 : Nat) : Int) := by
      rw [Int.tdiv_eq_ediv_of_nonneg (by omega)]; omega
    rw [hw1, htd, w64_id (by omega)]
    generalize hk : (blen (vN x) + 1) / 2 = k
    obtain ⟨s0, es, hs1, hs2⟩ := F64_ok (N := N) (a := (false, 1, fun _ => 1#32)) (k := (k : Int)) (fun h => by cases h) (by omega) (by decide) (show 1 + (k : Int).toNat / 32 + 1 < N by simp only [Int.toNat_natCast]; omega)
    simp only [Int.toNat_natCast] at hs2
    rw [show vN (false, 1, fun _ => 1#32) = 1 from rfl, Nat.one_mul] at hs2
    rw [es]
    simp only [Option.bind_some]
    unfold F360_3
    have hsq : vN x < vN s0 * vN s0 := by
      rw [hs2, ← Nat.pow_add]
      exact Nat.lt_of_lt_of_le (blen_lt _) (Nat.pow_le_pow_right (by decide) (by omega))
    have hs0le : vN s0 ≤ 2 ^ (32 * a.2.1) := by
      rw [hs2]; exact Nat.pow_le_pow_right (by decide) (by omega)
    have key := iter_inv (L := F360_L5 N x) (I := fun s : NS (BitVec 32) => NN s ∧ isq (vN x) ≤ vN s ∧ 0 < vN s ∧ vN s ≤ 2 ^ (32 * a.2.1)) (μ := fun s => vN s) (Post := fun r => r.2 = (isq (vN x) * isq (vN x) == vN x) ∧ NN r.1 ∧ vN r.1 = isq (vN x)) (by
      rintro s ⟨g1, g2, g3, g4⟩
      simp only [F360_L5, F360_L5b]
      have hsl : s.2.1 ≤ a.2.1 + 1 := len_of_lt g1 (Nat.lt_of_le_of_lt g4 (Nat.pow_lt_pow_right (by decide) (by omega)))
      obtain ⟨q, r, er, hq1, hq2, hq3, hq4⟩ := F35_ok (N := N) (a := x) (b := s) hx.nn.ok g1.ok (by omega) (by omega) hN
      rw [er]
      simp only [Option.bind_some, F360_6]
      have hql : q.2.1 ≤ a.2.1 := len_of_lt hq1 (by
        rw [hq3]
        exact Nat.lt_of_le_of_lt (Nat.div_le_self _ _) (Nat.lt_of_lt_of_le vN_lt (Nat.pow_le_pow_right (by decide) (by omega))))
      obtain ⟨t, et, ht1, ht2⟩ := F253_ok (N := N) (a := s) (b := q) g1.ok hq1.ok (by omega) (by omega) (by omega) (by omega)
      rw [et]
      simp only [Option.bind_some]
      have htl : t.2.1 ≤ a.2.1 + 2 := len_of_lt ht1 (by
        rw [ht2]
        have a1 : vN s < 2 ^ (32 * (a.2.1 + 1)) := Nat.lt_of_le_of_lt g4 (Nat.pow_lt_pow_right (by decide) (by omega))
        have a2 : vN q < 2 ^ (32 * (a.2.1 + 1)) := Nat.lt_of_lt_of_le vN_lt (Nat.pow_le_pow_right (by decide) (by omega))
        have a3 : 2 ^ (32 * (a.2.1 + 2)) = 2 ^ (32 * (a.2.1 + 1)) * 4294967296 := pow32_succ _
        omega)
      obtain ⟨m, em, hm1, hm2⟩ := F38_ok (N := N) (a := t) (k := 1#16) ht1.ok (by omega) (by omega)
      rw [em]
      simp only [Option.bind_some, F360_7]
      rw [show (1#16).toNat = 1 from rfl, Nat.pow_one, ht2, hq3] at hm2
      have hnew := newton_ge (n := vN x) g3
      rw [← hm2] at hnew
      have hml : m.2.1 ≤ a.2.1 + 2 := len_of_lt hm1 (by
        refine Nat.lt_of_le_of_lt ?_ (Nat.lt_of_lt_of_le (vN_lt (y := t)) (Nat.pow_le_pow_right (by decide) (by omega)))
        rw [hm2, ht2, hq3]; omega)
      rw [F60_ok hm1.ok g1.ok (by omega) (by omega) (by omega) (by omega)]
      simp only [Option.bind_some, F360_8]
      by_cases hge : vN m < vN s
      · left
        rw [bf (by unfold ncmp; rw [if_pos hge]; rfl)]
        refine ⟨m, rfl, ⟨hm1, hnew, ?_, by omega⟩, hge⟩
        have : 0 < isq (vN x) := by
          have := le_isq (n := vN x) (s := 1) (by omega)
          omega
        omega
      · right
        rw [bt (by unfold ncmp; rw [if_neg hge]; split <;> rfl)]
        have hss : vN s = isq (vN x) := by
          have a1 : vN s ≤ vN x / vN s := by omega
          have a2 := (Nat.le_div_iff_mul_le g3).1 a1
          have := le_isq a2
          omega
        unfold F360_4
        obtain ⟨w, ew, hw1, hw2⟩ := F22_ok (N := N) (a := s) (b := s) g1.ok g1.ok (by omega) (by omega) (by omega)
        rw [ew]
        simp only [Option.bind_some]
        have hwl : w.2.1 ≤ 2 * a.2.1 + 2 := len_of_lt hw1 (by
          rw [hw2]
          have a1 : vN s < 2 ^ (32 * (a.2.1 + 1)) := Nat.lt_of_le_of_lt g4 (Nat.pow_lt_pow_right (by decide) (by omega))
          have a3 : 2 ^ (32 * (2 * a.2.1 + 2)) = 2 ^ (32 * (a.2.1 + 1)) * 2 ^ (32 * (a.2.1 + 1)) := by rw [← Nat.pow_add]; congr 1; omega
          rw [a3]
          exact Nat.mul_lt_mul_of_lt_of_le a1 (by omega) (Nat.two_pow_pos _))
        rw [F60_ok hw1.ok hx.nn.ok (by omega) (by omega) (by omega) (by omega)]
        refine ⟨_, rfl, ?_, g1, hss⟩
        show (ncmp (vN w) (vN x) == 0) = _
        rw [hw2, hss]
        unfold ncmp
        have := isq_le (vN x)
        by_cases he : isq (vN x) * isq (vN x) = vN x
        · rw [if_neg (by omega), if_pos he, he]; simp
        · rw [if_pos (by omega)]
          have : (isq (vN x) * isq (vN x) == vN x) = false := by simpa using he
          rw [this]; rfl) N s0 ⟨hs1, ?_, ?_, hs0le⟩ ?_
    · obtain ⟨⟨r, b⟩, e, h1, h2, h3⟩ := key
      exact ⟨r, by rw [e]; simp only at h1; rw [h1], h2, h3⟩
    · rcases Nat.lt_or_ge (vN s0) (isq (vN x)) with h | h
      · have := isq_le (vN x)
        have := Nat.mul_le_mul (Nat.le_of_lt h) (Nat.le_of_lt h)
        omega
      · exact h
    · rw [hs2]; exact Nat.two_pow_pos _
    · rw [Nat.pow_succ] at hN2
      omega
end Go.Proofs.YfwaawGreat
