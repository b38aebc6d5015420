/-
  exact's digits: tenTo, log10, unitsOf; zeros.
-/
import Derived.Test.YfwaawGreatP1
import Derived.Test.YfwaawGreatG50
namespace Go.Proofs.YfwaawGreat
open Go.Aw
set_option linter.unusedVariables false
set_option linter.unusedSimpArgs false

section
variable {N : Nat}
theorem F256_ok {k : Int} (hk : -5000 ≤ k ∧ k ≤ 5000) : F256 N k = some (false, 10 ^ k.toNat, 10 ^ (-k).toNat) := by
  unfold F256 F256_1
  by_cases h : k < 0
  · rw [bt (decide_eq_true h), w64_id (by omega), show (0 : Int) - k = (((-k).toNat : Nat) : Int) from by omega, F139_ok (by omega), bnd, show k.toNat = 0 from by omega]
    rfl
  · rw [bf (decide_eq_false h), show (-k).toNat = 0 from by omega]
    obtain ⟨n, rfl⟩ : ∃ n : Nat, k = n := ⟨k.toNat, by omega⟩
    rw [F139_ok (by omega), bnd]
    rfl
/-- Where log10 begins: below, and by at most three. -/
theorem log_cert : ∀ i : Fin 2601, 10 ^ (((((i.val : Int) - 1300) * 1233) / 2 ^ 12 - 1).toNat) * 2 ^ ((1 - ((i.val : Int) - 1300)).toNat) ≤ 2 ^ ((((i.val : Int) - 1300) - 1).toNat) * 10 ^ ((-(((((i.val : Int) - 1300) * 1233) / 2 ^ 12 - 1))).toNat) ∧
    2 ^ ((((i.val : Int) - 1300) + 1).toNat) * 10 ^ ((-(((((i.val : Int) - 1300) * 1233) / 2 ^ 12 - 1 + 4))).toNat) ≤ 10 ^ (((((i.val : Int) - 1300) * 1233) / 2 ^ 12 - 1 + 4).toNat) * 2 ^ ((-1 - ((i.val : Int) - 1300)).toNat) := by
  decide +kernel
/-- 10^k is at most num/den. -/
def tle (k : Int) (num den : Nat) : Prop := den * 10 ^ k.toNat ≤ num * 10 ^ (-k).toNat
/-- num/den lies between 10^k and 10^(k+1). -/
structure L10 (num den : Nat) (k : Int) : Prop where
  lo : tle k num den
  hi : ¬ tle (k + 1) num den
theorem pt_pos (k : Nat) : 0 < 10 ^ k := Nat.pow_pos (by decide)
theorem tle_step {k : Int} {num den : Nat} (h : tle (k + 1) num den) : tle k num den := by
  unfold tle at *
  by_cases hk : 0 ≤ k
  · rw [show (-k).toNat = 0 from by omega]
    rw [show (-(k + 1)).toNat = 0 from by omega, show (k + 1).toNat = k.toNat + 1 from by omega, Nat.pow_succ] at h
    have := pt_pos k.toNat
    generalize 10 ^ k.toNat = P at *
    have h2 : den * P ≤ den * (P * 10) := Nat.mul_le_mul_left _ (by omega)
    omega
  · rw [show k.toNat = 0 from by omega, show (-k).toNat = (-(k + 1)).toNat + 1 from by omega, Nat.pow_succ]
    rw [show (k + 1).toNat = 0 from by omega] at h
    generalize 10 ^ (-(k + 1)).toNat = P at *
    have h2 : num * P ≤ num * (P * 10) := Nat.mul_le_mul_left _ (by omega)
    omega
theorem tle_down {num den : Nat} : ∀ (j : Nat) {k : Int}, tle (k + j) num den → tle k num den
  | 0, k, h => by rwa [show k + ((0 : Nat) : Int) = k from by omega] at h
  | j + 1, k, h => tle_down j (tle_step (by rwa [show k + ((j + 1 : Nat) : Int) = k + (j : Int) + 1 from by omega] at h))
theorem tle_le {num den : Nat} {k k' : Int} (h : tle k' num den) (hk : k ≤ k') : tle k num den := by
  obtain ⟨j, rfl⟩ : ∃ j : Nat, k' = k + j := ⟨(k' - k).toNat, by omega⟩
  exact tle_down j h
theorem L10.uniq {num den : Nat} {k k' : Int} (h : L10 num den k) (h' : L10 num den k') : k = k' := by
  rcases Int.lt_trichotomy k k' with c | c | c
  · exact (h.hi (tle_le h'.lo (by omega))).elim
  · exact c
  · exact (h'.hi (tle_le h.lo (by omega))).elim
theorem F255_ok {k : Int} {nn : Bool} {num den : Nat} (hk : -5000 ≤ k ∧ k ≤ 5000) (hn : blen num ≤ 100000) (hd : blen den ≤ 100000) :
    F255 N false (10 ^ k.toNat) (10 ^ (-k).toNat) nn num den = some (ncmp (10 ^ k.toNat * den) (num * 10 ^ (-k).toNat)) := by
  have h1 := blen_10 k.toNat
  have h2 := blen_10 (-k).toNat
  have h3 := blen_mul (10 ^ k.toNat) den
  have h4 := blen_mul num (10 ^ (-k).toNat)
  unfold F255
  rw [bt (limand (by omega) (by omega)), bt (limand (by omega) (by omega)), bt (limand (by omega) (by omega))]
theorem ncmp_le {a b : Nat} : decide (ncmp a b ≤ 0) = decide (a ≤ b) := by
  unfold ncmp
  refine decide_eq_decide.2 ?_
  rcases Nat.lt_trichotomy a b with k | k | k
  · rw [if_pos k]; omega
  · rw [if_neg (by omega), if_pos k]; omega
  · rw [if_neg (by omega), if_neg (by omega)]; omega
theorem F147_ok (hN : 20 ≤ N) {nn : Bool} {num den : Nat} (hn : num ≠ 0) (hd : den ≠ 0) (hb : -1200 ≤ (blen num : Int) - blen den ∧ (blen num : Int) - blen den ≤ 1200) (bn : blen num ≤ 10000) (bd : blen den ≤ 10000) :
    ∃ k, F147 N nn num den = some k ∧ L10 num den k ∧ -400 ≤ k ∧ k ≤ 400 := by
  obtain ⟨b, hbd⟩ : ∃ b : Int, b = (blen num : Int) - blen den := ⟨_, rfl⟩
  rw [← hbd] at hb
  have hc := log_cert ⟨(b + 1300).toNat, by omega⟩
  rw [show (((⟨(b + 1300).toNat, by omega⟩ : Fin 2601).val : Nat) : Int) - 1300 = b from by simp only []; omega] at hc
  have hpp : (2 : Int) ^ 12 = 4096 := rfl
  obtain ⟨k0, hk0⟩ : ∃ k0 : Int, k0 = (b * 1233) / 2 ^ 12 - 1 := ⟨_, rfl⟩
  rw [← hk0] at hc
  have hk0r : -400 ≤ k0 ∧ k0 ≤ 390 := by rw [hk0, hpp]; omega
  unfold F147
  rw [bt (lim_blen (by omega)), bt (lim_blen (by omega)), w64_id (n := (blen num : Int) - blen den) (by omega), ← hbd, w64_id (n := b * 1233) (by omega)]
  unfold F147_1 F147_2
  rw [w64_id (by rw [hpp]; omega), ← hk0]
  -- num/den against powers of two
  have n1 := blen_le hn
  have n2 := blen_lt num
  have d1 := blen_le hd
  have d2 := blen_lt den
  have pn := blen_pos hn
  have pd := blen_pos hd
  have hlow : den * 2 ^ (b - 1).toNat ≤ num * 2 ^ (1 - b).toNat := by
    have e : blen den + (b - 1).toNat = (blen num - 1) + (1 - b).toNat := by omega
    have h1 : den * 2 ^ (b - 1).toNat ≤ 2 ^ blen den * 2 ^ (b - 1).toNat := Nat.mul_le_mul_right _ (Nat.le_of_lt d2)
    have h2 : 2 ^ (blen num - 1) * 2 ^ (1 - b).toNat ≤ num * 2 ^ (1 - b).toNat := Nat.mul_le_mul_right _ n1
    rw [← Nat.pow_add, e] at h1
    rw [← Nat.pow_add] at h2
    exact Nat.le_trans h1 h2
  have hhigh : num * 2 ^ (-1 - b).toNat < den * 2 ^ (b + 1).toNat := by
    have e : blen num + (-1 - b).toNat = (blen den - 1) + (b + 1).toNat := by omega
    have h1 : num * 2 ^ (-1 - b).toNat < 2 ^ blen num * 2 ^ (-1 - b).toNat := Nat.mul_lt_mul_of_pos_right n2 (pow_pos2 _)
    have h2 : 2 ^ (blen den - 1) * 2 ^ (b + 1).toNat ≤ den * 2 ^ (b + 1).toNat := Nat.mul_le_mul_right _ d1
    rw [← Nat.pow_add, e] at h1
    rw [← Nat.pow_add] at h2
    exact Nat.lt_of_lt_of_le h1 h2
  have htle0 : tle k0 num den := by
    unfold tle
    have hc1 := hc.1
    have q1 := pow_pos2 (1 - b).toNat
    generalize 10 ^ k0.toNat = A at *
    generalize 10 ^ (-k0).toNat = B at *
    generalize 2 ^ (1 - b).toNat = C at *
    generalize 2 ^ (b - 1).toNat = E at *
    -- A C ≤ E B ; den E ≤ num C
    have h1 : den * (A * C) ≤ den * (E * B) := Nat.mul_le_mul_left _ hc1
    have h2 : den * E * B ≤ num * C * B := Nat.mul_le_mul_right _ hlow
    have h3 : (den * A) * C ≤ (num * B) * C := by
      calc (den * A) * C = den * (A * C) := by rw [Nat.mul_assoc]
        _ ≤ den * (E * B) := h1
        _ = den * E * B := by rw [Nat.mul_assoc]
        _ ≤ num * C * B := h2
        _ = (num * B) * C := by rw [Nat.mul_assoc, Nat.mul_comm C B, Nat.mul_assoc]
    exact Nat.le_of_mul_le_mul_right h3 q1
  have hno : ¬ tle (k0 + 4) num den := by
    unfold tle
    have hc2 := hc.2
    have q1 := pow_pos2 (-1 - b).toNat
    have q2 := pt_pos (k0 + 4).toNat
    have q3 := pt_pos (-(k0 + 4)).toNat
    generalize 10 ^ (k0 + 4).toNat = A at *
    generalize 10 ^ (-(k0 + 4)).toNat = B at *
    generalize 2 ^ (-1 - b).toNat = C at *
    generalize 2 ^ (b + 1).toNat = E at *
    -- E B ≤ A C ; num C < den E
    intro hcon
    have h1 : num * C * B < den * E * B := Nat.mul_lt_mul_of_pos_right hhigh q3
    have h2 : den * (E * B) ≤ den * (A * C) := Nat.mul_le_mul_left _ hc2
    have h3 : den * A * C ≤ num * B * C := Nat.mul_le_mul_right _ hcon
    have e1 : num * C * B = num * B * C := by rw [Nat.mul_assoc, Nat.mul_comm C B, Nat.mul_assoc]
    rw [← Nat.mul_assoc, ← Nat.mul_assoc] at h2
    omega
  have key : ∀ (M : Nat) (k : Int), k0 + 5 - k < M → k0 ≤ k → tle k num den → ∃ k', iterL (F147_L4 N nn num den) M k = some k' ∧ L10 num den k' ∧ k0 ≤ k' ∧ k' < k0 + 4 := by
    intro M
    induction M with
    | zero =>
      intro k hM hk ht
      exact (hno (tle_le ht (by omega))).elim
    | succ M ih =>
      intro k hM hk ht
      have hk4 : k < k0 + 4 := by
        rcases Int.lt_or_le k (k0 + 4) with c | c
        · exact c
        · exact (hno (tle_le ht c)).elim
      have hstep : F147_L4 N nn num den k = F147_5 N nn num den k (decide (den * 10 ^ (k + 1).toNat ≤ num * 10 ^ (-(k + 1)).toNat)) := by
        unfold F147_L4 F147_L4b
        rw [w64_id (by omega), F256_ok (by omega), bnd]
        simp only []
        rw [F255_ok (by omega) (by omega) (by omega), bnd, ncmp_le, Nat.mul_comm (10 ^ (k + 1).toNat)]
      rw [iterL, hstep]
      unfold F147_5 F147_3
      by_cases hc : tle (k + 1) num den
      · have hc' := hc
        unfold tle at hc'
        rw [decide_eq_true hc', bt rfl, w64_id (by omega)]
        exact ih (k + 1) (by omega) (by omega) hc
      · have hc' := hc
        unfold tle at hc'
        rw [decide_eq_false hc', bf rfl]
        exact ⟨k, rfl, ⟨ht, hc⟩, hk, hk4⟩
  obtain ⟨k', h1, h2, h3, h4⟩ := key N k0 (by omega) (by omega) htle0
  exact ⟨k', h1, h2, by omega, by omega⟩
/-- unitsOf. -/
theorem F197_ok {k : Int} {nn : Bool} {num den : Nat} (hk : -5000 ≤ k ∧ k ≤ 5000) (hd : den ≠ 0) (bn : blen num ≤ 10000) (bd : blen den ≤ 10000) :
    F197 N nn num den k = some (rne (2 * (num * 10 ^ (-k).toNat) / (den * 10 ^ k.toNat)) (decide (2 * (num * 10 ^ (-k).toNat) % (den * 10 ^ k.toNat) ≠ 0))) := by
  have h1 := blen_10 k.toNat
  have h2 := blen_10 (-k).toNat
  have h3 := blen_mul den (10 ^ k.toNat)
  have h4 := blen_mul num (10 ^ (-k).toNat)
  unfold F197
  rw [F256_ok hk, bnd]
  unfold F197_1
  simp only []
  rw [bt (limand (by omega) (by omega)), bt (limand (by omega) (by omega)), F245_ok (Nat.mul_pos (by omega) (pt_pos _)) (by omega) (by omega), bnd]
  unfold F197_2
  rw [rn_ne ne_zero]
/-- zeros, both. -/
theorem bys_const (n : Nat) (f : Nat → BitVec 8) (h : ∀ i, i < n → f i = 48#8) : bys n f = List.replicate n 48 := by
  refine List.ext_getElem (by rw [bys_len, List.length_replicate]) ?_
  intro i h1 h2
  rw [bys_len] at h1
  simp [bys, h i h1]
theorem F196_ok {n : Nat} (hN : n < N) (hn : n ≤ 100000) : F196 N (n : Int) = some (List.replicate n 48) := by
  have key : ∀ (M i : Nat) (b : Nat → BitVec 8), n - i < M → i ≤ n → (∀ j, j < i → b j = 48#8) → iterL (F196_L4 N (n : Int) (n : Int)) M ((i : Int), b) = some (List.replicate n 48) := by
    intro M
    induction M with
    | zero => intro i b h; omega
    | succ M ih =>
      intro i b hM hi hb
      by_cases hin : i = n
      · have hstep : F196_L4 N (n : Int) (n : Int) ((i : Int), b) = some (.inr (List.replicate n 48)) := by
          unfold F196_L4 F196_L4b F196_5 F196_2
          simp only []
          rw [bf (decide_eq_false (by omega)), bt (decide_eq_true (by omega)), Int.toNat_natCast, bys_const n b (by rw [← hin]; exact hb)]
          rfl
        rw [iterL, hstep]
      · have hstep : F196_L4 N (n : Int) (n : Int) ((i : Int), b) = some (.inl (((i + 1 : Nat) : Int), upd b i 48#8)) := by
          unfold F196_L4 F196_L4b F196_5 F196_6
          simp only []
          rw [bt (decide_eq_true (by omega)), Int.toNat_natCast, Int.toNat_natCast, bt (by simp; omega), w64_id (by omega)]
          rfl
        rw [iterL, hstep]
        refine ih (i + 1) _ (by omega) (by omega) ?_
        intro j hj
        by_cases hji : j = i
        · rw [hji, upd_eq]
        · rw [upd_ne hji]; exact hb j (by omega)
  unfold F196
  rw [bt (by simp; omega)]
  unfold F196_1 F196_3
  rw [Int.toNat_natCast]
  exact key N 0 _ (by omega) (by omega) (fun j hj => by omega)
theorem F200_ok {a : Int} (hN : 4100 ≤ N) (ha : a ≤ 4096) : F200 N a = some (List.replicate a.toNat 48) := by
  unfold F200 F200_1
  by_cases h : a ≤ 0
  · rw [bt (decide_eq_true h), show a.toNat = 0 from by omega]; rfl
  · rw [bf (decide_eq_false h)]
    unfold F200_2
    have key : ∀ (M i : Nat) (b : Nat → BitVec 8), 4096 - i < M → i ≤ 4096 → (∀ j, j < i → b j = 48#8) → iterL (F200_L4 N a) M ((i : Int), b) = some (List.replicate a.toNat 48) := by
      intro M
      induction M with
      | zero => intro i b h; omega
      | succ M ih =>
        intro i b hM hi hb
        by_cases hin : i = 4096
        · have hstep : F200_L4 N a ((i : Int), b) = some (.inr (List.replicate a.toNat 48)) := by
            unfold F200_L4 F200_L4b F200_5 F200_3
            simp only []
            rw [bf (decide_eq_false (by omega)), show min a 4096 = a from by omega, bt (by simp; omega), bt (decide_eq_true (by omega)), bys_const a.toNat b (fun j hj => hb j (by omega))]
            rfl
          rw [iterL, hstep]
        · have hstep : F200_L4 N a ((i : Int), b) = some (.inl (((i + 1 : Nat) : Int), upd b i 48#8)) := by
            unfold F200_L4 F200_L4b F200_5 F200_6
            simp only []
            rw [bt (decide_eq_true (by omega)), bt (by simp; omega), Int.toNat_natCast, w64_id (by omega)]
            rfl
          rw [iterL, hstep]
          refine ih (i + 1) _ (by omega) (by omega) ?_
          intro j hj
          by_cases hji : j = i
          · rw [hji, upd_eq]
          · rw [upd_ne hji]; exact hb j (by omega)
    exact key N 0 _ (by omega) (by omega) (fun j hj => by omega)
end
end Go.Proofs.YfwaawGreat
