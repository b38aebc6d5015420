/-
  Package slow, plain: big numbers in 52 limbs of 64 bits.
-/
import Derived.Test.YfwaawGreatL1
namespace Go.Proofs.YfwaawGreat
open Go.Aw
set_option linter.unusedVariables false
set_option linter.unusedSimpArgs false

/-- One more than what fits. -/
def LB : Nat := 2 ^ (64 * 52)
/-- The number that k limbs spell. -/
def vb : Nat → (Nat → BitVec 64) → Nat
  | 0, _ => 0
  | k + 1, w => vb k w + (w k).toNat * 2 ^ (64 * k)
theorem p64s (k : Nat) : 2 ^ (64 * (k + 1)) = 2 ^ (64 * k) * 18446744073709551616 := by rw [Nat.mul_add, Nat.mul_one, Nat.pow_add, p64]
theorem vb_congr {w w' : Nat → BitVec 64} : ∀ {k : Nat}, (∀ i, i < k → w i = w' i) → vb k w = vb k w'
  | 0, _ => rfl
  | k + 1, h => by rw [vb, vb, vb_congr (k := k) (fun i hi => h i (by omega)), h k (by omega)]
theorem vb_lt {w : Nat → BitVec 64} : ∀ {k : Nat}, vb k w < 2 ^ (64 * k)
  | 0 => pow_pos2 _
  | k + 1 => by
    have h1 := vb_lt (w := w) (k := k)
    have h2 := (w k).isLt
    rw [vb, p64s]
    have h3 := Nat.mul_le_mul_right (2 ^ (64 * k)) (show (w k).toNat + 1 ≤ 18446744073709551616 from h2)
    rw [Nat.add_mul, Nat.one_mul, Nat.mul_comm 18446744073709551616] at h3
    omega
theorem vb_zero {w : Nat → BitVec 64} {m : Nat} : ∀ {k : Nat}, m ≤ k → (∀ i, m ≤ i → i < k → w i = 0#64) → vb k w = vb m w
  | 0, h, _ => by rw [Nat.le_zero.1 h]
  | k + 1, h, hz => by
    by_cases c : m = k + 1
    · rw [c]
    · rw [vb, vb_zero (k := k) (by omega) (fun i h1 h2 => hz i h1 (by omega)), hz k (by omega) (by omega)]
      simp
theorem vb_upd {w : Nat → BitVec 64} {i : Nat} {x : BitVec 64} {k : Nat} (h : k ≤ i) : vb k (upd w i x) = vb k w := vb_congr fun j hj => upd_ne (by omega)
theorem vb_top {w w' : Nat → BitVec 64} {t : Nat} : ∀ {k : Nat}, t < k → (w t).toNat < (w' t).toNat → (∀ i, t < i → i < k → w i = w' i) → vb k w < vb k w'
  | 0, h, _, _ => by omega
  | k + 1, h, hl, he => by
    rw [vb, vb]
    by_cases c : t = k
    · subst c
      have h1 := vb_lt (w := w) (k := t)
      have h3 := Nat.mul_le_mul_right (2 ^ (64 * t)) (show (w t).toNat + 1 ≤ (w' t).toNat from hl)
      rw [Nat.add_mul, Nat.one_mul] at h3
      omega
    · have := vb_top (k := k) (by omega) hl (fun i h1 h2 => he i h1 (by omega))
      rw [he k (by omega) (by omega)]
      omega

/-- A big number: n limbs in use, nothing above, the top one not zero. -/
structure Bg (n : Int) (w : Nat → BitVec 64) (V : Nat) : Prop where
  n0 : 0 ≤ n
  n52 : n ≤ 52
  z : ∀ i : Nat, n ≤ i → w i = 0#64
  top : 0 < n → (w (n.toNat - 1)).toNat ≠ 0
  v : vb n.toNat w = V
theorem LB_of {i : Nat} (h : i = 52) : 2 ^ (64 * i) = LB := by rw [h, LB]
theorem vb_LB {w : Nat → BitVec 64} {i : Nat} (h : i = 52) : vb i w < LB := by rw [← LB_of h]; exact vb_lt
theorem Bg.all {n : Int} {w : Nat → BitVec 64} {V : Nat} (h : Bg n w V) {k : Nat} (hk : n.toNat ≤ k) : vb k w = V := by
  rw [vb_zero hk (fun i h1 _ => h.z i (by have := h.n0; omega)), h.v]
theorem Bg.lt {n : Int} {w : Nat → BitVec 64} {V : Nat} (h : Bg n w V) : V < 2 ^ (64 * n.toNat) := by rw [← h.v]; exact vb_lt
theorem Bg.bl {n : Int} {w : Nat → BitVec 64} {V : Nat} (h : Bg n w V) (hn : 0 < n) : blen V = 64 * (n.toNat - 1) + blen (w (n.toNat - 1)).toNat := by
  obtain ⟨k, hk⟩ : ∃ k, n.toNat = k + 1 := ⟨n.toNat - 1, by omega⟩
  have ht := h.top hn
  have hv := h.v
  rw [hk, vb] at hv
  rw [hk, Nat.add_sub_cancel] at ht ⊢
  have hl := vb_lt (w := w) (k := k)
  have a := blen_le ht
  have b := blen_lt (w k).toNat
  have c := blen_pos ht
  have p := pow_pos2 (64 * k)
  have u : blen V ≤ 64 * k + blen (w k).toNat := by
    rw [blen_le_iff, Nat.add_comm, Nat.pow_add]
    have := Nat.mul_le_mul_right (2 ^ (64 * k)) (show (w k).toNat + 1 ≤ 2 ^ blen (w k).toNat from b)
    rw [Nat.add_mul, Nat.one_mul] at this
    omega
  have d : ¬ blen V ≤ 64 * k + blen (w k).toNat - 1 := fun q => by
    have q := blen_le_iff.1 q
    rw [show 64 * k + blen (w k).toNat - 1 = blen (w k).toNat - 1 + 64 * k from by omega, Nat.pow_add] at q
    have := Nat.mul_le_mul_right (2 ^ (64 * k)) a
    omega
  omega
theorem Bg.pos {n : Int} {w : Nat → BitVec 64} {V : Nat} (h : Bg n w V) (hV : V ≠ 0) : 0 < n := by
  have h0 := h.n0
  rcases Int.lt_or_le 0 n with c | c
  · exact c
  · have : n.toNat = 0 := by omega
    have hv := h.v
    rw [this, vb] at hv
    omega
theorem Bg.ge {n : Int} {w : Nat → BitVec 64} {V : Nat} (h : Bg n w V) (hn : 0 < n) : 2 ^ (64 * (n.toNat - 1)) ≤ V := by
  obtain ⟨k, hk⟩ : ∃ k, n.toNat = k + 1 := ⟨n.toNat - 1, by omega⟩
  have ht := h.top hn
  have hv := h.v
  rw [hk, vb] at hv
  rw [hk, Nat.add_sub_cancel] at ht ⊢
  have := Nat.mul_le_mul_right (2 ^ (64 * k)) (show 1 ≤ (w k).toNat by omega)
  omega
theorem bg_zero : Bg 0 (fun _ => 0#64) 0 := ⟨by decide, by decide, fun _ _ => rfl, fun h => by omega, rfl⟩

theorem in52 {i : Int} (h0 : 0 ≤ i) (h1 : i < 52) : (decide (0 ≤ i) && decide (i < (52 : Int))) = true := by rw [decide_eq_true h0, decide_eq_true h1]; rfl
theorem mulc_lt (a b c : BitVec 64) : a.toNat * b.toNat + c.toNat < 340282366920938463463374607431768211456 := by
  have h1 := a.isLt
  have h2 := b.isLt
  have h3 := c.isLt
  have := Nat.mul_le_mul (show a.toNat ≤ 18446744073709551615 by omega) (show b.toNat ≤ 18446744073709551615 by omega)
  omega
/-- A product and an addend, in two words. -/
theorem mul_add_words (a b c : BitVec 64) : v2 (F166 (F165 a b).1 (F165 a b).2 0#64 c).1 (F166 (F165 a b).1 (F165 a b).2 0#64 c).2.1 = a.toNat * b.toNat + c.toNat := by
  have h1 := F165_ok a b
  have h2 := (F166_ok (F165 a b).1 (F165 a b).2 0#64 c).1
  have h3 := mulc_lt a b c
  rw [h1] at h2
  have h4 : v2 0#64 c = c.toNat := by unfold v2; simp
  rw [h4, Nat.mod_eq_of_lt h3] at h2
  exact h2

theorem F267_ok {N : Nat} (hN : 60 ≤ N) {n : Int} {w : Nat → BitVec 64} {V : Nat} (h : Bg n w V) {m c : BitVec 64} (hm : 1 ≤ m.toNat ∨ V = 0) (hb : V * m.toNat + c.toNat < LB) :
    ∃ n' w', F267 N n w m c = some (n', w') ∧ Bg n' w' (V * m.toNat + c.toNat) := by
  have hn0 := h.n0
  have hn52 := h.n52
  unfold F267
  obtain ⟨r, hr, hp⟩ := iter_inv (L := F267_L4 N n m)
    (fun v : BitVec 64 × Int × (Nat → BitVec 64) => ∃ i : Nat, v.2.1 = i ∧ (i : Int) ≤ n ∧ vb i v.2.2 + v.1.toNat * 2 ^ (64 * i) = vb i w * m.toNat + c.toNat ∧ ∀ j, i ≤ j → v.2.2 j = w j)
    (fun v => 53 - v.2.1.toNat)
    (fun r : Int × (Nat → BitVec 64) => Bg r.1 r.2 (V * m.toNat + c.toNat))
    (by
      rintro ⟨cc, ii, ww⟩ ⟨i, h1, h2, h3, h4⟩
      simp only at h1 h3 h4
      subst h1
      unfold F267_L4 F267_L4b F267_5
      simp only []
      by_cases hi : (i : Int) < n
      · rw [bt (decide_eq_true hi), bt (in52 (by omega) (by omega)), Int.toNat_natCast]
        simp only [lt]
        unfold F267_7
        simp only [lt]
        have hmw := mul_add_words (ww i) m cc
        generalize F166 (F165 (ww i) m).1 (F165 (ww i) m).2 0#64 cc = p at *
        unfold F267_8 F267_9 F267_6
        rw [bt (in52 (by omega) (by omega)), Int.toNat_natCast, w64_id (by omega)]
        refine .inl ⟨_, rfl, ⟨i + 1, by simp only []; omega, by omega, ?_, ?_⟩, by simp only []; omega⟩
        · simp only []
          rw [vb, vb, vb_upd (Nat.le_refl i), upd_eq, p64s]
          unfold v2 at hmw
          rw [h4 i (Nat.le_refl i)] at hmw
          have e1 : p.2.1.toNat * 2 ^ (64 * i) + p.1.toNat * (2 ^ (64 * i) * 18446744073709551616) = ((w i).toNat * m.toNat + cc.toNat) * 2 ^ (64 * i) := by
            rw [← hmw]; grind
          have e2 : ((w i).toNat * m.toNat + cc.toNat) * 2 ^ (64 * i) = (w i).toNat * 2 ^ (64 * i) * m.toNat + cc.toNat * 2 ^ (64 * i) := by grind
          rw [Nat.add_mul]
          omega
        · intro j hj
          simp only []
          rw [upd_ne (by omega), h4 j (by omega)]
      · rw [bf (decide_eq_false hi)]
        have hin : i = n.toNat := by omega
        subst hin
        rw [h.v] at h3
        right
        unfold F267_1 F267_2 F267_3
        have hzz : ∀ j : Nat, n ≤ j → ww j = 0#64 := fun j hj => by rw [h4 j (by omega)]; exact h.z j hj
        have hvl := vb_lt (w := ww) (k := n.toNat)
        by_cases hc : cc.toNat = 0
        · rw [bf (by rw [ne_bv]; simp [hc])]
          rw [hc, Nat.zero_mul, Nat.add_zero] at h3
          refine ⟨_, rfl, ⟨hn0, hn52, hzz, ?_, h3⟩⟩
          intro hpos
          simp only [] at hpos ⊢
          obtain ⟨k, hk⟩ : ∃ k, n.toNat = k + 1 := ⟨n.toNat - 1, by omega⟩
          have hge := h.ge hpos
          rw [hk, Nat.add_sub_cancel] at hge ⊢
          intro hz
          rw [hk, vb, hz, Nat.zero_mul, Nat.add_zero] at h3
          have h5 := vb_lt (w := ww) (k := k)
          rcases hm with k1 | k1
          · have := Nat.le_mul_of_pos_right V k1; omega
          · have := pow_pos2 (64 * k); omega
        · have h52 : n < 52 := by
            rcases Int.lt_or_le n 52 with k | k
            · exact k
            · have hn : n.toNat = 52 := by omega
              rw [LB_of hn] at h3
              have := Nat.mul_le_mul_right LB (show 1 ≤ cc.toNat by omega)
              omega
          rw [bt (by rw [ne_bv, decide_eq_true (show n < 52 from h52)]; simp; exact hc), bt (in52 hn0 h52), w64_id (by omega)]
          have hk : (n + 1).toNat = n.toNat + 1 := by omega
          refine ⟨_, rfl, ⟨by omega, by omega, ?_, ?_, ?_⟩⟩
          · intro j hj
            simp only []
            rw [upd_ne (by omega)]
            exact hzz j (by omega)
          · intro _
            simp only []
            rw [hk, Nat.add_sub_cancel, upd_eq]
            exact hc
          · simp only []
            rw [hk, vb, vb_upd (Nat.le_refl _), upd_eq]
            exact h3)
    N (c, 0, w) ⟨0, rfl, hn0, by simp [vb], fun j _ => rfl⟩ (by show 53 - (0 : Int).toNat < N; omega)
  exact ⟨r.1, r.2, hr, hp⟩

theorem F364_ok {N : Nat} {n : Int} {w : Nat → BitVec 64} {V : Nat} (h : Bg n w V) : F364 N n w = some ((blen V : Int), n, w) := by
  have hn0 := h.n0
  have hn52 := h.n52
  unfold F364 F364_1
  by_cases c : n = 0
  · subst c
    have hv := h.v
    have : V = 0 := hv.symm
    rw [this, blen_zero]; rfl
  · rw [bf (by simpa using c)]
    have w1 : w64 (n - 1) = n - 1 := w64_id (by omega)
    have hb := h.bl (by omega)
    have hbl := blen64 (w (n.toNat - 1))
    have hbp := blen_pos (h.top (by omega))
    rw [w1, bt (in52 (by omega) (by omega)), show (n - 1).toNat = n.toNat - 1 from by omega, F164_ok]
    simp only [Option.bind_some]
    have h8 : (BitVec.ofNat 8 (64 - blen (w (n.toNat - 1)).toNat)).toNat = 64 - blen (w (n.toNat - 1)).toNat := by
      rw [BitVec.toNat_ofNat]; exact Nat.mod_eq_of_lt (by omega)
    have w2 : w64 (64 * n) = 64 * n := w64_id (by omega)
    have w3 : w64 ((64 - blen (w (n.toNat - 1)).toNat : Nat) : Int) = ((64 - blen (w (n.toNat - 1)).toNat : Nat) : Int) := w64_id (by omega)
    have w4 : w64 (64 * n - ((64 - blen (w (n.toNat - 1)).toNat : Nat) : Int)) = (blen V : Int) := by rw [w64_id (by omega), hb]; omega
    rw [h8, w2, w3, w4]

theorem F366_ok {N : Nat} (hN : 60 ≤ N) {n n' : Int} {w w' : Nat → BitVec 64} {V V' : Nat} (h : Bg n w V) (h' : Bg n' w' V') : F366 N n w n' w' = some (decide (V < V'), n, w, n', w') := by
  have hn0 := h.n0
  have hn52 := h.n52
  have hn0' := h'.n0
  have hn52' := h'.n52
  unfold F366 F366_1
  have w1 : w64 (max n n' - 1) = max n n' - 1 := w64_id (by omega)
  have e1 : vb (max n n').toNat w = V := h.all (by omega)
  have e2 : vb (max n n').toNat w' = V' := h'.all (by omega)
  obtain ⟨r, hr, hp⟩ := iter_inv (L := F366_L2 N n w n' w')
    (fun v : Int => -1 ≤ v ∧ v < max n n' ∧ ∀ i : Nat, v < i → (i : Int) < max n n' → w i = w' i)
    (fun v => (v + 1).toNat)
    (fun r => r = (decide (V < V'), n, w, n', w'))
    (by
      rintro v ⟨h1, h2, h3⟩
      unfold F366_L2 F366_L2b F366_3 F366_4
      by_cases hv : v ≥ 0
      · rw [bt (decide_eq_true hv), bt (in52 hv (by omega)), bt (in52 hv (by omega)), ne_bv]
        by_cases hc : (w v.toNat).toNat = (w' v.toNat).toNat
        · rw [bf (decide_eq_false (by simpa using hc)), w64_id (by omega)]
          refine .inl ⟨_, rfl, ⟨by omega, by omega, ?_⟩, by omega⟩
          intro i hi1 hi2
          by_cases k : (i : Int) = v
          · have : i = v.toNat := by omega
            rw [this]; exact BitVec.eq_of_toNat_eq hc
          · exact h3 i (by omega) hi2
        · rw [bt (decide_eq_true hc), bt (in52 hv (by omega)), bt (in52 hv (by omega))]
          refine .inr ⟨_, rfl, ?_⟩
          have he : ∀ i, v.toNat < i → i < (max n n').toNat → w i = w' i := fun i k1 k2 => h3 i (by omega) (by omega)
          by_cases hl : (w v.toNat).toNat < (w' v.toNat).toNat
          · have := vb_top (k := (max n n').toNat) (by omega) hl he
            rw [e1, e2] at this
            rw [decide_eq_true hl, decide_eq_true this]
          · have := vb_top (w := w') (w' := w) (t := v.toNat) (k := (max n n').toNat) (by omega) (by omega) (fun i k1 k2 => (he i k1 k2).symm)
            rw [e1, e2] at this
            rw [decide_eq_false hl, decide_eq_false (show ¬ V < V' by omega)]
      · rw [bf (decide_eq_false hv)]
        refine .inr ⟨_, rfl, ?_⟩
        have : vb (max n n').toNat w = vb (max n n').toNat w' := vb_congr fun i hi => h3 i (by omega) (by omega)
        rw [e1, e2] at this
        rw [decide_eq_false (show ¬ V < V' by omega)])
    N (w64 (max n n' - 1)) ⟨by omega, by omega, fun i k1 k2 => by omega⟩ (by omega)
  rw [hr, hp]

theorem F369_ok {N : Nat} (hN : 60 ≤ N) {n : Int} {w : Nat → BitVec 64} : F369 N n w = some (decide (vb 52 w = 0), n, w) := by
  unfold F369
  obtain ⟨r, hr, hp⟩ := iter_inv (L := F369_L2 N n w)
    (fun v : BitVec 64 × Int => ∃ i : Nat, v.2 = i ∧ i ≤ 52 ∧ (v.1.toNat = 0 ↔ vb i w = 0))
    (fun v => 53 - v.2.toNat)
    (fun r => r = (decide (vb 52 w = 0), n, w))
    (by
      rintro ⟨al, ii⟩ ⟨i, h1, h2, h3⟩
      simp only at h1 h3
      subst h1
      unfold F369_L2 F369_L2b F369_3
      simp only []
      by_cases hi : i < 52
      · rw [bt (decide_eq_true (by omega)), bt (in52 (by omega) (by omega)), Int.toNat_natCast]
        unfold F369_5 F369_4
        rw [w64_id (by omega)]
        refine .inl ⟨_, rfl, ⟨i + 1, by simp only []; omega, by omega, ?_⟩, by simp only []; omega⟩
        simp only []
        rw [vb, BitVec.toNat_or]
        have k1 : al.toNat ≤ al.toNat ||| (w i).toNat := Nat.left_le_or
        have k2 : (w i).toNat ≤ al.toNat ||| (w i).toNat := Nat.right_le_or
        have p := pow_pos2 (64 * i)
        constructor
        · intro k
          rw [k] at k1 k2
          rw [h3.1 (by omega), show (w i).toNat = 0 from by omega]; omega
        · intro k
          have k3 : (w i).toNat * 2 ^ (64 * i) = 0 := by omega
          have k4 : (w i).toNat = 0 := by
            rcases Nat.mul_eq_zero.1 k3 with q | q
            · exact q
            · omega
          rw [h3.2 (by omega), k4]; rfl
      · have : i = 52 := by omega
        subst this
        rw [bf (decide_eq_false (by omega))]
        refine .inr ⟨_, rfl, ?_⟩
        show ((al == 0#64), n, w) = _
        rw [eq_bv]
        exact congrArg (fun b => (b, n, w)) (decide_eq_decide.2 h3))
    N (0#64, 0) ⟨0, rfl, by omega, by simp [vb]⟩ (by show 53 - (0 : Int).toNat < N; omega)
  rw [hr, hp]

theorem F368_ok {N : Nat} (hN : 60 ≤ N) {n n' : Int} {w w' : Nat → BitVec 64} : ∃ c w2, F368 N n w n' w' = some (c, n, w2, n', w') ∧ vb 52 w2 + (bif c then 1 else 0) * LB = vb 52 w + vb 52 w' := by
  unfold F368
  obtain ⟨r, hr, hp⟩ := iter_inv (L := F368_L2 N n n' w')
    (fun v : Bool × Int × (Nat → BitVec 64) => ∃ i : Nat, v.2.1 = i ∧ i ≤ 52 ∧ vb i v.2.2 + (bif v.1 then 1 else 0) * 2 ^ (64 * i) = vb i w + vb i w' ∧ ∀ j, i ≤ j → v.2.2 j = w j)
    (fun v => 53 - v.2.1.toNat)
    (fun r => ∃ c w2, r = (c, n, w2, n', w') ∧ vb 52 w2 + (bif c then 1 else 0) * LB = vb 52 w + vb 52 w')
    (by
      rintro ⟨c, ii, ww⟩ ⟨i, h1, h2, h3, h4⟩
      simp only at h1 h3 h4
      subst h1
      unfold F368_L2 F368_L2b F368_3
      simp only []
      by_cases hi : i < 52
      · rw [bt (decide_eq_true (by omega)), bt (in52 (by omega) (by omega)), Int.toNat_natCast]
        left
        -- the first sum
        have hs : ∃ s : BitVec 64 × BitVec 64, F368_5 N n n' w' c (i : Int) ww (ww i) = F368_6 N n n' w' (i : Int) ww s.1 s.2 ∧ v2 s.1 s.2 = (ww i).toNat + (bif c then 1 else 0) := by
          unfold F368_5
          simp only [lt]
          cases c with
          | true =>
            refine ⟨((F166 0#64 (ww i) 0#64 1#64).1, (F166 0#64 (ww i) 0#64 1#64).2.1), rfl, ?_⟩
            have := (F166_ok 0#64 (ww i) 0#64 1#64).1
            have hl := (ww i).isLt
            have e1 : v2 0#64 (ww i) = (ww i).toNat := by unfold v2; simp
            have e2 : v2 0#64 1#64 = 1 := by decide
            rw [e1, e2, Nat.mod_eq_of_lt (by omega)] at this
            exact this
          | false =>
            refine ⟨(0#64, ww i), rfl, ?_⟩
            unfold v2; simp
        obtain ⟨s, hs1, hs2⟩ := hs
        rw [hs1]
        unfold F368_6
        rw [bt (in52 (by omega) (by omega)), Int.toNat_natCast]
        simp only [lt]
        have hsum := (F166_ok s.1 s.2 0#64 (w' i)).1
        have e1 : v2 0#64 (w' i) = (w' i).toNat := by unfold v2; simp
        have hl1 := (ww i).isLt
        have hl2 := (w' i).isLt
        have hcl : (bif c then 1 else 0 : Nat) ≤ 1 := by cases c <;> decide
        rw [e1, hs2, Nat.mod_eq_of_lt (by omega)] at hsum
        generalize F166 s.1 s.2 0#64 (w' i) = p at *
        unfold F368_7 F368_8 F368_4
        rw [bt (in52 (by omega) (by omega)), Int.toNat_natCast, w64_id (by omega)]
        refine ⟨_, rfl, ⟨i + 1, by simp only []; omega, by omega, ?_, ?_⟩, by simp only []; omega⟩
        · simp only []
          rw [vb, vb, vb, vb_upd (Nat.le_refl i), upd_eq, p64s, ne_bv, show (0#64).toNat = 0 from rfl]
          unfold v2 at hsum
          have hpl := p.2.1.isLt
          have hp1 : p.1.toNat = (bif decide (p.1.toNat ≠ 0) then 1 else 0) := by
            have : p.1.toNat ≤ 1 := by omega
            by_cases k : p.1.toNat = 0
            · rw [decide_eq_false (by simpa using k)]; exact k
            · rw [decide_eq_true k]; simp only [cond_true]; omega
          rw [← hp1]
          rw [h4 i (Nat.le_refl i)] at hsum
          have e2 : p.2.1.toNat * 2 ^ (64 * i) + p.1.toNat * (2 ^ (64 * i) * 18446744073709551616) = ((w i).toNat + (bif c then 1 else 0) + (w' i).toNat) * 2 ^ (64 * i) := by
            rw [← hsum]; grind
          rw [Nat.add_mul, Nat.add_mul] at e2
          omega
        · intro j hj
          simp only []
          rw [upd_ne (by omega), h4 j (by omega)]
      · have h52 : i = 52 := by omega
        rw [LB_of h52, h52] at h3
        rw [bf (decide_eq_false (by omega))]
        exact .inr ⟨_, rfl, c, ww, rfl, h3⟩)
    N (false, 0, w) ⟨0, rfl, by omega, by simp [vb], fun j _ => rfl⟩ (by show 53 - (0 : Int).toNat < N; omega)
  obtain ⟨c, w2, e1, e2⟩ := hp
  exact ⟨c, w2, by rw [hr, e1], e2⟩

theorem F367_ok {N : Nat} (hN : 60 ≤ N) {n n' : Int} {w w' : Nat → BitVec 64} {X Y : Nat} (h : Bg n w X) (h' : Bg n' w' Y) {q : BitVec 64} (hq : q.toNat * Y < LB) :
    ∃ w2, F367 N n w n' w' q = some (decide (X < q.toNat * Y), n, w2, n', w') ∧ vb 52 w2 + q.toNat * Y = X + (if X < q.toNat * Y then 1 else 0) * LB := by
  have hn0 := h.n0
  have hn52 := h.n52
  have hn0' := h'.n0
  have hn52' := h'.n52
  have eX : vb 52 w = X := h.all (by omega)
  have eY : vb 52 w' = Y := h'.all (by omega)
  have hXl : X < LB := by rw [← eX]; exact vb_LB rfl
  unfold F367
  -- the end
  have hend : ∀ (bw : BitVec 64) (ww : Nat → BitVec 64), bw.toNat ≤ 1 → vb 52 ww + q.toNat * Y = X + bw.toNat * LB →
      ∃ w2, F367_1 N n n' w' bw ww = some (decide (X < q.toNat * Y), n, w2, n', w') ∧ vb 52 w2 + q.toNat * Y = X + (if X < q.toNat * Y then 1 else 0) * LB := by
    intro bw ww hb he
    have hl : vb 52 ww < LB := vb_LB rfl
    unfold F367_1
    rw [ne_bv, show (0#64).toNat = 0 from rfl]
    refine ⟨ww, ?_, ?_⟩
    · have : decide (bw.toNat ≠ 0) = decide (X < q.toNat * Y) := by
        refine decide_eq_decide.2 ?_
        have hc : bw.toNat = 0 ∨ bw.toNat = 1 := by omega
        rcases hc with k | k <;> rw [k] at he ⊢ <;> omega
      rw [this]
    · have hc : bw.toNat = 0 ∨ bw.toNat = 1 := by omega
      rcases hc with k | k <;> rw [k] at he <;> split <;> omega
  obtain ⟨r, hr, hp⟩ := iter_inv (L := F367_L2 N n n' w' q)
    (fun v : BitVec 64 × BitVec 64 × Int × (Nat → BitVec 64) => ∃ i : Nat, v.2.2.1 = i ∧ i ≤ 52 ∧ v.2.1.toNat ≤ 1 ∧ vb i w + (v.1.toNat + v.2.1.toNat) * 2 ^ (64 * i) = vb i v.2.2.2 + q.toNat * vb i w' ∧ v.1.toNat * 2 ^ (64 * i) ≤ q.toNat * vb i w' ∧ ∀ j, i ≤ j → v.2.2.2 j = w j)
    (fun v => 53 - v.2.2.1.toNat)
    (fun r => ∃ w2, r = (decide (X < q.toNat * Y), n, w2, n', w') ∧ vb 52 w2 + q.toNat * Y = X + (if X < q.toNat * Y then 1 else 0) * LB)
    (by
      rintro ⟨cy, bw, ii, ww⟩ ⟨i, h1, h2, h3, h4, h5, h6⟩
      simp only at h1 h3 h4 h5 h6
      subst h1
      unfold F367_L2 F367_L2b F367_3 F367_5
      simp only []
      -- the end at i, nothing carried
      have hfin : cy.toNat = 0 → vb 52 ww + q.toNat * Y = X + bw.toNat * LB →
          ∃ y, (F367_1 N n n' w' bw ww).map (Sum.inr : _ → (BitVec 64 × BitVec 64 × Int × (Nat → BitVec 64)) ⊕ _) = some (.inr y) ∧ ∃ w2, y = (decide (X < q.toNat * Y), n, w2, n', w') ∧ vb 52 w2 + q.toNat * Y = X + (if X < q.toNat * Y then 1 else 0) * LB := by
        intro _ he
        obtain ⟨w2, g1, g2⟩ := hend bw ww h3 he
        rw [g1]
        exact ⟨_, rfl, w2, rfl, g2⟩
      by_cases hi : i < 52
      · rw [bt (decide_eq_true (by omega))]
        by_cases hbr : (i : Int) ≥ n ∧ (i : Int) ≥ n' ∧ cy.toNat = 0 ∧ bw.toNat = 0
        · obtain ⟨k1, k2, k3, k4⟩ := hbr
          have hz : (cy ||| bw == 0#64) = true := by
            rw [eq_bv, BitVec.toNat_or, k3, k4]; rfl
          rw [hz, decide_eq_true k1, decide_eq_true k2]
          right
          refine hfin k3 ?_
          have e1 : vb 52 ww = vb i ww := vb_zero (by omega) (fun j a b => by rw [h6 j a]; exact h.z j (by omega))
          have e2 : vb i w = X := h.all (by omega)
          have e3 : vb i w' = Y := h'.all (by omega)
          rw [k3, k4] at h4
          rw [k4, e1, ← e3, ← e2]
          omega
        · rw [bf (by
            by_cases k1 : (i : Int) ≥ n
            · by_cases k2 : (i : Int) ≥ n'
              · have k3 : ¬ (cy.toNat = 0 ∧ bw.toNat = 0) := fun k => hbr ⟨k1, k2, k.1, k.2⟩
                have hz : (cy ||| bw == 0#64) = false := by
                  rw [eq_bv, BitVec.toNat_or]
                  refine decide_eq_false ?_
                  have a1 : cy.toNat ≤ cy.toNat ||| bw.toNat := Nat.left_le_or
                  have a2 : bw.toNat ≤ cy.toNat ||| bw.toNat := Nat.right_le_or
                  intro k
                  rw [k] at a1 a2
                  have : (0#64).toNat = 0 := rfl
                  omega
                rw [hz]; simp
              · rw [decide_eq_false k2]; simp
            · rw [decide_eq_false k1]; simp), bt (in52 (by omega) (by omega)), Int.toNat_natCast]
          left
          simp only [lt]
          unfold F367_6
          simp only [lt]
          have hmw := mul_add_words (w' i) q cy
          generalize F166 (F165 (w' i) q).1 (F165 (w' i) q).2 0#64 cy = p at *
          unfold F367_7 F367_8 F367_9 F367_10 F367_4
          rw [bt (in52 (by omega) (by omega)), bt (in52 (by omega) (by omega)), bt (in52 (by omega) (by omega)), Int.toNat_natCast, w64_id (by omega)]
          rw [h6 i (Nat.le_refl i)]
          unfold v2 at hmw
          have hxl := (w i).isLt
          have hpl := p.2.1.isLt
          have hbl := bw.isLt
          have ed : (w i - p.2.1).toNat = (18446744073709551616 - p.2.1.toNat + (w i).toNat) % 18446744073709551616 := sub64 _ _
          have el : (w i - p.2.1 - bw).toNat = (18446744073709551616 - bw.toNat + (w i - p.2.1).toNat) % 18446744073709551616 := sub64 _ _
          -- the borrow
          have key : ∀ b' : BitVec 64, b'.toNat ≤ 1 → (w i).toNat + b'.toNat * 18446744073709551616 = (w i - p.2.1 - bw).toNat + p.2.1.toNat + bw.toNat →
              ∃ x', some (Sum.inl (p.1, b', (i : Int) + 1, upd ww i (w i - p.2.1 - bw)) : (BitVec 64 × BitVec 64 × Int × (Nat → BitVec 64)) ⊕ (Bool × Int × (Nat → BitVec 64) × Int × (Nat → BitVec 64))) = some (.inl x') ∧
              (∃ i_1 : Nat, x'.2.2.1 = i_1 ∧ i_1 ≤ 52 ∧ x'.2.1.toNat ≤ 1 ∧ vb i_1 w + (x'.1.toNat + x'.2.1.toNat) * 2 ^ (64 * i_1) = vb i_1 x'.2.2.2 + q.toNat * vb i_1 w' ∧ x'.1.toNat * 2 ^ (64 * i_1) ≤ q.toNat * vb i_1 w' ∧ ∀ j, i_1 ≤ j → x'.2.2.2 j = w j) ∧
              53 - x'.2.2.1.toNat < 53 - (i : Int).toNat := by
            intro b' hb' he
            refine ⟨_, rfl, ⟨i + 1, by simp only []; omega, by omega, hb', ?_, ?_, ?_⟩, by simp only []; omega⟩
            · simp only []
              rw [vb, vb, vb, vb_upd (Nat.le_refl i), upd_eq, p64s]
              generalize 2 ^ (64 * i) = B at *
              have e1 : q.toNat * (vb i w' + (w' i).toNat * B) = q.toNat * vb i w' + (w' i).toNat * q.toNat * B := by grind
              have e2 : (p.1.toNat + b'.toNat) * (B * 18446744073709551616) = (p.1.toNat * 18446744073709551616) * B + (b'.toNat * 18446744073709551616) * B := by grind
              have e3 : (p.1.toNat * 18446744073709551616 + p.2.1.toNat) * B = ((w' i).toNat * q.toNat + cy.toNat) * B := by rw [hmw]
              have e4 : ((w i).toNat + b'.toNat * 18446744073709551616) * B = ((w i - p.2.1 - bw).toNat + p.2.1.toNat + bw.toNat) * B := by rw [he]
              rw [Nat.add_mul] at h4 e3
              rw [Nat.add_mul] at e3
              rw [Nat.add_mul, Nat.add_mul, Nat.add_mul] at e4
              rw [e1, e2]
              omega
            · simp only []
              rw [vb, p64s]
              generalize 2 ^ (64 * i) = B at *
              have e1 : q.toNat * (vb i w' + (w' i).toNat * B) = q.toNat * vb i w' + (w' i).toNat * q.toNat * B := by grind
              have e3 : (p.1.toNat * 18446744073709551616 + p.2.1.toNat) * B = ((w' i).toNat * q.toNat + cy.toNat) * B := by rw [hmw]
              have e5 : p.1.toNat * (B * 18446744073709551616) = p.1.toNat * 18446744073709551616 * B := by grind
              rw [Nat.add_mul] at e3
              rw [Nat.add_mul] at e3
              rw [e1, e5]
              omega
            · intro j hj
              simp only []
              rw [upd_ne (by omega), h6 j (by omega)]
          by_cases c1 : (w i).toNat < p.2.1.toNat
          · rw [bt (decide_eq_true c1), bt rfl]
            exact key 1#64 (by decide) (by show (w i).toNat + 1 * 18446744073709551616 = _; omega)
          · rw [bf (decide_eq_false c1)]
            by_cases c2 : (w i - p.2.1).toNat < bw.toNat
            · rw [bt (decide_eq_true c2), bt (in52 (by omega) (by omega)), bt (in52 (by omega) (by omega))]
              exact key 1#64 (by decide) (by show (w i).toNat + 1 * 18446744073709551616 = _; omega)
            · rw [bf (decide_eq_false c2), bt (in52 (by omega) (by omega)), bt (in52 (by omega) (by omega))]
              exact key 0#64 (by decide) (by show (w i).toNat + 0 * 18446744073709551616 = _; omega)
      · have hi52 : i = 52 := by omega
        rw [bf (decide_eq_false (by omega))]
        right
        rw [LB_of hi52, hi52, eX, eY] at h4
        rw [LB_of hi52, hi52, eY] at h5
        have hc0 : cy.toNat = 0 := by
          rcases Nat.eq_zero_or_pos cy.toNat with k | k
          · exact k
          · have := Nat.mul_le_mul_right LB (show 1 ≤ cy.toNat from k); omega
        refine hfin hc0 ?_
        rw [hc0, Nat.zero_add] at h4
        omega)
    N (0#64, 0#64, 0, w) ⟨0, rfl, by omega, by show (0#64).toNat ≤ 1; decide, by simp [vb], by simp [vb], fun j _ => rfl⟩ (by show 53 - (0 : Int).toNat < N; omega)
  obtain ⟨w2, e1, e2⟩ := hp
  exact ⟨w2, by rw [hr, e1], e2⟩
end Go.Proofs.YfwaawGreat
