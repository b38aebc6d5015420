/-
  Decimal texts, plain: Itoa; the printers end.
-/
import Derived.Test.YfwaawGreatD1
import Derived.Test.YfwaawGreatG13
import Derived.Test.YfwaawGreatG16
import Derived.Test.YfwaawGreatG17
import Derived.Test.YfwaawGreatG18
namespace Go.Proofs.YfwaawGreat
open Go.Aw
set_option linter.unusedVariables false
set_option linter.unusedSimpArgs false

theorem bys_succ (k : Nat) (f : Nat → BitVec 8) : bys (k + 1) f = UInt8.ofBitVec (f 0) :: bys k (fun i => f (i + 1)) := by
  unfold bys
  rw [List.range_succ_eq_map, List.map_cons, List.map_map]
  rfl
theorem bys_len (k : Nat) (f : Nat → BitVec 8) : (bys k f).length = k := by unfold bys; simp
theorem bys_congr {k : Nat} {f g : Nat → BitVec 8} (h : ∀ i, i < k → f i = g i) : bys k f = bys k g := by
  unfold bys
  refine List.map_congr_left fun i hi => ?_
  rw [h i (List.mem_range.1 hi)]
/-- A digit's byte. -/
theorem digit_byte {d : Nat} (hd : d ≤ 9) : (UInt8.ofBitVec (BitVec.ofNat 8 (48 + d))).toNat = 48 + d := by
  show (BitVec.ofNat 8 (48 + d)).toNat = _
  rw [BitVec.toNat_ofNat]; exact Nat.mod_eq_of_lt (by omega)

/-- Digits that spell a number, none in front that is zero. -/
structure Sp (s : List UInt8) (n : Nat) : Prop where
  d : ∀ c ∈ s, isd c
  v : dval s = n
  ne : s ≠ []
  first : n ≠ 0 → (s.getD 0 0).toNat ≠ 48
  z : n = 0 → s = [48]

/-- What lies in the buffer after j digits. -/
def tl (j : Nat) (b : Nat → BitVec 8) : List UInt8 := bys j (fun i => b (20 - j + i))
theorem tl_succ {j : Nat} (hj : j ≤ 19) (b : Nat → BitVec 8) (c : BitVec 8) : tl (j + 1) (upd b (19 - j) c) = UInt8.ofBitVec c :: tl j b := by
  unfold tl
  rw [bys_succ]
  congr 1
  · rw [show 20 - (j + 1) + 0 = 19 - j from by omega, upd_eq]
  · refine bys_congr fun i hi => ?_
    rw [show 20 - (j + 1) + (i + 1) = 20 - j + i from by omega, upd_ne (by omega)]

theorem F170_ok {N : Nat} (hN : 30 ≤ N) {a : Int} (ha : -9223372036854775808 ≤ a ∧ a < 9223372036854775808) :
    ∃ s t, F170 N a = some s ∧ Sp t a.natAbs ∧ t.length ≤ 19 ∧ s = (if a < 0 then 45 :: t else t) := by
  obtain ⟨U, hU⟩ : ∃ U, U = a.natAbs := ⟨_, rfl⟩
  have hUl : U < 10 ^ 19 := by
    have : (10 : Nat) ^ 19 = 10000000000000000000 := rfl
    omega
  rw [← hU]
  -- the word
  obtain ⟨u, hu, hw⟩ : ∃ u : BitVec 64, u.toNat = U ∧ F170 N a = F170_3 N a (fun _ => 0#8) u := by
    unfold F170 F170_1 F170_2 F170_13
    by_cases c : a < 0
    · rw [bt (decide_eq_true c)]
      refine ⟨_, ?_, rfl⟩
      rw [BitVec.toNat_neg, BitVec.toNat_ofInt]
      omega
    · rw [bf (decide_eq_false c)]
      refine ⟨_, ?_, rfl⟩
      rw [BitVec.toNat_ofInt]
      omega
  rw [hw]
  unfold F170_3
  obtain ⟨r, hr, hp⟩ := iter_inv (L := F170_L8 N a)
    (fun v : Int × BitVec 64 × (Nat → BitVec 8) => ∃ j : Nat, j ≤ 18 ∧ v.1 = 20 - (j : Int) ∧ v.2.1.toNat = U / 10 ^ j ∧ (0 < j → U / 10 ^ j ≠ 0) ∧ (∀ c ∈ tl j v.2.2, isd c) ∧ dval (tl j v.2.2) = U % 10 ^ j)
    (fun v => v.1.toNat)
    (fun s : List UInt8 => ∃ t, Sp t U ∧ t.length ≤ 19 ∧ s = (if a < 0 then 45 :: t else t))
    (by
      rintro ⟨at', x, b⟩ ⟨j, h1, h2, h3, h4, h5, h6⟩
      simp only at h2 h3 h5 h6
      subst h2
      unfold F170_L8 F170_L8b F170_9
      simp only []
      have w1 : w64 (20 - (j : Int) - 1) = ((19 - j : Nat) : Int) := by rw [w64_id (by omega)]; omega
      rw [w1, bt (by rw [decide_eq_true (show (0 : Int) ≤ ((19 - j : Nat) : Int) by omega), decide_eq_true (show ((19 - j : Nat) : Int) < 20 by omega)]; rfl), Int.toNat_natCast]
      unfold F170_10 F170_11 F170_12
      -- the digit
      have hdig : BitVec.ofInt 8 ((48#64 + x % 10#64).toNat : Int) = BitVec.ofNat 8 (48 + x.toNat % 10) := by
        rw [ofInt_nat, add64, BitVec.toNat_umod, show (48#64).toNat = 48 from rfl, show (10#64).toNat = 10 from rfl]
        congr 1
        omega
      rw [hdig]
      have hd9 : x.toNat % 10 ≤ 9 := by omega
      have hb := digit_byte hd9
      have htl := tl_succ (j := j) (by omega) b (BitVec.ofNat 8 (48 + x.toNat % 10))
      generalize hc : UInt8.ofBitVec (BitVec.ofNat 8 (48 + x.toNat % 10)) = c at *
      generalize upd b (19 - j) (BitVec.ofNat 8 (48 + x.toNat % 10)) = b' at *
      have hdc : dg c = x.toNat % 10 := by unfold dg; omega
      have hall : ∀ z ∈ tl (j + 1) b', isd z := by
        rw [htl]
        intro z hz
        rcases List.mem_cons.1 hz with k | k
        · rw [k]; exact ⟨by omega, by omega⟩
        · exact h5 z k
      have hlen : (tl j b).length = j := bys_len _ _
      have hval : dval (tl (j + 1) b') = U % 10 ^ (j + 1) := by
        rw [htl]
        have := dval_append [c] (tl j b)
        rw [List.singleton_append, dval_one, hlen] at this
        rw [this, h6, hdc, h3, Nat.pow_succ, Nat.mod_mul]
        rw [Nat.mul_comm]; omega
      have hq : (x / 10#64).toNat = U / 10 ^ (j + 1) := by
        rw [BitVec.toNat_udiv, show (10#64).toNat = 10 from rfl, h3, Nat.pow_succ, Nat.div_div_eq_div_mul]
      rw [eq_bv, hq, show (0#64).toNat = 0 from rfl]
      by_cases hz : U / 10 ^ (j + 1) = 0
      · rw [bt (decide_eq_true hz)]
        right
        have hmod : U % 10 ^ (j + 1) = U := by
          have := Nat.div_add_mod U (10 ^ (j + 1))
          rw [hz, Nat.mul_zero, Nat.zero_add] at this
          exact this
        rw [hmod] at hval
        have hsp : Sp (tl (j + 1) b') U := by
          refine ⟨hall, hval, by rw [htl]; simp, ?_, ?_⟩
          · intro hU0
            rw [htl]
            show c.toNat ≠ 48
            have hx10 : x.toNat < 10 := by
              rw [h3]
              have : U / 10 ^ (j + 1) = U / 10 ^ j / 10 := by rw [Nat.pow_succ, Nat.div_div_eq_div_mul]
              omega
            have hx0 : x.toNat ≠ 0 := by
              rw [h3]
              rcases Nat.eq_zero_or_pos j with k | k
              · rw [k, Nat.pow_zero, Nat.div_one]; exact hU0
              · exact h4 k
            omega
          · intro hU0
            have hj0 : j = 0 := by
              rcases Nat.eq_zero_or_pos j with k | k
              · exact k
              · exact (h4 k (by rw [hU0, Nat.zero_div])).elim
            subst hj0
            rw [htl]
            have hx0 : x.toNat = 0 := by rw [h3, hU0]
            have : c = 48 := by rw [← hc, hx0]; rfl
            rw [this]
            have h0 : tl 0 b = [] := rfl
            rw [h0]
        have hlen2 : (tl (j + 1) b').length = j + 1 := bys_len _ _
        unfold F170_4 F170_6
        by_cases hn : a < 0
        · rw [bt (decide_eq_true hn)]
          unfold F170_7
          have w2 : w64 (((19 - j : Nat) : Int) - 1) = ((18 - j : Nat) : Int) := by rw [w64_id (by omega)]; omega
          rw [w2, bt (by rw [decide_eq_true (show (0 : Int) ≤ ((18 - j : Nat) : Int) by omega), decide_eq_true (show ((18 - j : Nat) : Int) < 20 by omega)]; rfl), Int.toNat_natCast]
          unfold F170_5
          rw [bt (by rw [decide_eq_true (show (0 : Int) ≤ ((18 - j : Nat) : Int) by omega), decide_eq_true (show ((18 - j : Nat) : Int) ≤ 20 by omega)]; rfl), bt (decide_eq_true (by omega)), Int.toNat_natCast, bt (decide_eq_true (by omega))]
          refine ⟨_, rfl, tl (j + 1) b', hsp, by omega, ?_⟩
          rw [if_pos hn]
          have e2 : bys (20 - (18 - j)) (fun i => upd b' (18 - j) 45#8 (18 - j + i)) = tl (j + 2) (upd b' (19 - (j + 1)) 45#8) := by
            unfold tl
            rw [show 20 - (18 - j) = j + 2 from by omega, show 19 - (j + 1) = 18 - j from by omega, show 20 - (j + 2) = 18 - j from by omega]
          rw [e2, tl_succ (by omega)]
          rfl
        · rw [bf (decide_eq_false hn)]
          unfold F170_5
          rw [bt (by rw [decide_eq_true (show (0 : Int) ≤ ((19 - j : Nat) : Int) by omega), decide_eq_true (show ((19 - j : Nat) : Int) ≤ 20 by omega)]; rfl), bt (decide_eq_true (by omega)), Int.toNat_natCast, bt (decide_eq_true (by omega))]
          refine ⟨_, rfl, tl (j + 1) b', hsp, by omega, ?_⟩
          rw [if_neg hn]
          unfold tl
          rw [show 20 - (19 - j) = j + 1 from by omega, show 20 - (j + 1) = 19 - j from by omega]
      · rw [bf (decide_eq_false hz)]
        left
        have hj17 : j + 1 ≤ 18 := by
          rcases Nat.lt_or_ge j 18 with k | k
          · omega
          · exfalso
            have : j = 18 := by omega
            subst this
            exact hz (Nat.div_eq_of_lt hUl)
        exact ⟨_, rfl, ⟨j + 1, hj17, by simp only []; omega, hq, fun _ => hz, hall, hval⟩, by simp only []; omega⟩)
    N (20, u, fun _ => 0#8) ⟨0, by omega, by simp, by simp [hu], fun h => by omega, by simp [tl, bys], by simp [tl, bys, dval_nil, Nat.mod_one]⟩ (by show (20 : Int).toNat < N; have : (20 : Int).toNat = 20 := rfl; omega)
  obtain ⟨t, k1, k2, k3⟩ := hp
  exact ⟨r, t, hr, k1, k2, k3⟩
end Go.Proofs.YfwaawGreat
