/-
  Hexadecimal text: hexa.Text = exact.Hex.
-/
import Derived.Test.YfwaawGreatD3
import Derived.Test.YfwaawGreatS2
import Derived.Test.YfwaawGreatG19
import Derived.Test.YfwaawGreatG51
namespace Go.Proofs.YfwaawGreat
open Go.Aw
set_option linter.unusedVariables false
set_option linter.unusedSimpArgs false

/-- A hexadecimal digit. -/
def hd (d : Nat) : UInt8 := str1.getD d 0
/-- The digits of a fraction of 52 bits, up to the last that is not zero. -/
def hexs : Nat → Nat → List UInt8
  | 0, _ => []
  | k + 1, f => if f = 0 then [] else hd (f / 281474976710656) :: hexs k (f * 16 % 4503599627370496)
theorem hexs_zero : ∀ k, hexs k 0 = []
  | 0 => rfl
  | k + 1 => by rw [hexs, if_pos rfl]
theorem hexs_len : ∀ k f, (hexs k f).length ≤ k
  | 0, _ => Nat.le_refl _
  | k + 1, f => by
    rw [hexs]
    split
    · simp
    · rw [List.length_cons]; have := hexs_len k (f * 16 % 4503599627370496); omega
theorem bys_snoc {k : Nat} {f : Nat → BitVec 8} {c : BitVec 8} : bys (k + 1) (upd f k c) = bys k f ++ [UInt8.ofBitVec c] := by
  unfold bys
  rw [List.range_succ, List.map_append, List.map_singleton, upd_eq]
  congr 1
  refine List.map_congr_left fun i hi => ?_
  rw [upd_ne (by have := List.mem_range.1 hi; omega)]
/-- 52 bits hold 13 digits. -/
theorem nib_dvd {i f : Nat} (hd : 2 ^ (4 * i) ∣ f) : 2 ^ (4 * (i + 1)) ∣ f * 16 % 4503599627370496 ∨ f * 16 % 4503599627370496 = 0 := by
  by_cases hi : i + 1 ≤ 13
  · left
    refine (Nat.dvd_mod_iff (show 2 ^ (4 * (i + 1)) ∣ 4503599627370496 from ?_)).2 ?_
    · rw [show 4503599627370496 = 2 ^ 52 from rfl]; exact Nat.pow_dvd_pow 2 (by omega)
    · rw [Nat.mul_add, Nat.pow_add]; exact Nat.mul_dvd_mul hd (Nat.dvd_refl _)
  · right
    refine Nat.mod_eq_zero_of_dvd ?_
    rw [show 4503599627370496 = 2 ^ 52 from rfl]
    exact Nat.dvd_trans (Nat.pow_dvd_pow 2 (show 52 ≤ 4 * i by omega)) (Nat.dvd_trans hd (Nat.dvd_mul_right _ _))
theorem nib_end {f : Nat} (hf : f < 4503599627370496) (hd : 2 ^ (4 * 13) ∣ f) : f = 0 := Nat.eq_zero_of_dvd_of_lt hd hf

section
variable {e m : BitVec 8}
variable {x1 : Bool} {x2 x3 : Int} {x4 : BitVec 64} {x6 : List UInt8}
/-- soft's digits. -/
theorem F106_10_ok {N : Nat} (hN : 20 ≤ N) {g : BitVec 64} {f0 : Nat} (h0 : g.toNat = f0 * 4096) (hf0 : f0 < 4503599627370496) (h6 : x6.length ≤ 100) :
    F106_10 N x1 x2 x3 x4 x6 g (fun _ => 0#8) = F106_4 N x1 x2 x3 x4 (x6 ++ ([46] ++ hexs 13 f0)) := by
  have key : ∀ (M i f : Nat) (g : BitVec 64) (b : Nat → BitVec 8), 13 - i < M → i ≤ 13 → g.toNat = f * 4096 → f < 4503599627370496 → 2 ^ (4 * i) ∣ f → bys i b ++ hexs (13 - i) f = hexs 13 f0 →
      iterL (F106_L12 N x1 x2 x3 x4 x6) M (g, (i : Int), b) = F106_4 N x1 x2 x3 x4 (x6 ++ ([46] ++ hexs 13 f0)) := by
    intro M
    induction M with
    | zero => intro i f g b hm; omega
    | succ M ih =>
      intro i f g b hm hi hg hf hdv hs
      by_cases hz : f = 0
      · have hstep : F106_L12 N x1 x2 x3 x4 x6 (g, (i : Int), b) = (F106_4 N x1 x2 x3 x4 (x6 ++ ([46] ++ hexs 13 f0))).map Sum.inr := by
          unfold F106_L12 F106_L12b F106_13
          simp only []
          rw [ne_bv, bf (decide_eq_false (by rw [hg, hz]; simp))]
          unfold F106_11
          have hl := bys_len i b
          rw [hz, hexs_zero, List.append_nil] at hs
          have hl2 : (hexs 13 f0).length ≤ 13 := hexs_len _ _
          rw [bt (by rw [decide_eq_true (show (0 : Int) ≤ i by omega), decide_eq_true (show (i : Int) ≤ 16 by omega)]; rfl), Int.toNat_natCast, bt (decide_eq_true (by omega)), hs, bt (decide_eq_true (by simp; omega)), bt (decide_eq_true (by simp; omega))]
        rw [iterL, hstep]
        cases F106_4 N x1 x2 x3 x4 (x6 ++ ([46] ++ hexs 13 f0)) <;> rfl
      · have hi13 : i < 13 := by
          rcases Nat.lt_or_ge i 13 with k | k
          · exact k
          · have : i = 13 := by omega
            subst this
            exact (hz (nib_end hf hdv)).elim
        obtain ⟨j, hj⟩ : ∃ j, 13 - i = j + 1 := ⟨12 - i, by omega⟩
        have hsh : (g >>> 60).toNat = f / 281474976710656 := by
          rw [shr_nat, hg, show (2 : Nat) ^ 60 = 1152921504606846976 from rfl]; omega
        have hsl : (g <<< 4).toNat = f * 16 % 4503599627370496 * 4096 := by
          rw [BitVec.toNat_shiftLeft, Nat.shiftLeft_eq, p64, hg, show (2 : Nat) ^ 4 = 16 from rfl]; omega
        have hstep : F106_L12 N x1 x2 x3 x4 x6 (g, (i : Int), b) = some (.inl (g <<< 4, ((i + 1 : Nat) : Int), upd b i (hd (f / 281474976710656)).toBitVec)) := by
          unfold F106_L12 F106_L12b F106_13
          simp only []
          rw [ne_bv, bt (decide_eq_true (by rw [hg]; show f * 4096 ≠ 0; omega)), hsh]
          have hs16 : (str1.length : Int) = 16 := rfl
          rw [hs16, bt (by simp only [Bool.and_eq_true, decide_eq_true_eq]; omega), bt (by rw [decide_eq_true (show (0 : Int) ≤ i by omega), decide_eq_true (show (i : Int) < 16 by omega)]; rfl)]
          unfold F106_15 F106_14
          rw [w64_id (by omega)]
          rfl
        rw [iterL, hstep]
        have hnd := nib_dvd hdv
        have hlt : f * 16 % 4503599627370496 < 4503599627370496 := Nat.mod_lt _ (by decide)
        refine ih (i + 1) _ _ _ (by omega) (by omega) hsl hlt ?_ ?_
        · rcases hnd with k | k
          · exact k
          · rw [k]; exact Nat.dvd_zero _
        · rw [hj, hexs, if_neg hz] at hs
          rw [bys_snoc, show 13 - (i + 1) = j from by omega, List.append_assoc]
          exact hs
  unfold F106_10
  exact key N 0 f0 g (fun _ => 0#8) (by omega) (by omega) h0 hf0 (by simp) rfl

/-- exact's digits. -/
theorem F211_ok {N : Nat} {v : BitVec 64} (hv : v.toNat < 16) : F211 N v = some [hd v.toNat] := by
  have h1 : (v &&& 15#64).toNat = v.toNat := by
    rw [BitVec.toNat_and, show (15#64).toNat = 2 ^ 4 - 1 from rfl, Nat.and_two_pow_sub_one_eq_mod]; exact Nat.mod_eq_of_lt hv
  have h2 : ((v &&& 15#64) + 1#64).toNat = v.toNat + 1 := by rw [add64, h1, show (1#64).toNat = 1 from rfl]; omega
  have hs16 : (str1.length : Int) = 16 := rfl
  unfold F211
  rw [h1, h2, hs16, bt (by rw [decide_eq_true (show (0 : Int) ≤ (v.toNat : Int) by omega), decide_eq_true (show (v.toNat : Int) ≤ ((v.toNat + 1 : Nat) : Int) by omega), decide_eq_true (show ((v.toNat + 1 : Nat) : Int) ≤ 16 by omega)]; rfl), Int.toNat_natCast, Int.toNat_natCast, Nat.add_sub_cancel_left]
  have key : ∀ d : Fin 16, (str1.drop d.val).take 1 = [hd d.val] := by decide
  rw [key ⟨v.toNat, hv⟩]
theorem F105_14_ok {N : Nat} (hN : 20 ≤ N) {x8 : List UInt8} {x11 : Int} {g : BitVec 64} {f0 : Nat} (h0 : g.toNat = f0) (hf0 : f0 < 4503599627370496) :
    F105_14 N x8 x11 g = F105_9 N x8 x11 (hexs 13 f0) := by
  have key : ∀ (M i f : Nat) (g : BitVec 64) (s : List UInt8), 13 - i < M → i ≤ 13 → s.length ≤ 13 → g.toNat = f → f < 4503599627370496 → 2 ^ (4 * i) ∣ f → s ++ hexs (13 - i) f = hexs 13 f0 →
      iterL (F105_L15 N x8 x11) M (s, g) = F105_9 N x8 x11 (hexs 13 f0) := by
    intro M
    induction M with
    | zero => intro i f g s hm; omega
    | succ M ih =>
      intro i f g s hm hi hsl hg hf hdv hs
      by_cases hz : f = 0
      · have hstep : F105_L15 N x8 x11 (s, g) = (F105_9 N x8 x11 (hexs 13 f0)).map Sum.inr := by
          unfold F105_L15 F105_L15b F105_16
          simp only []
          rw [ne_bv, bf (decide_eq_false (by rw [hg, hz]; simp))]
          rw [hz, hexs_zero, List.append_nil] at hs
          rw [hs]
        rw [iterL, hstep]
        cases F105_9 N x8 x11 (hexs 13 f0) <;> rfl
      · have hi13 : i < 13 := by
          rcases Nat.lt_or_ge i 13 with k | k
          · exact k
          · have : i = 13 := by omega
            subst this
            exact (hz (nib_end hf hdv)).elim
        obtain ⟨j, hj⟩ : ∃ j, 13 - i = j + 1 := ⟨12 - i, by omega⟩
        have hsh : (g >>> 48).toNat = f / 281474976710656 := by
          rw [shr_nat, hg, show (2 : Nat) ^ 48 = 281474976710656 from rfl]
        have hs4 : ((g <<< 4) &&& 4503599627370495#64).toNat = f * 16 % 4503599627370496 := by
          rw [BitVec.toNat_and, show (4503599627370495#64).toNat = 2 ^ 52 - 1 from rfl, Nat.and_two_pow_sub_one_eq_mod, BitVec.toNat_shiftLeft, Nat.shiftLeft_eq, p64, hg, show (2 : Nat) ^ 4 = 16 from rfl, show (2 : Nat) ^ 52 = 4503599627370496 from rfl]; omega
        have hstep : F105_L15 N x8 x11 (s, g) = some (.inl (s ++ [hd (f / 281474976710656)], (g <<< 4) &&& 4503599627370495#64)) := by
          unfold F105_L15 F105_L15b F105_16
          simp only []
          rw [ne_bv, bt (decide_eq_true (by rw [hg]; exact hz)), F211_ok (by rw [hsh]; omega), hsh]
          simp only [Option.bind_some]
          rw [bt (decide_eq_true (by simp; omega))]
          rfl
        rw [iterL, hstep]
        have hnd := nib_dvd hdv
        have hlt : f * 16 % 4503599627370496 < 4503599627370496 := Nat.mod_lt _ (by decide)
        have hs' : (s ++ [hd (f / 281474976710656)]) ++ hexs j (f * 16 % 4503599627370496) = hexs 13 f0 := by
          rw [hj, hexs, if_neg hz] at hs
          rw [List.append_assoc]; exact hs
        refine ih (i + 1) _ _ _ (by omega) (by omega) ?_ hs4 hlt ?_ (by rw [show 13 - (i + 1) = j from by omega]; exact hs')
        · have h1 := congrArg List.length hs'
          rw [List.length_append] at h1
          have h2 : (hexs 13 f0).length ≤ 13 := hexs_len _ _
          omega
        · rcases hnd with k | k
          · exact k
          · rw [k]; exact Nat.dvd_zero _
  unfold F105_14
  exact key N 0 f0 g [] (by omega) (by omega) (by simp) h0 hf0 (by simp) rfl

theorem tail_eq {N : Nat} {x7 : List UInt8} {x8 : Int} : F106_5 N x7 x8 = F105_11 N x8 x7 := rfl
theorem tail_ends {N : Nat} (hN : 30 ≤ N) {x7 : List UInt8} {x : Int} (hx : -9223372036854775808 ≤ x ∧ x < 9223372036854775808) (h7 : x7.length ≤ 1000) : ∃ s, F105_11 N x x7 = some s := by
  unfold F105_11 F105_12
  by_cases c : x < 0
  · obtain ⟨s, h1, h2⟩ := itoa_ends hN (w64_range (0 - x))
    rw [bt (decide_eq_true c), bt (decide_eq_true (by simp; omega)), h1]
    simp only [Option.bind_some]
    rw [bt (decide_eq_true (by simp; omega))]
    exact ⟨_, rfl⟩
  · obtain ⟨s, h1, h2⟩ := itoa_ends hN hx
    rw [bf (decide_eq_false c), bt (decide_eq_true (by simp; omega)), h1]
    simp only [Option.bind_some]
    rw [bt (decide_eq_true (by simp; omega))]
    exact ⟨_, rfl⟩

theorem hexText_eq {N : Nat} (hN : 30 ≤ N) (h : Fm e m) (a : BitVec 64) : Bo (F106 N e m a) (F105 N e m a) := by
  have h4 := h.m52
  unfold F106 F106_1 F105 F105_1
  simp only [lt]
  rw [h.ok, Bool.not_true, bf rfl]
  rcases opn h a with ⟨na, ha, xa, ha'⟩ | ⟨na, ha, xa, ha'⟩ | ⟨na, ha, xa, ha'⟩ | ⟨na, ca, ea, ma, pa, fa⟩
  · rw [ha, ha']
    cases na <;> exact ⟨_, rfl, rfl⟩
  · rw [ha, ha']
    cases na <;> exact ⟨_, rfl, rfl⟩
  · rw [ha, ha']
    have hs : ∀ x5 : List UInt8, F106_3 N e m na 0 0 0#64 x5 = F105_11 N 0 x5 := by
      intro x5
      unfold F106_3
      have hz : ((0#64 <<< (63#8 - m).toNat) <<< 1) = 0#64 := by simp
      rw [hz]
      rfl
    have hI : F170 N 0 = some [48] := by
      obtain ⟨s, t, k1, k2, k3, k5⟩ := F170_ok hN (a := 0) (by omega)
      rw [k1, k5, if_neg (by omega), k2.z rfl]
    have ht : ∀ x7 : List UInt8, x7.length ≤ 10 → F105_11 N 0 x7 = some (x7 ++ [112, 43] ++ [48]) := by
      intro x7 h7
      unfold F105_11 F105_12
      rw [bf (by decide), bt (decide_eq_true (by simp; omega)), hI]
      simp only [Option.bind_some]
      rw [bt (decide_eq_true (by simp; omega))]
    cases na
    · simp only [Option.bind_some, F106_16, F106_17, F106_2, F105_2, F105_3, F105_18, F105_4, F105_5, klit, cond_true, cond_false]
      rw [hs, ht _ (by decide), bt (by decide)]
      exact ⟨_, rfl, rfl⟩
    · simp only [Option.bind_some, F106_16, F106_17, F106_2, F105_2, F105_3, F105_18, F105_4, F105_5, klit, cond_true, cond_false]
      rw [hs, ht _ (by decide), bt (by decide), bt (by decide)]
      exact ⟨_, rfl, rfl⟩
  · obtain ⟨a4, a3, a0⟩ := fa.cls
    have r1 := fa.range h
    have n1 := fa.bnum h
    have d1 := fa.bden h
    have hxh := fa.exh
    have hbi := bia_le h.e11
    rw [fa.f65, fa.f144]
    have hbm : blen ma.toNat = m.toNat + 1 := by
      have u1 : blen ma.toNat ≤ m.toNat + 1 := blen_le_iff.2 fa.hi
      have u2 : ¬ blen ma.toNat ≤ m.toNat := fun k => by have := blen_le_iff.1 k; have := fa.lo; omega
      omega
    have hlg : lg (ma.toNat * 2 ^ ea.toNat) (2 ^ (-ea).toNat) = m.toNat + ea := by rw [lg_pow fa.ne, hbm]; omega
    -- the fraction
    obtain ⟨f0, hf0⟩ : ∃ f0, f0 = (ma.toNat - 2 ^ m.toNat) * 2 ^ (52 - m.toNat) := ⟨_, rfl⟩
    have hlo := fa.lo
    have hhi := fa.hi
    have hp52 : 2 ^ m.toNat * 2 ^ (52 - m.toNat) = 4503599627370496 := by rw [← Nat.pow_add, show m.toNat + (52 - m.toNat) = 52 from by omega]
    have hs1 := Nat.pow_succ 2 m.toNat
    have hf0l : f0 < 4503599627370496 := by
      rw [hf0, ← hp52]
      exact Nat.mul_lt_mul_of_pos_right (by omega) (pow_pos2 _)
    have hman52 : ma.toNat * 2 ^ (52 - m.toNat) = 4503599627370496 + f0 := by
      rw [hf0, Nat.sub_mul, hp52]
      have := Nat.mul_le_mul_right (2 ^ (52 - m.toNat)) hlo
      rw [hp52] at this
      omega
    have hsoft : ((ma <<< (63#8 - m).toNat) <<< 1).toNat = f0 * 4096 := by
      have e1 : (63#8 - m).toNat = 63 - m.toNat := sub8 (by show m.toNat ≤ 63; omega)
      have e2 : (ma <<< (63 - m.toNat)).toNat = ma.toNat * 2 ^ (63 - m.toNat) := shl_nat _ _ (by
        have := Nat.mul_lt_mul_of_pos_right hhi (pow_pos2 (63 - m.toNat))
        rw [← Nat.pow_add] at this
        exact Nat.lt_of_lt_of_le this (pow_le (by omega)))
      have e3 : 2 ^ (63 - m.toNat) = 2 ^ (52 - m.toNat) * 2048 := by rw [show (2048 : Nat) = 2 ^ 11 from rfl, ← Nat.pow_add]; exact congrArg (fun t => 2 ^ t) (by omega)
      rw [e1, BitVec.toNat_shiftLeft, Nat.shiftLeft_eq, e2, e3, ← Nat.mul_assoc, hman52, p64, Nat.pow_one]
      omega
    have hfz : (((ma <<< (63#8 - m).toNat) <<< 1) != 0#64) = decide (f0 ≠ 0) := by
      rw [ne_bv, hsoft, show (0#64).toNat = 0 from rfl]
      exact decide_eq_decide.2 (by omega)
    -- soft's text
    have hso : ∀ x5 : List UInt8, x5.length ≤ 10 → F106_3 N e m na ca ea ma x5 = F105_11 N (m.toNat + ea) (bif decide (f0 ≠ 0) then x5 ++ ([46] ++ hexs 13 f0) else x5) := by
      intro x5 hx5
      have hend : ∀ x7, F106_4 N na ca ea ma x7 = F105_11 N (m.toNat + ea) x7 := by
        intro x7
        unfold F106_4 F106_7
        have hne : (ca != 0) = true := by rw [bne, a0]; rfl
        have h8 : (BitVec.ofNat 8 (64 - blen ma.toNat)).toNat = 64 - blen ma.toNat := by rw [BitVec.toNat_ofNat]; exact Nat.mod_eq_of_lt (by omega)
        have w1 : w64 ea = ea := w64_id (by omega)
        have w2 : w64 (ea + 63) = ea + 63 := w64_id (by omega)
        have w3 : w64 ((64 - blen ma.toNat : Nat) : Int) = ((64 - blen ma.toNat : Nat) : Int) := w64_id (by omega)
        have w4 : w64 (ea + 63 - ((64 - blen ma.toNat : Nat) : Int)) = m.toNat + ea := by rw [w64_id (by omega)]; omega
        rw [hne, bt rfl, F164_ok]
        simp only [Option.bind_some]
        rw [h8, w1, w2, w3, w4, tail_eq]
      unfold F106_3 F106_8 F106_9
      rw [hfz]
      by_cases hz : f0 = 0
      · rw [decide_eq_false (by simpa using hz), bf rfl, bf rfl, hend]
      · rw [decide_eq_true hz, bt rfl, bt rfl, F106_10_ok (by omega) hsoft hf0l (by omega), hend]
    -- exact's text
    have hexq : ∀ x8 : List UInt8, x8.length ≤ 10 → F105_5 N (a &&& F69 e m) na ca na (ma.toNat * 2 ^ ea.toNat) (2 ^ (-ea).toNat) x8 false = F105_11 N (m.toNat + ea) (bif decide (f0 ≠ 0) then (x8 ++ [49]) ++ ([46] ++ hexs 13 f0) else x8 ++ [49]) := by
      intro x8 hx8
      obtain ⟨r, real, q1, q2, q3⟩ := F207_ok (N := N) (num := ma.toNat * 2 ^ ea.toNat) (den := 2 ^ (-ea).toNat) (lo := -1200) (hi := 1100) fa.nne (pne _) (by omega) (by omega) (by omega) (by omega) (by omega)
      have hre := q2.eq (pne _)
      have hrr : r = m.toNat + ea := by omega
      unfold F105_5
      rw [bf rfl, q1]
      simp only [Option.bind_some, F105_6]
      have w1 : w64 (52 - r) = 52 - r := w64_id (by omega)
      rw [w1, F208_ok (by omega) (by omega) (by omega)]
      simp only [Option.bind_some, F105_7]
      obtain ⟨z, hz⟩ : ∃ z : Int, z = 52 - r := ⟨_, rfl⟩
      rw [← hz]
      have s1 := blen_shl (ma.toNat * 2 ^ ea.toNat) z.toNat
      have s2 := blen_shl (2 ^ (-ea).toNat) (-z).toNat
      have hB : 0 < 2 ^ (-ea).toNat * 2 ^ (-z).toNat := Nat.mul_pos (pow_pos2 _) (pow_pos2 _)
      rw [F209_ok hB (by omega) (by omega)]
      simp only [Option.bind_some]
      have hq : ma.toNat * 2 ^ ea.toNat * 2 ^ z.toNat / (2 ^ (-ea).toNat * 2 ^ (-z).toNat) = ma.toNat * 2 ^ (52 - m.toNat) := by
        have hid : 2 ^ ea.toNat * 2 ^ z.toNat = 2 ^ (52 - m.toNat) * (2 ^ (-ea).toNat * 2 ^ (-z).toNat) := by
          simp only [← Nat.pow_add]
          exact congrArg (fun t => 2 ^ t) (by omega)
        rw [Nat.mul_assoc, hid, ← Nat.mul_assoc, Nat.mul_div_cancel _ hB]
      rw [hq, hman52]
      unfold F105_8
      have hbl : blen (4503599627370496 + f0) ≤ 54 := blen_le_iff.2 (by rw [show (2 : Nat) ^ 54 = 18014398509481984 from rfl]; omega)
      have hand : ((BitVec.ofNat 64 (4503599627370496 + f0)) &&& 4503599627370495#64).toNat = f0 := by
        rw [BitVec.toNat_and, show (4503599627370495#64).toNat = 2 ^ 52 - 1 from rfl, Nat.and_two_pow_sub_one_eq_mod, BitVec.toNat_ofNat, p64, show (2 : Nat) ^ 52 = 4503599627370496 from rfl]; omega
      rw [bt (lim_blen (by omega)), F105_14_ok (by omega) hand hf0l]
      unfold F105_9 F105_10 F105_13
      rw [bt (decide_eq_true (by simp; omega)), hrr]
      have hne : (hexs 13 f0 != ([] : List UInt8)) = decide (f0 ≠ 0) := by
        by_cases k : f0 = 0
        · rw [k, hexs_zero]; rfl
        · rw [decide_eq_true k, hexs, if_neg k]; rfl
      have hl13 : (hexs 13 f0).length ≤ 13 := hexs_len _ _
      rw [hne]
      by_cases k : f0 = 0
      · rw [decide_eq_false (by simpa using k), bf rfl, bf rfl]
      · rw [decide_eq_true k, bt rfl, bt rfl, bt (decide_eq_true (by simp; omega)), bt (decide_eq_true (by simp; omega))]
    simp only [Option.bind_some, F106_16, F106_17, F106_2, F105_2, F105_3, F105_18, F105_4, a4, a3, a0, klit, cond_true, cond_false]
    have hl13 : (hexs 13 f0).length ≤ 13 := hexs_len _ _
    have hfin : ∀ x7 : List UInt8, x7.length ≤ 30 → ∃ s, F105_11 N (m.toNat + ea) x7 = some s := fun x7 h7 => tail_ends hN (by omega) (by omega)
    cases na with
    | true =>
      simp only [cond_true]
      rw [bt (by decide), hso _ (by decide), hexq _ (by decide)]
      obtain ⟨s, hs⟩ := hfin (bif decide (f0 ≠ 0) then ([45] ++ [48, 120, 49]) ++ ([46] ++ hexs 13 f0) else [45] ++ [48, 120, 49]) (by
        cases decide (f0 ≠ 0) <;> simp <;> omega)
      exact ⟨s, hs, hs⟩
    | false =>
      simp only [cond_false]
      rw [hso _ (by decide), hexq _ (by decide)]
      obtain ⟨s, hs⟩ := hfin (bif decide (f0 ≠ 0) then ([48, 120, 49]) ++ ([46] ++ hexs 13 f0) else [48, 120, 49]) (by
        cases decide (f0 ≠ 0) <;> simp <;> omega)
      exact ⟨s, hs, hs⟩
end
end Go.Proofs.YfwaawGreat
