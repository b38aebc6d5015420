import Derived.Test.YfwaawGreatJJ
/-! Rounded to odd, then to a single. -/
namespace Go.Proofs.YfwaawGreat
open Go.Aw
set_option linter.unusedVariables false
set_option linter.unusedSimpArgs false
section
variable {X Y V W N : Nat} {s t sn : Bool}
theorem no_odd {G T c w : Nat} (h1 : G % 2 = 1) (h2 : 4503599627370496 ≤ G) (hc : c < 33554432) (l : (G - 1) * 2 ^ T < c * 2 ^ w) (r : c * 2 ^ w < (G + 1) * 2 ^ T) : False := by
  rcases Nat.lt_or_ge T w with h | h
  · obtain ⟨a, ha⟩ : ∃ a, w = T + 1 + a := ⟨w - (T + 1), by omega⟩
    obtain ⟨b, hb⟩ : ∃ b, G = 2 * b + 1 := ⟨G / 2, by omega⟩
    have e1 : c * 2 ^ w = 2 * (c * 2 ^ a) * 2 ^ T := by
      rw [ha, show T + 1 + a = a + 1 + T by omega, Nat.pow_add, Nat.pow_succ, Nat.mul_comm (2 ^ a) 2, ← Nat.mul_assoc, ← Nat.mul_assoc, Nat.mul_comm c 2, Nat.mul_assoc 2 c]
    rw [e1] at l r
    have l' := Nat.lt_of_mul_lt_mul_right l
    have r' := Nat.lt_of_mul_lt_mul_right r
    omega
  · have e1 : c * 2 ^ w ≤ c * 2 ^ T := Nat.mul_le_mul_left _ (pow_le h)
    have e2 := Nat.lt_of_mul_lt_mul_right (Nat.lt_of_lt_of_le l e1)
    omega
theorem mid_units {c T D : Nat} {t : Int} (ht : -(D : Int) ≤ t) (S : Nat) : (S * 2 ^ (-t).toNat ≤ c * 2 ^ t.toNat * 2 ^ D → S ≤ c * 2 ^ (t + D).toNat) ∧ (c * 2 ^ t.toNat * 2 ^ D ≤ S * 2 ^ (-t).toNat → c * 2 ^ (t + D).toNat ≤ S) := by
  have e : c * 2 ^ t.toNat * 2 ^ D = c * 2 ^ (t + D).toNat * 2 ^ (-t).toNat := by
    rw [Nat.mul_assoc, Nat.mul_assoc, ← Nat.pow_add, ← Nat.pow_add]
    exact congrArg (fun z => c * 2 ^ z) (by omega)
  rw [e]
  exact ⟨fun h => Nat.le_of_mul_le_mul_right h (pow_pos2 _), fun h => Nat.le_of_mul_le_mul_right h (pow_pos2 _)⟩
theorem odd_UP {S G T D : Nat} (hD : D = 1074) (h1 : G % 2 = 1) (h2 : 4503599627370496 ≤ G) (l : (G - 1) * 2 ^ T < S) (r : S < (G + 1) * 2 ^ T) :
    UP 8#8 23#8 (G * 2 ^ T) (2 ^ D) = UP 8#8 23#8 S (2 ^ D) := by
  have hp := pow_pos2 T
  have hG : G * 2 ^ T ≠ 0 := Nat.mul_ne_zero (by omega) (pne _)
  have hS : S ≠ 0 := by omega
  have a1 : (G - 1) * 2 ^ T < G * 2 ^ T := Nat.mul_lt_mul_of_pos_right (by omega) hp
  have a2 : G * 2 ^ T < (G + 1) * 2 ^ T := Nat.mul_lt_mul_of_pos_right (by omega) hp
  rcases Nat.le_total S (G * 2 ^ T) with c | c
  · refine (UP_gap kd32.fm hS (pne _) hG (pne _) (Nat.mul_le_mul_right _ c) ?_).symm
    intro sig ex q1 q2 t ht u1 u2
    rw [show bia (8#8).toNat = 127 by decide, show ((23#8).toNat : Int) = 23 from rfl] at ht
    rw [show 2 ^ ((23#8).toNat + 1) = 16777216 by decide] at q1
    have hm := fun S => mid_units (c := 2 * sig + 1) (T := 0) (D := D) (t := t) (by omega) S
    have v1 := (hm S).1 u1
    have v2 := (hm _).2 u2
    exact no_odd h1 h2 (c := 2 * sig + 1) (by omega) (Nat.lt_of_lt_of_le l v1) (Nat.lt_of_le_of_lt v2 a2)
  · refine UP_gap kd32.fm hG (pne _) hS (pne _) (Nat.mul_le_mul_right _ c) ?_
    intro sig ex q1 q2 t ht u1 u2
    rw [show bia (8#8).toNat = 127 by decide, show ((23#8).toNat : Int) = 23 from rfl] at ht
    rw [show 2 ^ ((23#8).toNat + 1) = 16777216 by decide] at q1
    have hm := fun S => mid_units (c := 2 * sig + 1) (T := 0) (D := D) (t := t) (by omega) S
    have v1 := (hm _).1 u1
    have v2 := (hm S).2 u2
    exact no_odd h1 h2 (c := 2 * sig + 1) (by omega) (Nat.lt_of_lt_of_le a1 v1) (Nat.lt_of_le_of_lt v2 r)
/-- The single of a word rounded to odd. -/
theorem odd_narrow {x : BitVec 64} {S G T D : Nat} (hD : D = 1074) (hx : DV x.toNat sn (G * 2 ^ T)) (h1 : G % 2 = 1) (h2 : 4503599627370496 ≤ G) (l : (G - 1) * 2 ^ T < S) (r : S < (G + 1) * 2 ^ T) :
    narrow x = (RQ 8#8 23#8 0#8 sn S (2 ^ D)).1 := by
  have hG : G * 2 ^ T ≠ 0 := Nat.mul_ne_zero (by omega) (pne _)
  rw [narrow_dv hx hD, if_neg hG]
  refine BitVec.eq_of_toNat_eq ?_
  rw [RQ_ne kd32.fm ne_zero hG (pne _), RQ_ne kd32.fm ne_zero (by omega) (pne _), odd_UP hD h1 h2 l r]
theorem t_lt {x : BitVec 64} {a : Int} (h : DWd x a) : F389 2#8 x 0#64 = decide (a < 0) := by
  obtain ⟨s, h1, h2⟩ := h
  have hz : DV (0#64).toNat false 0 := dv0
  rw [F389_ok, wd64, wd64, h1.order hz, h2, show sg false 0 = 0 from rfl]
  unfold tst
  rw [if_neg (by decide), if_neg (by decide), if_pos rfl, cmpI]
  rcases Int.lt_trichotomy a 0 with c | c | c
  · rw [if_pos c, decide_eq_true c]; rfl
  · rw [c]; rfl
  · rw [if_neg (by omega), if_neg (by omega), decide_eq_false (by omega)]; rfl
theorem t_gt {x : BitVec 64} {a : Int} (h : DWd x a) : F389 4#8 x 0#64 = decide (0 < a) := by
  obtain ⟨s, h1, h2⟩ := h
  have hz : DV (0#64).toNat false 0 := dv0
  rw [F389_ok, wd64, wd64, h1.order hz, h2, show sg false 0 = 0 from rfl]
  unfold tst
  rw [if_neg (by decide), if_neg (by decide), if_neg (by decide), if_neg (by decide), if_pos rfl, cmpI]
  rcases Int.lt_trichotomy a 0 with c | c | c
  · rw [if_pos c, decide_eq_false (by omega)]; rfl
  · rw [c]; rfl
  · rw [if_neg (by omega), if_neg (by omega), decide_eq_true c]; rfl
theorem F350_6_ok (x : BitVec 64) : F350_6 N x = some (narrow x) := by
  unfold F350_6
  obtain ⟨y, y1, y2, _⟩ := F347_ok (N := N) x
  rw [y1, Option.bind_some, y2]
theorem even_bit {x : BitVec 64} {Q : Nat} (h : x.toNat = Q + s64 sn) : ((x &&& 1#64) == 0#64) = decide (Q % 2 = 0) := by
  have h1 : (x &&& 1#64).toNat = Q % 2 := by
    rw [BitVec.toNat_and, show (1#64).toNat = 2 ^ 1 - 1 from rfl, Nat.and_two_pow_sub_one_eq_mod, h, show (2 : Nat) ^ 1 = 2 from rfl]
    have : s64 sn % 2 = 0 := by cases sn <;> decide
    omega
  rw [Bool.eq_iff_iff, beq_iff_eq, decide_eq_true_eq, ← h1]
  exact ⟨fun g => by rw [g]; rfl, fun g => BitVec.eq_of_toNat_eq g⟩
theorem sign_top {x : BitVec 64} {Q : Nat} (hQ : Q < 9223372036854775808) (h : x.toNat = Q + s64 sn) : ((x >>> 63) == 1#64) = sn := by
  have h1 : (x >>> 63).toNat = bif sn then 1 else 0 := by
    rw [BitVec.toNat_ushiftRight, Nat.shiftRight_eq_div_pow, h, show (2 : Nat) ^ 63 = 9223372036854775808 from rfl]
    unfold s64
    cases sn
    · rw [cond_false, cond_false]; omega
    · rw [cond_true, cond_true]; omega
  cases sn
  · rw [beq_eq_false_iff_ne]
    intro g; rw [g] at h1; exact absurd h1 (by decide)
  · rw [beq_iff_eq]; exact BitVec.eq_of_toNat_eq h1
theorem beq_tt (b : Bool) : (b == true) = b := by cases b <;> rfl
theorem beq_ff (b : Bool) : (b == false) = !b := by cases b <;> rfl
/-- The last step: s with what is left. -/
theorem odd_step {x3 x5 : BitVec 64} {S : Int} {Q k n D : Nat} (hD : D = 1074) (hx : x3.toNat = Q + s64 sn) (hw : Wq S.natAbs Q k n) (hs : S ≠ 0 → sn = decide (S < 0)) (h5 : DWd x5 (S - sg sn (n * 2 ^ k))) :
    F350_5 N x3 x5 = some (if S = 0 then F251 8#8 23#8 sn else (RQ 8#8 23#8 0#8 sn S.natAbs (2 ^ D)).1) := by
  have hdv : DV x3.toNat sn (n * 2 ^ k) := by rw [hx]; exact hw.dv sn
  have hnr := hw.nri hs
  have hlt := hw.lt
  have hsl := s64le sn
  unfold F350_5 F350_7
  rw [t_lt h5, t_gt h5, even_bit hx]
  by_cases c : S = sg sn (n * 2 ^ k)
  · rw [decide_eq_false (show ¬ (S - sg sn (n * 2 ^ k) < 0) by omega), decide_eq_false (show ¬ (0 < S - sg sn (n * 2 ^ k)) by omega), Bool.or_self, Bool.and_false, bf rfl, F350_6_ok, narrow_dv hdv hD]
    have e : n * 2 ^ k = S.natAbs := by rw [c, natAbs_sg]
    rw [e]
    by_cases d : S = 0
    · rw [if_pos d, if_pos (by rw [d]; rfl)]
    · rw [if_neg d, if_neg (by omega)]
  · have hk : 0 < k := by
      rcases Nat.eq_zero_or_pos k with z | z
      · exfalso
        have h1 := hnr.a
        have h2 := hnr.b
        rw [z, Nat.pow_zero] at h1 h2
        rw [z, Nat.pow_zero] at c
        omega
      · exact z
    obtain ⟨q1, q2, q3⟩ := hw.q hk
    have hbl : blen S.natAbs = 53 + k := by rcases hw.lo with z | z <;> omega
    have hS0 : S.natAbs ≠ 0 := by
      intro z; rw [z] at hbl; have : blen 0 = 0 := by decide
      omega
    have hS : S ≠ 0 := by omega
    have hlo := blen_le hS0
    have hhi := blen_lt S.natAbs
    rw [hbl, show 53 + k - 1 = 52 + k by omega, Nat.pow_add, show (2 : Nat) ^ 52 = 4503599627370496 from rfl] at hlo
    rw [hbl, Nat.pow_add, show (2 : Nat) ^ 53 = 9007199254740992 from rfl] at hhi
    have wa := hw.a
    have wb := hw.b
    have hpk := pow_pos2 k
    have m1 : (n - 1) * 2 ^ k = n * 2 ^ k - 2 ^ k := by rw [Nat.sub_mul, Nat.one_mul]
    have m2 : (n + 1) * 2 ^ k = n * 2 ^ k + 2 ^ k := by rw [Nat.add_mul, Nat.one_mul]
    have hsn := hs hS
    have hne : n * 2 ^ k ≠ S.natAbs := by
      intro z
      rw [z, sg_abs S sn hs] at c
      exact c rfl
    have hor : (decide (S - sg sn (n * 2 ^ k) < 0) || decide (0 < S - sg sn (n * 2 ^ k))) = true := by
      rw [Bool.or_eq_true, decide_eq_true_eq, decide_eq_true_eq]; omega
    rw [hor, Bool.and_true, if_neg hS]
    have hnk : 2 ^ k ≤ n * 2 ^ k := Nat.le_mul_of_pos_left _ (by omega)
    by_cases d : Q % 2 = 0
    · rw [decide_eq_true d, bt rfl, sign_top (Q := Q) (by omega) hx]
      simp only [lt]
      have hcmp : (decide (S - sg sn (n * 2 ^ k) < 0) == sn) = decide (n * 2 ^ k < S.natAbs) := by
        rw [hsn]
        unfold sg
        generalize n * 2 ^ k = y at *
        by_cases e : S < 0
        · rw [decide_eq_true e, if_pos rfl, beq_tt, decide_eq_decide]; omega
        · rw [decide_eq_false e, if_neg (by decide), beq_ff, ← decide_not, decide_eq_decide]; omega
      rw [hcmp]
      unfold F350_8
      by_cases u : n * 2 ^ k < S.natAbs
      · rw [decide_eq_true u, bt rfl, F350_6_ok]
        refine congrArg some ?_
        have hn : n < 9007199254740992 := by
          rcases Nat.eq_or_lt_of_le q3 with z | z
          · rw [z] at u; omega
          · exact z
        have hd : DV (x3 + 1#64).toNat sn ((n + 1) * 2 ^ k) := by
          refine ⟨Q + 1, ?_, ?_, ?_⟩
          · omega
          · rw [q1, Nat.add_assoc]; exact uv_norm (by omega) (by omega)
          · rw [BitVec.toNat_add, hx, show (1#64).toNat = 1 from rfl, p64]; omega
        refine odd_narrow hD hd (by omega) (by omega) ?_ ?_
        · rw [Nat.add_sub_cancel]; exact u
        · rw [Nat.add_mul, Nat.one_mul, m2]; omega
      · rw [decide_eq_false u, bf rfl, F350_6_ok]
        refine congrArg some ?_
        have hn : 4503599627370496 < n := by
          rcases Nat.eq_or_lt_of_le q2 with z | z
          · rw [← z] at u hne; omega
          · exact z
        have hd : DV (x3 - 1#64).toNat sn ((n - 1) * 2 ^ k) := by
          refine ⟨Q - 1, ?_, ?_, ?_⟩
          · omega
          · rw [q1, show k * 4503599627370496 + n - 1 = k * 4503599627370496 + (n - 1) by omega]; exact uv_norm (by omega) (by omega)
          · rw [BitVec.toNat_sub, hx, show (1#64).toNat = 1 from rfl, p64]; omega
        refine odd_narrow hD hd (by omega) (by omega) ?_ ?_
        · rw [Nat.sub_mul, Nat.one_mul, m1]; omega
        · rw [show n - 1 + 1 = n by omega]; omega
    · rw [decide_eq_false d, bf rfl, F350_6_ok]
      refine congrArg some (odd_narrow hD hdv (by omega) q2 ?_ ?_)
      · rw [m1]; omega
      · rw [m2]; omega
end
end Go.Proofs.YfwaawGreat
