/-
  Doubles as whole numbers of the least unit: sums and differences without error.
-/
import Derived.Test.YfwaawGreatIK
namespace Go.Proofs.YfwaawGreat
open Go.Aw
set_option linter.unusedVariables false
set_option linter.unusedSimpArgs false

/-- The sign's weight. -/
abbrev s64 (s : Bool) : Nat := bif s then 9223372036854775808 else 0
/-- The double X is V units, with the sign s. -/
structure DV (X : Nat) (s : Bool) (V : Nat) : Prop where
  q : ∃ Q, Q < 9218868437227405312 ∧ uv 52 Q = V ∧ X = Q + s64 s
/-- A double has V units. -/
def Rep (V : Nat) : Prop := ∃ Q, Q < 9218868437227405312 ∧ uv 52 Q = V
theorem DV.rep {X V : Nat} {s : Bool} (h : DV X s V) : Rep V := by obtain ⟨Q, h1, h2, _⟩ := h.q; exact ⟨Q, h1, h2⟩
theorem Rep.dv {V : Nat} (h : Rep V) (s : Bool) : ∃ X, DV X s V := by obtain ⟨Q, h1, h2⟩ := h; exact ⟨_, ⟨Q, h1, h2, rfl⟩⟩
theorem rep_zero : Rep 0 := ⟨0, by decide, uv_zero 52⟩
theorem inf64v : infP (11#8).toNat (52#8).toNat = 9218868437227405312 := by decide +kernel
theorem lp64v : Ieee.double.leastPlace = -1074 := by decide +kernel
theorem uvlt {Q : Nat} {K : Nat} (hK : K = 2098) (hQ : Q < 9218868437227405312) : uv 52 Q < 2 ^ K := by
  unfold uv
  rw [show (2 : Nat) ^ 52 = 4503599627370496 from rfl]
  by_cases c : Q / 4503599627370496 = 0
  · rw [if_pos c]
    refine Nat.lt_of_lt_of_le (show Q < 2 ^ 52 by rw [show (2 : Nat) ^ 52 = 4503599627370496 from rfl]; omega) (pow_le (by omega))
  · rw [if_neg c]
    have h1 : (Q % 4503599627370496 + 4503599627370496) * 2 ^ (Q / 4503599627370496 - 1) < 2 ^ 53 * 2 ^ (Q / 4503599627370496 - 1) := Nat.mul_lt_mul_of_pos_right (by rw [show (2 : Nat) ^ 53 = 9007199254740992 from rfl]; omega) (pow_pos2 _)
    refine Nat.lt_of_lt_of_le h1 ?_
    rw [← Nat.pow_add]; exact pow_le (by omega)
/-- A short number is a double's. -/
theorem rep_of {n t : Nat} (hn : n < 9007199254740992) (hb : n ≠ 0 → blen n + t ≤ 2098) : Rep (n * 2 ^ t) := by
  by_cases c : n = 0
  · rw [c, Nat.zero_mul]; exact rep_zero
  · obtain ⟨Q, q1, q2, q3, _⟩ := uvR 52 (t := t) c hn
    refine ⟨Q, ?_, q2⟩
    have h := q3 11 (by decide) (by have := hb c; rw [show bia 11 = 1023 by decide]; omega)
    have e : infP 11 52 = 9218868437227405312 := by decide +kernel
    rw [e] at h; exact h
/-- A double's digits. -/
theorem Rep.parts {V : Nat} (h : Rep V) : ∃ n t, V = n * 2 ^ t ∧ n < 9007199254740992 ∧ (V ≠ 0 → blen V ≤ 2098) ∧ (t = 0 ∨ 4503599627370496 ≤ n) := by
  obtain ⟨Q, h1, h2⟩ := h
  obtain ⟨K, hK⟩ : ∃ K : Nat, K = 2098 := ⟨_, rfl⟩
  have hlt := uvlt hK h1
  have hb : blen V ≤ 2098 := by rw [← hK]; exact blen_le_iff.2 (by rw [← h2]; exact hlt)
  unfold uv at h2
  rw [show (2 : Nat) ^ 52 = 4503599627370496 from rfl] at h2
  by_cases c : Q / 4503599627370496 = 0
  · rw [if_pos c] at h2
    exact ⟨Q, 0, by rw [Nat.pow_zero, Nat.mul_one, h2], by omega, fun _ => hb, Or.inl rfl⟩
  · rw [if_neg c] at h2
    exact ⟨_, _, h2.symm, by omega, fun _ => hb, Or.inr (by omega)⟩
/-- Sterbenz: the difference of two near doubles is a double. -/
theorem Rep.sub {V W : Nat} (hV : Rep V) (hW : Rep W) (h1 : W ≤ V) (h2 : V ≤ 2 * W) : Rep (V - W) := by
  obtain ⟨a, i, ha, ha2, ha3, _⟩ := hV.parts
  obtain ⟨b, j, hb, hb2, hb3, _⟩ := hW.parts
  have hbl : V - W ≠ 0 → blen (V - W) ≤ 2098 := by
    intro hne
    have hle : blen (V - W) ≤ blen V := blen_mono (Nat.sub_le _ _)
    have := ha3 (by omega)
    omega
  have fin : ∀ n t, V - W = n * 2 ^ t → n < 9007199254740992 → Rep (V - W) := by
    intro n t hv hn
    rw [hv]
    refine rep_of hn fun h0 => ?_
    have := blen_pow n h0 t
    have h5 := hbl (by rw [hv]; exact Nat.mul_ne_zero h0 (pne t))
    rw [hv] at h5
    omega
  rcases Nat.le_total j i with c | c
  · have hv : V = a * 2 ^ (i - j) * 2 ^ j := by
      rw [ha, Nat.mul_assoc, ← Nat.pow_add]; exact congrArg (fun z => a * 2 ^ z) (by omega)
    have hp := pow_pos2 j
    refine fin (a * 2 ^ (i - j) - b) j (by rw [hb, Nat.sub_mul, ← hv]) ?_
    have h3 : a * 2 ^ (i - j) * 2 ^ j ≤ (2 * b) * 2 ^ j := by rw [← hv, Nat.mul_assoc, ← hb]; exact h2
    have h4 := Nat.le_of_mul_le_mul_right h3 hp
    omega
  · have hw : W = b * 2 ^ (j - i) * 2 ^ i := by
      rw [hb, Nat.mul_assoc, ← Nat.pow_add]; exact congrArg (fun z => b * 2 ^ z) (by omega)
    have hp := pow_pos2 i
    refine fin (a - b * 2 ^ (j - i)) i (by rw [ha, Nat.sub_mul, ← hw]) ?_
    omega
theorem Rep.double {V : Nat} (h : Rep V) (hb : V ≠ 0 → blen V + 1 ≤ 2098) : Rep (2 * V) := by
  obtain ⟨a, i, ha, ha2, ha3, _⟩ := h.parts
  rw [ha, show 2 * (a * 2 ^ i) = a * 2 ^ (i + 1) by rw [Nat.pow_succ, ← Nat.mul_assoc, Nat.mul_comm 2, Nat.mul_assoc, Nat.mul_comm 2]; ]
  refine rep_of ha2 fun h0 => ?_
  have h1 := blen_pow a h0 i
  have h2 := hb (by rw [ha]; exact Nat.mul_ne_zero h0 (pne i))
  rw [ha] at h2
  omega
section
variable {X Y V W : Nat} {s t : Bool}
theorem DV.read (h : DV X s V) : ∃ mag place, Ieee.double.read X = .number s mag place ∧ -1074 ≤ place ∧ place ≤ 971 ∧ (∀ D : Nat, D = 1074 → mag * 2 ^ (place + D).toNat = V) := by
  obtain ⟨Q, h1, h2, h3⟩ := h.q
  obtain ⟨mag, place, g1, g2, g3, g4⟩ := kd64.rany (neg := s) (P := Q) (by rw [inf64v]; exact h1)
  rw [sgn64] at g1
  rw [lp64v] at g2 g3
  rw [show bia (11#8).toNat = 1023 by decide] at g4
  refine ⟨mag, place, by rw [h3]; exact g1, g2, ?_, fun D hD => ?_⟩
  · have : ((52#8).toNat : Int) = 52 := rfl
    omega
  · rw [hD, ← h2]
    have g5 : mag * 2 ^ (place - -1074).toNat = uv 52 Q := g3
    rw [← g5]
    exact congrArg (fun z => mag * 2 ^ z) (by omega)
theorem DV.nn (h : DV X s V) : (Ieee.double.read X).isNaN = false := by
  obtain ⟨mag, place, h1, _⟩ := h.read
  rw [h1]; rfl
theorem DV.order (h : DV X s V) (g : DV Y t W) : Ieee.double.order X Y = some (compare (sg s V) (sg t W)) := by
  obtain ⟨D, hD⟩ : ∃ D : Nat, D = 1074 := ⟨_, rfl⟩
  obtain ⟨ma, pa, h1, h2, h3, h4⟩ := h.read
  obtain ⟨mb, pb, g1, g2, g3, g4⟩ := g.read
  unfold Ieee.Format.order
  rw [h1, g1, ord_num (L := D) (by omega) (by omega), h4 D hD, g4 D hD]
/-- Comparisons by value. -/
theorem DV.gt (h : DV X s V) (g : DV Y t W) : fcmp .gtr .f64 (some X) (some Y) = decide (sg t W < sg s V) := by
  show (Ieee.double.order X Y == some .gt) = _
  rw [h.order g, cmpI]
  generalize sg s V = a
  generalize sg t W = b
  by_cases c : a < b
  · rw [if_pos c, decide_eq_false (by omega)]; rfl
  · rw [if_neg c]
    by_cases d : a = b
    · rw [if_pos d, decide_eq_false (by omega)]; rfl
    · rw [if_neg d, decide_eq_true (by omega)]; rfl
theorem DV.ge (h : DV X s V) (g : DV Y t W) : fcmp .geq .f64 (some X) (some Y) = decide (sg t W ≤ sg s V) := by
  show (Ieee.double.order X Y == some .gt || Ieee.double.order X Y == some .eq) = _
  rw [h.order g, cmpI]
  generalize sg s V = a
  generalize sg t W = b
  by_cases c : a < b
  · rw [if_pos c, decide_eq_false (by omega)]; rfl
  · rw [if_neg c, decide_eq_true (by omega)]
    by_cases d : a = b
    · rw [if_pos d]; rfl
    · rw [if_neg d]; rfl
theorem DV.lt (h : DV X s V) (g : DV Y t W) : fcmp .lss .f64 (some X) (some Y) = decide (sg s V < sg t W) := by
  show (Ieee.double.order X Y == some .lt) = _
  rw [h.order g, cmpI]
  generalize sg s V = a
  generalize sg t W = b
  by_cases c : a < b
  · rw [if_pos c, decide_eq_true c]; rfl
  · rw [if_neg c, decide_eq_false c]
    by_cases d : a = b
    · rw [if_pos d]; rfl
    · rw [if_neg d]; rfl
theorem DV.le (h : DV X s V) (g : DV Y t W) : fcmp .leq .f64 (some X) (some Y) = decide (sg s V ≤ sg t W) := by
  show (Ieee.double.order X Y == some .lt || Ieee.double.order X Y == some .eq) = _
  rw [h.order g, cmpI]
  generalize sg s V = a
  generalize sg t W = b
  by_cases c : a < b
  · rw [if_pos c, decide_eq_true (by omega)]; rfl
  · rw [if_neg c]
    by_cases d : a = b
    · rw [if_pos d, decide_eq_true (by omega)]; rfl
    · rw [if_neg d, decide_eq_false (by omega)]; rfl
theorem DV.eq (h : DV X s V) (g : DV Y t W) : fcmp .eql .f64 (some X) (some Y) = decide (sg s V = sg t W) := by
  show (Ieee.double.order X Y == some .eq) = _
  rw [h.order g, cmpI]
  generalize sg s V = a
  generalize sg t W = b
  by_cases c : a < b
  · rw [if_pos c, decide_eq_false (by omega)]; rfl
  · rw [if_neg c]
    by_cases d : a = b
    · rw [if_pos d, decide_eq_true d]; rfl
    · rw [if_neg d, decide_eq_false d]; rfl
/-- A sum in units. -/
theorem sum_units {ma mb : Nat} {i j : Int} {D : Nat} (hi : -(D : Int) ≤ i) (hj : -(D : Int) ≤ j) (hV : ma * 2 ^ (i + D).toNat = V) (hW : mb * 2 ^ (j + D).toNat = W) :
    ∃ tot base, Ieee.Datum.sum (.number s ma i) (.number t mb j) = some (.number (if sg s V + sg t W = 0 then s && t else decide (sg s V + sg t W < 0)) tot base) ∧ -(D : Int) ≤ base ∧ base ≤ i ∧ tot * 2 ^ (base + D).toNat = (sg s V + sg t W).natAbs := by
  obtain ⟨base, hbase⟩ : ∃ base, base = min i j := ⟨_, rfl⟩
  have hsum : Ieee.Datum.sum (.number s ma i) (.number t mb j) = some (.number (if (Ieee.signed s ma (i - base).toNat + Ieee.signed t mb (j - base).toNat) = 0 then s && t else decide ((Ieee.signed s ma (i - base).toNat + Ieee.signed t mb (j - base).toNat) < 0)) (Ieee.signed s ma (i - base).toNat + Ieee.signed t mb (j - base).toNat).natAbs base) := by
    rw [hbase]; rfl
  obtain ⟨U, hU⟩ : ∃ U, U = 2 ^ (base + D).toNat := ⟨_, rfl⟩
  have hUp : 0 < U := by rw [hU]; exact pow_pos2 _
  have e1 : V = ma * 2 ^ (i - base).toNat * U := by
    rw [hU, Nat.mul_assoc, ← Nat.pow_add, ← hV]; exact congrArg (fun t => ma * 2 ^ t) (by omega)
  have e2 : W = mb * 2 ^ (j - base).toNat * U := by
    rw [hU, Nat.mul_assoc, ← Nat.pow_add, ← hW]; exact congrArg (fun t => mb * 2 ^ t) (by omega)
  have hs : ∀ (s : Bool) (q u : Nat), Ieee.signed s q u = sg s (q * 2 ^ u) := fun s q u => by
    unfold Ieee.signed sg; rw [Nat.shiftLeft_eq]
  rw [hs, hs] at hsum
  have hm : ∀ (s : Bool) (q : Nat), sg s (q * U) = sg s q * U := fun s q => by
    unfold sg; cases s
    · simp
    · simp [Int.neg_mul]
  have htot : sg s V + sg t W = (sg s (ma * 2 ^ (i - base).toNat) + sg t (mb * 2 ^ (j - base).toNat)) * U := by
    rw [e1, e2, hm, hm, Int.add_mul]
  generalize sg s (ma * 2 ^ (i - base).toNat) + sg t (mb * 2 ^ (j - base).toNat) = c at *
  have hU' : (0 : Int) < (U : Int) := by omega
  have l1 : c * (U : Int) = 0 ↔ c = 0 := ⟨fun h => by
    rcases Int.mul_eq_zero.1 h with z | z
    · exact z
    · omega, fun h => by rw [h, Int.zero_mul]⟩
  have l2 : c * (U : Int) < 0 ↔ c < 0 := ⟨fun h => by
    rcases Int.lt_or_le c 0 with z | z
    · exact z
    · have := Int.mul_nonneg z (Int.le_of_lt hU'); omega, fun h => Int.mul_neg_of_neg_of_pos h hU'⟩
  refine ⟨c.natAbs, base, ?_, by omega, by omega, ?_⟩
  · rw [hsum, htot]
    by_cases g : c = 0
    · rw [if_pos g, if_pos (l1.2 g)]
    · rw [if_neg g, if_neg (mt l1.1 g), decide_eq_decide.2 l2]
  · rw [htot, ← hU, Int.natAbs_mul, Int.natAbs_natCast]
/-- Written without error. -/
theorem write_units {g : Bool} {tot R D : Nat} {base : Int} (hD : D = 1074) (hb : -(D : Int) ≤ base) (hR : tot * 2 ^ (base + D).toNat = R) (hr : Rep R) : DV (Ieee.double.write (.number g tot base)) g R := by
  obtain ⟨Q, h1, h2⟩ := hr
  refine ⟨Q, h1, h2, ?_⟩
  by_cases c : R = 0
  · have ht : tot = 0 := by
      rw [c] at hR
      rcases Nat.mul_eq_zero.1 hR with z | z
      · exact z
      · exact absurd z (pne _)
    have hQ : Q = 0 := by
      rw [c] at h2
      exact (uv_eq_iff (M := 52)).1 (by rw [h2, uv_zero])
    rw [ht, wr_zero kd64, sgn64, hQ, Nat.zero_add]
  · have hQ : 0 < Q := by
      rcases Nat.eq_zero_or_pos Q with z | z
      · rw [z, uv_zero] at h2; omega
      · exact z
    rw [wr64 (Q := Q) hD hQ h1, sgn64]
    refine Nat.mul_right_cancel (pow_pos2 0) ?_
    rw [h2, ← hR, Nat.pow_zero, Nat.mul_one, Nat.mul_one, Nat.mul_assoc, Nat.mul_assoc, ← Nat.pow_add, ← Nat.pow_add]
    exact congrArg (fun z => tot * 2 ^ z) (by omega)
theorem DV.opp (h : DV X s V) : DV (X ^^^ 9223372036854775808) (!s) V := by
  obtain ⟨Q, h1, h2, h3⟩ := h.q
  refine ⟨Q, h1, h2, ?_⟩
  have := xor_sgn (E := 11) (M := 52) (P := Q) (s := s) (by rw [show 2 ^ (11 + 52) = 9223372036854775808 by decide]; omega)
  rw [show 2 ^ (11 + 52) = 9223372036854775808 by decide] at this
  have e : ∀ b, sgn 11 52 b = s64 b := fun b => sgn64 b
  rw [e, e] at this
  rw [h3, this]
theorem DV.add (h : DV X s V) (g : DV Y t W) (hr : Rep (sg s V + sg t W).natAbs) : ∃ Z, Ieee.double.add X Y = some Z ∧ DV Z (if sg s V + sg t W = 0 then s && t else decide (sg s V + sg t W < 0)) (sg s V + sg t W).natAbs := by
  obtain ⟨D, hD⟩ : ∃ D : Nat, D = 1074 := ⟨_, rfl⟩
  obtain ⟨ma, pa, h1, h2, h3, h4⟩ := h.read
  obtain ⟨mb, pb, g1, g2, g3, g4⟩ := g.read
  obtain ⟨tot, base, k1, k2, k3, k4⟩ := sum_units (s := s) (t := t) (D := D) (by omega) (by omega) (h4 D hD) (g4 D hD)
  unfold Ieee.Format.add
  rw [h1, g1, k1]
  exact ⟨_, rfl, write_units hD k2 k4 hr⟩
theorem DV.sub (h : DV X s V) (g : DV Y t W) (hr : Rep (sg s V + sg (!t) W).natAbs) : ∃ Z, Ieee.double.sub X Y = some Z ∧ DV Z (if sg s V + sg (!t) W = 0 then s && !t else decide (sg s V + sg (!t) W < 0)) (sg s V + sg (!t) W).natAbs := by
  obtain ⟨D, hD⟩ : ∃ D : Nat, D = 1074 := ⟨_, rfl⟩
  obtain ⟨ma, pa, h1, h2, h3, h4⟩ := h.read
  obtain ⟨mb, pb, g1, g2, g3, g4⟩ := g.read
  obtain ⟨tot, base, k1, k2, k3, k4⟩ := sum_units (s := s) (t := !t) (D := D) (by omega) (by omega) (h4 D hD) (g4 D hD)
  unfold Ieee.Format.sub
  rw [h1, g1]
  have : (Ieee.Datum.number t mb pb).opposite = .number (!t) mb pb := rfl
  rw [this, k1]
  exact ⟨_, rfl, write_units hD k2 k4 hr⟩
end
end Go.Proofs.YfwaawGreat
