/-
  expand = exact: DigitsE, DigitsF.
-/
import Derived.Test.YfwaawGreatP8
namespace Go.Proofs.YfwaawGreat
open Go.Aw
set_option linter.unusedVariables false
set_option linter.unusedSimpArgs false

/-- num/den in units of 10^k, rounded. -/
def U10 (num den : Nat) (k : Int) : Nat := rne (2 * (num * 10 ^ (-k).toNat) / (den * 10 ^ k.toNat)) (decide (2 * (num * 10 ^ (-k).toNat) % (den * 10 ^ k.toNat) ≠ 0))
theorem U10_cross {num den A B : Nat} {k : Int} (hd : 0 < den) (hB : 0 < B) (h : num * 10 ^ (-k).toNat * B = A * (den * 10 ^ k.toNat)) : U10 num den k = rne (2 * A / B) (decide (2 * A % B ≠ 0)) := by
  unfold U10
  have hY : 0 < den * 10 ^ k.toNat := Nat.mul_pos hd (pt_pos _)
  have := div_cross (a := 2 * (num * 10 ^ (-k).toNat)) (b := den * 10 ^ k.toNat) (c := 2 * A) (d := B) hY hB (by rw [Nat.mul_assoc, h, ← Nat.mul_assoc])
  rw [this.1]
  congr 1
  exact decide_eq_decide.2 (not_congr this.2)
theorem tle_iff {num den a b : Nat} {k : Int} (hk : k = (a : Int) - b) : tle k num den ↔ den * 10 ^ a ≤ num * 10 ^ b := by
  unfold tle
  rcases Nat.le_total b a with h | h
  · rw [show (-k).toNat = 0 from by omega, Nat.pow_zero, Nat.mul_one, show k.toNat = a - b from by omega]
    have e : 10 ^ a = 10 ^ (a - b) * 10 ^ b := by rw [← Nat.pow_add]; exact congrArg (fun t => 10 ^ t) (by omega)
    rw [e, ← Nat.mul_assoc]
    exact (Nat.mul_le_mul_right_iff (pt_pos b)).symm
  · rw [show k.toNat = 0 from by omega, Nat.pow_zero, Nat.mul_one, show (-k).toNat = b - a from by omega]
    have e : 10 ^ b = 10 ^ (b - a) * 10 ^ a := by rw [← Nat.pow_add]; exact congrArg (fun t => 10 ^ t) (by omega)
    rw [e, ← Nat.mul_assoc]
    exact (Nat.mul_le_mul_right_iff (pt_pos a)).symm
section
variable {N : Nat} {sig prec : Int} {num den : Nat} {r : Option ((Nat → BitVec 8) × Int × Int × Int × Int)} {dig : Nat → BitVec 8} {n D δ t : Nat}
theorem EXP.cross (h : EXP num den sig prec r dig n D δ t) {k : Int} {a b : Nat} (hk : k = (n : Int) - 18 * t - ((a : Int) - b)) :
    num * 10 ^ (-k).toNat * (den * 10 ^ n * 10 ^ b) = (D * den + δ) * 10 ^ a * (den * 10 ^ k.toNat) := by
  rw [← h.v]
  have e1 : 10 ^ (-k).toNat * (10 ^ n * 10 ^ b) = 10 ^ (18 * t) * 10 ^ a * 10 ^ k.toNat := by
    rw [← Nat.pow_add, ← Nat.pow_add, ← Nat.pow_add, ← Nat.pow_add]
    exact congrArg (fun z => 10 ^ z) (by omega)
  calc num * 10 ^ (-k).toNat * (den * 10 ^ n * 10 ^ b) = num * den * (10 ^ (-k).toNat * (10 ^ n * 10 ^ b)) := by
        generalize 10 ^ (-k).toNat = p1; generalize 10 ^ n = p2; generalize 10 ^ b = p3; grind
    _ = num * den * (10 ^ (18 * t) * 10 ^ a * 10 ^ k.toNat) := by rw [e1]
    _ = num * 10 ^ (18 * t) * 10 ^ a * (den * 10 ^ k.toNat) := by
        generalize 10 ^ (18 * t) = p1; generalize 10 ^ a = p2; generalize 10 ^ k.toNat = p3; grind
/-- The value's place. -/
theorem EXP.log (h : EXP num den sig prec r dig n D δ t) (hn : n ≠ 0) : L10 num den ((n : Int) - 1 - 18 * t) := by
  have h1 := h.x.f hn
  have h2 := h.x.lt
  have hd := h.d
  constructor
  · rw [tle_iff (a := n - 1) (b := 18 * t) (by omega), h.v]
    have := Nat.mul_le_mul_right den h1
    rw [Nat.mul_comm den]; omega
  · rw [tle_iff (a := n) (b := 18 * t) (by omega), h.v]
    have := Nat.mul_le_mul_right den (show D + 1 ≤ 10 ^ n from h2)
    rw [Nat.add_mul, Nat.one_mul] at this
    rw [Nat.mul_comm den]; omega
theorem EXP.nz (h : EXP num den sig prec r dig n D δ t) (hnum : num ≠ 0) (h0 : n = 0) : δ ≠ 0 := by
  intro hd
  have hx := h.x
  rw [h0] at hx
  have hv := h.v
  rw [hx.z, hd, Nat.zero_mul, Nat.add_zero] at hv
  rcases Nat.mul_eq_zero.1 hv with c | c
  · exact hnum c
  · have := pt_pos (18 * t); omega
/-- What round makes of an expansion. -/
theorem EXP.round (hN : 5000 ≤ N) (h : EXP num den sig prec r dig n D δ t) (hnum : num ≠ 0) {q : Int} (hq : q ≤ 4096) (hq' : -4000 ≤ q) (hcut : δ ≠ 0 → q < n) (hn0 : n = 0 → q < 0) :
    ∃ s, r.bind (fun y => (F202 N y.1 y.2.1 y.2.2.1 y.2.2.2.1 y.2.2.2.2 q).bind fun z => some (z.1, z.2.2.2.1)) = some (s, (n : Int) - 1 - 18 * t) ∧ Sp s (U10 num den ((n : Int) - 18 * t - q)) := by
  have hnl := h.nl
  have htl := h.tl
  have hd := h.d
  have hdp : 0 < den := by omega
  have hx := h.x
  have hlt := hx.lt
  by_cases hneg : q < 0
  · -- nothing is kept
    refine ⟨[48], ?_, ?_⟩
    · have hF : ∀ (dg : Nat → BitVec 8) (n' : Int), F202 N dg n' ((n : Int) - 1 - 18 * t) sig prec q = some ([48], dg, n', (n : Int) - 1 - 18 * t, sig, prec) := by
        intro dg n'
        unfold F202 F202_1
        exact bt (decide_eq_true hneg)
      rcases h.a with ⟨_, c⟩ | ⟨_, _, c⟩
      · rw [c, bnd, hF, bnd]
      · rw [c, bnd, hF, bnd]
    · obtain ⟨b, hb⟩ : ∃ b : Nat, q = -(b : Int) := ⟨(-q).toNat, by omega⟩
      have hc := h.cross (k := (n : Int) - 18 * t - q) (a := 0) (b := b) (by omega)
      rw [Nat.pow_zero, Nat.mul_one] at hc
      rw [U10_cross hdp (Nat.mul_pos (Nat.mul_pos hdp (pt_pos n)) (pt_pos b)) hc]
      have hA : D * den + δ < den * 10 ^ n := by
        have := Nat.mul_le_mul_right den (show D + 1 ≤ 10 ^ n from hlt)
        rw [Nat.add_mul, Nat.one_mul] at this
        rw [Nat.mul_comm den]; omega
      have hB : 2 * (D * den + δ) < den * 10 ^ n * 10 ^ b := by
        have h1 : 10 ≤ 10 ^ b := by
          have : 10 ^ 1 ≤ 10 ^ b := Nat.pow_le_pow_right (by decide) (by omega)
          simpa using this
        have := Nat.mul_le_mul_left (den * 10 ^ n) h1
        omega
      rw [Nat.div_eq_of_lt hB]
      have : rne 0 (decide (2 * (D * den + δ) % (den * 10 ^ n * 10 ^ b) ≠ 0)) = 0 := by unfold rne; simp
      rw [this]
      exact ⟨by decide, by decide, by decide, fun c => (c rfl).elim, fun _ => rfl⟩
  · obtain ⟨Q, hQ⟩ : ∃ Q : Nat, q = Q := ⟨q.toNat, by omega⟩
    have hn : n ≠ 0 := fun c => hneg (hn0 c)
    have hf := hx.f hn
    have hc := h.cross (k := (n : Int) - 18 * t - q) (a := Q) (b := 0) (by omega)
    rw [Nat.pow_zero, Nat.mul_one] at hc
    have hU := U10_cross hdp (Nat.mul_pos hdp (pt_pos n)) hc
    by_cases hall : n ≤ Q
    · -- all digits are kept
      have hδ : δ = 0 := Classical.byContradiction fun c => by have := hcut c; omega
      rcases h.a with ⟨_, c⟩ | ⟨c0, _, _⟩
      · obtain ⟨s, s1, s2⟩ := round_all (N := N) (top := (n : Int) - 1 - 18 * t) (sig := sig) (prec := prec) (dig := dig) hN (n' := n) (q := Q) (by omega) hn hall (by omega) hx.d (by rw [hx.v]; exact hf)
        refine ⟨s, ?_, ?_⟩
        · rw [c, bnd, hQ, s1, bnd]
        · rw [hU, hδ, Nat.add_zero]
          have e : 10 ^ Q = 10 ^ (Q - n) * 10 ^ n := by rw [← Nat.pow_add]; exact congrArg (fun z => 10 ^ z) (by omega)
          have e2 : 2 * (D * den * 10 ^ Q) = 2 * (D * 10 ^ (Q - n)) * (den * 10 ^ n) := by
            rw [e]; generalize 10 ^ (Q - n) = p1; generalize 10 ^ n = p2; grind
          have hY : 0 < den * 10 ^ n := Nat.mul_pos hdp (pt_pos n)
          rw [e2, Nat.mul_div_cancel _ hY, Nat.mul_mod_left, decide_eq_false (by simp), rne_even]
          rw [hx.v] at s2
          exact s2
      · exact (c0 hδ).elim
    · -- digits are cut
      have hQn : Q < n := by omega
      -- the digits of D
      have hsplit : ∀ (f : Nat → BitVec 8) (n' : Nat), Q < n' → dval (bys n' f) = dval (bys Q f) * (10 * 10 ^ (n' - Q - 1)) + dg (UInt8.ofBitVec (f Q)) * 10 ^ (n' - Q - 1) + dval (bys (n' - Q - 1) (fun i => f (Q + 1 + i))) := by
        intro f n' hn'
        have e : bys n' f = bys Q f ++ (UInt8.ofBitVec (f Q) :: bys (n' - Q - 1) (fun i => f (Q + 1 + i))) := by
          obtain ⟨u, hu⟩ : ∃ u, n' = Q + (u + 1) := ⟨n' - Q - 1, by omega⟩
          rw [show n' - Q - 1 = u from by omega, hu]
          unfold bys
          rw [List.range_add, List.map_append, List.map_map, List.range_succ_eq_map, List.map_cons, List.map_map]
          congr 2
          refine List.map_congr_left fun i _ => ?_
          show UInt8.ofBitVec (f (Q + (i + 1))) = UInt8.ofBitVec (f (Q + 1 + i))
          rw [show Q + (i + 1) = Q + 1 + i from by omega]
        rw [e, dval_append, List.length_cons, bys_len, dval_cons, bys_len, Nat.pow_succ, Nat.mul_comm 10]
        omega
      have hD := hsplit dig n hQn
      rw [hx.v] at hD
      have hE := dval_lt (sub_isd (dig := dig) (a := Q + 1) (b := n - Q - 1) hx.d (by omega))
      rw [bys_len] at hE
      have hcd := bys_isd hx.d hQn
      have hc9 : dg (UInt8.ofBitVec (dig Q)) ≤ 9 := dg_le hcd
      -- the kept digits begin with one that is not zero
      have hHl : dval (bys Q dig) < 10 ^ Q := by
        have h1 := dval_lt (sub_isd (dig := dig) (a := 0) (b := Q) hx.d (by omega))
        rw [bys_len, show (fun i => dig (0 + i)) = dig from by funext i; rw [Nat.zero_add]] at h1
        exact h1
      have hHf : Q ≠ 0 → 10 ^ (Q - 1) ≤ dval (bys Q dig) := by
        intro hQ0
        rcases Nat.lt_or_ge (dval (bys Q dig)) (10 ^ (Q - 1)) with c | c
        · exfalso
          have e1 : 10 ^ (n - 1) = 10 ^ (Q - 1) * (10 * 10 ^ (n - Q - 1)) := by
            rw [← Nat.pow_succ', ← Nat.pow_add]; exact congrArg (fun z => 10 ^ z) (by omega)
          have h3 := Nat.mul_le_mul_right (10 * 10 ^ (n - Q - 1)) (show dval (bys Q dig) + 1 ≤ 10 ^ (Q - 1) from c)
          rw [← e1, Nat.add_mul, Nat.one_mul] at h3
          have h4 := Nat.mul_le_mul_right (10 ^ (n - Q - 1)) hc9
          omega
        · exact c
      have hUr : U10 num den ((n : Int) - 18 * t - q) = dval (bys Q dig) + (if upB (dval (bys Q dig)) (dg (UInt8.ofBitVec (dig Q))) (if δ = 0 then dval (bys (n - Q - 1) (fun i => dig (Q + 1 + i))) else 1) then 1 else 0) := by
        have hc2 : num * 10 ^ (-((n : Int) - 18 * t - q)).toNat * (den * (10 * 10 ^ (n - Q - 1))) = (D * den + δ) * (den * 10 ^ ((n : Int) - 18 * t - q).toNat) := by
          refine Nat.eq_of_mul_eq_mul_right (pt_pos Q) ?_
          have e1 : 10 ^ n = 10 * 10 ^ (n - Q - 1) * 10 ^ Q := by
            rw [← Nat.pow_succ', ← Nat.pow_add]; exact congrArg (fun z => 10 ^ z) (by omega)
          rw [e1] at hc
          generalize 10 ^ (n - Q - 1) = p1 at *
          generalize 10 ^ Q = p2 at *
          generalize 10 ^ (-((n : Int) - 18 * t - q)).toNat = p3 at *
          generalize 10 ^ ((n : Int) - 18 * t - q).toNat = p4 at *
          grind
        rw [U10_cross hdp (Nat.mul_pos hdp (Nat.mul_pos (by decide) (pt_pos _))) hc2, hD]
        exact rne_digits hc9 hE hd
      rw [hUr]
      rcases h.a with ⟨c0, c⟩ | ⟨c0, _, c⟩
      · obtain ⟨s, s1, s2⟩ := round_cut (N := N) (top := (n : Int) - 1 - 18 * t) (sig := sig) (prec := prec) (dig := dig) hN (n' := n) (q := Q) (by omega) hQn hx.d hHf
        refine ⟨s, ?_, ?_⟩
        · rw [c, bnd, hQ, s1, bnd]
        · rw [if_pos c0]; exact s2
      · -- the mark behind
        have hdm : ∀ x ∈ bys (n + 1) (upd dig n 49#8), isd x := by
          intro x hxm
          rw [bys_snoc] at hxm
          rcases List.mem_append.1 hxm with k | k
          · exact hx.d x k
          · rw [List.mem_singleton.1 k]; decide
        have hbq : bys Q (upd dig n 49#8) = bys Q dig := bys_congr fun j hj => upd_ne (by omega)
        obtain ⟨s, s1, s2⟩ := round_cut (N := N) (top := (n : Int) - 1 - 18 * t) (sig := sig) (prec := prec) (dig := upd dig n 49#8) hN (n' := n + 1) (q := Q) (by omega) (by omega) hdm (by rw [hbq]; exact hHf)
        refine ⟨s, ?_, ?_⟩
        · rw [c, bnd, hQ, s1, bnd]
        · rw [if_neg c0]
          rw [hbq, upd_ne (show Q ≠ n by omega)] at s2
          have hone : dval (bys (n + 1 - Q - 1) (fun i => upd dig n 49#8 (Q + 1 + i))) ≠ 0 := by
            have hdd : ∀ x ∈ bys (n + 1 - Q - 1) (fun i => upd dig n 49#8 (Q + 1 + i)), isd x := sub_isd hdm (by omega)
            intro h0
            have := (dval_zero hdd).1 h0 (UInt8.ofBitVec 49#8) (by
              unfold bys
              exact List.mem_map.2 ⟨n - Q - 1, List.mem_range.2 (by omega), by
                show UInt8.ofBitVec (upd dig n 49#8 (Q + 1 + (n - Q - 1))) = _
                rw [show Q + 1 + (n - Q - 1) = n from by omega, upd_eq]⟩)
            exact absurd this (by decide)
          have hupE : ∀ E, E ≠ 0 → upB (dval (bys Q dig)) (dg (UInt8.ofBitVec (dig Q))) E = upB (dval (bys Q dig)) (dg (UInt8.ofBitVec (dig Q))) 1 := by
            intro E hE0
            unfold upB
            rw [decide_eq_true hE0, decide_eq_true (show (1 : Nat) ≠ 0 by decide)]
          rw [hupE _ hone] at s2
          exact s2
end
end Go.Proofs.YfwaawGreat
