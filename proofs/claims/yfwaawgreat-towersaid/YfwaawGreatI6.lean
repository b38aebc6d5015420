/-
  The model's root and fused sum are exact's.
-/
import Derived.Test.YfwaawGreatI5
namespace Go.Proofs.YfwaawGreat
open Go.Aw
set_option linter.unusedVariables false
set_option linter.unusedSimpArgs false

section
variable {e m mode : BitVec 8} {f : Ieee.Format} {neg : Bool} {x : BitVec 64} {N : Nat}
/-- The fused sum. -/
theorem nfma (k : Kd e m f) (hm : NE mode) (a b c : BitVec 64) : ∃ z, F180 N e m mode a b c = some z ∧ z.1 = can e m (f.fma (wd e m a) (wd e m b) (wd e m c)) := by
  unfold F180 F180_1
  simp only [lt]
  rw [k.fm.ok, Bool.not_true, bf rfl]
  unfold Ieee.Format.fma
  obtain ⟨na, ca, ba, ga, va, an, ad, ha', alta⟩ := k.opd a
  obtain ⟨nb, cb, bb, gb, vb, bn, bd, hb', altb⟩ := k.opd b
  obtain ⟨nc, cc, bc, gc, vc, cn, cd, hc', altc⟩ := k.opd c
  rw [ha', hb', hc']
  simp only [Option.bind_some, F180_2, F180_3, F180_4, F180_5, F180_6, F180_7, F180_8, F180_9, F180_10, lt]
  have hinf : ∀ s, can e m (Option.map f.write (some (.infinity s))) = F67 e m s := fun s => can_inf k
  have hcan : ∀ (s : Bool) (d : Ieee.Datum), f.read (wd e m c) = d → ((cc == 4) = true ∧ ∃ s' t', d = .nan s' t') ∨ ((cc == 4) = false ∧ (((cc == 3) = true ∧ ∃ q, q = nc ∧ d = .infinity q) ∨ ((cc == 3) = false ∧ ∃ mc pc, d = .number nc mc pc))) := by
    intro s d hd
    rcases altc with ⟨c4, c3, c0, s', t', rc⟩ | ⟨c4, c3, c0, rfl, rfl, rc⟩ | ⟨rfl, rfl, mc, pc, rc, C⟩
    · exact Or.inl ⟨c4, s', t', by rw [← hd, rc]⟩
    · exact Or.inr ⟨c4, Or.inl ⟨c3, nc, rfl, by rw [← hd, rc]⟩⟩
    · exact Or.inr ⟨C.c4, Or.inr ⟨C.c3, mc, pc, by rw [← hd, rc]⟩⟩
  have hgc : (cc == 3) = true → gc = nc := by
    intro h3
    rcases altc with ⟨c4, c3, c0, s', t', rc⟩ | ⟨c4, c3, c0, rfl, rfl, rc⟩ | ⟨rfl, rfl, mc, pc, rc, C⟩
    · rw [c3] at h3; cases h3
    · rfl
    · rfl
  -- an infinite product meets c
  have hIC : ∀ (q : Bool) (F0 : Bool), (bif ((false || false) || (cc == 4)) then (some (F66 e m, F216 e m a b ||| F216 e m c c) : Option (BitVec 64 × BitVec 8)) else bif ((cc == 3) && (gc != q)) then some (F66 e m, 1#8) else some (F67 e m q, 0#8)) = some (bif ((false || false) || (cc == 4)) then (F66 e m, F216 e m a b ||| F216 e m c c) else bif ((cc == 3) && (gc != q)) then (F66 e m, 1#8) else (F67 e m q, 0#8)) ∧
      (bif ((false || false) || (cc == 4)) then (F66 e m, F216 e m a b ||| F216 e m c c) else bif ((cc == 3) && (gc != q)) then (F66 e m, 1#8) else (F67 e m q, 0#8)).1 = can e m (Option.map f.write ((some (Ieee.Datum.infinity q)).bind (·.sum (f.read (wd e m c))))) := by
    intro q _
    rcases hcan q _ rfl with ⟨c4, s', t', rc⟩ | ⟨c4, ⟨c3, q', hq', rc⟩ | ⟨c3, mc, pc, rc⟩⟩
    · rw [c4, rc]; exact ⟨rfl, rfl⟩
    · rw [c4, c3, rc, hgc c3, hq']
      cases q <;> cases nc
      · exact ⟨rfl, (can_inf k).symm⟩
      · exact ⟨rfl, rfl⟩
      · exact ⟨rfl, rfl⟩
      · exact ⟨rfl, (can_inf k).symm⟩
    · rw [c4, c3, rc]
      exact ⟨rfl, (can_inf k).symm⟩
  have hNN : ∀ d : Option Ieee.Datum, d = none → can e m (Option.map f.write (d.bind (·.sum (f.read (wd e m c))))) = F66 e m := by
    intro d hd; rw [hd]; rfl
  rcases alta with ⟨a4, a3, a0, s, t, ra⟩ | ⟨a4, a3, a0, rfl, rfl, ra⟩ | ⟨rfl, rfl, ma, pa, ra, A⟩ <;>
  rcases altb with ⟨b4, b3, b0, s', t', rb⟩ | ⟨b4, b3, b0, rfl, rfl, rb⟩ | ⟨rfl, rfl, mb, pb, rb, B⟩ <;> rw [ra, rb]
  · rw [a4, b4]; exact ⟨_, rfl, rfl⟩
  · rw [a4, b4]; exact ⟨_, rfl, rfl⟩
  · rw [a4, B.c4]; exact ⟨_, rfl, rfl⟩
  · rw [a4, b4]; exact ⟨_, rfl, rfl⟩
  · rw [a4, b4, a3, b3, a0, b0]
    obtain ⟨h1, h2⟩ := hIC (na != nb) true
    have hR : Ieee.Datum.product (.infinity na) (.infinity nb) = some (.infinity (na != nb)) := by rw [bne_xor]; rfl
    rw [hR, ← h2]
    refine ⟨_, ?_, rfl⟩
    rw [← h1]
    cases cc == 4 <;> cases cc == 3 <;> cases gc != (na != nb) <;> rfl
  · rw [a4, B.c4, a3, B.c3, a0, B.c0]
    by_cases z : mb = 0
    · subst z
      refine ⟨bif (cc == 4) then (F66 e m, F216 e m a b ||| F216 e m c c) else (F66 e m, 1#8), ?_, ?_⟩
      · cases cc == 4 <;> rfl
      · have hR : Ieee.Datum.product (.infinity na) (.number nb 0 pb) = none := rfl
        rw [hR]
        cases cc == 4 <;> rfl
    · rw [decide_eq_false z]
      obtain ⟨h1, h2⟩ := hIC (na != nb) true
      have hR : Ieee.Datum.product (.infinity na) (.number nb mb pb) = some (.infinity (na != nb)) := by
        have : Ieee.Datum.product (.infinity na) (.number nb mb pb) = if mb = 0 then none else some (.infinity (na ^^ nb)) := rfl
        rw [this, if_neg z, bne_xor]
      rw [hR, ← h2]
      refine ⟨_, ?_, rfl⟩
      rw [← h1]
      cases cc == 4 <;> cases cc == 3 <;> cases gc != (na != nb) <;> rfl
  · rw [A.c4, b4]; exact ⟨_, rfl, rfl⟩
  · rw [A.c4, b4, A.c3, b3, A.c0, b0]
    by_cases z : ma = 0
    · subst z
      refine ⟨bif (cc == 4) then (F66 e m, F216 e m a b ||| F216 e m c c) else (F66 e m, 1#8), ?_, ?_⟩
      · cases cc == 4 <;> rfl
      · have hR : Ieee.Datum.product (.number na 0 pa) (.infinity nb) = none := rfl
        rw [hR]
        cases cc == 4 <;> rfl
    · rw [decide_eq_false z]
      obtain ⟨h1, h2⟩ := hIC (na != nb) true
      have hR : Ieee.Datum.product (.number na ma pa) (.infinity nb) = some (.infinity (na != nb)) := by
        have : Ieee.Datum.product (.number na ma pa) (.infinity nb) = if ma = 0 then none else some (.infinity (nb ^^ na)) := rfl
        rw [this, if_neg z, bne_xor, Bool.xor_comm]
      rw [hR, ← h2]
      refine ⟨_, ?_, rfl⟩
      rw [← h1]
      cases cc == 4 <;> cases cc == 3 <;> cases gc != (na != nb) <;> rfl
  · rw [A.c4, B.c4, A.c3, B.c3]
    have hR : Ieee.Datum.product (.number na ma pa) (.number nb mb pb) = some (.number (na != nb) (ma * mb) (pa + pb)) := by rw [bne_xor]; rfl
    rw [hR]
    simp only [Bool.or_self, Bool.and_self, Bool.false_and, cond_false, Bool.false_or, Option.bind_some]
    rcases altc with ⟨c4, c3, c0, s', t', rc⟩ | ⟨c4, c3, c0, rfl, rfl, rc⟩ | ⟨rfl, rfl, mc, pc, rc, C⟩
    · rw [c4, rc]; exact ⟨_, rfl, rfl⟩
    · rw [c4, c3, rc]; exact ⟨_, rfl, (can_inf k).symm⟩
    · rw [C.c4, C.c3, rc]
      have n1 := A.bn
      have n2 := B.bn
      have n3 := C.bn
      have d1 := A.bd
      have d2 := B.bd
      have d3 := C.bd
      have p1 := A.pl
      have p2 := B.pl
      have p3 := C.pl
      have b1 := blen_mul an bn
      have b2 := blen_mul ad bd
      simp only [cond_false]
      rw [bt (limand (by omega) (by omega)), bt (limand (by omega) (by omega))]
      obtain ⟨L, hL⟩ : ∃ L : Nat, L = 12000 := ⟨_, rfl⟩
      have hU : an * bn * 2 ^ L = ma * mb * 2 ^ (pa + pb + L).toNat * (ad * bd) := by
        have hA := A.v
        have hB := B.v
        refine Nat.mul_right_cancel (Nat.mul_pos (pow_pos2 (-pa).toNat) (pow_pos2 (-pb).toNat)) ?_
        have e1 : 2 ^ pa.toNat * 2 ^ pb.toNat * 2 ^ L = 2 ^ (pa + pb + L).toNat * (2 ^ (-pa).toNat * 2 ^ (-pb).toNat) := by
          rw [← Nat.pow_add, ← Nat.pow_add, ← Nat.pow_add, ← Nat.pow_add]; exact congrArg (fun t => 2 ^ t) (by omega)
        generalize 2 ^ pa.toNat = q1 at *
        generalize 2 ^ pb.toNat = q2 at *
        generalize 2 ^ (-pa).toNat = q3 at *
        generalize 2 ^ (-pb).toNat = q4 at *
        generalize 2 ^ (pa + pb + L).toNat = q5 at *
        generalize 2 ^ L = q6 at *
        calc an * bn * q6 * (q3 * q4) = (an * q3) * (bn * q4) * q6 := by grind
          _ = (ma * q1 * ad) * (mb * q2 * bd) * q6 := by rw [hA, hB]
          _ = ma * mb * (ad * bd) * (q1 * q2 * q6) := by grind
          _ = ma * mb * (ad * bd) * (q5 * (q3 * q4)) := by rw [e1]
          _ = ma * mb * q5 * (ad * bd) * (q3 * q4) := by grind
      have hz : an * bn = 0 ↔ ma * mb = 0 := by
        rw [Nat.mul_eq_zero, Nat.mul_eq_zero, A.n0, B.n0]
      obtain ⟨z, hz1, hz2⟩ := ex_num (N := N) (na := na != nb) (nb := nc) k hm hU (C.units (L := L) (by omega)) (Nat.mul_pos A.d0 B.d0) C.d0 (by omega) (by omega) (by omega) (by omega) (by omega) (by omega) hz C.n0
        (F251 e m (((na != nb) && nc) || (((na != nb) != nc) && (mode == 4#8))), 0#8) (fun g => by
          rw [g]; cases nc <;> rfl) (fun g => by
          generalize (na != nb) = q at *
          cases q <;> cases nc
          · exact (g rfl).elim
          · rfl
          · rfl
          · exact (g rfl).elim)
      exact ⟨z, hz1, hz2⟩
/-- The model finds the root's floor. -/
theorem rootFrom_ok (n : Nat) : ∀ (todo root : Nat), root * root ≤ n → n < (root + 2 ^ todo) * (root + 2 ^ todo) → Ieee.Datum.rootFrom n todo root * Ieee.Datum.rootFrom n todo root ≤ n ∧ n < (Ieee.Datum.rootFrom n todo root + 1) * (Ieee.Datum.rootFrom n todo root + 1)
  | 0, root, h1, h2 => by
    unfold Ieee.Datum.rootFrom
    rw [Nat.pow_zero] at h2
    exact ⟨h1, h2⟩
  | todo + 1, root, h1, h2 => by
    unfold Ieee.Datum.rootFrom
    simp only []
    rw [Nat.one_shiftLeft]
    rw [Nat.pow_succ] at h2
    by_cases c : (root + 2 ^ todo) * (root + 2 ^ todo) ≤ n
    · rw [if_pos c]
      refine rootFrom_ok n todo _ c ?_
      rw [show root + 2 ^ todo + 2 ^ todo = root + 2 ^ todo * 2 by omega]
      exact h2
    · rw [if_neg c]
      exact rootFrom_ok n todo root h1 (by omega)
theorem sq_uniq {n r s : Nat} (h1 : r * r ≤ n) (h2 : n < (r + 1) * (r + 1)) (h3 : s * s ≤ n) (h4 : n < (s + 1) * (s + 1)) : r = s := by
  rcases Nat.lt_trichotomy r s with c | c | c
  · have := Nat.mul_le_mul (show r + 1 ≤ s from c) (show r + 1 ≤ s from c)
    omega
  · exact c
  · have := Nat.mul_le_mul (show s + 1 ≤ r from c) (show s + 1 ≤ r from c)
    omega
theorem root_isq {n : Nat} (hn : n ≠ 0) : Ieee.Datum.rootFrom n (n.log2 / 2 + 1) 0 = isq n := by
  have h := rootFrom_ok n (n.log2 / 2 + 1) 0 (by omega) (by
    rw [Nat.zero_add, ← Nat.pow_add]
    exact Nat.lt_of_lt_of_le (Nat.lt_log2_self) (pow_le (by omega)))
  exact sq_uniq h.1 h.2 (isq_le n) (isq_lt n)
end
end Go.Proofs.YfwaawGreat
