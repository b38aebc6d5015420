import Derived.Test.YfwaawGreatJK
/-! The fused sum of singles through doubles. -/
namespace Go.Proofs.YfwaawGreat
open Go.Aw
set_option linter.unusedVariables false
set_option linter.unusedSimpArgs false
section
variable {X Y V W N : Nat} {s t sn : Bool} {mode : BitVec 8}
theorem bl16 {n B : Nat} (hB : B = 1560) (h : n < 16 * 2 ^ B) : blen n ≤ 2090 := by
  have : blen n ≤ 4 + B := blen_le_iff.2 (by rw [Nat.pow_add]; exact h)
  omega
theorem bnds {P Z S s v : Int} {M : Nat} (hP : P.natAbs < M) (hZ : Z.natAbs < M) (hS : S = P + Z) (hs : s.natAbs ≤ 2 * S.natAbs) (hv : v.natAbs ≤ 2 * (s - P).natAbs) :
    (s - v).natAbs < 16 * M ∧ (P - (s - v)).natAbs < 16 * M ∧ (Z - v).natAbs < 16 * M ∧ (P + Z - s).natAbs < 16 * M := by
  have h1 : S.natAbs < 2 * M := by omega
  have h2 : s.natAbs < 4 * M := by omega
  have h3 : (s - P).natAbs < 5 * M := by omega
  have h4 : v.natAbs < 10 * M := by omega
  clear hs hv hS h1 h3
  omega
theorem bnd1 {P Z S s : Int} {M : Nat} (hP : P.natAbs < M) (hZ : Z.natAbs < M) (hS : S = P + Z) (hs : s.natAbs ≤ 2 * S.natAbs) : S.natAbs < 16 * M ∧ (s - P).natAbs < 16 * M := by
  omega
theorem e5_of (P Z s v : Int) : P - (s - v) + (Z - v) = P + Z - s := by omega
theorem tail_fin {x1 x2 : BitVec 64} {sp sz : Bool} {p z i j D : Nat} {S : Int} (hD : D = 1074) (h1 : DV x1.toNat sp (p * 2 ^ i)) (h2 : DV x2.toNat sz (z * 2 ^ j)) (hp : p < 281474976710656) (hz : z < 16777216) (hi : i ≤ 1500) (hj : j ≤ 1500)
    (hS : S = sg sp (p * 2 ^ i) + sg sz (z * 2 ^ j)) : F350_2 N x1 x2 = some (if S = 0 then F251 8#8 23#8 (sp && sz) else (RQ 8#8 23#8 0#8 (decide (S < 0)) S.natAbs (2 ^ D)).1) := by
  obtain ⟨B, hB⟩ : ∃ B : Nat, B = 1560 := ⟨_, rfl⟩
  obtain ⟨P, hP⟩ : ∃ P, P = sg sp (p * 2 ^ i) := ⟨_, rfl⟩
  obtain ⟨Z, hZ⟩ : ∃ Z, Z = sg sz (z * 2 ^ j) := ⟨_, rfl⟩
  have b48 : ∀ {p i : Nat}, p < 281474976710656 → i ≤ 1500 → p * 2 ^ i < 2 ^ B := by
    intro p i hp hi
    have a1 : p * 2 ^ i < 281474976710656 * 2 ^ i := Nat.mul_lt_mul_of_pos_right hp (pow_pos2 i)
    have a2 : 281474976710656 * 2 ^ i = 2 ^ (48 + i) := by rw [Nat.pow_add]
    have a3 : 2 ^ (48 + i) ≤ 2 ^ B := pow_le (by omega)
    omega
  have bP := b48 hp hi
  have bZ := b48 (show z < 281474976710656 by omega) hj
  have nP : P.natAbs = p * 2 ^ i := by rw [hP, natAbs_sg]
  have nZ : Z.natAbs = z * 2 ^ j := by rw [hZ, natAbs_sg]
  have wP : DWd x1 P := ⟨sp, by rw [nP]; exact h1, by rw [nP, hP]⟩
  have wZ : DWd x2 Z := ⟨sz, by rw [nZ]; exact h2, by rw [nZ, hZ]⟩
  have fP : P = sg sp p * ((2 ^ i : Nat) : Int) := by
    rw [hP]; unfold sg; cases sp
    · exact Int.natCast_mul _ _
    · show -((p * 2 ^ i : Nat) : Int) = -(p : Int) * _
      rw [Int.natCast_mul, Int.neg_mul]
  have fZ : Z = sg sz z * ((2 ^ j : Nat) : Int) := by
    rw [hZ]; unfold sg; cases sz
    · exact Int.natCast_mul _ _
    · show -((z * 2 ^ j : Nat) : Int) = -(z : Int) * _
      rw [Int.natCast_mul, Int.neg_mul]
  rw [← hP, ← hZ] at hS
  rw [← nP] at bP
  rw [← nZ] at bZ
  have b0 := (bnd1 (s := 0) bP bZ hS (Nat.zero_le _)).1
  obtain ⟨Q, k, n, z1, z2⟩ := dadd_near h1 h2 (by rw [← hP, ← hZ, ← hS]; exact bl16 hB b0)
  rw [← hP, ← hZ, ← hS] at z1 z2
  obtain ⟨sn, hsn⟩ : ∃ sn, sn = (if S = 0 then sp && sz else decide (S < 0)) := ⟨_, rfl⟩
  rw [← hsn] at z1
  have hs : S ≠ 0 → sn = decide (S < 0) := fun h => by rw [hsn, if_neg h]
  have hd := z2.dv sn
  have hpw := put_wdv hd
  have hn := z2.nri hs
  obtain ⟨x3, hx3⟩ : ∃ x3, x3 = BitVec.ofNat 64 (Q + s64 sn) := ⟨_, rfl⟩
  rw [← hx3] at hpw
  obtain ⟨s, hs'⟩ : ∃ s, s = sg sn (n * 2 ^ k) := ⟨_, rfl⟩
  have wS : DWd x3 s := ⟨sn, by rw [hpw.2, hs', natAbs_sg]; exact hd, by rw [hs', natAbs_sg]⟩
  have o1 : F330 N 0#8 x1 x2 = some x3 := by rw [F330_ok, if_pos rfl, z1, hpw.1]
  rw [← hs'] at hn
  have l1 := hn.small
  obtain ⟨xv, v, k', g', v1, v2, v3⟩ := op_subn (N := N) wS wP (bl16 hB (bnd1 bP bZ hS l1).2)
  have l2 := v3.small
  have hn2 := hn
  rw [hS] at hn2
  obtain ⟨t1, t2, t3, t4⟩ := two_sum fP (by rw [natAbs_sg]; exact hp) fZ (by rw [natAbs_sg]; exact hz) hn2 v3
  obtain ⟨d1, d2, d3, d4⟩ := bnds bP bZ hS l1 l2
  obtain ⟨y1, y1a, y1b⟩ := op_sub (N := N) wS v2 t1 (bl16 hB d1)
  obtain ⟨y2, y2a, y2b⟩ := op_sub (N := N) wP y1b t2 (bl16 hB d2)
  obtain ⟨y3, y3a, y3b⟩ := op_sub (N := N) wZ v2 t3 (bl16 hB d3)
  have e5 : P - (s - v) + (Z - v) = P + Z - s := e5_of P Z s v
  obtain ⟨y4, y4a, y4b⟩ := op_add (N := N) y2b y3b (by rw [e5]; exact t4) (bl16 hB (by rw [e5]; exact d4))
  rw [e5, ← hS, hs'] at y4b
  unfold F350_2 F350_3 F350_4
  rw [o1, Option.bind_some, v1, Option.bind_some, y1a, Option.bind_some, y2a, Option.bind_some, y3a, Option.bind_some, y4a, Option.bind_some,
    odd_step hD hpw.2 z2 hs y4b]
  by_cases c : S = 0
  · rw [if_pos c, if_pos c, hsn, if_pos c]
  · rw [if_neg c, if_neg c, hsn, if_neg c]
/-- A single, widened. -/
theorem cls3 (a : BitVec 64) : (∃ s t, Ieee.single.read (wd 8#8 23#8 a) = .nan s t ∧ wide a = F66 11#8 52#8) ∨ (∃ s, Ieee.single.read (wd 8#8 23#8 a) = .infinity s ∧ wide a = F67 11#8 52#8 s) ∨
    (∃ s mag place, Ieee.single.read (wd 8#8 23#8 a) = .number s mag place ∧ mag < 16777216 ∧ -149 ≤ place ∧ place ≤ 104 ∧ ∀ D : Nat, D = 1074 → DV (wide a).toNat s (mag * 2 ^ (place + D).toNat)) := by
  rcases cls32 a with ⟨⟨s, t, h1⟩, _, h2⟩ | ⟨s, h1, _, h2, _⟩ | ⟨s, h1, h2, _⟩ | ⟨s, c, ex, man, P, mag, place, h1, h2, h3, h4⟩
  · exact Or.inl ⟨s, t, h1, h2⟩
  · exact Or.inr (Or.inl ⟨s, h1, h2⟩)
  · refine Or.inr (Or.inr ⟨s, 0, -149, h1, by decide, by decide, by decide, fun D hD => ?_⟩)
    rw [Nat.zero_mul]; exact h2
  · have hpl := h2.pl
    rw [lp32v] at hpl
    have hph := h2.ph
    rw [show bia (8#8).toNat = 127 by decide] at hph
    have hm23 : ((23#8).toNat : Int) = 23 := rfl
    have hu := h2.u
    rw [lp32v] at hu
    have hu2 : mag * 2 ^ (place - -149).toNat = uv 23 P := hu
    refine Or.inr (Or.inr ⟨s, mag, place, h1, h2.hi, hpl, by omega, fun D hD => ?_⟩)
    obtain ⟨K, hK⟩ : ∃ K : Nat, K = 925 := ⟨_, rfl⟩
    have hd := h3 K hK
    have e : mag * 2 ^ (place + D).toNat = uv 23 P * 2 ^ K := by
      rw [← hu2, Nat.mul_assoc, ← Nat.pow_add]
      exact congrArg (fun z => mag * 2 ^ z) (by omega)
    rw [e]; exact hd
theorem rNaN : ∃ s t, Ieee.double.read (F66 11#8 52#8).toNat = .nan s t := by
  have h0 : (Ieee.double.read (F66 11#8 52#8).toNat).isNaN = true := by decide +kernel
  cases h : Ieee.double.read (F66 11#8 52#8).toNat with
  | nan s t => exact ⟨s, t, rfl⟩
  | infinity s => rw [h] at h0; cases h0
  | number s n p => rw [h] at h0; cases h0
theorem rInf (q : Bool) : Ieee.double.read (F67 11#8 52#8 q).toNat = .infinity q := by cases q <;> decide +kernel
theorem dwInf (q : Bool) : put 11#8 52#8 Ieee.double (some (Ieee.double.write (.infinity q))) = F67 11#8 52#8 q := by cases q <;> decide +kernel
theorem sum_nan_r {d : Ieee.Datum} {s : Bool} {t : Nat} : d.sum (.nan s t) = none := by cases d <;> rfl
theorem sum_nan_l {d : Ieee.Datum} {s : Bool} {t : Nat} : (Ieee.Datum.nan s t).sum d = none := by cases d <;> rfl
theorem prd_nan_r {d : Ieee.Datum} {s : Bool} {t : Nat} : d.product (.nan s t) = none := by cases d <;> rfl
theorem prd_nan_l {d : Ieee.Datum} {s : Bool} {t : Nat} : (Ieee.Datum.nan s t).product d = none := by cases d <;> rfl
theorem addN_l (y : BitVec 64) : F330 N 0#8 (F66 11#8 52#8) y = some (F66 11#8 52#8) := by
  obtain ⟨s, t, h⟩ := rNaN
  rw [F330_ok, if_pos rfl]
  unfold Ieee.Format.add
  rw [h, sum_nan_l]; rfl
theorem addN_r (y : BitVec 64) : F330 N 0#8 y (F66 11#8 52#8) = some (F66 11#8 52#8) := by
  obtain ⟨s, t, h⟩ := rNaN
  rw [F330_ok, if_pos rfl]
  unfold Ieee.Format.add
  rw [h, sum_nan_r]; rfl
theorem subN_l (y : BitVec 64) : F330 N 1#8 (F66 11#8 52#8) y = some (F66 11#8 52#8) := by
  obtain ⟨s, t, h⟩ := rNaN
  rw [F330_ok, if_neg (by decide), if_pos rfl]
  unfold Ieee.Format.sub
  rw [h, sum_nan_l]; rfl
theorem subN_r (y : BitVec 64) : F330 N 1#8 y (F66 11#8 52#8) = some (F66 11#8 52#8) := by
  obtain ⟨s, t, h⟩ := rNaN
  rw [F330_ok, if_neg (by decide), if_pos rfl]
  unfold Ieee.Format.sub
  have h2 : (Ieee.double.read y.toNat).sum (Ieee.Datum.nan s t).opposite = none := by cases Ieee.double.read y.toNat <;> rfl
  rw [h, h2]; rfl
theorem subT {x y : BitVec 64} : ∃ z, F330 N 1#8 x y = some z := ⟨_, F330_ok _ _ _⟩
theorem addT {x y : BitVec 64} : ∃ z, F330 N 0#8 x y = some z := ⟨_, F330_ok _ _ _⟩
theorem ordN {o : BitVec 64} : Ieee.double.order (wd 11#8 52#8 (F66 11#8 52#8)) (wd 11#8 52#8 0#64) = none := by decide +kernel
/-- Nothing is left. -/
theorem five_nan (x : BitVec 64) : F350_5 N x (F66 11#8 52#8) = some (narrow x) := by
  unfold F350_5 F350_7
  rw [F389_ok, F389_ok, ordN (o := 0#64), show tst 2#8 none = false from rfl, show tst 4#8 none = false from rfl, Bool.or_self, Bool.and_false, bf rfl, F350_6_ok]
/-- A sum that v does not survive. -/
theorem tail_v {x1 x2 x3 : BitVec 64} (h : F330 N 0#8 x1 x2 = some x3) (hv : F330 N 1#8 x3 x1 = some (F66 11#8 52#8)) : F350_2 N x1 x2 = some (narrow x3) := by
  unfold F350_2 F350_3 F350_4
  obtain ⟨z, hz⟩ := subT (N := N) (x := x2) (y := F66 11#8 52#8)
  rw [h, Option.bind_some, hv, Option.bind_some, subN_r, Option.bind_some, subN_r, Option.bind_some, hz, Option.bind_some, addN_l, Option.bind_some, five_nan]
theorem tail_w {x1 x2 x3 v : BitVec 64} (h : F330 N 0#8 x1 x2 = some x3) (hv : F330 N 1#8 x3 x1 = some v) (hw : F330 N 1#8 x3 v = some (F66 11#8 52#8)) : F350_2 N x1 x2 = some (narrow x3) := by
  unfold F350_2 F350_3 F350_4
  obtain ⟨z, hz⟩ := subT (N := N) (x := x2) (y := v)
  rw [h, Option.bind_some, hv, Option.bind_some, hw, Option.bind_some, subN_r, Option.bind_some, hz, Option.bind_some, addN_l, Option.bind_some, five_nan]
theorem mul_fin {X Y : Nat} {sa sb : Bool} {ma mb D : Nat} {pa pb : Int} (hD : D = 1074) (h : DV X sa (ma * 2 ^ (pa + D).toNat)) (g : DV Y sb (mb * 2 ^ (pb + D).toNat)) (h1 : ma < 16777216) (h2 : mb < 16777216) (a1 : -149 ≤ pa) (a2 : pa ≤ 104) (b1 : -149 ≤ pb) (b2 : pb ≤ 104) :
    ∃ Z, Ieee.double.mul X Y = some Z ∧ DV Z (sa != sb) (ma * mb * 2 ^ (pa + pb + D).toNat) := by
  obtain ⟨mX, pX, r1, r2, r3, r4⟩ := h.read
  obtain ⟨mY, pY, q1, q2, q3, q4⟩ := g.read
  have r5 := r4 D hD
  have q5 := q4 D hD
  unfold Ieee.Format.mul
  rw [r1, q1]
  have hR : Ieee.Datum.product (.number sa mX pX) (.number sb mY pY) = some (.number (sa != sb) (mX * mY) (pX + pY)) := by rw [bne_xor]; rfl
  rw [hR]
  refine ⟨_, rfl, ?_⟩
  have z1 : mX = 0 ↔ ma = 0 := by
    constructor
    · intro z; rw [z, Nat.zero_mul] at r5
      rcases Nat.mul_eq_zero.1 r5.symm with u | u
      · exact u
      · exact absurd u (pne _)
    · intro z; rw [z, Nat.zero_mul] at r5
      rcases Nat.mul_eq_zero.1 r5 with u | u
      · exact u
      · exact absurd u (pne _)
  have z2 : mY = 0 ↔ mb = 0 := by
    constructor
    · intro z; rw [z, Nat.zero_mul] at q5
      rcases Nat.mul_eq_zero.1 q5.symm with u | u
      · exact u
      · exact absurd u (pne _)
    · intro z; rw [z, Nat.zero_mul] at q5
      rcases Nat.mul_eq_zero.1 q5 with u | u
      · exact u
      · exact absurd u (pne _)
  have hrep : Rep (ma * mb * 2 ^ (pa + pb + D).toNat) := by
    have hlt : ma * mb < 281474976710656 := by
      rcases Nat.eq_zero_or_pos mb with u | u
      · rw [u, Nat.mul_zero]; decide
      · exact Nat.lt_of_lt_of_le (Nat.mul_lt_mul_of_pos_right h1 u) (by omega)
    refine rep_of (by omega) fun _ => ?_
    have : blen (ma * mb) ≤ 48 := blen_le_iff.2 hlt
    omega
  have hw : Ieee.double.write (.number (sa != sb) (mX * mY) (pX + pY)) = Ieee.double.write (.number (sa != sb) (ma * mb) (pa + pb)) := by
    by_cases c : ma * mb = 0
    · have c2 : mX * mY = 0 := by
        rcases Nat.mul_eq_zero.1 c with u | u
        · rw [z1.2 u, Nat.zero_mul]
        · rw [z2.2 u, Nat.mul_zero]
      rw [c, c2, wr_zero kd64, wr_zero kd64]
    · have c1 : mX * mY ≠ 0 := Nat.mul_ne_zero (fun u => c (by rw [z1.1 u, Nat.zero_mul])) (fun u => c (by rw [z2.1 u, Nat.mul_zero]))
      have key : mX * mY * 2 ^ (pX + pY + ((2 * D : Nat) : Int)).toNat = ma * mb * 2 ^ (pa + pb + ((2 * D : Nat) : Int)).toNat := by
        have e1 : mX * mY * 2 ^ (pX + pY + ((2 * D : Nat) : Int)).toNat = (mX * 2 ^ (pX + D).toNat) * (mY * 2 ^ (pY + D).toNat) := by
          rw [show (pX + pY + ((2 * D : Nat) : Int)).toNat = (pX + D).toNat + (pY + D).toNat by omega, Nat.pow_add]
          generalize 2 ^ (pX + D).toNat = u1
          generalize 2 ^ (pY + D).toNat = u2
          grind
        have e2 : ma * mb * 2 ^ (pa + pb + ((2 * D : Nat) : Int)).toNat = (ma * 2 ^ (pa + D).toNat) * (mb * 2 ^ (pb + D).toNat) := by
          rw [show (pa + pb + ((2 * D : Nat) : Int)).toNat = (pa + D).toNat + (pb + D).toNat by omega, Nat.pow_add]
          generalize 2 ^ (pa + D).toNat = u1
          generalize 2 ^ (pb + D).toNat = u2
          grind
        rw [e1, e2, r5, q5]
      refine wr_cross kd64 c1 c (Nat.le_antisymm ?_ ?_)
      · exact (zle (L := 2 * D) (by omega) (by omega)).2 (Nat.le_of_eq key)
      · exact (zle (L := 2 * D) (by omega) (by omega)).2 (Nat.le_of_eq key.symm)
  rw [hw]
  exact write_units hD (by omega) rfl hrep
/-- The product of two singles in doubles. -/
theorem prod3 (a b : BitVec 64) {D : Nat} (hD : D = 1074) : ∃ x1, F330 N 2#8 (wide a) (wide b) = some x1 ∧
    ((x1 = F66 11#8 52#8 ∧ (Ieee.single.read (wd 8#8 23#8 a)).product (Ieee.single.read (wd 8#8 23#8 b)) = none) ∨ (∃ q, x1 = F67 11#8 52#8 q ∧ (Ieee.single.read (wd 8#8 23#8 a)).product (Ieee.single.read (wd 8#8 23#8 b)) = some (.infinity q)) ∨
     (∃ sp p i, DV x1.toNat sp (p * 2 ^ (i + (D : Int)).toNat) ∧ (Ieee.single.read (wd 8#8 23#8 a)).product (Ieee.single.read (wd 8#8 23#8 b)) = some (.number sp p i) ∧ p < 281474976710656 ∧ -298 ≤ i ∧ i ≤ 208)) := by
  obtain ⟨s0, t0, hN⟩ := rNaN
  refine ⟨_, F330_ok _ _ _, ?_⟩
  rw [if_neg (by decide), if_neg (by decide), if_pos rfl]
  rcases cls3 a with ⟨s, t, ha, wa⟩ | ⟨s, ha, wa⟩ | ⟨s, ma, pa, ha, a1, a2, a3, a4⟩
  · left
    rw [ha, prd_nan_l, wa]
    unfold Ieee.Format.mul
    rw [hN, prd_nan_l]
    exact ⟨rfl, rfl⟩
  · rcases cls3 b with ⟨s', t, hb, wb⟩ | ⟨s', hb, wb⟩ | ⟨s', mb, pb, hb, b1, b2, b3, b4⟩
    · left
      rw [hb, prd_nan_r, wb]
      unfold Ieee.Format.mul
      rw [hN, prd_nan_r]
      exact ⟨rfl, rfl⟩
    · right; left
      rw [ha, hb, wa, wb]
      unfold Ieee.Format.mul
      rw [rInf, rInf]
      have hR : Ieee.Datum.product (.infinity s) (.infinity s') = some (.infinity (s ^^ s')) := rfl
      rw [hR]
      exact ⟨_, dwInf _, rfl⟩
    · obtain ⟨mag, p', r1, r2, r3, r4⟩ := (b4 D hD).read
      have r5 := r4 D hD
      rw [ha, hb, wa]
      unfold Ieee.Format.mul
      rw [rInf, r1]
      have hR : ∀ (m : Nat) (p : Int), Ieee.Datum.product (.infinity s) (.number s' m p) = if m = 0 then none else some (.infinity (s ^^ s')) := fun _ _ => rfl
      rw [hR, hR]
      by_cases c : mb = 0
      · left
        have c2 : mag = 0 := by
          rw [c, Nat.zero_mul] at r5
          rcases Nat.mul_eq_zero.1 r5 with u | u
          · exact u
          · exact absurd u (pne _)
        rw [if_pos c, if_pos c2]; exact ⟨rfl, rfl⟩
      · right; left
        have c2 : mag ≠ 0 := by
          intro u
          rw [u, Nat.zero_mul] at r5
          rcases Nat.mul_eq_zero.1 r5.symm with u | u
          · exact c u
          · exact absurd u (pne _)
        rw [if_neg c, if_neg c2]
        exact ⟨_, dwInf _, rfl⟩
  · rcases cls3 b with ⟨s', t, hb, wb⟩ | ⟨s', hb, wb⟩ | ⟨s', mb, pb, hb, b1, b2, b3, b4⟩
    · left
      rw [hb, prd_nan_r, wb]
      unfold Ieee.Format.mul
      rw [hN, prd_nan_r]
      exact ⟨rfl, rfl⟩
    · obtain ⟨mag, p', r1, r2, r3, r4⟩ := (a4 D hD).read
      have r5 := r4 D hD
      rw [ha, hb, wb]
      unfold Ieee.Format.mul
      rw [rInf, r1]
      have hR : ∀ (m : Nat) (p : Int), Ieee.Datum.product (.number s m p) (.infinity s') = if m = 0 then none else some (.infinity (s' ^^ s)) := fun _ _ => rfl
      rw [hR, hR]
      by_cases c : ma = 0
      · left
        have c2 : mag = 0 := by
          rw [c, Nat.zero_mul] at r5
          rcases Nat.mul_eq_zero.1 r5 with u | u
          · exact u
          · exact absurd u (pne _)
        rw [if_pos c, if_pos c2]; exact ⟨rfl, rfl⟩
      · right; left
        have c2 : mag ≠ 0 := by
          intro u
          rw [u, Nat.zero_mul] at r5
          rcases Nat.mul_eq_zero.1 r5.symm with u | u
          · exact c u
          · exact absurd u (pne _)
        rw [if_neg c, if_neg c2]
        exact ⟨_, dwInf _, rfl⟩
    · right; right
      obtain ⟨Z, z1, z2⟩ := mul_fin hD (a4 D hD) (b4 D hD) a1 b1 a2 a3 b2 b3
      have hp := put_wdv z2
      rw [ha, hb, z1, hp.1]
      refine ⟨s != s', ma * mb, pa + pb, by rw [hp.2]; exact z2, by rw [bne_xor]; rfl, ?_, by omega, by omega⟩
      rcases Nat.eq_zero_or_pos mb with u | u
      · rw [u, Nat.mul_zero]; decide
      · exact Nat.lt_of_lt_of_le (Nat.mul_lt_mul_of_pos_right a1 u) (by omega)
/-- native.FMA32. -/
theorem fma32 (hm : NE mode) (a b c : BitVec 64) : ∃ z, F180 N 8#8 23#8 mode a b c = some z ∧ F350 N false a b c = some z.1 := by
  obtain ⟨D, hD⟩ : ∃ D : Nat, D = 1074 := ⟨_, rfl⟩
  obtain ⟨z, z1, z2⟩ := nfma (N := N) kd32 hm a b c
  refine ⟨z, z1, ?_⟩
  obtain ⟨s0, t0, hN⟩ := rNaN
  obtain ⟨x1, p1, p2⟩ := prod3 (N := N) a b hD
  rw [z2]
  unfold F350
  rw [bf rfl, F346_ok, F346_ok, Option.bind_some, Option.bind_some, wd32, wd32]
  have p1' : F330 N 2#8 (can 11#8 52#8 (cv Ieee.single Ieee.double (wd 8#8 23#8 a))) (can 11#8 52#8 (cv Ieee.single Ieee.double (wd 8#8 23#8 b))) = some x1 := p1
  rw [p1', Option.bind_some]
  unfold F350_1
  rw [F346_ok, Option.bind_some, wd32]
  show F350_2 N x1 (wide c) = _
  unfold Ieee.Format.fma
  rcases p2 with ⟨hx, hR⟩ | ⟨q, hx, hR⟩ | ⟨sp, p, i, hx, hR, hp, hi1, hi2⟩
  · rw [hR, hx, tail_v (addN_l _) (subN_l _), narrow_nan]; rfl
  · rw [hR, hx]
    show _ = some (can 8#8 23#8 (Option.map Ieee.single.write ((Ieee.Datum.infinity q).sum (Ieee.single.read (wd 8#8 23#8 c)))))
    rcases cls3 c with ⟨s, t, hc, wc⟩ | ⟨s, hc, wc⟩ | ⟨s, mc, pc, hc, c1, c2, c3, c4⟩
    · rw [hc, sum_nan_r, wc, tail_v (addN_r _) (subN_l _), narrow_nan]; rfl
    · rw [hc, wc]
      by_cases e : q = s
      · rw [← e]
        have o1 : F330 N 0#8 (F67 11#8 52#8 q) (F67 11#8 52#8 q) = some (F67 11#8 52#8 q) := by
          rw [F330_ok, if_pos rfl]; cases q <;> decide +kernel
        have o2 : F330 N 1#8 (F67 11#8 52#8 q) (F67 11#8 52#8 q) = some (F66 11#8 52#8) := by
          rw [F330_ok, if_neg (by decide), if_pos rfl]; cases q <;> decide +kernel
        rw [tail_v o1 o2, narrow_inf]
        have : (Ieee.Datum.infinity q).sum (.infinity q) = some (.infinity q) := by cases q <;> rfl
        rw [this]
        exact congrArg some (can_inf kd32).symm
      · have o1 : F330 N 0#8 (F67 11#8 52#8 q) (F67 11#8 52#8 s) = some (F66 11#8 52#8) := by
          rw [F330_ok, if_pos rfl]; cases q <;> cases s <;> first | exact absurd rfl e | decide +kernel
        rw [tail_v o1 (subN_l _), narrow_nan]
        have : (Ieee.Datum.infinity q).sum (.infinity s) = none := by cases q <;> cases s <;> first | exact absurd rfl e | rfl
        rw [this]; rfl
    · obtain ⟨mag, p', r1, r2, r3, r4⟩ := (c4 D hD).read
      have o1 : F330 N 0#8 (F67 11#8 52#8 q) (wide c) = some (F67 11#8 52#8 q) := by
        rw [F330_ok, if_pos rfl]
        unfold Ieee.Format.add
        rw [rInf, r1]
        have : (Ieee.Datum.infinity q).sum (.number s mag p') = some (.infinity q) := rfl
        rw [this]
        exact congrArg some (dwInf q)
      have o2 : F330 N 1#8 (F67 11#8 52#8 q) (F67 11#8 52#8 q) = some (F66 11#8 52#8) := by
        rw [F330_ok, if_neg (by decide), if_pos rfl]; cases q <;> decide +kernel
      rw [tail_v o1 o2, narrow_inf, hc]
      exact congrArg some (can_inf kd32).symm
  · rw [hR]
    show _ = some (can 8#8 23#8 (Option.map Ieee.single.write ((Ieee.Datum.number sp p i).sum (Ieee.single.read (wd 8#8 23#8 c)))))
    rcases cls3 c with ⟨s, t, hc, wc⟩ | ⟨s, hc, wc⟩ | ⟨s, mc, pc, hc, c1, c2, c3, c4⟩
    · rw [hc, sum_nan_r, wc, tail_v (addN_r _) (subN_l _), narrow_nan]; rfl
    · obtain ⟨mag, p', r1, r2, r3, r4⟩ := hx.read
      rw [hc, wc]
      have o1 : F330 N 0#8 x1 (F67 11#8 52#8 s) = some (F67 11#8 52#8 s) := by
        rw [F330_ok, if_pos rfl]
        unfold Ieee.Format.add
        rw [rInf, r1]
        have : (Ieee.Datum.number sp mag p').sum (.infinity s) = some (.infinity s) := rfl
        rw [this]
        exact congrArg some (dwInf s)
      have o2 : F330 N 1#8 (F67 11#8 52#8 s) x1 = some (F67 11#8 52#8 s) := by
        rw [F330_ok, if_neg (by decide), if_pos rfl]
        unfold Ieee.Format.sub
        rw [rInf, r1]
        have : (Ieee.Datum.infinity s).sum (Ieee.Datum.number sp mag p').opposite = some (.infinity s) := rfl
        rw [this]
        exact congrArg some (dwInf s)
      have o3 : F330 N 1#8 (F67 11#8 52#8 s) (F67 11#8 52#8 s) = some (F66 11#8 52#8) := by
        rw [F330_ok, if_neg (by decide), if_pos rfl]; cases s <;> decide +kernel
      rw [tail_w o1 o2 o3, narrow_inf]
      have : (Ieee.Datum.number sp p i).sum (.infinity s) = some (.infinity s) := rfl
      rw [this]
      exact congrArg some (can_inf kd32).symm
    · obtain ⟨S, hS⟩ : ∃ S, S = sg sp (p * 2 ^ (i + (D : Int)).toNat) + sg s (mc * 2 ^ (pc + (D : Int)).toNat) := ⟨_, rfl⟩
      rw [tail_fin hD hx (c4 D hD) hp c1 (by omega) (by omega) hS, hc]
      obtain ⟨tot, base, k1, k2, k3, k4⟩ := sum_units (s := sp) (t := s) (ma := p) (mb := mc) (i := i) (j := pc) (D := D) (by omega) (by omega) rfl rfl
      rw [← hS] at k1 k4
      rw [k1]
      refine congrArg some ?_
      show _ = can 8#8 23#8 (some (Ieee.single.write (.number (if S = 0 then sp && s else decide (S < 0)) tot base)))
      by_cases e : S = 0
      · have ht : tot = 0 := by
          rw [e] at k4
          rcases Nat.mul_eq_zero.1 (show tot * 2 ^ (base + (D : Int)).toNat = 0 from k4) with u | u
          · exact u
          · exact absurd u (pne _)
        rw [if_pos e, if_pos e, ht, can_zero kd32]
      · have ht : tot ≠ 0 := by
          intro u
          rw [u, Nat.zero_mul] at k4
          omega
        rw [if_neg e, if_neg e, can_num kd32 ne_zero ht]
        refine congrArg Prod.fst (RQ_cross (Nat.mul_ne_zero ht (pne _)) (pne _) (pne _) ?_).symm
        rw [← k4, Nat.mul_assoc, Nat.mul_assoc, ← Nat.pow_add, ← Nat.pow_add]
        exact congrArg (fun z => tot * 2 ^ z) (by omega)
end
end Go.Proofs.YfwaawGreat
