/-
  expand = exact: DigitsE, DigitsF.
-/
import Derived.Test.YfwaawGreatP9
namespace Go.Proofs.YfwaawGreat
open Go.Aw
set_option linter.unusedVariables false
set_option linter.unusedSimpArgs false

section
variable {N : Nat} {e m : BitVec 8} {x : BitVec 64} {neg : Bool} {c ex : Int} {man : BitVec 64} {P : Nat}
structure FB (num den : Nat) : Prop where
  n0 : num ≠ 0
  d0 : den ≠ 0
  bn : blen num ≤ 2500
  bd : blen den ≤ 2500
  b1 : -1200 ≤ (blen num : Int) - blen den
  b2 : (blen num : Int) - blen den ≤ 1200
theorem FinP.fb (hf : Fm e m) (h : FinP e m x neg c ex man P) : FB (man.toNat * 2 ^ ex.toNat) (2 ^ (-ex).toNat) := by
  have h1 := hf.e2
  have h2 := hf.e11
  have h3 := hf.m2
  have h4 := hf.m52
  have hbi := bia_le h2
  have hexl := h.exl
  have hexh := h.exh
  have hman0 : man.toNat ≠ 0 := by have := h.lo; have := pow_pos2 m.toNat; omega
  have hb1 : m.toNat + 1 ≤ blen man.toNat := blen_ge h.lo
  have hb2 : blen man.toNat ≤ m.toNat + 1 := blen_le_iff.2 h.hi
  have e1 := blen_pow man.toNat hman0 ex.toNat
  have e2 := blen_pow2 (-ex).toNat
  exact ⟨Nat.mul_ne_zero hman0 (Nat.ne_of_gt (pow_pos2 _)), Nat.ne_of_gt (pow_pos2 _), by omega, by omega, by omega, by omega⟩
theorem U10_blen {num den : Nat} {k : Int} (bn : blen num ≤ 2500) (hk : -5000 ≤ k ∧ k ≤ 5000) : blen (U10 num den k) ≤ 30000 := by
  unfold U10
  have h1 := rne_le (2 * (num * 10 ^ (-k).toNat) / (den * 10 ^ k.toNat)) (decide (2 * (num * 10 ^ (-k).toNat) % (den * 10 ^ k.toNat) ≠ 0))
  have h2 : 2 * (num * 10 ^ (-k).toNat) / (den * 10 ^ k.toNat) / 2 ≤ num * 10 ^ (-k).toNat := by
    have := Nat.div_le_self (2 * (num * 10 ^ (-k).toNat)) (den * 10 ^ k.toNat)
    omega
  have h3 := blen_mul num (10 ^ (-k).toNat)
  have h4 := blen_10 (-k).toNat
  have h5 := blen_add (num * 10 ^ (-k).toNat) 1
  have h6 : blen 1 = 1 := rfl
  refine Nat.le_trans (blen_mono (show _ ≤ num * 10 ^ (-k).toNat + 1 by omega)) ?_
  omega
theorem F197_U {k : Int} {nn : Bool} {num den : Nat} (hk : -5000 ≤ k ∧ k ≤ 5000) (hd : den ≠ 0) (bn : blen num ≤ 10000) (bd : blen den ≤ 10000) : F197 N nn num den k = some (U10 num den k) := F197_ok hk hd bn bd
/-- expand.DigitsE = exact.DigitsE. -/
theorem digitsE_eq (hN : 20000 ≤ N) (hf : Fm e m) (x : BitVec 64) (p : BitVec 16) : Bo (F100 N e m x p) (F99 N e m x p) := by
  have hp := p.isLt
  have hp16 : (2 : Nat) ^ 16 = 65536 := rfl
  unfold F100 F99 F199 F199_1 lt
  rw [hf.ok]
  simp only [Bool.not_true, Bool.false_or]
  rw [show (2000#16).toNat = 2000 from rfl]
  by_cases hbig : 2000 < p.toNat
  · rw [decide_eq_true hbig]
    exact ⟨_, rfl, rfl⟩
  · rw [decide_eq_false hbig]
    unfold F99_1
    simp only [cond_false]
    have hw1 : w64 (w64 (p.toNat : Int) + 1) = ((p.toNat + 1 : Nat) : Int) := by rw [w64_id (n := (p.toNat : Int)) (by omega), w64_id (by omega)]; omega
    rcases opn hf x with ⟨ng, ha, _, ha'⟩ | ⟨ng, ha, _, ha'⟩ | ⟨ng, ha, _, ha'⟩ | ⟨ng, ca, ea, ma, pa, fa⟩
    · rw [ha, ha' N, bnd]
      exact ⟨_, rfl, rfl⟩
    · rw [ha, ha' N, bnd]
      exact ⟨_, rfl, rfl⟩
    · rw [ha, ha' N, bnd]
      refine ⟨(List.replicate (p.toNat + 1) 48, 0), ?_, ?_⟩
      · show ((F200 N (w64 (w64 (p.toNat : Int) + 1))).bind fun y7 => some (y7, (0 : Int))) = _
        rw [hw1, F200_ok (by omega) (by omega), bnd, Int.toNat_natCast]
      · show ((F196 N (w64 (w64 (p.toNat : Int) + 1))).bind fun y8 => some (y8, (0 : Int))) = _
        rw [hw1, F196_ok (by omega) (by omega), bnd]
    · have hb := fa.fb hf
      obtain ⟨dig, n, D, δ, t, hE⟩ := expand_ok (N := N) (sig := ((p.toNat + 1 : Nat) : Int)) (prec := 2880) (by omega) hf fa
      have htl := hE.tl
      have hnl := hE.nl
      have hn0 : n ≠ 0 := by
        intro h0
        have hδ := hE.nz hb.n0 h0
        rcases hE.a with ⟨c0, _⟩ | ⟨_, c1, _⟩
        · exact hδ c0
        · omega
      obtain ⟨s, s1, s2⟩ := hE.round (N := N) (by omega) hb.n0 (q := ((p.toNat + 1 : Nat) : Int)) (by omega) (by omega) (fun hδ => by
        rcases hE.a with ⟨c0, _⟩ | ⟨_, c1, _⟩
        · exact (hδ c0).elim
        · omega) (fun h0 => (hn0 h0).elim)
      obtain ⟨k, k1, k2, k3, k4⟩ := F147_ok (N := N) (by omega) (nn := ng) hb.n0 hb.d0 ⟨hb.b1, hb.b2⟩ (by have := hb.bn; omega) (by have := hb.bd; omega)
      have hk := k2.uniq (hE.log hn0)
      have hu : F197 N ng (ma.toNat * 2 ^ ea.toNat) (2 ^ (-ea).toNat) (w64 (k - w64 (p.toNat : Int))) = some (U10 (ma.toNat * 2 ^ ea.toNat) (2 ^ (-ea).toNat) (k - p.toNat)) := by
        rw [w64_id (n := (p.toNat : Int)) (by omega), w64_id (by omega)]
        exact F197_U (by omega) hb.d0 (by have := hb.bn; omega) (by have := hb.bd; omega)
      obtain ⟨s', t1, t2⟩ := F198_ok (N := N) (n := U10 (ma.toNat * 2 ^ ea.toNat) (2 ^ (-ea).toNat) (k - p.toNat)) (by omega) (U10_blen hb.bn (by omega))
      have hss : s' = s := by
        rw [hk] at t2
        rw [show (n : Int) - 18 * t - ((p.toNat + 1 : Nat) : Int) = (n : Int) - 1 - 18 * t - p.toNat from by omega] at s2
        exact t2.uniq s2
      -- what both do with the digits
      obtain ⟨Z, hZ⟩ : ∃ Z, Z = F99_7 N p k s := ⟨_, rfl⟩
      have hex : (F144 N e m x).bind (fun y15 => F99_2 N p y15.1 y15.2.1 y15.2.2.1 y15.2.2.2.1 y15.2.2.2.2.1 y15.2.2.2.2.2) = Z := by
        rw [fa.f144 N, bnd]
        unfold F99_2 F99_3 F99_9 F99_4
        simp only []
        have hc := fa.c12
        rw [bf (by rcases hc with c | c <;> rw [c] <;> rfl), bf (by rcases hc with c | c <;> rw [c] <;> rfl), bf (by rcases hc with c | c <;> rw [c] <;> rfl), k1, bnd]
        unfold F99_5
        rw [hu, bnd]
        unfold F99_6
        rw [t1, bnd, hss, hZ]
      have hso : F100_1 N e m x p (F65 e m x).2.1 = Z := by
        rw [fa.f65]
        have hc := fa.c12
        unfold F100_1 F100_8
        simp only []
        rw [bf (by rcases hc with c | c <;> rw [c] <;> rfl)]
        unfold F100_2
        rw [bf (by rcases hc with c | c <;> rw [c] <;> rfl)]
        unfold F100_3
        rw [bf (by rcases hc with c | c <;> rw [c] <;> rfl)]
        unfold F100_4
        rw [hw1]
        generalize hr : F201 N (fun _ => 0#8) 0 0 ((p.toNat + 1 : Nat) : Int) 2880 e m x = rr at *
        cases rr with
        | none => cases s1
        | some y =>
          rw [bnd] at s1 ⊢
          unfold F100_5
          rw [hw1]
          cases hy : F202 N y.1 y.2.1 y.2.2.1 y.2.2.2.1 y.2.2.2.2 ((p.toNat + 1 : Nat) : Int) with
          | none => rw [hy] at s1; cases s1
          | some z =>
            rw [hy, bnd] at s1
            rw [bnd]
            have s1 := Option.some.inj s1
            have z1 : z.1 = s := congrArg Prod.fst s1
            have z2 : z.2.2.2.1 = k := (congrArg Prod.snd s1).trans hk.symm
            rw [hZ]
            unfold F100_6 F100_7 F99_7 F99_8
            rw [z1, z2]
      have hZs : ∃ v, Z = some v := by
        rw [hZ]
        unfold F99_7 F99_8
        rw [hw1]
        by_cases hlen : (s.length : Int) > ((p.toNat + 1 : Nat) : Int)
        · have hadd : (p + 1#16).toNat = p.toNat + 1 := by
            rw [BitVec.toNat_add, show (1#16).toNat = 1 from rfl]; omega
          rw [bt (decide_eq_true hlen), hadd, bt (by simp; omega)]
          exact ⟨_, rfl⟩
        · rw [bf (decide_eq_false hlen)]
          exact ⟨_, rfl⟩
      obtain ⟨v, hv⟩ := hZs
      exact ⟨v, by rw [hso, hv], by rw [hex, hv]⟩
/-- expand.DigitsF = exact.DigitsF. -/
theorem digitsF_eq (hN : 20000 ≤ N) (hf : Fm e m) (x : BitVec 64) (p : BitVec 16) : Bo (F104 N e m x p) (F103 N e m x p) := by
  have hp := p.isLt
  have hp16 : (2 : Nat) ^ 16 = 65536 := rfl
  unfold F104 F103 F199 F199_1 lt
  rw [hf.ok]
  simp only [Bool.not_true, Bool.false_or]
  rw [show (2000#16).toNat = 2000 from rfl]
  by_cases hbig : 2000 < p.toNat
  · rw [decide_eq_true hbig]
    exact ⟨_, rfl, rfl⟩
  · rw [decide_eq_false hbig]
    unfold F103_1
    simp only [cond_false]
    have hw0 : w64 (p.toNat : Int) = (p.toNat : Int) := w64_id (by omega)
    have hwn : w64 (0 - w64 (p.toNat : Int)) = -(p.toNat : Int) := by rw [hw0, w64_id (by omega)]; omega
    rcases opn hf x with ⟨ng, ha, _, ha'⟩ | ⟨ng, ha, _, ha'⟩ | ⟨ng, ha, _, ha'⟩ | ⟨ng, ca, ea, ma, pa, fa⟩
    · rw [ha, ha' N, bnd]
      exact ⟨_, rfl, rfl⟩
    · rw [ha, ha' N, bnd]
      exact ⟨_, rfl, rfl⟩
    · rw [ha, ha' N, bnd]
      refine ⟨[48], rfl, ?_⟩
      show ((F197 N ng 0 1 (w64 (0 - w64 (p.toNat : Int)))).bind fun y7 => (F198 N y7).bind fun y8 => some y8) = _
      rw [hwn, F197_U (by omega) (by decide) (by decide) (by decide), bnd]
      have hU0 : U10 0 1 (-(p.toNat : Int)) = 0 := by
        unfold U10 rne
        rw [Nat.zero_mul, Nat.mul_zero, Nat.zero_div]; simp
      rw [hU0]
      obtain ⟨s', t1, t2⟩ := F198_ok (N := N) (n := 0) (by omega) (by decide)
      rw [t1, bnd, t2.z rfl]
    · have hb := fa.fb hf
      obtain ⟨dig, n, D, δ, t, hE⟩ := expand_ok (N := N) (sig := 2880) (prec := (p.toNat : Int)) (by omega) hf fa
      have htl := hE.tl
      have hnl := hE.nl
      have hcutf : δ ≠ 0 → (p.toNat : Int) < 18 * t := by
        intro hδ
        rcases hE.a with ⟨c0, _⟩ | ⟨_, c1, _⟩
        · exact (hδ c0).elim
        · omega
      have hnr : (n : Int) - 18 * t ≤ 401 := by
        by_cases hn0 : n = 0
        · omega
        · obtain ⟨k, k1, k2, k3, k4⟩ := F147_ok (N := N) (by omega) (nn := ng) hb.n0 hb.d0 ⟨hb.b1, hb.b2⟩ (by have := hb.bn; omega) (by have := hb.bd; omega)
          have hk := k2.uniq (hE.log hn0)
          omega
      obtain ⟨s, s1, s2⟩ := hE.round (N := N) (by omega) hb.n0 (q := (n : Int) - 18 * t + p.toNat) (by omega) (by omega) (fun hδ => by have := hcutf hδ; omega) (fun h0 => by
        have := hcutf (hE.nz hb.n0 h0)
        omega)
      have hu : F197 N ng (ma.toNat * 2 ^ ea.toNat) (2 ^ (-ea).toNat) (w64 (0 - w64 (p.toNat : Int))) = some (U10 (ma.toNat * 2 ^ ea.toNat) (2 ^ (-ea).toNat) (-(p.toNat : Int))) := by
        rw [hwn]
        exact F197_U (by omega) hb.d0 (by have := hb.bn; omega) (by have := hb.bd; omega)
      obtain ⟨s', t1, t2⟩ := F198_ok (N := N) (n := U10 (ma.toNat * 2 ^ ea.toNat) (2 ^ (-ea).toNat) (-(p.toNat : Int))) (by omega) (U10_blen hb.bn (by omega))
      have hss : s' = s := by
        rw [show (n : Int) - 18 * t - ((n : Int) - 18 * t + p.toNat) = -(p.toNat : Int) from by omega] at s2
        exact t2.uniq s2
      refine ⟨s, ?_, ?_⟩
      · rw [fa.f65]
        have hc := fa.c12
        unfold F104_1 F104_6
        simp only []
        rw [bf (by rcases hc with c | c <;> rw [c] <;> rfl)]
        unfold F104_2
        rw [bf (by rcases hc with c | c <;> rw [c] <;> rfl)]
        unfold F104_3
        rw [bf (by rcases hc with c | c <;> rw [c] <;> rfl)]
        unfold F104_4
        rw [hw0]
        have hrtop : ∀ y, F201 N (fun _ => 0#8) 0 0 2880 (p.toNat : Int) e m x = some y → y.2.2.1 = (n : Int) - 1 - 18 * t := by
          intro y hy
          rcases hE.a with ⟨_, c⟩ | ⟨_, _, c⟩
          · rw [Option.some.inj (hy.symm.trans c)]
          · rw [Option.some.inj (hy.symm.trans c)]
        generalize hr : F201 N (fun _ => 0#8) 0 0 2880 (p.toNat : Int) e m x = rr at *
        cases rr with
        | none => cases s1
        | some y =>
          rw [bnd] at s1 ⊢
          unfold F104_5
          rw [hw0, hrtop y rfl, w64_id (n := (n : Int) - 1 - 18 * t + 1) (by omega), w64_id (by omega), show (n : Int) - 1 - 18 * t + 1 + p.toNat = (n : Int) - 18 * t + p.toNat from by omega]
          rw [hrtop y rfl] at s1
          cases hy : F202 N y.1 y.2.1 ((n : Int) - 1 - 18 * t) y.2.2.2.1 y.2.2.2.2 ((n : Int) - 18 * t + p.toNat) with
          | none => rw [hy] at s1; cases s1
          | some z =>
            rw [hy, bnd] at s1
            rw [bnd]
            have s1 := Option.some.inj s1
            have z1 : z.1 = s := congrArg Prod.fst s1
            rw [z1]
      · rw [fa.f144 N, bnd]
        unfold F103_2 F103_3
        simp only []
        have hc := fa.c12
        rw [bf (by rcases hc with c | c <;> rw [c] <;> rfl), hu, bnd, t1, bnd, hss]
end
end Go.Proofs.YfwaawGreat
