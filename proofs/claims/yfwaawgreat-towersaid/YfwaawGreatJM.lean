import Derived.Test.YfwaawGreatJL
import Derived.Test.YfwaawGreatPA
import Derived.Test.YfwaawGreatD3
/-! Lengths and ranges that the printed texts need. -/
namespace Go.Proofs.YfwaawGreat
open Go.Aw
set_option linter.unusedVariables false
set_option linter.unusedSimpArgs false
section
variable {N : Nat} {e m mode : BitVec 8}
theorem Sp.len {s : List UInt8} {n : Nat} (h : Sp s n) (hb : blen n ≤ 30000) : s.length ≤ 30001 := by
  by_cases h0 : n = 0
  · rw [h.z h0]; decide
  · have h1 := h.low h0
    have h2 := blen_lt n
    rcases Nat.lt_or_ge 30001 s.length with c | c
    · exfalso
      have h3 : (2 : Nat) ^ blen n ≤ 2 ^ (s.length - 1) := pow_le (by omega)
      have h4 : (2 : Nat) ^ (s.length - 1) ≤ 10 ^ (s.length - 1) := Nat.pow_le_pow_left (by decide) _
      omega
    · exact c
theorem digE_len (hN : 20000 ≤ N) (hf : Fm e m) (x : BitVec 64) (p : BitVec 16) {v : List UInt8 × Int} (hv : F99 N e m x p = some v) : v.1.length ≤ 100000 := by
  have hp := p.isLt
  have hp16 : (2 : Nat) ^ 16 = 65536 := rfl
  unfold F99 lt at hv
  rw [hf.ok] at hv
  simp only [Bool.not_true, Bool.false_or] at hv
  rw [show (2000#16).toNat = 2000 from rfl] at hv
  by_cases hbig : 2000 < p.toNat
  · rw [decide_eq_true hbig] at hv
    have hv : some (([] : List UInt8), (0 : Int)) = some v := hv
    rw [← Option.some.inj hv]
    exact Nat.zero_le _
  · rw [decide_eq_false hbig] at hv
    unfold F99_1 at hv
    simp only [cond_false] at hv
    have hw1 : w64 (w64 (p.toNat : Int) + 1) = ((p.toNat + 1 : Nat) : Int) := by rw [w64_id (n := (p.toNat : Int)) (by omega), w64_id (by omega)]; omega
    rcases opn hf x with ⟨ng, ha, _, ha'⟩ | ⟨ng, ha, _, ha'⟩ | ⟨ng, ha, _, ha'⟩ | ⟨ng, ca, ea, ma, pa, fa⟩
    · rw [ha' N, bnd] at hv
      have hv : some (([] : List UInt8), (0 : Int)) = some v := hv
      rw [← Option.some.inj hv]
      exact Nat.zero_le _
    · rw [ha' N, bnd] at hv
      have hv : some (([] : List UInt8), (0 : Int)) = some v := hv
      rw [← Option.some.inj hv]
      exact Nat.zero_le _
    · rw [ha' N, bnd] at hv
      have hv : ((F196 N (w64 (w64 (p.toNat : Int) + 1))).bind fun y8 => some (y8, (0 : Int))) = some v := hv
      rw [hw1, F196_ok (by omega) (by omega), bnd] at hv
      rw [← Option.some.inj hv]
      show (List.replicate (p.toNat + 1) (48 : UInt8)).length ≤ 100000
      rw [List.length_replicate]; omega
    · have hb := fa.fb hf
      obtain ⟨k, k1, k2, k3, k4⟩ := F147_ok (N := N) (by omega) (nn := ng) hb.n0 hb.d0 ⟨hb.b1, hb.b2⟩ (by have := hb.bn; omega) (by have := hb.bd; omega)
      have hu : F197 N ng (ma.toNat * 2 ^ ea.toNat) (2 ^ (-ea).toNat) (w64 (k - w64 (p.toNat : Int))) = some (U10 (ma.toNat * 2 ^ ea.toNat) (2 ^ (-ea).toNat) (k - p.toNat)) := by
        rw [w64_id (n := (p.toNat : Int)) (by omega), w64_id (by omega)]
        exact F197_U (by omega) hb.d0 (by have := hb.bn; omega) (by have := hb.bd; omega)
      have hub := U10_blen (den := 2 ^ (-ea).toNat) (k := k - p.toNat) hb.bn (by omega)
      obtain ⟨s', t1, t2⟩ := F198_ok (N := N) (n := U10 (ma.toNat * 2 ^ ea.toNat) (2 ^ (-ea).toNat) (k - p.toNat)) (by omega) hub
      have hl := t2.len hub
      rw [fa.f144 N, bnd] at hv
      unfold F99_2 F99_3 F99_9 F99_4 at hv
      simp only [] at hv
      have hc := fa.c12
      rw [bf (by rcases hc with c | c <;> rw [c] <;> rfl), bf (by rcases hc with c | c <;> rw [c] <;> rfl), bf (by rcases hc with c | c <;> rw [c] <;> rfl), k1, bnd] at hv
      unfold F99_5 at hv
      rw [hu, bnd] at hv
      unfold F99_6 at hv
      rw [t1, bnd] at hv
      unfold F99_7 F99_8 at hv
      cases hcd : decide ((s'.length : Int) > w64 (w64 (p.toNat : Int) + 1)) with
      | false =>
        rw [bf hcd] at hv
        rw [← Option.some.inj hv]
        show s'.length ≤ 100000
        omega
      | true =>
        rw [bt hcd] at hv
        cases hcd2 : (decide (0 ≤ (0 : Int)) && (decide ((0 : Int) ≤ ((p + 1#16).toNat : Int)) && decide (((p + 1#16).toNat : Int) ≤ (s'.length : Int)))) with
        | false => rw [bf hcd2] at hv; cases hv
        | true =>
          rw [bt hcd2] at hv
          rw [← Option.some.inj hv]
          show ((s'.drop _).take _).length ≤ 100000
          rw [List.length_take, List.length_drop]
          omega
theorem digF_len (hN : 20000 ≤ N) (hf : Fm e m) (x : BitVec 64) (p : BitVec 16) {v : List UInt8} (hv : F103 N e m x p = some v) : v.length ≤ 100000 := by
  have hp := p.isLt
  have hp16 : (2 : Nat) ^ 16 = 65536 := rfl
  unfold F103 lt at hv
  rw [hf.ok] at hv
  simp only [Bool.not_true, Bool.false_or] at hv
  rw [show (2000#16).toNat = 2000 from rfl] at hv
  by_cases hbig : 2000 < p.toNat
  · rw [decide_eq_true hbig] at hv
    have hv : some ([] : List UInt8) = some v := hv
    rw [← Option.some.inj hv]
    exact Nat.zero_le _
  · rw [decide_eq_false hbig] at hv
    unfold F103_1 at hv
    simp only [cond_false] at hv
    have hw0 : w64 (p.toNat : Int) = (p.toNat : Int) := w64_id (by omega)
    have hwn : w64 (0 - w64 (p.toNat : Int)) = -(p.toNat : Int) := by rw [hw0, w64_id (by omega)]; omega
    rcases opn hf x with ⟨ng, ha, _, ha'⟩ | ⟨ng, ha, _, ha'⟩ | ⟨ng, ha, _, ha'⟩ | ⟨ng, ca, ea, ma, pa, fa⟩
    · rw [ha' N, bnd] at hv
      have hv : some ([] : List UInt8) = some v := hv
      rw [← Option.some.inj hv]
      exact Nat.zero_le _
    · rw [ha' N, bnd] at hv
      have hv : some ([] : List UInt8) = some v := hv
      rw [← Option.some.inj hv]
      exact Nat.zero_le _
    · rw [ha' N, bnd] at hv
      have hv : ((F197 N ng 0 1 (w64 (0 - w64 (p.toNat : Int)))).bind fun y7 => (F198 N y7).bind fun y8 => some y8) = some v := hv
      rw [hwn, F197_U (by omega) (by decide) (by decide) (by decide), bnd] at hv
      have hub := U10_blen (num := 0) (den := 1) (k := -(p.toNat : Int)) (by decide) (by omega)
      obtain ⟨s', t1, t2⟩ := F198_ok (N := N) (n := U10 0 1 (-(p.toNat : Int))) (by omega) hub
      have hl := t2.len hub
      rw [t1, bnd] at hv
      rw [← Option.some.inj hv]
      omega
    · have hb := fa.fb hf
      have hu : F197 N ng (ma.toNat * 2 ^ ea.toNat) (2 ^ (-ea).toNat) (w64 (0 - w64 (p.toNat : Int))) = some (U10 (ma.toNat * 2 ^ ea.toNat) (2 ^ (-ea).toNat) (-(p.toNat : Int))) := by
        rw [hwn]
        exact F197_U (by omega) hb.d0 (by have := hb.bn; omega) (by have := hb.bd; omega)
      have hub := U10_blen (den := 2 ^ (-ea).toNat) (k := -(p.toNat : Int)) hb.bn (by omega)
      obtain ⟨s', t1, t2⟩ := F198_ok (N := N) (n := U10 (ma.toNat * 2 ^ ea.toNat) (2 ^ (-ea).toNat) (-(p.toNat : Int))) (by omega) hub
      have hl := t2.len hub
      rw [fa.f144 N, bnd] at hv
      unfold F103_2 F103_3 at hv
      simp only [] at hv
      have hc := fa.c12
      rw [bf (by rcases hc with c | c <;> rw [c] <;> rfl), hu, bnd, t1, bnd] at hv
      rw [← Option.some.inj hv]
      omega
/-- An answer in range. -/
def Rg {β : Type} (o : Option (Int × β)) : Prop := ∀ r, o = some r → -9223372036854775808 ≤ r.1 ∧ r.1 < 9223372036854775808
theorem Rg.bif {β : Type} {c : Bool} {x y : Option (Int × β)} (h1 : Rg x) (h2 : Rg y) : Rg (bif c then x else y) := by cases c; exact h2; exact h1
theorem Rg.w {β : Type} {n : Int} {b : β} : Rg (some (w64 n, b)) := fun r h => by rw [← Option.some.inj h]; exact w64_range n
theorem rg0 : -9223372036854775808 ≤ (0 : Int) ∧ (0 : Int) < 9223372036854775808 := by decide
theorem Rg.z {β : Type} {b : β} : Rg (some ((0 : Int), b)) := fun r h => by rw [← Option.some.inj h]; exact rg0
theorem Rg.n {β : Type} : Rg (none : Option (Int × β)) := fun r h => by cases h
theorem Rg.bnd {α β : Type} {x : Option α} {f : α → Option (Int × β)} (h : ∀ a, Rg (f a)) : Rg (x.bind f) := by
  cases x with
  | none => exact Rg.n
  | some a => exact h a
theorem F151_rg (N : Nat) (e m mode : BitVec 8) (a : BitVec 64) : Rg (F151 N e m mode a) := by
  have h5 : ∀ x1 x2 x3 x4 x8 x9, Rg (F151_5 N x1 x2 x3 x4 x8 x9) := by
    intro x1 x2 x3 x4 x8 x9
    unfold F151_5 F151_9 F151_6 F151_7 F151_8
    exact Rg.bif (Rg.bif Rg.w (Rg.bif Rg.w Rg.z)) (Rg.bif Rg.w (Rg.bif Rg.w Rg.z))
  have h4 : ∀ a1 x1 x2 x3 x4 x7, Rg (F151_4 N a1 x1 x2 x3 x4 x7) := by
    intro a1 x1 x2 x3 x4 x7
    unfold F151_4 F151_10 F151_11 F151_12
    refine Rg.bif Rg.z (Rg.bif (Rg.bif (h5 _ _ _ _ _ _) Rg.n) (Rg.bnd fun y => ?_))
    unfold lt
    exact Rg.bif (h5 _ _ _ _ _ _) (h5 _ _ _ _ _ _)
  unfold F151 F151_1 F151_2 F151_3 F151_13 F151_14 lt
  exact Rg.bif Rg.z (Rg.bif Rg.z (Rg.bif (h4 _ _ _ _ _ _) (Rg.bif (h4 _ _ _ _ _ _) (h4 _ _ _ _ _ _))))
theorem F112_rg (e m : BitVec 8) (a : BitVec 64) : Rg (some (F112 e m a)) := by
  have key : ∀ (c d : Bool) (n : Int), Rg (some (bif c then ((0 : Int), false, 0#8) else bif d then (0, false, 1#8) else (w64 n, true, 0#8))) := by
    intro c d n
    cases c
    · cases d
      · exact Rg.w
      · exact Rg.z
    · exact Rg.z
  unfold F112 F112_1 F112_2 F112_3 lt
  exact key _ _ _
end
end Go.Proofs.YfwaawGreat
