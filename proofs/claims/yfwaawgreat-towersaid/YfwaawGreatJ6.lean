/-
  exact.Rem in units; Remainder.
-/
import Derived.Test.YfwaawGreatJ5
import Derived.Test.YfwaawGreatR1
namespace Go.Proofs.YfwaawGreat
open Go.Aw
set_option linter.unusedVariables false
set_option linter.unusedSimpArgs false

/-- Whether the remainder is taken from above. -/
def rup (V W : Nat) : Bool := decide (W < 2 * (V % W)) || (decide (2 * (V % W) = W) && decide (V / W % 2 = 1))
/-- The remainder's size. -/
def rsz (V W : Nat) : Nat := bif rup V W then W - V % W else V % W
section
variable {e m mode : BitVec 8} {f : Ieee.Format} {N : Nat} {s t : Bool}
theorem nbit0 (n : Nat) : nbit n 0 = decide (n % 2 = 1) := by
  unfold nbit
  show (decide ((0 : Int) ≤ 0) && n.testBit 0) = _
  rw [Nat.testBit_zero]; rfl
/-- exact.Rem of two finite numbers, the second not zero. -/
theorem nrem_fin (k : Kd e m f) {a b : BitVec 64} {ca ea cb eb : Int} {ma mb : BitVec 64} {P Q : Nat} (fa : FinP e m a s ca ea ma P) (fb : FinP e m b t cb eb mb Q) :
    ∃ z, F181 N e m a b = some z ∧ z.1 = (if rsz (uv m.toNat P) (uv m.toNat Q) = 0 then F251 e m s else (RQ e m 0#8 (rup (uv m.toNat P) (uv m.toNat Q) ^^ s) (rsz (uv m.toNat P) (uv m.toNat Q)) (2 ^ (bia e.toNat + m.toNat - 1))).1) := by
  obtain ⟨D, hD⟩ : ∃ D, D = bia e.toNat + m.toNat - 1 := ⟨_, rfl⟩
  have la := fa.least k.fm
  have lb := fb.least k.fm
  rw [← hD] at la lb ⊢
  have hV := uv_pos (M := m.toNat) fa.p0
  have hW := uv_pos (M := m.toNat) fb.p0
  obtain ⟨V, hVd⟩ : ∃ V, V = uv m.toNat P := ⟨_, rfl⟩
  obtain ⟨W, hWd⟩ : ∃ W, W = uv m.toNat Q := ⟨_, rfl⟩
  rw [← hVd] at la hV ⊢
  rw [← hWd] at lb hW ⊢
  have n1 := fa.bnum k.fm
  have n2 := fb.bnum k.fm
  have d1 := fa.bden k.fm
  have d2 := fb.bden k.fm
  obtain ⟨a4, a3, a0⟩ := fa.cls
  obtain ⟨b4, b3, b0⟩ := fb.cls
  unfold F181 F181_1
  simp only [lt]
  rw [k.fm.ok, Bool.not_true, bf rfl, fa.f144, fb.f144]
  simp only [Option.bind_some, F181_2, F181_3, F181_4, F181_5, a4, a3, a0, b4, b3, b0, Bool.or_self, cond_false]
  obtain ⟨an, han⟩ : ∃ an, an = ma.toNat * 2 ^ ea.toNat := ⟨_, rfl⟩
  obtain ⟨ad, had⟩ : ∃ ad, ad = 2 ^ (-ea).toNat := ⟨_, rfl⟩
  obtain ⟨bn, hbn⟩ : ∃ bn, bn = mb.toNat * 2 ^ eb.toNat := ⟨_, rfl⟩
  obtain ⟨bd, hbd⟩ : ∃ bd, bd = 2 ^ (-eb).toNat := ⟨_, rfl⟩
  have hadp : 0 < ad := by rw [had]; exact pow_pos2 _
  have hbdp : 0 < bd := by rw [hbd]; exact pow_pos2 _
  rw [← han] at la n1 ⊢
  rw [← had] at la d1 ⊢
  rw [← hbn] at lb n2 ⊢
  rw [← hbd] at lb d2 ⊢
  have m1 := blen_mul an bd
  have m2 := blen_mul bn ad
  have m3 := blen_mul ad bd
  rw [lim_blen (n := an) (by omega), lim_blen (n := bd) (by omega), lim_blen (n := bn) (by omega), lim_blen (n := ad) (by omega), Bool.and_self, bt rfl, bt rfl]
  unfold F181_6
  rw [lim_blen (n := ad) (by omega), lim_blen (n := bd) (by omega), Bool.and_self, bt rfl]
  obtain ⟨A, hA⟩ : ∃ A, A = an * bd := ⟨_, rfl⟩
  obtain ⟨B, hB⟩ : ∃ B, B = bn * ad := ⟨_, rfl⟩
  obtain ⟨L, hL⟩ : ∃ L, L = ad * bd := ⟨_, rfl⟩
  rw [← hA, ← hB, ← hL]
  rw [← hA] at m1
  rw [← hB] at m2
  rw [← hL] at m3
  have hLp : 0 < L := by rw [hL]; exact Nat.mul_pos hadp hbdp
  have hDp := pow_pos2 D
  have eA : A * 2 ^ D = V * L := by rw [hA, hL, Nat.mul_right_comm, la, Nat.mul_assoc]
  have eB : B * 2 ^ D = W * L := by rw [hB, hL, Nat.mul_right_comm, lb, Nat.mul_assoc, Nat.mul_comm bd]
  have hBp : 0 < B := by
    rcases Nat.eq_zero_or_pos B with z | z
    · rw [z, Nat.zero_mul] at eB
      have := Nat.mul_pos hW hLp; omega
    · exact z
  have hcr : A * W = V * B := by
    refine Nat.mul_right_cancel hDp ?_
    rw [Nat.mul_right_comm, eA, Nat.mul_assoc V B, eB, Nat.mul_assoc, Nat.mul_comm L]
  have hq : A / B = V / W := (div_cross hBp hW hcr).1
  have hrem : A % B * 2 ^ D = V % W * L := by
    have h1 := Nat.div_add_mod A B
    have h2 := Nat.div_add_mod V W
    have h3 : (B * (A / B) + A % B) * 2 ^ D = (W * (V / W) + V % W) * L := by rw [h1, h2]; exact eA
    rw [Nat.add_mul, Nat.add_mul, hq, Nat.mul_right_comm B, eB, Nat.mul_right_comm W] at h3
    omega
  have hsub : (B - A % B) * 2 ^ D = (W - V % W) * L := by rw [Nat.sub_mul, Nat.sub_mul, eB, hrem]
  have hc1 : B < A % B * 2 ↔ W < 2 * (V % W) := by
    have e1 : A % B * 2 * 2 ^ D = 2 * (V % W) * L := by rw [Nat.mul_right_comm, hrem, Nat.mul_comm 2 (V % W), Nat.mul_right_comm]
    constructor
    · intro g
      have := Nat.mul_lt_mul_of_pos_right g hDp
      rw [eB, e1] at this
      exact Nat.lt_of_mul_lt_mul_right this
    · intro g
      have := Nat.mul_lt_mul_of_pos_right g hLp
      rw [← eB, ← e1] at this
      exact Nat.lt_of_mul_lt_mul_right this
  have hc2 : A % B * 2 = B ↔ 2 * (V % W) = W := by
    have e1 : A % B * 2 * 2 ^ D = 2 * (V % W) * L := by rw [Nat.mul_right_comm, hrem, Nat.mul_comm 2 (V % W), Nat.mul_right_comm]
    constructor
    · intro g
      rw [g, eB] at e1
      exact (Nat.mul_right_cancel hLp e1).symm
    · intro g
      rw [g, ← eB] at e1
      exact Nat.mul_right_cancel hDp e1
  have hremlt := Nat.mod_lt A hBp
  have hmlt := Nat.mod_lt V hW
  have hbr : blen (A % B) ≤ blen B := blen_mono (Nat.le_of_lt hremlt)
  have hbr2 := blen_shl (A % B) 1
  unfold F181_7
  rw [lim_blen (n := A) (by omega), lim_blen (n := B) (by omega), Bool.and_self, bt rfl, show nmod A B = A % B from if_neg (by omega)]
  unfold F181_8
  rw [lim_blen (n := A % B) (by omega), bt rfl, show (1#16).toNat = 1 from rfl, lim_blen (n := A % B * 2 ^ 1) (by omega), lim_blen (n := B) (by omega), Bool.and_self, bt rfl, Nat.pow_one]
  have hupf : ∀ b : Bool, b = rup V W → ∃ z, F181_10 N e m (a &&& F69 e m) s ca s an ad B L (A % B) b = some z ∧ z.1 = (if rsz V W = 0 then F251 e m s else (RQ e m 0#8 (rup V W ^^ s) (rsz V W) (2 ^ D)).1) := by
    intro b hb
    unfold F181_10
    cases hr : rup V W with
    | true =>
      rw [hb, hr, bt rfl, lim_blen (n := B) (by omega), lim_blen (n := A % B) (by omega), Bool.and_self, bt rfl]
      unfold F181_11
      have hs : rsz V W = W - V % W := by unfold rsz; rw [hr]; rfl
      have hne : B - A % B ≠ 0 := by omega
      have hble : blen (B - A % B) ≤ blen B := blen_mono (Nat.sub_le _ _)
      rw [F136_RQ k.fm hne (by omega) (by omega) (by omega), Option.bind_some, hs, if_neg (by omega)]
      refine ⟨_, rfl, ?_⟩
      rw [Bool.true_xor]
      exact congrArg Prod.fst (RQ_cross hne (by omega) (pne D) hsub)
    | false =>
      rw [hb, hr, bf rfl]
      have hs : rsz V W = V % W := by unfold rsz; rw [hr]; rfl
      rw [hs, Bool.false_xor]
      by_cases z : V % W = 0
      · have z2 : A % B = 0 := by
          rw [z, Nat.zero_mul] at hrem
          rcases Nat.mul_eq_zero.1 hrem with g | g
          · exact g
          · omega
        rw [z2, F136_zero k.fm (by omega) (by omega), if_pos z]
        exact ⟨_, rfl, rfl⟩
      · have z2 : A % B ≠ 0 := by
          intro g
          rw [g, Nat.zero_mul] at hrem
          rcases Nat.mul_eq_zero.1 hrem.symm with g | g
          · exact z g
          · omega
        rw [F136_RQ k.fm z2 (by omega) (by omega) (by omega), Option.bind_some, if_neg z]
        exact ⟨_, rfl, congrArg Prod.fst (RQ_cross z2 (by omega) (pne D) hrem)⟩
  unfold F181_9
  unfold ncmp
  rcases Nat.lt_trichotomy (A % B * 2) B with g | g | g
  · rw [if_pos g, bf (by rfl), bf (by rfl)]
    refine hupf false ?_
    unfold rup
    rw [decide_eq_false (fun q => by have := hc1.2 q; omega), decide_eq_false (fun q => by have := hc2.2 q; omega)]
    rfl
  · rw [if_neg (by omega), if_pos g, bf (by rfl), bt (by rfl)]
    have hbq : blen (A / B) ≤ blen A := blen_mono (Nat.div_le_self _ _)
    rw [lim_blen (n := A / B) (by omega), show i64ok 0 = true from rfl, Bool.and_self, bt rfl]
    refine hupf _ ?_
    unfold rup
    rw [decide_eq_false (fun q => by have := hc1.2 q; omega), decide_eq_true (hc2.1 g), nbit0, hq]
    rfl
  · rw [if_neg (by omega), if_neg (by omega), bt (by rfl)]
    refine hupf true ?_
    unfold rup
    rw [decide_eq_true (hc1.1 g)]
    rfl
end
end Go.Proofs.YfwaawGreat
