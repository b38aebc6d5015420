import Derived.Test.YfwaawGreatJN
/-! One step: soft does what exact does, all kinds. -/
namespace Go.Proofs.YfwaawGreat
open Go.Aw
set_option linter.unusedVariables false
set_option linter.unusedSimpArgs false
section
variable {N : Nat} {e m mode : BitVec 8} {α β γ : Type} {R : Nat → BitVec 64} {O : NS (List UInt8)}
theorem short_txt (hN : 900 ≤ N) {t : Tab} (ht : TabOk t) (hf : Fm e m) (x : BitVec 64) : Bo (F232 N t e m x) (F226 N e m x) := by
  unfold F232 F226 lt
  refine (short_eq hf hN ht x).bnd fun v _ _ => ?_
  refine (Bo.same (text_ends (show 802 ≤ N by omega) _ _ _)).bnd fun s _ _ => ?_
  rw [F313_eq]; exact Bo.rf _
theorem flagsP (hN : 1100 ≤ N) (hf : Fm e m) (tx : List UInt8) : Bo (F325 N e m mode tx) (F305 N e m mode tx) := by
  obtain ⟨r, h1, h2⟩ := decScan_ok hN tx
  unfold F325 F305
  rw [h1, h2, Option.bind_some, Option.bind_some]
  unfold F325_1 F325_2 F305_1 F305_2
  refine Bo.bif (fun _ => Bo.rf _) (fun _ => ?_)
  unfold F325_3 F305_3
  refine Bo.bif (fun _ => Bo.rf _) (fun _ => ?_)
  obtain ⟨q, q1, q2⟩ := flags_ok (mode := mode) (neg := r.2.1) (dig := r.2.2.1) (exp := r.2.2.2.1) (show 900 ≤ N by omega) hf
  rw [q1, q2, Option.bind_some, Option.bind_some]
  unfold F325_4 F305_4
  exact (Bo.same (flagText_ends (by omega) _)).bnd fun _ _ _ => Bo.rf _
theorem hfin_code {neg : Bool} {d : List UInt8} {a : Int} {r : Scd} (h : hfin N neg d a = some r) : r.1 = 0#8 ∨ r.1 = 3#8 ∨ r.1 = 4#8 := by
  unfold hfin at h
  cases hy : F284 N neg d a with
  | none => rw [hy] at h; cases h
  | some y =>
    rw [hy, Option.bind_some] at h
    cases hc : y.2.2.2 with
    | true => rw [hc] at h; rw [← Option.some.inj h]; exact Or.inl rfl
    | false => rw [hc] at h; rw [← Option.some.inj h]; exact Or.inr (Or.inr rfl)
theorem hgo_code (t : List UInt8) {r : Scd} : ∀ (R : List UInt8) (s : HS) (p : Nat), hgo N t s p R = some r → r.1 = 0#8 ∨ r.1 = 3#8 ∨ r.1 = 4#8
  | [], s, p, h => by
    rw [hgo] at h
    unfold hend at h
    cases hc : s.st != 10 with
    | true => rw [hc] at h; rw [← Option.some.inj h]; exact Or.inr (Or.inl rfl)
    | false => rw [hc] at h; exact hfin_code h
  | c :: R, s, p, h => by
    rw [hgo] at h
    cases hs : hstep s c with
    | none => rw [hs] at h; rw [← Option.some.inj h]; exact Or.inr (Or.inl rfl)
    | some s' => rw [hs] at h; exact hgo_code t R s' (p + 1) h
theorem hexScan_HC (hN : 1100 ≤ N) {tx : List UInt8} {r : Scd} (h1 : F323 N tx = some r) (c3 : (r.1 == 3#8) = false) (c4 : (r.1 == 4#8) = false) : HC r.2.2.1 r.2.2.2.1 := by
  obtain ⟨r', k1, k2, k3⟩ := hexScan_ok hN tx
  have hr : r' = r := Option.some.inj (k1.symm.trans h1)
  rw [hr] at k2 k3
  refine k3 ?_
  have hcode : r.1 = 0#8 ∨ r.1 = 3#8 ∨ r.1 = 4#8 := by
    by_cases ht : tx.length ≤ 1024
    · rw [F304_ok hN ht] at k2
      exact hgo_code tx _ _ _ k2
    · unfold F304 F304_1 at k2
      rw [bt (decide_eq_true (by omega))] at k2
      rw [← Option.some.inj k2]; exact Or.inr (Or.inr rfl)
  rcases hcode with c | c | c
  · exact c
  · rw [c] at c3; cases c3
  · rw [c] at c4; cases c4
theorem flagsH (hN : 1100 ≤ N) (hf : Fm e m) (tx : List UInt8) : Bo (F326 N e m mode tx) (F306 N e m mode tx) := by
  obtain ⟨r, h1, h2, h3⟩ := hexScan_ok hN tx
  unfold F326 F306
  rw [h1, h2, Option.bind_some, Option.bind_some]
  have hH : F323 N tx = F304 N tx := by rw [h1, h2]
  unfold F326_1 F326_2 F306_1 F306_2
  refine Bo.bif (fun _ => Bo.rf _) (fun c3 => ?_)
  unfold F326_3 F306_3
  refine Bo.bif (fun _ => Bo.rf _) (fun c4 => ?_)
  have hb : Bo (F213 N e m mode r.2.1 r.2.2.1 r.2.2.2.1) (F212 N e m mode r.2.1 r.2.2.1 r.2.2.2.1) := hexBits_eq (show 900 ≤ N by omega) hf (hexScan_HC hN h1 c3 c4)
  refine hb.bnd fun q _ _ => ?_
  unfold F326_4 F306_4
  exact (Bo.same (flagText_ends (by omega) _)).bnd fun _ _ _ => Bo.rf _
/-- The rest of the kinds. -/
theorem more_st (hN : 110000 ≤ N) {t : Tab} (ht : TabOk t) (hf : Fm e m) (hO : O.2.1 < 4294967296) (k0 d a b : BitVec 8) (imm : BitVec 64) (tx : List UInt8) :
    Sp2 O (F233 N t e m mode R O k0 d a b imm tx) (F227 N e m mode R O k0 d a b imm tx) := by
  unfold F233 F233_1 F233_2 F227 F227_1 F227_2
  refine Sp2.bif (fun _ => Sp2.up (fma_eq hf _ _ _).fst) (fun _ => ?_)
  unfold F233_3 F227_3
  refine Sp2.bif (fun _ => Sp2.up (rem_eq hf _ _ (by omega)).fst) (fun _ => ?_)
  unfold F233_4 F227_4
  refine Sp2.bif (fun _ => Sp2.up (roundInt_eq hf _).fst) (fun _ => ?_)
  unfold F233_5 F227_5
  refine Sp2.bif (fun _ => ?_) (fun _ => ?_)
  · unfold F297
    rw [min_eq hf]
    exact Sp2.up1 rfl
  unfold F233_6 F227_6
  refine Sp2.bif (fun _ => ?_) (fun _ => ?_)
  · unfold F298
    rw [max_eq hf]
    exact Sp2.up1 rfl
  unfold F233_7 F227_7
  refine Sp2.bif (fun _ => ?_) (fun _ => ?_)
  · unfold F299
    rw [nextUp_eq hf]
    exact Sp2.up1 rfl
  unfold F233_8 F227_8
  refine Sp2.bif (fun _ => ?_) (fun _ => ?_)
  · unfold F300
    rw [nextDown_eq hf]
    exact Sp2.up1 rfl
  unfold F233_9 F227_9
  refine Sp2.bif (fun _ => ?_) (fun _ => ?_)
  · simp only [lt]
    rw [F228_eq, F228_eq, F228_eq]
    obtain ⟨v, v1, v2⟩ := flags3 (N := N) (mode := mode) (show 3000 ≤ N by omega) hf imm (F222 e m (R (a &&& 7#8).toNat)) (F222 e m (R (b &&& 7#8).toNat)) (F222 e m (R ((imm >>> 3) &&& 7#64).toNat))
    rw [v1, v2]
    exact Sp2.out hO (Bo.same (flagText_ends (by omega) _))
  have h10 : ∀ c, Sp2 O (F233_10 N t e m mode R O k0 d a b imm tx (R (a &&& 7#8).toNat) c) (F227_10 N e m mode R O k0 d a b imm tx (R (a &&& 7#8).toNat) c) := by
    intro c
    unfold F233_10 F227_10
    refine Sp2.bif (fun _ => Sp2.out hO (digits_txt hN hf _ _ _ _ _ _ _)) (fun _ => ?_)
    unfold F233_11 F227_11
    refine Sp2.bif (fun _ => ?_) (fun _ => ?_)
    · unfold lt
      obtain ⟨v, v1, v2⟩ := hexText_eq (show 30 ≤ N by omega) hf (R (a &&& 7#8).toNat)
      rw [v1, v2, Option.bind_some, Option.bind_some, F313_eq]
      exact Sp2.out1 hO rfl
    unfold F233_12 F227_12
    refine Sp2.bif (fun _ => hex_take (show 1100 ≤ N by omega) hf hO d tx) (fun _ => ?_)
    unfold F233_16 F227_16
    refine Sp2.bif (fun _ => (dec2_st (show 1100 ≤ N by omega) ht hf hO _ _ _ _ _ _).pair) (fun _ => ?_)
    unfold F233_17 F227_17
    refine Sp2.bif (fun _ => Sp2.out hO (flagsP (by omega) hf tx)) (fun _ => ?_)
    unfold F233_18 F227_18
    refine Sp2.bif (fun _ => Sp2.out hO (flagsH (by omega) hf tx)) (fun _ => ?_)
    unfold F233_19 F227_19
    refine Sp2.bif (fun _ => Sp2.up (scaleB_eq hf _ _).fst) (fun _ => ?_)
    unfold F233_20 F227_20
    refine Sp2.bif (fun _ => ?_) (fun _ => ?_)
    · unfold F308 F328 lt
      rw [logB_eq hf]
      simp only [Option.bind_some, F308_1, F328_1]
      rw [F310_eq]
      exact Sp2.out hO (Bo.same (F290_ends (by omega) _ (F112_rg e m _ _ rfl)))
    unfold F233_21 F227_21
    refine Sp2.bif (fun _ => ?_) (fun _ => ?_)
    · simp only [lt]
      rw [F228_eq]
      obtain ⟨v, v1, v2⟩ := scaleB_eq (N := N) (mode := mode) hf (F222 e m (R (a &&& 7#8).toNat)) (w64 (imm.toNat : Int))
      rw [v1, v2]
      simp only [Option.bind_some]
      unfold F233_22 F227_22
      exact Sp2.out hO (Bo.same (flagText_ends (by omega) _))
    unfold F233_23 F227_23
    refine Sp2.bif (fun _ => ?_) (fun _ => Sp2.id)
    simp only [lt]
    rw [F228_eq]
    obtain ⟨u, v, v1, v2, v3⟩ := flags4 (N := N) (mode := mode) hf imm (F222 e m (R (a &&& 7#8).toNat))
    rw [v1, v2, v3]
    simp only [Option.bind_some]
    unfold F233_24 F227_24
    exact Sp2.bif (fun _ => Sp2.out hO (Bo.same (flagText_ends (by omega) _))) (fun _ => Sp2.id)
  unfold F233_25 F227_25
  exact Sp2.bif (fun _ => h10 _) (fun _ => h10 _)
/-- One step of the soft engine. -/
theorem soft_st (hN : 110000 ≤ N) {t : Tab} (ht : TabOk t) (hf : Fm e m) (hO : O.2.1 < 4294967296) (k0 d a b : BitVec 8) (imm : BitVec 64) (tx : List UInt8) :
    Sp2 O (F122 N t e m mode R O k0 d a b imm tx) (F121 N t e m mode R O k0 d a b imm tx) := by
  unfold F122 F121
  simp only [lt]
  rw [hf.ok]
  unfold F122_1 F121_1
  rw [Bool.not_true, bf rfl, bf rfl]
  unfold F122_2 F121_2 F122_3 F121_3
  refine Sp2.bif (fun _ => Sp2.up1 (F228_eq _ _ _)) (fun _ => ?_)
  unfold F122_4 F121_4
  refine Sp2.bif (fun _ => Sp2.up (add_eq hf _ _).fst) (fun _ => ?_)
  unfold F122_5 F121_5
  refine Sp2.bif (fun _ => Sp2.up (sub_eq hf _ _).fst) (fun _ => ?_)
  unfold F122_6 F121_6
  refine Sp2.bif (fun _ => Sp2.up (mul_eq hf _ _).fst) (fun _ => ?_)
  unfold F122_7 F121_7
  refine Sp2.bif (fun _ => Sp2.up (div_eq hf _ _ (by omega)).fst) (fun _ => ?_)
  unfold F122_8 F121_8
  refine Sp2.bif (fun _ => Sp2.up (sqrt_eq hf _ (by omega)).fst) (fun _ => ?_)
  unfold F122_9 F121_9
  refine Sp2.bif (fun _ => ?_) (fun _ => ?_)
  · unfold lt
    exact Sp2.up1 (by rw [F228_eq, F228_eq])
  unfold F122_10 F121_10
  refine Sp2.bif (fun _ => ?_) (fun _ => ?_)
  · unfold lt
    exact Sp2.up1 (by rw [F228_eq, F228_eq])
  unfold F122_11 F121_11
  refine Sp2.bif (fun _ => ?_) (fun _ => ?_)
  · unfold lt
    rw [cmp_ok hf, Option.bind_some]
    exact Sp2.out1 hO (F229_eq _)
  unfold F122_12 F121_12
  refine Sp2.bif (fun _ => Sp2.up (fromI_eq hf _).fst) (fun _ => ?_)
  unfold F122_13 F121_13
  refine Sp2.bif (fun _ => Sp2.up (fromU_eq hf _).fst) (fun _ => ?_)
  unfold F122_14 F121_14
  refine Sp2.bif (fun _ => Sp2.out hO ?_) (fun _ => ?_)
  · unfold F230 F224 F83 F73
    obtain ⟨v, v1, v2⟩ := toInt_eq (N := N) (mode := 2#8) hf (R (a &&& 7#8).toNat)
    rw [v1, v2]
    simp only [Option.bind_some, F83_1, F73_1]
    rw [F310_eq]
    exact (Bo.same (F290_ends (by omega) _ (F151_rg N e m _ _ _ v1))).bnd fun _ _ _ => Bo.rf _
  unfold F122_15 F121_15
  refine Sp2.bif (fun _ => ?_) (fun _ => ?_)
  · unfold F122_16 F121_16 lt
    cases hc : F40 (BitVec.ofInt 8 (imm.toNat : Int)) (BitVec.ofInt 8 ((imm >>> 8).toNat : Int)) with
    | false => exact Sp2.id
    | true =>
      have hf' := fm_iff.1 hc
      simp only []
      unfold F122_17 F121_17
      rw [bt rfl, bt rfl]
      obtain ⟨v, v1, v2⟩ := (convert_eq (N := N) (mode := mode) hf hf' (R (a &&& 7#8).toNat)).fst
      have w1 : F49 N e m (BitVec.ofInt 8 (imm.toNat : Int)) (BitVec.ofInt 8 ((imm >>> 8).toNat : Int)) mode (R (a &&& 7#8).toNat) = some v := v1
      have w2 : F48 N e m (BitVec.ofInt 8 (imm.toNat : Int)) (BitVec.ofInt 8 ((imm >>> 8).toNat : Int)) mode (R (a &&& 7#8).toNat) = some v := v2
      rw [w1, w2, Option.bind_some, Option.bind_some]
      exact Sp2.up (convert_eq hf' hf v).fst
  unfold F122_18 F121_18
  refine Sp2.bif (fun _ => (dec_st (show 1100 ≤ N by omega) ht hf hO _ _ _ _ _ _).pair) (fun _ => ?_)
  unfold F122_19 F121_19
  exact Sp2.bif (fun _ => Sp2.out hO (short_txt (by omega) ht hf _)) (fun _ => (more_st hN ht hf hO _ _ _ _ _ _).pair)
end
end Go.Proofs.YfwaawGreat
