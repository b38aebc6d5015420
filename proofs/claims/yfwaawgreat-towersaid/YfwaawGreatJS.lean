import Derived.Test.YfwaawGreatJR
/-! The law itself, plain. -/
namespace Go.Proofs.YfwaawGreat
open Go.Aw
set_option linter.unusedVariables false
set_option linter.unusedSimpArgs false
section
variable {N : Nat} {e m mode : BitVec 8} {w : Bool} {R : Nat → BitVec 64} {O : NS (List UInt8)} {t : Tab} {x y : BitVec 8} {s : NS Opv}
theorem F56_0 : F56 t 0#8 e m mode = F40 e m := by
  unfold F56 F56_1
  simp only [lt]
  cases F40 e m <;> rfl
theorem F56_1' : F56 t 1#8 e m mode = F40 e m := by
  unfold F56 F56_1
  simp only [lt]
  cases F40 e m <;> rfl
theorem F56_2' (h : NaF e m w) (hmo : mode = 0#8 ∨ 4 < mode.toNat) : F56 t 2#8 e m mode = true := by
  have key : (bif mode == 0#8 then F56_2 true else F56_2 (decide ((4#8).toNat < mode.toNat))) = true := by
    unfold F56_2
    rcases hmo with rfl | g
    · rfl
    · rw [decide_eq_true (show (4#8).toNat < mode.toNat from g)]
      cases mode == 0#8 <;> rfl
  unfold F56 F56_1
  simp only [lt]
  rw [h.fm.ok]
  rcases h with ⟨rfl, rfl, rfl⟩ | ⟨rfl, rfl, rfl⟩
  · rw [bf (by rfl), bf (by rfl), bf (by rfl), bt (by rfl)]; exact key
  · rw [bf (by rfl), bf (by rfl), bt (by rfl)]; exact key
theorem F31_na (h : F31 2#8 e m mode = true) : (∃ w, NaF e m w) ∧ (mode = 0#8 ∨ 4 < mode.toNat) := by
  unfold F31 F31_4 at h
  rw [bf (by rfl)] at h
  unfold F31_1 at h
  rw [bf (by rfl)] at h
  unfold F31_2 at h
  rw [bt (by rfl)] at h
  unfold F31_3 at h
  cases hc : F58 mode with
  | false => rw [bf hc] at h; cases h
  | true =>
    rw [bt hc] at h
    have hmo : mode = 0#8 ∨ 4 < mode.toNat := by
      unfold F58 at hc
      rw [Bool.or_eq_true, beq_iff_eq, decide_eq_true_eq] at hc
      exact hc
    refine ⟨?_, hmo⟩
    cases hd : ((e == F14.1) && (m == F14.2)) with
    | true =>
      rw [Bool.and_eq_true, beq_iff_eq, beq_iff_eq] at hd
      exact ⟨false, Or.inr ⟨hd.1, hd.2, rfl⟩⟩
    | false =>
      rw [bf hd, Bool.and_eq_true, beq_iff_eq, beq_iff_eq] at h
      exact ⟨true, Or.inl ⟨h.1, h.2, rfl⟩⟩
theorem fold_true (hN : 110000 ≤ N) (ht : TabOk t) : F25 N t e m mode s = some true := by
  obtain ⟨r, r1, r2, r3⟩ := fold_eq (by omega) (alike_soft (e := e) (m := m) (mode := mode) (s := s) hN ht)
  unfold F25
  rw [r1, Option.bind_some, r2, Option.bind_some]
  unfold F52
  rw [equal_self (by omega) _ r3]
  rfl
theorem fold_na (hN : 110000 ≤ N) (ht : TabOk t) (b : Bool) : F26 N t b s = some true := by
  obtain ⟨u, u1, u2, u3, u4⟩ := unfl (N := N) (by omega) s
  have key : ∀ (e m : BitVec 8) (w : Bool), NaF e m w → F26_2 N t s e m = some true := by
    intro e m w h
    unfold F26_2
    rw [u1, Option.bind_some]
    obtain ⟨r, r1, r2, r3⟩ := fold_eq (by omega) (alike_na (mode := 0#8) hN ht h (Or.inl rfl) u3)
    unfold F26_3
    rw [r1, Option.bind_some, r2, Option.bind_some]
    unfold F52
    rw [equal_self (by omega) _ r3]
    rfl
  unfold F26 F26_1
  simp only [lt]
  cases b
  · exact key _ _ true (Or.inl ⟨rfl, rfl, rfl⟩)
  · exact key _ _ false (Or.inr ⟨rfl, rfl, rfl⟩)
theorem run_na (hN : 110000 ≤ N) (ht : TabOk t) (h : NaF e m w) (hmo : mode = 0#8 ∨ 4 < mode.toNat) (hu : s.2.1 ≤ 256 → ∀ i, i < s.2.1 → UF (s.2.2 i)) : ∃ r, F29 N t 2#8 e m mode s = some r ∧ F29 N t 0#8 e m mode s = some r ∧ r.2.2.2.1 ≤ 256 :=
  run_eq (by omega) (by rw [F56_2' h hmo, F56_0, h.fm.ok]) (fun _ hs => alike_na hN ht h hmo (hu hs))
theorem tower_on (hN : 110000 ≤ N) (ht : TabOk t) (e m mode : BitVec 8) (s : NS Opv) : F19 N t e m mode s = some true := by
  unfold F19
  rw [fold_true hN ht, Option.bind_some]
  unfold F19_1
  rw [Bool.not_true, bf rfl]
  obtain ⟨r, r1, r2, r3⟩ := run_eq (N := N) (s := s) (by omega) (show F56 t 1#8 e m mode = F56 t 0#8 e m mode by rw [F56_1', F56_0]) (fun _ _ => alike_soft hN ht)
  rw [r2, Option.bind_some]
  unfold F19_2
  rw [r1, Option.bind_some, equal_self (by omega) _ r3, Option.bind_some]
  unfold F19_3
  rw [Bool.not_true, bf rfl]
  simp only [lt]
  unfold F19_4
  cases h31 : F31 2#8 e m mode with
  | false => rfl
  | true =>
    obtain ⟨⟨w, h⟩, hmo⟩ := F31_na h31
    rw [Bool.not_true, bf rfl]
    simp only [lt]
    rw [fold_na hN ht, Option.bind_some]
    unfold F19_5
    rw [Bool.not_true, bf rfl]
    obtain ⟨u, u1, u2, u3, u4⟩ := unfl (N := N) (by omega) s
    rw [u1, Option.bind_some]
    unfold F19_7 F19_8
    cases hc : (decide ((s.2.1 : Int) ≤ 256) && decide ((u.2.1 : Int) < (s.2.1 : Int))) with
    | true =>
      rw [bt rfl]
      obtain ⟨v, v1, v2, v3⟩ := run_na (s := u) hN ht h hmo (fun _ => u3)
      rw [v2, Option.bind_some]
      unfold F19_6
      rw [v1, Option.bind_some, equal_self (by omega) _ v3, Option.bind_some]
    | false =>
      rw [bf rfl]
      rw [Bool.and_eq_false_iff, decide_eq_false_iff_not, decide_eq_false_iff_not] at hc
      obtain ⟨v, v1, v2, v3⟩ := run_na (s := s) hN ht h hmo (fun hs i hi => u4 (by omega) i (by omega))
      have hvr : v = r := Option.some.inj (v2.symm.trans r2)
      unfold F19_6
      rw [v1, Option.bind_some, hvr, equal_self (by omega) _ r3, Option.bind_some]
/-- The law answers yes. -/
theorem tower_plain (e m mode : BitVec 8) (s : NS Opv) : ∃ N, F3 N e m mode s = some true := by
  obtain ⟨N, hN⟩ : ∃ N : Nat, N = 110000 := ⟨_, rfl⟩
  refine ⟨N, ?_⟩
  obtain ⟨t, ht⟩ := build_ends (N := N) (by omega)
  unfold F3
  rw [ht, Option.bind_some]
  unfold F10
  obtain ⟨b, b1, b2⟩ := F18_ok (N := N) (by omega) t
  rw [b1, Option.bind_some]
  cases b with
  | false => rfl
  | true =>
    rw [Bool.not_true, bf rfl, tower_on (by omega) (b2 rfl)]
    rfl
end
end Go.Proofs.YfwaawGreat
