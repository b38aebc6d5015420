/-
  second.Parse = RoundDec.
-/
import Derived.Test.YfwaawGreatE6
namespace Go.Proofs.YfwaawGreat
open Go.Aw
set_option linter.unusedVariables false
set_option linter.unusedSimpArgs false
section
variable {e m mode : BitVec 8} {neg : Bool} {dig : List UInt8} {exp : Int}
theorem F203_ok {N : Nat} (hN : 30 ≤ N) {s : List UInt8} (hs : ∀ c ∈ s, isd c) : ∃ man, F203 N s = some man ∧ man.toNat = dval (s.take 19) := by
  have : F203 N s = F159 N s := rfl
  rw [this]
  exact F159_ok hN hs

theorem second_ok {N : Nat} (hN : 900 ≤ N) {t : Tab} (ht : TabOk t) (hf : Fm e m) : ∃ r path, F135 N e m mode neg dig exp = some r ∧ F101 N t e m mode neg dig exp false = some (r.1, path) := by
  obtain ⟨b, h1, h2⟩ := F137_ok (N := N) (by omega) neg dig exp
  unfold F101
  simp only [lt]
  rw [hf.ok, Bool.not_true, bf rfl, h1]
  simp only [Option.bind_some]
  cases b with
  | false =>
    have hc : ¬ CN dig exp := fun k => by have := h2.2 k; cases this
    rw [F135_no (by omega) hc]
    exact ⟨_, _, rfl, rfl⟩
  | true =>
    have h := h2.1 rfl
    rw [F135_ok (by omega) hf h]
    refine ⟨RD e m mode neg dig exp, ?_⟩
    suffices hs : ∃ path, F101_1 N t e m mode neg dig exp false (!true) = some ((RD e m mode neg dig exp).1, path) by
      obtain ⟨p, hp⟩ := hs; exact ⟨p, rfl, hp⟩
    have hlo := h.lo
    have hhi := h.hi
    have hlen := h.len
    have hsign : F101_1 N t e m mode neg dig exp false (!true) = F101_2 N t e m mode neg dig exp false (F251 e m neg) := by
      unfold F101_1 F251
      cases neg <;> rfl
    rw [hsign]
    unfold F101_2 F101_3 F101_4
    by_cases hne : dig = []
    · subst hne
      refine ⟨0#8, ?_⟩
      rw [bt (by rfl)]
      unfold RD
      rw [dval_nil, if_pos rfl]
    · have hlp : 0 < dig.length := List.length_pos_iff.2 hne
      rw [bf (by simp; exact hne)]
      have hslow : ∀ x18 : Bool, x18 = true → ∃ path, F101_5 N t e m mode neg dig exp false (F251 e m neg) (dig.length : Int) x18 = some ((RD e m mode neg dig exp).1, path) := by
        intro x18 hx
        unfold F101_5
        rw [hx, bt rfl, F92_eq hN hf h]
        exact ⟨_, rfl⟩
      have hfast : ∃ path, F101_15 N t e m mode neg dig exp false (F251 e m neg) (dig.length : Int) false = some ((RD e m mode neg dig exp).1, path) := by
        unfold F101_15
        rw [bf rfl]
        by_cases hmode : ((mode != (0#8)) && (decide (mode.toNat ≤ (4#8).toNat))) = true
        · exact hslow _ hmode
        · have hmode : ((mode != (0#8)) && (decide (mode.toNat ≤ (4#8).toNat))) = false := by simpa using hmode
          rw [hmode]
          have hne2 : NE mode := by
            have key : ∀ k : BitVec 8, k ≠ 0#8 → k.toNat ≤ 4 → (mode == k) = false := by
              intro k hk0 hk4
              rcases Bool.eq_false_or_eq_true (mode == k) with q | q
              · exfalso
                have hmk : mode = k := by simpa using q
                rw [hmk, decide_eq_true (show k.toNat ≤ (4#8).toNat from hk4)] at hmode
                simp at hmode
                exact hk0 hmode
              · exact q
            exact ⟨key 1#8 (by decide) (by decide), key 2#8 (by decide) (by decide), key 3#8 (by decide) (by decide), key 4#8 (by decide) (by decide)⟩
          have hRD := RD_ne (neg := neg) hf hne2 h hne
          obtain ⟨man, f1, f2⟩ := F203_ok (N := N) (by omega) h.d
          unfold F101_5
          rw [bf rfl, f1]
          simp only [Option.bind_some, F101_6]
          unfold F101_7
          by_cases hn : 19 < dig.length
          · rw [bf (decide_eq_false (show ¬ (dig.length : Int) ≤ 19 by omega))]
            have w1 : w64 ((dig.length : Int) - 19) = ((dig.length - 19 : Nat) : Int) := by rw [w64_id (by omega)]; omega
            have w2 : w16 ((dig.length - 19 : Nat) : Int) = ((dig.length - 19 : Nat) : Int) := w16_id (by omega)
            have w3 : w16 (exp + ((dig.length - 19 : Nat) : Int)) = exp + ((dig.length - 19 : Nat) : Int) := w16_id (by omega)
            rw [w1, w2, w3]
            obtain ⟨b1, ok1, g1, g2⟩ := total_ok (N := N) (by omega) ht hf man (exp + ((dig.length - 19 : Nat) : Int))
            obtain ⟨b2, ok2, g3, g4⟩ := total_ok (N := N) (by omega) ht hf (man + 1#64) (exp + ((dig.length - 19 : Nat) : Int))
            unfold F101_11
            rw [g1]
            simp only [Option.bind_some, F101_12]
            rw [g3]
            simp only [Option.bind_some, F101_13]
            unfold F101_14
            by_cases hc : ok1 = true ∧ ok2 = true ∧ b2 = b1
            · obtain ⟨k1, k2, k3⟩ := hc
              rw [bt (by rw [k1, k2, k3]; simp)]
              refine ⟨3#8, ?_⟩
              have e19 : dig.length - (dig.length - 19) = 19 := by omega
              have hml := dval_lt (s := dig.take 19) (fun c hc => h.d c (List.mem_of_mem_take hc))
              have hp9 : 10 ^ (dig.take 19).length ≤ 10 ^ 19 := pow_le10 (by rw [List.length_take]; omega)
              have p19 : (10 : Nat) ^ 19 = 10000000000000000000 := rfl
              have hm1 : (man + 1#64).toNat = dval (dig.take 19) + 1 := by rw [add64, f2, show (1#64).toNat = 1 from rfl]; omega
              have q1 := g2 k1
              have q2 := g4 k2
              rw [f2] at q1
              rw [hm1] at q2
              have hb := PT_between hf h hne (k := dig.length - 19) (by omega) (q := exp + ((dig.length - 19 : Nat) : Int)) rfl (by rw [e19, ← q1, ← q2, k3])
              rw [e19, ← q1] at hb
              rw [hRD, hb]
            · rw [bf (by
                cases ok1 <;> cases ok2 <;> simp
                exact fun k => hc ⟨rfl, rfl, k⟩), F92_eq hN hf h]
              exact ⟨_, rfl⟩
          · rw [bt (decide_eq_true (show (dig.length : Int) ≤ 19 by omega)), bf rfl]
            obtain ⟨b1, ok1, g1, g2⟩ := total_ok (N := N) (by omega) ht hf man exp
            unfold F101_8
            rw [g1]
            simp only [Option.bind_some]
            unfold F101_9
            cases ok1 with
            | true =>
              refine ⟨2#8, ?_⟩
              have q1 := g2 rfl
              rw [f2, List.take_of_length_le (by omega)] at q1
              rw [hRD, ← q1]
              rfl
            | false =>
              rw [bf rfl, F92_eq hN hf h]
              exact ⟨_, rfl⟩
      cases hb1 : (!((e == F13.1) && (m == F13.2))) with
      | false => simp only [cond_false]; exact hfast
      | true =>
        simp only [cond_true]
        cases hb2 : (!((e == F14.1) && (m == F14.2))) with
        | false => exact hfast
        | true =>
          unfold F101_15
          rw [bt rfl]
          exact hslow true rfl
end
end Go.Proofs.YfwaawGreat
