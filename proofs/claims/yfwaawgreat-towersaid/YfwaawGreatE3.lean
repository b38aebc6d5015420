/-
  Parse = RoundDec.
-/
import Derived.Test.YfwaawGreatE2
namespace Go.Proofs.YfwaawGreat
open Go.Aw
set_option linter.unusedVariables false
set_option linter.unusedSimpArgs false
section
variable {e m mode : BitVec 8} {neg : Bool} {dig : List UInt8} {exp : Int}

theorem F159_ok {N : Nat} (hN : 30 ≤ N) {s : List UInt8} (hs : ∀ c ∈ s, isd c) : ∃ man, F159 N s = some man ∧ man.toNat = dval (s.take 19) := by
  unfold F159
  obtain ⟨r, hr, hp⟩ := iter_inv (L := F159_L2 N s)
    (fun v : BitVec 64 × Int => ∃ i : Nat, v.2 = i ∧ i ≤ 19 ∧ i ≤ s.length ∧ v.1.toNat = dval (s.take i))
    (fun v => 19 - v.2.toNat)
    (fun r : BitVec 64 => r.toNat = dval (s.take 19))
    (by
      rintro ⟨x, v⟩ ⟨i, h1, h2, h3, h4⟩
      simp only at h1 h4
      subst h1
      unfold F159_L2 F159_L2b F159_3
      simp only []
      by_cases hc : i < s.length ∧ i < 19
      · rw [bt (by rw [decide_eq_true (show (i : Int) < s.length by omega), decide_eq_true (show (i : Int) < 19 by omega)]; rfl), bt (by rw [decide_eq_true (show (0 : Int) ≤ i by omega), decide_eq_true (show (i : Int) < s.length by omega)]; rfl)]
        unfold F159_4
        rw [Int.toNat_natCast, w64_id (by omega)]
        have hdig := getD_isd hs hc.1
        have hdl := dg_le hdig
        have hl := dval_lt (s := s.take i) (fun c hc => hs c (List.mem_of_mem_take hc))
        have hp9 : 10 ^ (s.take i).length ≤ 10 ^ 18 := pow_le10 (by rw [List.length_take]; omega)
        have p18 : (10 : Nat) ^ 18 = 1000000000000000000 := rfl
        rw [p18] at hp9
        refine .inl ⟨_, rfl, ⟨i + 1, by simp only []; omega, by omega, by omega, ?_⟩, by simp only []; omega⟩
        simp only []
        rw [add64, mul64, digit_word hdig, show (10#64).toNat = 10 from rfl, h4, dval_take hc.1]
        omega
      · rw [bf (by
          by_cases k : i < s.length
          · rw [decide_eq_false (show ¬ (i : Int) < 19 by omega)]; simp
          · rw [decide_eq_false (show ¬ (i : Int) < s.length by omega)]; rfl)]
        refine .inr ⟨_, rfl, ?_⟩
        rw [h4]
        by_cases k : i = 19
        · rw [k]
        · rw [List.take_of_length_le (show s.length ≤ i by omega), List.take_of_length_le (show s.length ≤ 19 by omega)])
    N (0#64, 0) ⟨0, rfl, by omega, by omega, by simp [dval_nil]⟩ (by show 19 - (0 : Int).toNat < N; omega)
  exact ⟨r, hr, hp⟩

theorem F92_eq {N : Nat} (hN : 900 ≤ N) (hf : Fm e m) (h : CN dig exp) : F92 N e m mode neg dig exp = some (RD e m mode neg dig exp).1 := by
  unfold F92 F92_1
  rw [slow_ok hN hf h]
  rfl
/-- A decimal's leading digits, and what lies behind them. -/
theorem dec_head (h : CN dig exp) {k : Nat} (hk : k ≤ dig.length) : dval (dig.take (dig.length - k)) * 10 ^ k ≤ dval dig ∧ dval dig ≤ (dval (dig.take (dig.length - k)) + 1) * 10 ^ k := by
  have h1 := dval_append (dig.take (dig.length - k)) (dig.drop (dig.length - k))
  rw [List.take_append_drop, List.length_drop] at h1
  have h2 := dval_lt (s := dig.drop (dig.length - k)) (fun c hc => h.d c (List.mem_of_mem_drop hc))
  rw [List.length_drop] at h2
  rw [show dig.length - (dig.length - k) = k from by omega] at h1 h2
  rw [Nat.add_mul, Nat.one_mul]
  omega
theorem tens {q exp : Int} {k : Nat} (hq : q = exp + k) : 10 ^ q.toNat * 10 ^ (-exp).toNat = 10 ^ k * (10 ^ exp.toNat * 10 ^ (-q).toNat) := by
  simp only [← Nat.pow_add]
  exact congrArg (fun t => 10 ^ t) (by omega)

/-- The pattern of a decimal, to nearest. -/
theorem RD_ne (hf : Fm e m) (hm : NE mode) (h : CN dig exp) (hne : dig ≠ []) : (RD e m mode neg dig exp).1 = PT e m (dval dig) exp ||| F251 e m neg := by
  have h0 := dval_pos h hne
  unfold RD PT
  rw [if_neg h0, if_neg h0, RQ_sign hf hm (Nat.mul_ne_zero h0 (p10n _)) (p10n _)]
/-- Both neighbours' patterns are one. -/
theorem PT_between (hf : Fm e m) (h : CN dig exp) (hne : dig ≠ []) {k : Nat} (hk : k < dig.length) {q : Int} (hq : q = exp + k)
    (he : PT e m (dval (dig.take (dig.length - k))) q = PT e m (dval (dig.take (dig.length - k)) + 1) q) : PT e m (dval dig) exp = PT e m (dval (dig.take (dig.length - k))) q := by
  have h0 := dval_pos h hne
  obtain ⟨h1, h2⟩ := dec_head h (Nat.le_of_lt hk)
  have hm0 : dval (dig.take (dig.length - k)) ≠ 0 := by
    cases dig with
    | nil => exact (hne rfl).elim
    | cons c s =>
      obtain ⟨j, hj⟩ : ∃ j, (c :: s).length - k = j + 1 := ⟨(c :: s).length - k - 1, by omega⟩
      rw [hj, List.take_succ_cons]
      have h3 := dval_append [c] (s.take j)
      rw [List.singleton_append, dval_one] at h3
      have h4 := h.first hne
      have h5 := (h.d c List.mem_cons_self).1
      have h6 : 0 < dg c := by
        have : (c :: s).getD 0 0 = c := rfl
        rw [this] at h4
        unfold dg; omega
      have h7 := Nat.mul_pos h6 (p10 (s.take j).length)
      omega
  have ht := tens hq
  generalize dval (dig.take (dig.length - k)) = M at *
  unfold PT at he ⊢
  rw [if_neg hm0, if_neg (by omega)] at he
  rw [if_neg h0, if_neg hm0]
  refine RQ_between hf (Nat.mul_ne_zero hm0 (p10n _)) (p10n _) (Nat.mul_ne_zero (show M + 1 ≠ 0 by omega) (p10n _)) (p10n _) (Nat.mul_ne_zero h0 (p10n _)) (p10n _) ?_ ?_ he
  · rw [Nat.mul_assoc, ht, ← Nat.mul_assoc, Nat.mul_assoc (dval dig)]
    exact Nat.mul_le_mul_right _ h1
  · rw [Nat.mul_assoc (M + 1), ht, ← Nat.mul_assoc, Nat.mul_assoc (dval dig)]
    exact Nat.mul_le_mul_right _ h2

theorem parse_ok {N : Nat} (hN : 900 ≤ N) {t : Tab} (ht : TabOk t) (hf : Fm e m) : ∃ r path, F135 N e m mode neg dig exp = some r ∧ F89 N t e m mode neg dig exp false = some (r.1, path) := by
  obtain ⟨b, h1, h2⟩ := F137_ok (N := N) (by omega) neg dig exp
  unfold F89
  simp only [lt]
  rw [hf.ok, Bool.not_true, bf rfl, h1]
  simp only [Option.bind_some]
  cases b with
  | false =>
    have hc : ¬ CN dig exp := fun k => by have := h2.2 k; cases this
    rw [F135_no (by omega) hc]
    exact ⟨_, _, rfl, rfl⟩
  | true =>
    have h := h2.1 rfl
    rw [F135_ok (by omega) hf h]
    refine ⟨RD e m mode neg dig exp, ?_⟩
    suffices hs : ∃ path, F89_1 N t e m mode neg dig exp false (!true) = some ((RD e m mode neg dig exp).1, path) by
      obtain ⟨p, hp⟩ := hs; exact ⟨p, rfl, hp⟩
    have hlo := h.lo
    have hhi := h.hi
    have hlen := h.len
    have hsign : F89_1 N t e m mode neg dig exp false (!true) = F89_2 N t e m mode neg dig exp false (F251 e m neg) := by
      unfold F89_1 F251
      cases neg <;> rfl
    rw [hsign]
    unfold F89_2 F89_3 F89_4
    by_cases hne : dig = []
    · subst hne
      refine ⟨0#8, ?_⟩
      rw [bt (by rfl)]
      unfold RD
      rw [dval_nil, if_pos rfl]
    · have hlp : 0 < dig.length := List.length_pos_iff.2 hne
      rw [bf (by simp; exact hne)]
      have hslow : ∀ x18 : Bool, x18 = true → ∃ path, F89_5 N t e m mode neg dig exp false (F251 e m neg) (dig.length : Int) x18 = some ((RD e m mode neg dig exp).1, path) := by
        intro x18 hx
        unfold F89_5
        rw [hx, bt rfl, F92_eq hN hf h]
        exact ⟨_, rfl⟩
      have hfast : ∃ path, F89_15 N t e m mode neg dig exp false (F251 e m neg) (dig.length : Int) false = some ((RD e m mode neg dig exp).1, path) := by
        unfold F89_15
        rw [bf rfl]
        by_cases hmode : ((mode != (0#8)) && (decide (mode.toNat ≤ (4#8).toNat))) = true
        · exact hslow _ hmode
        · have hmode : ((mode != (0#8)) && (decide (mode.toNat ≤ (4#8).toNat))) = false := by simpa using hmode
          rw [hmode]
          have hne2 : NE mode := by
            have key : ∀ k : BitVec 8, k ≠ 0#8 → k.toNat ≤ 4 → (mode == k) = false := by
              intro k hk0 hk4
              rcases Bool.eq_false_or_eq_true (mode == k) with q | q
              · exfalso
                have hmk : mode = k := by simpa using q
                rw [hmk, decide_eq_true (show k.toNat ≤ (4#8).toNat from hk4)] at hmode
                simp at hmode
                exact hk0 hmode
              · exact q
            exact ⟨key 1#8 (by decide) (by decide), key 2#8 (by decide) (by decide), key 3#8 (by decide) (by decide), key 4#8 (by decide) (by decide)⟩
          have hRD := RD_ne (neg := neg) hf hne2 h hne
          obtain ⟨man, f1, f2⟩ := F159_ok (N := N) (by omega) h.d
          unfold F89_5
          rw [bf rfl, f1]
          simp only [Option.bind_some, F89_6]
          unfold F89_7
          by_cases hn : 19 < dig.length
          · rw [bt (decide_eq_true (show (dig.length : Int) > 19 by omega))]
            have w1 : w64 ((dig.length : Int) - 19) = ((dig.length - 19 : Nat) : Int) := by rw [w64_id (by omega)]; omega
            have w2 : w16 ((dig.length - 19 : Nat) : Int) = ((dig.length - 19 : Nat) : Int) := w16_id (by omega)
            have w3 : w16 (exp + ((dig.length - 19 : Nat) : Int)) = exp + ((dig.length - 19 : Nat) : Int) := w16_id (by omega)
            rw [w1, w2, w3]
            obtain ⟨b1, ok1, g1, g2⟩ := lemire_ok (N := N) ht hf man (exp + ((dig.length - 19 : Nat) : Int))
            obtain ⟨b2, ok2, g3, g4⟩ := lemire_ok (N := N) ht hf (man + 1#64) (exp + ((dig.length - 19 : Nat) : Int))
            unfold F89_8
            rw [g1]
            simp only [Option.bind_some, F89_9]
            rw [g3]
            simp only [Option.bind_some, F89_10]
            unfold F89_11
            by_cases hc : ok1 = true ∧ ok2 = true ∧ b1 = b2
            · obtain ⟨k1, k2, k3⟩ := hc
              rw [bt (by rw [k1, k2, k3]; simp)]
              refine ⟨3#8, ?_⟩
              have e19 : dig.length - (dig.length - 19) = 19 := by omega
              have hml := dval_lt (s := dig.take 19) (fun c hc => h.d c (List.mem_of_mem_take hc))
              have hp9 : 10 ^ (dig.take 19).length ≤ 10 ^ 19 := pow_le10 (by rw [List.length_take]; omega)
              have p19 : (10 : Nat) ^ 19 = 10000000000000000000 := rfl
              have hm1 : (man + 1#64).toNat = dval (dig.take 19) + 1 := by rw [add64, f2, show (1#64).toNat = 1 from rfl]; omega
              have q1 := g2 k1
              have q2 := g4 k2
              rw [f2] at q1
              rw [hm1] at q2
              have hb := PT_between hf h hne (k := dig.length - 19) (by omega) (q := exp + ((dig.length - 19 : Nat) : Int)) rfl (by rw [e19, ← q1, ← q2, k3])
              rw [e19, ← q1] at hb
              rw [hRD, hb]
            · rw [bf (by
                cases ok1 <;> cases ok2 <;> simp
                exact fun k => hc ⟨rfl, rfl, k⟩), F92_eq hN hf h]
              exact ⟨_, rfl⟩
          · rw [bf (decide_eq_false (show ¬ (dig.length : Int) > 19 by omega)), bf rfl]
            obtain ⟨b1, ok1, g1, g2⟩ := lemire_ok (N := N) ht hf man exp
            unfold F89_12
            rw [g1]
            simp only [Option.bind_some]
            unfold F89_13
            cases ok1 with
            | true =>
              refine ⟨2#8, ?_⟩
              have q1 := g2 rfl
              rw [f2, List.take_of_length_le (by omega)] at q1
              rw [hRD, ← q1]
              rfl
            | false =>
              rw [bf rfl, F92_eq hN hf h]
              exact ⟨_, rfl⟩
      cases hb1 : (!((e == F13.1) && (m == F13.2))) with
      | false => simp only [cond_false]; exact hfast
      | true =>
        simp only [cond_true]
        cases hb2 : (!((e == F14.1) && (m == F14.2))) with
        | false => exact hfast
        | true =>
          unfold F89_15
          rw [bt rfl]
          exact hslow true rfl
theorem flags_ok {N : Nat} (hN : 900 ≤ N) (hf : Fm e m) : ∃ r, F135 N e m mode neg dig exp = some r ∧ F93 N e m mode neg dig exp = some r.2 := by
  unfold F93 F93_1
  by_cases h : CN dig exp
  · rw [F135_ok (by omega) hf h, slow_ok hN hf h]
    exact ⟨_, rfl, rfl⟩
  · rw [F135_no (by omega) h, slow_no hN hf h]
    exact ⟨_, rfl, rfl⟩
end
end Go.Proofs.YfwaawGreat
