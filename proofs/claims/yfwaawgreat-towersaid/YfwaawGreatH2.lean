/-
  hexa.Make; canonical hexadecimals.
-/
import Derived.Test.YfwaawGreatX5
namespace Go.Proofs.YfwaawGreat
open Go.Aw
set_option linter.unusedVariables false
set_option linter.unusedSimpArgs false

/-- The value of a hexadecimal digit. -/
def hv (c : UInt8) : Nat := if c.toNat ≤ 57 then c.toNat - 48 else if c.toNat ≤ 70 then c.toNat - 55 else c.toNat - 87
theorem hv_lt {c : UInt8} (h : hxB c = true) : hv c < 16 := by
  unfold hxB at h; unfold hv
  simp only [Bool.or_eq_true, Bool.and_eq_true, decide_eq_true_eq] at h
  repeat' split
  all_goals omega
theorem F285_ok {c : UInt8} (h : hxB c = true) : F285 (w32 (c.toBitVec.toNat : Int)) = (hv c : Int) := by
  have e : c.toBitVec.toNat = c.toNat := rfl
  have hb := c.toNat_lt
  rw [e, w32_id (by omega)]
  unfold hxB at h
  simp only [Bool.or_eq_true, Bool.and_eq_true, decide_eq_true_eq] at h
  unfold F285 F285_1 F285_2 F285_3 hv
  by_cases a1 : 48 ≤ c.toNat ∧ c.toNat ≤ 57
  · rw [bt (by simp; omega), w32_id (by omega), w64_id (by omega), if_pos a1.2]; omega
  · rw [bf (by simp; omega)]
    by_cases a2 : 97 ≤ c.toNat ∧ c.toNat ≤ 102
    · rw [bt (by simp; omega), w32_id (by omega), w64_id (n := (c.toNat : Int) - 97) (by omega), w64_id (by omega), if_neg (by omega), if_neg (by omega)]; omega
    · rw [bf (by simp; omega), bt (by simp; omega), w32_id (by omega), w64_id (n := (c.toNat : Int) - 65) (by omega), w64_id (by omega), if_neg (by omega), if_pos (by omega)]; omega
theorem hd_hx : ∀ v, v < 16 → hxB (hd v) = true ∧ hv (hd v) = v := by
  intro v hv'
  have key : ∀ d : Fin 16, hxB (hd d.val) = true ∧ hv (hd d.val) = d.val := by decide
  exact key ⟨v, hv'⟩
/-- A canonical hexadecimal. -/
structure HC (D : List UInt8) (x : Int) : Prop where
  d : ∀ c ∈ D, hxB c = true ∧ c = hd (hv c)
  len : D.length ≤ 800
  z : D = [] → x = 0
  first : D ≠ [] → hv (D.getD 0 0) ≠ 0
  last : D ≠ [] → hv (D.getD (D.length - 1) 0) ≠ 0
  lo : -16000 ≤ x
  hi : x ≤ 16000
/-- What Make's loop knows behind i digits. -/
def MI (s : List UInt8) (i : Nat) (first en : Int) (low : Nat → BitVec 8) : Prop :=
  (first = s.length ∧ en = 0 ∧ ∀ j, j < i → hv (s.getD j 0) = 0) ∨
  ∃ f e : Nat, first = f ∧ en = e ∧ f < e ∧ e ≤ i ∧ hv (s.getD f 0) ≠ 0 ∧ hv (s.getD (e - 1) 0) ≠ 0 ∧ (∀ j, j < f → hv (s.getD j 0) = 0) ∧ (∀ j, e ≤ j → j < i → hv (s.getD j 0) = 0) ∧
    ∀ j, f + j < i → UInt8.ofBitVec (low j) = hd (hv (s.getD (f + j) 0))
section
variable {N : Nat} {neg : Bool} {s : List UInt8} {a : Int}
theorem F284_loop (hN : s.length < N) (hl : s.length ≤ 2000) (hs : ∀ c ∈ s, hxB c = true) :
    ∃ first en low, MI s s.length first en low ∧ F284 N neg s a = F284_3 N neg s a first en low := by
  have key : ∀ (M i : Nat) (first en : Int) (low : Nat → BitVec 8), s.length - i < M → i ≤ s.length → MI s i first en low →
      ∃ first' en' low', MI s s.length first' en' low' ∧ iterL (F284_L7 N neg s a) M (first, en, (i : Int), low) = F284_3 N neg s a first' en' low' := by
    intro M
    induction M with
    | zero => intro i first en low hM; omega
    | succ M ih =>
      intro i first en low hM hi hI
      by_cases hil : i = s.length
      · refine ⟨first, en, low, hil ▸ hI, ?_⟩
        have hstep : F284_L7 N neg s a (first, en, (i : Int), low) = (F284_3 N neg s a first en low).map Sum.inr := by
          unfold F284_L7 F284_L7b F284_8
          simp only []
          rw [bf (decide_eq_false (by omega))]
        rw [iterL, hstep]
        cases F284_3 N neg s a first en low <;> rfl
      · have hil' : i < s.length := by omega
        obtain ⟨c, hc⟩ : ∃ c, s.getD i 0 = c := ⟨_, rfl⟩
        have hcm : c ∈ s := by
          rw [← hc, List.getD_eq_getElem?_getD, List.getElem?_eq_getElem hil']; exact List.getElem_mem ..
        have hx := hs c hcm
        have hvl := hv_lt hx
        have hstr : ((str1.length : Nat) : Int) = 16 := rfl
        -- the step, the new span and the store
        have hstep : ∀ (first' en' : Int), (first' = (if 0 < hv c then min first (i : Int) else first)) → (en' = (if 0 < hv c then (i : Int) + 1 else en)) → (0 ≤ first') →
            F284_L7 N neg s a (first, en, (i : Int), low) = some (.inl (first', en', ((i + 1 : Nat) : Int), if first' ≤ (i : Int) then upd low ((i : Int) - first').toNat (hd (hv c)).toBitVec else low)) := by
          intro first' en' h1 h2 h0
          unfold F284_L7 F284_L7b F284_8 lt
          simp only [Int.toNat_natCast, hc]
          rw [bt (decide_eq_true (by omega)), bt (by simp; omega), F285_ok hx]
          unfold F284_10 F284_11
          rw [bf (decide_eq_false (by omega))]
          have hmid : F284_15 N neg s a first en (i : Int) low (hv c : Int) (decide ((hv c : Int) > 0)) = F284_12 N neg s a (i : Int) low (hv c : Int) first' en' := by
            unfold F284_15 F284_16
            by_cases hp : 0 < hv c
            · rw [bt (decide_eq_true (by omega)), w64_id (by omega), h1, h2, if_pos hp, if_pos hp]
            · rw [bf (decide_eq_false (by omega)), h1, h2, if_neg hp, if_neg hp]
          rw [hmid]
          unfold F284_12 F284_13 F284_14 F284_9
          by_cases hle : first' ≤ (i : Int)
          · rw [if_pos hle, w64_id (n := (i : Int) - first') (by omega), bt (by simp; omega), bt (by rw [hstr]; simp; omega), bt (by simp; omega), Int.toNat_natCast, w64_id (by omega)]
            rfl
          · rw [if_neg hle, bf (by rw [decide_eq_false hle]; simp), w64_id (by omega)]
            rfl
        have fin : ∀ (first' en' : Int) (h1 : first' = (if 0 < hv c then min first (i : Int) else first)) (h2 : en' = (if 0 < hv c then (i : Int) + 1 else en)) (h0 : 0 ≤ first'), MI s (i + 1) first' en' (if first' ≤ (i : Int) then upd low ((i : Int) - first').toNat (hd (hv c)).toBitVec else low) →
            ∃ first'' en'' low'', MI s s.length first'' en'' low'' ∧ iterL (F284_L7 N neg s a) (M + 1) (first, en, (i : Int), low) = F284_3 N neg s a first'' en'' low'' := by
          intro first' en' h1 h2 h0 hI'
          obtain ⟨x1, x2, x3, y1, y2⟩ := ih (i + 1) first' en' _ (by omega) (by omega) hI'
          refine ⟨x1, x2, x3, y1, ?_⟩
          rw [iterL, hstep first' en' h1 h2 h0]
          exact y2
        rcases hI with ⟨k1, k2, k3⟩ | ⟨f, e, k1, k2, k3, k4, k5, k6, k7, k8, k9⟩
        · by_cases hp : 0 < hv c
          · refine fin (i : Int) ((i : Int) + 1) (by rw [if_pos hp]; omega) (by rw [if_pos hp]) (by omega) ?_
            rw [if_pos (by omega), show ((i : Int) - (i : Int)).toNat = 0 from by omega]
            refine Or.inr ⟨i, i + 1, rfl, by omega, by omega, by omega, by rw [hc]; omega, by rw [Nat.add_sub_cancel, hc]; omega, k3, fun j h1 h2 => by omega, ?_⟩
            intro j hj
            have : j = 0 := by omega
            subst this
            rw [upd_eq, Nat.add_zero, hc]
          · refine fin first en (by rw [if_neg hp]) (by rw [if_neg hp]) (by omega) ?_
            rw [if_neg (by omega)]
            refine Or.inl ⟨k1, k2, ?_⟩
            intro j hj
            by_cases hji : j = i
            · rw [hji, hc]; omega
            · exact k3 j (by omega)
        · have hlow : ∀ (j : Nat), f + j < i + 1 → UInt8.ofBitVec (upd low (i - f) (hd (hv c)).toBitVec j) = hd (hv (s.getD (f + j) 0)) := by
            intro j hj
            by_cases hji : j = i - f
            · subst hji
              rw [upd_eq, show f + (i - f) = i from by omega, hc]
            · rw [upd_ne hji]; exact k9 j (by omega)
          by_cases hp : 0 < hv c
          · refine fin (f : Int) ((i : Int) + 1) (by rw [if_pos hp]; omega) (by rw [if_pos hp]) (by omega) ?_
            rw [if_pos (by omega), show ((i : Int) - (f : Int)).toNat = i - f from by omega]
            exact Or.inr ⟨f, i + 1, rfl, by omega, by omega, by omega, k5, by rw [Nat.add_sub_cancel, hc]; omega, k7, fun j h1 h2 => by omega, hlow⟩
          · refine fin (f : Int) (e : Int) (by rw [if_neg hp]; omega) (by rw [if_neg hp]; omega) (by omega) ?_
            rw [if_pos (by omega), show ((i : Int) - (f : Int)).toNat = i - f from by omega]
            refine Or.inr ⟨f, e, rfl, rfl, k3, by omega, k5, k6, k7, ?_, hlow⟩
            intro j h1 h2
            by_cases hji : j = i
            · rw [hji, hc]; omega
            · exact k8 j h1 (by omega)
  have h0 : MI s 0 (s.length : Int) 0 (fun _ => 0#8) := Or.inl ⟨rfl, rfl, fun j hj => by omega⟩
  obtain ⟨x1, x2, x3, y1, y2⟩ := key N 0 _ _ _ (by omega) (by omega) h0
  refine ⟨x1, x2, x3, y1, ?_⟩
  unfold F284 F284_1 F284_2
  exact y2
/-- Make answers; what it makes is canonical. -/
theorem F284_ok (hN : s.length < N) (hl : s.length ≤ 2000) (hs : ∀ c ∈ s, hxB c = true) :
    F284 N neg s a = some (false, [], 0, false) ∨ ∃ D x, F284 N neg s a = some (neg, D, x, true) ∧ HC D x := by
  obtain ⟨first, en, low, hI, h⟩ := F284_loop (neg := neg) (a := a) hN hl hs
  rw [h]
  unfold F284_3 F284_4
  rcases hI with ⟨k1, k2, k3⟩ | ⟨f, e, k1, k2, k3, k4, k5, k6, k7, k8, k9⟩
  · rw [bt (by rw [k2]; rfl)]
    exact Or.inr ⟨[], 0, rfl, ⟨(fun c h => by cases h), by simp, fun _ => rfl, fun h => (h rfl).elim, fun h => (h rfl).elim, by omega, by omega⟩⟩
  · rw [bf (by rw [k2, beq_eq_false_iff_ne]; omega)]
    unfold F284_5 F284_6
    rw [k1, k2, w64_id (n := (s.length : Int) - (e : Int)) (by omega), w64_id (n := (e : Int) - (f : Int)) (by omega), w64_id (n := 4 * ((s.length : Int) - (e : Int))) (by omega)]
    generalize 4 * ((s.length : Int) - (e : Int)) = lift
    cases hb : ((((decide (((e : Int) - (f : Int)) > 800)) || (decide (a > 16000))) || (decide ((w64 (a + lift)) > 16000))) || (decide ((w64 (a + lift)) < (-16000)))) with
    | true => exact Or.inl rfl
    | false =>
      simp only [Bool.or_eq_false_iff, decide_eq_false_iff_not] at hb
      obtain ⟨⟨⟨b1, b2⟩, b3⟩, b4⟩ := hb
      rw [bf rfl, bt (by simp; omega), show ((e : Int) - (f : Int)).toNat = e - f from by omega, bt (decide_eq_true (by omega)), w16_id (by omega)]
      have hg : ∀ j, j < e - f → (bys (e - f) low).getD j 0 = hd (hv (s.getD (f + j) 0)) := by
        intro j hj
        rw [← k9 j (by omega)]
        unfold bys
        rw [List.getD_eq_getElem?_getD, List.getElem?_map, List.getElem?_range hj]; rfl
      have hsm : ∀ j, f + j < s.length → hxB (s.getD (f + j) 0) = true := by
        intro j hj
        refine hs _ ?_
        rw [List.getD_eq_getElem?_getD, List.getElem?_eq_getElem hj]; exact List.getElem_mem ..
      have hlen := bys_len (e - f) low
      refine Or.inr ⟨_, _, rfl, ⟨?_, by omega, ?_, ?_, ?_, by omega, by omega⟩⟩
      · intro c hc
        obtain ⟨j, hj, he⟩ := List.mem_iff_getElem.1 hc
        rw [hlen] at hj
        have h2 := hg j hj
        rw [List.getD_eq_getElem?_getD, List.getElem?_eq_getElem (by rw [hlen]; exact hj), he] at h2
        have h2 : c = hd (hv (s.getD (f + j) 0)) := h2
        have h3 := hd_hx _ (hv_lt (hsm j (by omega)))
        rw [h2]
        exact ⟨h3.1, by rw [h3.2]⟩
      · intro hz; rw [hz, List.length_nil] at hlen; omega
      · intro _
        rw [hg 0 (by omega), (hd_hx _ (hv_lt (hsm 0 (by omega)))).2]
        exact k5
      · intro _
        rw [hlen, hg (e - f - 1) (by omega), (hd_hx _ (hv_lt (hsm _ (by omega)))).2, show f + (e - f - 1) = e - 1 from by omega]
        exact k6
/-- A canonical hexadecimal stays as it is. -/
theorem F284_idem {D : List UInt8} {x : Int} (hN : 801 ≤ N) (h : HC D x) : F284 N neg D x = some (neg, D, x, true) := by
  have hl := h.len
  obtain ⟨first, en, low, hI, hF⟩ := F284_loop (N := N) (neg := neg) (s := D) (a := x) (by omega) (by omega) (fun c hc => (h.d c hc).1)
  rw [hF]
  unfold F284_3 F284_4
  by_cases hz : D = []
  · subst hz
    rcases hI with ⟨k1, k2, k3⟩ | ⟨f, e, k1, k2, k3, k4, _⟩
    · rw [bt (by rw [k2]; rfl), h.z rfl]
    · rw [List.length_nil] at k4; omega
  · have hpos : 0 < D.length := List.length_pos_iff.2 hz
    rcases hI with ⟨k1, k2, k3⟩ | ⟨f, e, k1, k2, k3, k4, k5, k6, k7, k8, k9⟩
    · exact (h.first hz (k3 0 hpos)).elim
    · have hf : f = 0 := by
        rcases Nat.eq_zero_or_pos f with k | k
        · exact k
        · exact (h.first hz (k7 0 k)).elim
      have he : e = D.length := by
        rcases Nat.lt_or_ge e D.length with k | k
        · exact (h.last hz (k8 (D.length - 1) (by omega) (by omega))).elim
        · omega
      have hlo := h.lo
      have hhi := h.hi
      rw [bf (by rw [k2, beq_eq_false_iff_ne]; omega)]
      unfold F284_5 F284_6
      have hw0 : w64 (4 * w64 ((D.length : Int) - (e : Int))) = 0 := by
        rw [he, w64_id (n := (D.length : Int) - (D.length : Int)) (by omega), w64_id (by omega)]; omega
      have hwf : w64 ((e : Int) - (f : Int)) = (D.length : Int) := by
        rw [w64_id (by omega)]; omega
      have hwx : w64 (x + 0) = x := by rw [w64_id (by omega)]; omega
      rw [k1, k2, hw0, hwf, hwx, bf (by simp; omega), bt (by simp; omega), Int.toNat_natCast, bt (decide_eq_true (by omega)), w16_id (by omega)]
      have hb : bys D.length low = D := by
        refine List.ext_getElem (bys_len _ _) ?_
        intro j h1 h2
        have h3 := k9 j (by omega)
        rw [hf, Nat.zero_add] at h3
        have h4 : D.getD j 0 = D[j] := by rw [List.getD_eq_getElem?_getD, List.getElem?_eq_getElem h2]; rfl
        rw [h4] at h3
        rw [(h.d _ (List.getElem_mem h2)).2, ← h3]
        simp [bys]
      rw [hb]
end
end Go.Proofs.YfwaawGreat
