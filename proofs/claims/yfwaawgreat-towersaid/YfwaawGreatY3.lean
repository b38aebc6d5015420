/-
  dec.Scan = dmodel.Scan.
-/
import Derived.Test.YfwaawGreatY2
namespace Go.Proofs.YfwaawGreat
open Go.Aw
set_option linter.unusedVariables false
set_option linter.unusedSimpArgs false

section
variable {N : Nat} {t : List UInt8} {neg en : Bool} {fr ex : Int} {dig w : List UInt8} {a : Int} {p : Nat} {R : List UInt8}
theorem dgo2 : ∀ {D : List UInt8} {dig : List UInt8} {p : Nat}, (∀ c ∈ D, dgB c = true) → dgo N t ⟨2, w, a, neg, en, dig, fr, ex⟩ p (D ++ R) = dgo N t ⟨2, w, a, neg, en, dig ++ D, fr, ex⟩ (p + D.length) R
  | [], dig, p, _ => by simp
  | c :: D, dig, p, h => by
    have h1 : dstep ⟨2, w, a, neg, en, dig, fr, ex⟩ c = some ⟨2, w, a, neg, en, dig ++ [c], fr, ex⟩ := by
      unfold dstep; rw [h c (List.mem_cons_self ..)]; simp
    rw [List.cons_append, dgo, h1]
    simp only []
    rw [dgo2 fun d hd => h d (List.mem_cons_of_mem _ hd), List.append_assoc, List.length_cons, show p + 1 + D.length = p + (D.length + 1) from by omega]
    rfl
theorem dgo01 {st : Int} (hst : st = 0 ∨ st = 1) {D : List UInt8} (hD : D ≠ []) (h : ∀ c ∈ D, dgB c = true) : dgo N t ⟨st, w, a, neg, en, dig, fr, ex⟩ p (D ++ R) = dgo N t ⟨2, w, a, neg, en, dig ++ D, fr, ex⟩ (p + D.length) R := by
  obtain ⟨c, D, rfl⟩ := List.exists_cons_of_ne_nil hD
  have h1 : dstep ⟨st, w, a, neg, en, dig, fr, ex⟩ c = some ⟨2, w, a, neg, en, dig ++ [c], fr, ex⟩ := by
    unfold dstep; rw [h c (List.mem_cons_self ..)]
    rcases hst with rfl | rfl <;> simp
  rw [List.cons_append, dgo, h1]
  simp only []
  rw [dgo2 fun d hd => h d (List.mem_cons_of_mem _ hd), List.append_assoc, List.length_cons, show p + 1 + D.length = p + (D.length + 1) from by omega]
  rfl
theorem dgo5 : ∀ {D : List UInt8} {dig : List UInt8} {p n : Nat}, (∀ c ∈ D, dgB c = true) → n + D.length ≤ 5000 → dgo N t ⟨5, w, a, neg, en, dig, (n : Int), ex⟩ p (D ++ R) = dgo N t ⟨5, w, a, neg, en, dig ++ D, ((n + D.length : Nat) : Int), ex⟩ (p + D.length) R
  | [], dig, p, n, _, _ => by simp
  | c :: D, dig, p, n, h, hl => by
    rw [List.length_cons] at hl
    have h1 : dstep ⟨5, w, a, neg, en, dig, (n : Int), ex⟩ c = some ⟨5, w, a, neg, en, dig ++ [c], ((n + 1 : Nat) : Int), ex⟩ := by
      unfold dstep; rw [h c (List.mem_cons_self ..)]; simp [w64_id (show -9223372036854775808 ≤ (n : Int) + 1 ∧ (n : Int) + 1 < 9223372036854775808 by omega)]
    rw [List.cons_append, dgo, h1]
    simp only []
    rw [dgo5 (fun d hd => h d (List.mem_cons_of_mem _ hd)) (by omega), List.append_assoc, List.length_cons, show p + 1 + D.length = p + (D.length + 1) from by omega, show n + 1 + D.length = n + (D.length + 1) from by omega]
    rfl
theorem dgo34 {st : Int} (hst : st = 3 ∨ st = 4) {D : List UInt8} (hD : D ≠ []) (h : ∀ c ∈ D, dgB c = true) (hl : D.length ≤ 5000) :
    dgo N t ⟨st, w, a, neg, en, dig, 0, ex⟩ p (D ++ R) = dgo N t ⟨5, w, a, neg, en, dig ++ D, (D.length : Int), ex⟩ (p + D.length) R := by
  obtain ⟨c, D, rfl⟩ := List.exists_cons_of_ne_nil hD
  rw [List.length_cons] at hl
  have h1 : dstep ⟨st, w, a, neg, en, dig, 0, ex⟩ c = some ⟨5, w, a, neg, en, dig ++ [c], ((1 : Nat) : Int), ex⟩ := by
    unfold dstep; rw [h c (List.mem_cons_self ..)]
    rcases hst with rfl | rfl <;> simp [w64_id]
  rw [List.cons_append, dgo, h1]
  simp only []
  rw [dgo5 (fun d hd => h d (List.mem_cons_of_mem _ hd)) (by omega), List.append_assoc, List.length_cons, show p + 1 + D.length = p + (D.length + 1) from by omega, show 1 + D.length = D.length + 1 from by omega]
  rfl
theorem dgo8 : ∀ {D : List UInt8} {ex : Int} {p : Nat}, (∀ c ∈ D, dgB c = true) → dgo N t ⟨8, w, a, neg, en, dig, fr, ex⟩ p (D ++ R) = dgo N t ⟨8, w, a, neg, en, dig, fr, exs D ex⟩ (p + D.length) R
  | [], ex, p, _ => by simp [exs]
  | c :: D, ex, p, h => by
    have h1 : dstep ⟨8, w, a, neg, en, dig, fr, ex⟩ c = some ⟨8, w, a, neg, en, dig, fr, min (w64 (w64 (10 * ex) + dgv c)) 1000000⟩ := by
      unfold dstep; rw [h c (List.mem_cons_self ..)]; simp
    rw [List.cons_append, dgo, h1]
    simp only []
    rw [dgo8 fun d hd => h d (List.mem_cons_of_mem _ hd), List.length_cons, show p + 1 + D.length = p + (D.length + 1) from by omega]
    rfl
theorem dgo67 {st : Int} (hst : st = 6 ∨ st = 7) {D : List UInt8} (hD : D ≠ []) (h : ∀ c ∈ D, dgB c = true) :
    dgo N t ⟨st, w, a, neg, en, dig, fr, ex⟩ p (D ++ R) = dgo N t ⟨8, w, a, neg, en, dig, fr, exs D ex⟩ (p + D.length) R := by
  obtain ⟨c, D, rfl⟩ := List.exists_cons_of_ne_nil hD
  have h1 : dstep ⟨st, w, a, neg, en, dig, fr, ex⟩ c = some ⟨8, w, a, neg, en, dig, fr, min (w64 (w64 (10 * ex) + dgv c)) 1000000⟩ := by
    unfold dstep; rw [h c (List.mem_cons_self ..)]
    rcases hst with rfl | rfl <;> simp
  rw [List.cons_append, dgo, h1]
  simp only []
  rw [dgo8 fun d hd => h d (List.mem_cons_of_mem _ hd), List.length_cons, show p + 1 + D.length = p + (D.length + 1) from by omega]
  rfl
/-- In a word. -/
theorem dgo9 (hwl : ∀ c ∈ w, 97 ≤ c.toNat) (hwn : w.length ≤ 20) : ∀ {R : List UInt8} {k p : Nat}, k ≤ w.length →
    dgo N t ⟨9, w, (k : Int), neg, en, dig, fr, ex⟩ p R = if mt R (w.drop k) = R.length then dend N t ⟨9, w, ((k + R.length : Nat) : Int), neg, en, dig, fr, ex⟩ else some (wrg t (p + mt R (w.drop k)))
  | [], k, p, hk => by
    rw [dgo]; simp [mt]
  | c :: R, k, p, hk => by
    by_cases hkl : k < w.length
    · have hwd := getD_cons w k hkl
      rw [hwd, mt]
      have hm : w.getD k 0 ∈ w := by
        rw [List.getD_eq_getElem?_getD, List.getElem?_eq_getElem hkl]; exact List.getElem_mem ..
      have hge := hwl _ hm
      cases hq : ((c ||| 32).toNat == (w.getD k 0).toNat) with
      | true =>
        have hnd : dgB c = false := by
          cases hd : dgB c with
          | false => rfl
          | true =>
            exfalso
            unfold dgB at hd
            simp only [Bool.and_eq_true, decide_eq_true_eq] at hd
            rw [beq_iff_eq] at hq
            have key : ∀ d : Fin 58, (UInt8.ofNat d.val ||| 32).toNat < 64 := by decide
            have h2 := key ⟨c.toNat, by omega⟩
            have e : UInt8.ofNat c.toNat = c := by simp
            rw [e] at h2
            omega
        have h1 : dstep ⟨9, w, (k : Int), neg, en, dig, fr, ex⟩ c = some ⟨9, w, ((k + 1 : Nat) : Int), neg, en, dig, fr, ex⟩ := by
          unfold dstep; rw [hnd]
          simp only [Int.toNat_natCast, hq]
          rw [decide_eq_true (show (k : Int) < (w.length : Int) by omega), w64_id (n := (k : Int) + 1) (by omega)]
          simp
        rw [dgo, h1]
        simp only [cond_true]
        rw [dgo9 hwl hwn (by omega), List.length_cons, show k + 1 + R.length = k + (R.length + 1) from by omega, show p + 1 + mt R (w.drop (k + 1)) = p + (mt R (w.drop (k + 1)) + 1) from by omega]
        simp only [Nat.add_right_cancel_iff]
      | false =>
        have h1 : dstep ⟨9, w, (k : Int), neg, en, dig, fr, ex⟩ c = none := by
          unfold dstep
          simp only [Int.toNat_natCast, hq]
          cases dgB c <;> simp
        rw [dgo, h1]
        simp only [cond_false]
        rw [if_neg (by rw [List.length_cons]; omega), Nat.add_zero]
    · have h1 : dstep ⟨9, w, (k : Int), neg, en, dig, fr, ex⟩ c = none := by
        unfold dstep
        rw [decide_eq_false (show ¬ (k : Int) < (w.length : Int) by omega)]
        cases dgB c <;> simp
      rw [dgo, h1, List.drop_eq_nil_of_le (by omega), mt_nil, if_neg (by rw [List.length_cons]; omega)]
      rfl
end

section
variable {N : Nat} {t : List UInt8}
theorem F377_8_ok {neg : Bool} {D1 D2 : List UInt8} {x : Int} (hl : D1.length + D2.length ≤ 1024) : F377_8 N neg D1 D2 x = dfin N neg (D1 ++ D2) (w64 (x - (D2.length : Int))) := by
  unfold F377_8 F377_9 F377_10 dfin
  rw [bt (decide_eq_true (by omega))]
theorem F377_15_ok {neg : Bool} {D1 D2 : List UInt8} {en : Bool} {x : Int} (hl : D1.length + D2.length ≤ 1024) :
    F377_15 N neg D1 D2 en x = dfin N neg (D1 ++ D2) (w64 ((bif en then w64 (0 - x) else x) - (D2.length : Int))) := by
  unfold F377_15
  rw [F377_8_ok hl, F377_8_ok hl]
  cases en <;> rfl
/-- dmodel's exponent loop. -/
theorem F377_L16_ok {neg : Bool} {D1 D2 E : List UInt8} {en : Bool} (hl : E.length < N) (hE1 : E.length ≤ 1024) (hE : ∀ c ∈ E, dgB c = true) :
    iterL (F377_L16 N neg D1 D2 E en) N (0, 0) = F377_15 N neg D1 D2 en (exs E 0) := by
  have key : ∀ (R : List UInt8) (M p : Nat) (x : Int), R.length < M → E.drop p = R → p ≤ E.length → exs E 0 = exs R x →
      iterL (F377_L16 N neg D1 D2 E en) M (x, (p : Int)) = F377_15 N neg D1 D2 en (exs E 0) := by
    intro R
    induction R with
    | nil =>
      intro M p x hM hR hp he
      obtain ⟨M, rfl⟩ : ∃ K, M = K + 1 := ⟨M - 1, by omega⟩
      have hpl := drop_nil hR hp
      rw [iterL]
      unfold F377_L16 F377_L16b F377_17
      simp only []
      rw [bf (decide_eq_false (by omega)), he, show exs [] x = x from rfl]
      cases F377_15 N neg D1 D2 en x <;> rfl
    | cons c R ih =>
      intro M p x hM hR hp he
      obtain ⟨M, rfl⟩ : ∃ K, M = K + 1 := ⟨M - 1, by omega⟩
      obtain ⟨hpl, hg, hR', hc⟩ := drop_cons hR
      have hcm : c ∈ E := List.mem_of_getElem? hc
      have hstep : F377_L16 N neg D1 D2 E en (x, (p : Int)) = some (.inl (min (w64 (w64 (10 * x) + dgv c)) 1000000, ((p + 1 : Nat) : Int))) := by
        unfold F377_L16 F377_L16b F377_17 F377_18
        simp only [Int.toNat_natCast, hg]
        rw [bt (decide_eq_true (by omega)), bt (by simp; omega), dgv_byte (hE c hcm), w64_id (n := (p : Int) + 1) (by omega)]
        rfl
      rw [iterL, hstep]
      exact ih M (p + 1) _ (by rw [List.length_cons] at hM; omega) hR' (by omega) he
  exact key E N 0 0 hl rfl (by omega) rfl
theorem dwrong {p : Nat} (hN : 1 ≤ N) (hp : p ≤ t.length) (ht : t.length ≤ 1024) : (F376 N t (w64 (p : Int))).bind (fun y => some (y.1, y.2.1, y.2.2.1, y.2.2.2.1, y.2.2.2.2.1, y.2.2.2.2.2)) = some (wrg t p) := by
  rw [w64_id (by omega), F376_ok hN hp, bnd]
/-- The exponent behind its sign. -/
theorem F377_12_ok {neg : Bool} {D1 D2 w : List UInt8} {a : Int} {st : Int} (hst : st = 6 ∨ st = 7) {en : Bool} {p : Nat} {E : List UInt8} (hN : 1100 ≤ N) (ht : t.length ≤ 1024) (hE : t.drop p = E) (hp : p ≤ t.length) (hl : D1.length + D2.length ≤ 1024)
    (hsg : st = 6 → ∀ c R, E = c :: R → sgB c = false) :
    F377_12 N t neg D1 D2 E (p : Int) en = dgo N t ⟨st, w, a, neg, en, D1 ++ D2, (D2.length : Int), 0⟩ p E := by
  have hEl : E.length + p = t.length := by rw [← hE, List.length_drop]; omega
  unfold F377_12
  rw [F403_ok (by omega) (by omega), bnd]
  unfold F377_13 F377_14
  obtain ⟨D, R, h1, h2, h3⟩ := spn dgB E
  have hpR := drop_app (hE.trans h1)
  have hD2 : E.length = D.length + R.length := by rw [h1, List.length_append]
  rcases h3 with hR | ⟨c, R', hR, hq⟩
  · subst hR
    rw [List.append_nil] at h1
    subst h1
    rw [rnl_all h2]
    by_cases hz : E = []
    · subst hz
      have hpe : (p : Int) + ((([] : List UInt8).length : Nat) : Int) = ((p : Nat) : Int) := by rw [List.length_nil]; omega
      rw [bt (by simp), hpe, dwrong (by omega) hp ht, dgo]
      unfold dend
      have : p = t.length := by simpa using hEl
      rcases hst with rfl | rfl <;> rw [this] <;> rfl
    · have hpos : 0 < E.length := List.length_pos_iff.2 hz
      rw [bf (by rw [decide_eq_false (by omega)]; simp; omega), F377_L16_ok (by omega) (by omega) h2, F377_15_ok hl]
      have := dgo67 (N := N) (t := t) (neg := neg) (en := en) (fr := (D2.length : Int)) (ex := 0) (dig := D1 ++ D2) (w := w) (a := a) (p := p) (R := []) hst hz h2
      rw [List.append_nil] at this
      rw [this, dgo]
      rfl
  · have hrn : rnl dgB E = D.length := by rw [h1, rnl_app h2, hR, rnl_stop hq]; omega
    have hlt : D.length < E.length := by rw [hD2, hR, List.length_cons]; omega
    rw [hrn, bt (by rw [decide_eq_true (by omega)]; rfl), show (p : Int) + (D.length : Int) = ((p + D.length : Nat) : Int) from by omega, dwrong (by omega) (by omega) ht]
    have hw : ∀ (st' : Int) (ex : Int), (st' = 6 ∧ sgB c = false ∨ st' = 7 ∨ st' = 8) → dgo N t ⟨st', w, a, neg, en, D1 ++ D2, (D2.length : Int), ex⟩ (p + D.length) R = some (wrg t (p + D.length)) := by
      intro st' ex hs'
      have : dstep ⟨st', w, a, neg, en, D1 ++ D2, (D2.length : Int), ex⟩ c = none := by
        unfold dstep
        rw [hq]
        rcases hs' with ⟨rfl, hs⟩ | rfl | rfl
        · rw [hs]; simp
        · simp
        · simp
      rw [hR, dgo, this]
    by_cases hz : D = []
    · subst hz
      rw [h1, List.nil_append]
      refine (hw st 0 ?_).symm
      rcases hst with rfl | rfl
      · exact Or.inl ⟨rfl, hsg rfl c R' (by rw [h1, hR]; rfl)⟩
      · exact Or.inr (Or.inl rfl)
    · rw [h1, dgo67 hst hz h2, hw 8 _ (Or.inr (Or.inr rfl))]
/-- The exponent. -/
theorem F377_11_ok {neg : Bool} {D1 D2 w : List UInt8} {a : Int} {p : Nat} {E : List UInt8} (hN : 1100 ≤ N) (ht : t.length ≤ 1024) (hE : t.drop p = E) (hp : p ≤ t.length) (hl : D1.length + D2.length ≤ 1024) :
    F377_11 N t neg E D1 D2 (p : Int) = dgo N t ⟨6, w, a, neg, false, D1 ++ D2, (D2.length : Int), 0⟩ p E := by
  unfold F377_11
  cases E with
  | nil =>
    refine (bf rfl).trans ?_
    unfold F377_19
    refine (bf rfl).trans ?_
    exact F377_12_ok (Or.inl rfl) hN ht hE hp hl (fun _ c R h => by cases h)
  | cons c R =>
    obtain ⟨hpl, hg, hR', hc⟩ := drop_cons hE
    have e1 : (c.toBitVec == 45#8) = (c.toNat == 45) := u8_beq c 45 (by decide)
    have e2 : (c.toBitVec == 43#8) = (c.toNat == 43) := u8_beq c 43 (by decide)
    have hdr : (List.drop (Int.toNat 1) (c :: R)).take ((((c :: R).length : Int)).toNat - Int.toNat 1) = R := by
      show R.take ((R.length + 1) - 1) = R
      exact List.take_of_length_le (by omega)
    have hcl : ((c :: R).length : Int) = (R.length : Int) + 1 := by simp
    have hc1 : (decide ((0 : Int) ≤ 0) && decide ((0 : Int) < ((c :: R).length : Int))) = true := by rw [hcl]; simp <;> omega
    have hc2 : (decide ((0 : Int) ≤ 1) && (decide ((1 : Int) ≤ ((c :: R).length : Int)) && decide (((c :: R).length : Int) ≤ ((c :: R).length : Int)))) = true := by rw [hcl]; simp <;> omega
    have hmerge : (bif (c :: R) != ([] : List UInt8) then bif (decide (0 ≤ (0 : Int)) && decide ((0 : Int) < ((c :: R).length : Int))) then bif (((c :: R).getD ((0 : Int)).toNat 0).toBitVec) == (43#8) then F377_19 N t neg (c :: R) D1 D2 (p : Int) true else bif (decide (0 ≤ (0 : Int)) && decide ((0 : Int) < ((c :: R).length : Int))) then F377_19 N t neg (c :: R) D1 D2 (p : Int) ((((c :: R).getD ((0 : Int)).toNat 0).toBitVec) == (45#8)) else none else none else F377_19 N t neg (c :: R) D1 D2 (p : Int) false) = F377_19 N t neg (c :: R) D1 D2 (p : Int) (sgB c) := by
      refine (bt rfl).trans ((bt hc1).trans ?_)
      show (bif c.toBitVec == 43#8 then _ else bif _ then F377_19 N t neg (c :: R) D1 D2 (p : Int) (c.toBitVec == 45#8) else none) = _
      rw [e1, e2]
      unfold sgB
      cases h43 : c.toNat == 43 with
      | true => exact bt rfl
      | false => exact (bf rfl).trans (bt hc1)
    rw [hmerge]
    unfold F377_19
    cases hs : sgB c with
    | false =>
      refine (bf rfl).trans ?_
      exact F377_12_ok (Or.inl rfl) hN ht hE hp hl (fun _ c' R' h => by
          injection h with h1 h2
          rw [← h1]; exact hs)
    | true =>
      refine (bt rfl).trans ((bt hc1).trans ?_)
      unfold F377_20
      refine (bt hc2).trans ?_
      unfold F377_21
      rw [hdr, w64_id (n := (p : Int) + 1) (by omega), show (p : Int) + 1 = ((p + 1 : Nat) : Int) from by omega]
      show F377_12 N t neg D1 D2 R ((p + 1 : Nat) : Int) (c.toBitVec == 45#8) = _
      rw [e1, F377_12_ok (w := w) (a := a) (Or.inr rfl) hN ht hR' (by omega) hl (fun h => by cases h)]
      have hnd : dgB c = false := by
        cases hd : dgB c with
        | false => rfl
        | true => have := dg_ns hd; rw [hs] at this; cases this
      have : dstep ⟨6, w, a, neg, false, D1 ++ D2, (D2.length : Int), 0⟩ c = some ⟨7, w, a, neg, c.toNat == 45, D1 ++ D2, (D2.length : Int), 0⟩ := by
        unfold dstep
        rw [hs, hnd]; simp
      rw [dgo, this]
end
end Go.Proofs.YfwaawGreat
