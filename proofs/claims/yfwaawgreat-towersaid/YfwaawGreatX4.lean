/-
  hexa.Scan = hmodel.Scan: the scanner's runs, and both together.
-/
import Derived.Test.YfwaawGreatX3
namespace Go.Proofs.YfwaawGreat
open Go.Aw
set_option linter.unusedVariables false
set_option linter.unusedSimpArgs false

section
variable {N : Nat} {t : List UInt8} {neg en : Bool} {fr ex : Int} {dig : List UInt8} {p : Nat} {R : List UInt8}
theorem hgo4 : ∀ {D : List UInt8} {dig : List UInt8} {p : Nat}, (∀ c ∈ D, hxB c = true) → hgo N t ⟨neg, en, fr, ex, 4, dig⟩ p (D ++ R) = hgo N t ⟨neg, en, fr, ex, 4, dig ++ D⟩ (p + D.length) R
  | [], dig, p, _ => by simp
  | c :: D, dig, p, h => by
    have h1 : hstep ⟨neg, en, fr, ex, 4, dig⟩ c = some ⟨neg, en, fr, ex, 4, dig ++ [c]⟩ := by
      unfold hstep; rw [h c (List.mem_cons_self ..)]; simp
    rw [List.cons_append, hgo, h1]
    simp only []
    rw [hgo4 fun d hd => h d (List.mem_cons_of_mem _ hd), List.append_assoc, List.length_cons, show p + 1 + D.length = p + (D.length + 1) from by omega]
    rfl
theorem hgo3 {D : List UInt8} (hD : D ≠ []) (h : ∀ c ∈ D, hxB c = true) : hgo N t ⟨neg, en, fr, ex, 3, dig⟩ p (D ++ R) = hgo N t ⟨neg, en, fr, ex, 4, dig ++ D⟩ (p + D.length) R := by
  obtain ⟨c, D, rfl⟩ := List.exists_cons_of_ne_nil hD
  have h1 : hstep ⟨neg, en, fr, ex, 3, dig⟩ c = some ⟨neg, en, fr, ex, 4, dig ++ [c]⟩ := by
    unfold hstep; rw [h c (List.mem_cons_self ..)]; simp
  rw [List.cons_append, hgo, h1]
  simp only []
  rw [hgo4 fun d hd => h d (List.mem_cons_of_mem _ hd), List.append_assoc, List.length_cons, show p + 1 + D.length = p + (D.length + 1) from by omega]
  rfl
theorem hgo7 : ∀ {D : List UInt8} {dig : List UInt8} {p n : Nat}, (∀ c ∈ D, hxB c = true) → n + D.length ≤ 5000 → hgo N t ⟨neg, en, (n : Int), ex, 7, dig⟩ p (D ++ R) = hgo N t ⟨neg, en, ((n + D.length : Nat) : Int), ex, 7, dig ++ D⟩ (p + D.length) R
  | [], dig, p, n, _, _ => by simp
  | c :: D, dig, p, n, h, hl => by
    rw [List.length_cons] at hl
    have h1 : hstep ⟨neg, en, (n : Int), ex, 7, dig⟩ c = some ⟨neg, en, ((n + 1 : Nat) : Int), ex, 7, dig ++ [c]⟩ := by
      unfold hstep; rw [h c (List.mem_cons_self ..)]; simp [w64_id (show -9223372036854775808 ≤ (n : Int) + 1 ∧ (n : Int) + 1 < 9223372036854775808 by omega)]
    rw [List.cons_append, hgo, h1]
    simp only []
    rw [hgo7 (fun d hd => h d (List.mem_cons_of_mem _ hd)) (by omega), List.append_assoc, List.length_cons, show p + 1 + D.length = p + (D.length + 1) from by omega, show n + 1 + D.length = n + (D.length + 1) from by omega]
    rfl
theorem hgo56 {st : Int} (hst : st = 5 ∨ st = 6) {D : List UInt8} (hD : D ≠ []) (h : ∀ c ∈ D, hxB c = true) (hl : D.length ≤ 5000) :
    hgo N t ⟨neg, en, 0, ex, st, dig⟩ p (D ++ R) = hgo N t ⟨neg, en, (D.length : Int), ex, 7, dig ++ D⟩ (p + D.length) R := by
  obtain ⟨c, D, rfl⟩ := List.exists_cons_of_ne_nil hD
  rw [List.length_cons] at hl
  have h1 : hstep ⟨neg, en, 0, ex, st, dig⟩ c = some ⟨neg, en, ((1 : Nat) : Int), ex, 7, dig ++ [c]⟩ := by
    unfold hstep; rw [h c (List.mem_cons_self ..)]
    rcases hst with rfl | rfl <;> simp [w64_id]
  rw [List.cons_append, hgo, h1]
  simp only []
  rw [hgo7 (fun d hd => h d (List.mem_cons_of_mem _ hd)) (by omega), List.append_assoc, List.length_cons, show p + 1 + D.length = p + (D.length + 1) from by omega, show 1 + D.length = D.length + 1 from by omega]
  rfl
/-- An exponent's digits, gathered. -/
def exs : List UInt8 → Int → Int
  | [], x => x
  | c :: D, x => exs D (min (w64 (w64 (10 * x) + dgv c)) 1000000)
theorem hgo10 : ∀ {D : List UInt8} {ex : Int} {p : Nat}, (∀ c ∈ D, dgB c = true) → hgo N t ⟨neg, en, fr, ex, 10, dig⟩ p (D ++ R) = hgo N t ⟨neg, en, fr, exs D ex, 10, dig⟩ (p + D.length) R
  | [], ex, p, _ => by simp [exs]
  | c :: D, ex, p, h => by
    have hc := h c (List.mem_cons_self ..)
    unfold dgB at hc
    have h1 : hstep ⟨neg, en, fr, ex, 10, dig⟩ c = some ⟨neg, en, fr, min (w64 (w64 (10 * ex) + dgv c)) 1000000, 10, dig⟩ := by
      unfold hstep; rw [show ((decide ((10 : Int) ≥ 8) && decide (48 ≤ c.toNat)) && decide (c.toNat ≤ 57)) = true from by rw [Bool.and_assoc, hc]; rfl]; simp
    rw [List.cons_append, hgo, h1]
    simp only []
    rw [hgo10 fun d hd => h d (List.mem_cons_of_mem _ hd), List.length_cons, show p + 1 + D.length = p + (D.length + 1) from by omega]
    rfl
theorem dg_ns {c : UInt8} (h : dgB c = true) : sgB c = false := by
  unfold dgB at h; unfold sgB
  simp only [Bool.and_eq_true, decide_eq_true_eq] at h
  simp; omega
theorem hgo89 {st : Int} (hst : st = 8 ∨ st = 9) {D : List UInt8} (hD : D ≠ []) (h : ∀ c ∈ D, dgB c = true) :
    hgo N t ⟨neg, en, fr, ex, st, dig⟩ p (D ++ R) = hgo N t ⟨neg, en, fr, exs D ex, 10, dig⟩ (p + D.length) R := by
  obtain ⟨c, D, rfl⟩ := List.exists_cons_of_ne_nil hD
  have hc := h c (List.mem_cons_self ..)
  have hs := dg_ns hc
  unfold dgB at hc
  have h1 : hstep ⟨neg, en, fr, ex, st, dig⟩ c = some ⟨neg, en, fr, min (w64 (w64 (10 * ex) + dgv c)) 1000000, 10, dig⟩ := by
    unfold hstep
    rw [hs]
    simp only [Bool.and_eq_true, decide_eq_true_eq] at hc
    rcases hst with rfl | rfl <;> simp [hc]
  rw [List.cons_append, hgo, h1]
  simp only []
  rw [hgo10 fun d hd => h d (List.mem_cons_of_mem _ hd), List.length_cons, show p + 1 + D.length = p + (D.length + 1) from by omega]
  rfl
end

theorem bnd {α β : Type} {x : α} {f : α → Option β} : (some x).bind f = f x := rfl
theorem eta6 (y : Scd) : (some (y.1, y.2.1, y.2.2.1, y.2.2.2.1, y.2.2.2.2.1, y.2.2.2.2.2) : Option Scd) = some y := rfl
/-- A byte minus '0'. -/
theorem dgv_byte {c : UInt8} (h : dgB c = true) : w64 ((c.toBitVec - 48#8).toNat : Int) = dgv c := by
  unfold dgB at h
  simp only [Bool.and_eq_true, decide_eq_true_eq] at h
  unfold dgv
  rw [BitVec.toNat_sub, show (48#8).toNat = 48 from rfl, show c.toBitVec.toNat = c.toNat from rfl, w32_id (by omega)]
  rw [show (2 ^ 8 - 48 + c.toNat) % 2 ^ 8 = c.toNat - 48 from by omega]
  rw [show ((c.toNat - 48 : Nat) : Int) = (c.toNat : Int) - 48 from by omega]

section
variable {N : Nat} {t : List UInt8}
/-- hmodel's exponent loop. -/
theorem F304_L23_ok {neg : Bool} {D1 D2 E : List UInt8} {en : Bool} (hl : E.length < N) (hE1 : E.length ≤ 1024) (hE : ∀ c ∈ E, dgB c = true) :
    iterL (F304_L23 N neg D1 D2 E en) N (0, 0) = F304_19 N neg D1 D2 en (exs E 0) := by
  have key : ∀ (R : List UInt8) (M p : Nat) (x : Int), R.length < M → E.drop p = R → p ≤ E.length → exs E 0 = exs R x →
      iterL (F304_L23 N neg D1 D2 E en) M (x, (p : Int)) = F304_19 N neg D1 D2 en (exs E 0) := by
    intro R
    induction R with
    | nil =>
      intro M p x hM hR hp he
      obtain ⟨M, rfl⟩ : ∃ K, M = K + 1 := ⟨M - 1, by omega⟩
      have hpl := drop_nil hR hp
      rw [iterL]
      unfold F304_L23 F304_L23b F304_24
      simp only []
      rw [bf (decide_eq_false (by omega)), he, show exs [] x = x from rfl]
      cases F304_19 N neg D1 D2 en x <;> rfl
    | cons c R ih =>
      intro M p x hM hR hp he
      obtain ⟨M, rfl⟩ : ∃ K, M = K + 1 := ⟨M - 1, by omega⟩
      obtain ⟨hpl, hg, hR', hc⟩ := drop_cons hR
      have hcm : c ∈ E := List.mem_of_getElem? hc
      have hstep : F304_L23 N neg D1 D2 E en (x, (p : Int)) = some (.inl (min (w64 (w64 (10 * x) + dgv c)) 1000000, ((p + 1 : Nat) : Int))) := by
        unfold F304_L23 F304_L23b F304_24 F304_25
        simp only [Int.toNat_natCast, hg]
        rw [bt (decide_eq_true (by omega)), bt (by simp; omega), dgv_byte (hE c hcm), w64_id (n := (p : Int) + 1) (by omega)]
        rfl
      rw [iterL, hstep]
      exact ih M (p + 1) _ (by rw [List.length_cons] at hM; omega) hR' (by omega) he
  exact key E N 0 0 hl rfl (by omega) rfl
theorem F304_19_ok {neg : Bool} {D1 D2 : List UInt8} {en : Bool} {x : Int} (hl : D1.length + D2.length ≤ 1024) :
    F304_19 N neg D1 D2 en x = hfin N neg (D1 ++ D2) (w64 ((bif en then w64 (0 - x) else x) - w64 (4 * (D2.length : Int)))) := by
  unfold F304_19 F304_20 F304_21 F304_22 hfin
  rw [bt (decide_eq_true (by omega)), bt (decide_eq_true (by omega))]
  cases en <;> rfl
/-- The exponent behind its sign. -/
theorem F304_16_ok {neg : Bool} {D1 D2 : List UInt8} {st : Int} (hst : st = 8 ∨ st = 9) {en : Bool} {p : Nat} {E : List UInt8} (hN : 1100 ≤ N) (ht : t.length ≤ 1024) (hE : t.drop p = E) (hp : p ≤ t.length) (hl : D1.length + D2.length ≤ 1024)
    (hsg : st = 8 → ∀ c R, E = c :: R → sgB c = false) :
    F304_16 N t neg D1 D2 (p : Int) E en = hgo N t ⟨neg, en, (D2.length : Int), 0, st, D1 ++ D2⟩ p E := by
  have hEl : E.length + p = t.length := by rw [← hE, List.length_drop]; omega
  unfold F304_16
  rw [F382_ok (by omega) (by omega), bnd]
  unfold F304_17 F304_18
  obtain ⟨D, R, h1, h2, h3⟩ := spn dgB E
  have hbf : (fun c : UInt8 => bif false then hxB c else dgB c) = dgB := by funext c; rfl
  have hpR := drop_app (hE.trans h1)
  have hD2 : E.length = D.length + R.length := by rw [h1, List.length_append]
  rw [hbf]
  rcases h3 with hR | ⟨c, R', hR, hq⟩
  · subst hR
    rw [List.append_nil] at h1
    subst h1
    rw [rnl_all h2]
    by_cases hz : E = []
    · subst hz
      have hpe : w64 ((p : Int) + ((([] : List UInt8).length : Nat) : Int)) = (p : Int) := by rw [List.length_nil, w64_id (by omega)]; omega
      rw [bt (by simp), hpe, F380_ok (by omega) hp, bnd, eta6, hgo]
      unfold hend
      have : p = t.length := by simpa using hEl
      rw [bt (by rcases hst with rfl | rfl <;> rfl), this]
    · have hpos : 0 < E.length := List.length_pos_iff.2 hz
      rw [bf (by rw [decide_eq_false (by omega)]; simp; omega), F304_L23_ok (by omega) (by omega) h2, F304_19_ok hl]
      have := hgo89 (N := N) (t := t) (neg := neg) (en := en) (fr := (D2.length : Int)) (ex := 0) (dig := D1 ++ D2) (p := p) (R := []) hst hz h2
      rw [List.append_nil] at this
      rw [this, hgo]
      rfl
  · have hrn : rnl dgB E = D.length := by rw [h1, rnl_app h2, hR, rnl_stop hq]; omega
    have hlt : D.length < E.length := by rw [hD2, hR, List.length_cons]; omega
    rw [hrn, bt (by rw [decide_eq_true (by omega)]; rfl), w64_id (by omega), show (p : Int) + (D.length : Int) = ((p + D.length : Nat) : Int) from by omega, F380_ok (by omega) (by omega), bnd, eta6]
    have hw : ∀ (st' : Int) (ex : Int), (st' = 8 ∧ sgB c = false ∨ st' = 9 ∨ st' = 10) → hgo N t ⟨neg, en, (D2.length : Int), ex, st', D1 ++ D2⟩ (p + D.length) R = some (wrg t (p + D.length)) := by
      intro st' ex hs'
      have : hstep ⟨neg, en, (D2.length : Int), ex, st', D1 ++ D2⟩ c = none := by
        unfold hstep
        unfold dgB at hq
        have hq' : ((decide (st' ≥ 8) && decide (48 ≤ c.toNat)) && decide (c.toNat ≤ 57)) = false := by rw [Bool.and_assoc, hq]; simp
        rw [hq']
        rcases hs' with ⟨rfl, hs⟩ | rfl | rfl
        · rw [hs]; simp
        · simp
        · simp
      rw [hR, hgo, this]
    by_cases hz : D = []
    · subst hz
      rw [h1, List.nil_append]
      refine (hw st 0 ?_).symm
      rcases hst with rfl | rfl
      · exact Or.inl ⟨rfl, hsg rfl c R' (by rw [h1, hR]; rfl)⟩
      · exact Or.inr (Or.inl rfl)
    · rw [h1, hgo89 hst hz h2, hw 10 _ (Or.inr (Or.inr rfl))]
/-- The exponent. -/
theorem F304_14_ok {neg : Bool} {D1 D2 : List UInt8} {p : Nat} {E : List UInt8} (hN : 1100 ≤ N) (ht : t.length ≤ 1024) (hE : t.drop p = E) (hp : p ≤ t.length) (hl : D1.length + D2.length ≤ 1024) :
    F304_14 N t neg E D1 D2 (p : Int) = hgo N t ⟨neg, false, (D2.length : Int), 0, 8, D1 ++ D2⟩ p E := by
  unfold F304_14 F304_15 F304_26 F304_27
  cases E with
  | nil =>
    rw [bf (by rfl), bf rfl, bf (by rfl), bf rfl]
    exact F304_16_ok (Or.inl rfl) hN ht hE hp hl (fun _ c R h => by cases h)
  | cons c R =>
    obtain ⟨hpl, hg, hR', hc⟩ := drop_cons hE
    have hg0 : (c :: R).getD (Int.toNat 0) 0 = c := rfl
    have e1 : (c.toBitVec == 45#8) = (c.toNat == 45) := u8_beq c 45 (by decide)
    have e2 : (c.toBitVec == 43#8) = (c.toNat == 43) := u8_beq c 43 (by decide)
    have hdr : (List.drop (Int.toNat 1) (c :: R)).take ((((c :: R).length : Int)).toNat - Int.toNat 1) = R := by
      show R.take ((R.length + 1) - 1) = R
      exact List.take_of_length_le (by omega)
    have hcl : ((c :: R).length : Int) = (R.length : Int) + 1 := by simp
    have hc1 : (decide ((0 : Int) ≤ 0) && decide ((0 : Int) < ((c :: R).length : Int))) = true := by rw [hcl]; simp <;> omega
    have hc2 : (decide ((0 : Int) ≤ 1) && (decide ((1 : Int) ≤ ((c :: R).length : Int)) && decide (((c :: R).length : Int) ≤ ((c :: R).length : Int)))) = true := by rw [hcl]; simp <;> omega
    have hne : ((c :: R) != ([] : List UInt8)) = true := rfl
    rw [hne, hc1, hc2, hg0, e1, e2, hdr, w64_id (n := (p : Int) + 1) (by omega), show (p : Int) + 1 = ((p + 1 : Nat) : Int) from by omega]
    simp only [cond_true, cond_false]
    have hmin : ∀ b, sgB c = true → (c.toNat == 45) = b → F304_16 N t neg D1 D2 ((p + 1 : Nat) : Int) R b = hgo N t ⟨neg, false, (D2.length : Int), 0, 8, D1 ++ D2⟩ p (c :: R) := by
      intro b hs hb
      rw [F304_16_ok (Or.inr rfl) hN ht hR' (by omega) hl (fun h => by cases h)]
      have : hstep ⟨neg, false, (D2.length : Int), 0, 8, D1 ++ D2⟩ c = some ⟨neg, b, (D2.length : Int), 0, 9, D1 ++ D2⟩ := by
        unfold hstep
        rw [hs, hb]; simp
      rw [hgo, this]
    cases h45 : c.toNat == 45 with
    | true =>
      simp only [cond_true]
      exact hmin true (by unfold sgB; rw [h45]; simp) h45
    | false =>
      simp only [cond_false]
      cases h43 : c.toNat == 43 with
      | true =>
        simp only [cond_true]
        exact hmin false (by unfold sgB; rw [h43]; simp) h45
      | false =>
        simp only [cond_false]
        exact F304_16_ok (Or.inl rfl) hN ht hE hp hl (fun _ c' R' h => by
          injection h with h1 h2
          rw [← h1]; unfold sgB; rw [h43, h45]; rfl)

def isP (c : UInt8) : Bool := (c.toNat == 112) || (c.toNat == 80)
def isDot (c : UInt8) : Bool := (c.toNat == 46) || (c.toNat == 46)
theorem isP_low (c : UInt8) : ((c ||| 32).toNat == 112) = isP c := by
  have key : ∀ d : Fin 256, ((UInt8.ofNat d.val ||| 32).toNat == 112) = (((UInt8.ofNat d.val).toNat == 112) || ((UInt8.ofNat d.val).toNat == 80)) := by decide +kernel
  have := key ⟨c.toNat, c.toNat_lt⟩
  unfold isP
  simpa using this
theorem hx_np {c : UInt8} (h : hxB c = true) : isP c = false ∧ isDot c = false := by
  unfold hxB at h; unfold isP isDot
  simp only [Bool.or_eq_true, Bool.and_eq_true, decide_eq_true_eq] at h
  simp; omega
/-- The number behind 0x. -/
theorem F304_6_ok {neg : Bool} {p : Nat} {S : List UInt8} (hN : 1100 ≤ N) (ht : t.length ≤ 1024) (hS : t.drop p = S) (hp : p ≤ t.length) :
    F304_6 N t neg (p : Int) = hgo N t ⟨neg, false, 0, 0, 3, []⟩ p S := by
  have hSl : S.length + p = t.length := by rw [← hS, List.length_drop]; omega
  have hbf : (fun c : UInt8 => bif true then hxB c else dgB c) = hxB := by funext c; rfl
  have c1 : ∀ s : List UInt8, s.length ≤ 1024 → F381 N s (112#8) (80#8) = some ((cutB isP s).1, ((cutB isP s).2.getD []), (cutB isP s).2.isSome) := fun s hs => F381_ok (a := 112) (b := 80) (by decide) (by decide) (by omega) hs
  have c2 : ∀ s : List UInt8, s.length ≤ 1024 → F381 N s (46#8) (46#8) = some ((cutB isDot s).1, ((cutB isDot s).2.getD []), (cutB isDot s).2.isSome) := fun s hs => F381_ok (a := 46) (b := 46) (by decide) (by decide) (by omega) hs
  have c3 : ∀ s : List UInt8, s.length ≤ 1024 → F382 N s true = some (rnl hxB s : Int) := fun s hs => by rw [F382_ok (by omega) hs, hbf]
  have hwr : ∀ q : Nat, q ≤ t.length → (F380 N t (w64 (q : Int))).bind (fun y => some (y.1, y.2.1, y.2.2.1, y.2.2.2.1, y.2.2.2.2.1, y.2.2.2.2.2)) = some (wrg t q) := fun q hq => by
    rw [w64_id (by omega), F380_ok (by omega) hq, bnd]
  unfold F304_6
  rw [bt (by simp; omega)]
  simp only [Int.toNat_natCast, tk_all]
  rw [hS, c1 S (by omega), bnd]
  unfold F304_7
  obtain ⟨D, R, h1, h2, h3⟩ := spn hxB S
  have hpR := drop_app (hS.trans h1)
  have hSD : S.length = D.length + R.length := by rw [h1, List.length_append]
  have hDP : ∀ c ∈ D, isP c = false := fun c hc => (hx_np (h2 c hc)).1
  have hDd : ∀ c ∈ D, isDot c = false := fun c hc => (hx_np (h2 c hc)).2
  -- where the scanner stands behind the digits
  obtain ⟨st, hst, hgoD⟩ : ∃ st : Int, ((st = 3 ∧ D = []) ∨ (st = 4 ∧ D ≠ [])) ∧ hgo N t ⟨neg, false, 0, 0, 3, []⟩ p S = hgo N t ⟨neg, false, 0, 0, st, D⟩ (p + D.length) R := by
    by_cases hz : D = []
    · exact ⟨3, Or.inl ⟨rfl, hz⟩, by rw [h1, hz]; rfl⟩
    · exact ⟨4, Or.inr ⟨rfl, hz⟩, by rw [h1, hgo3 hz h2]; rfl⟩
  rw [hgoD]
  have hcut1 : cutB isP S = (D ++ (cutB isP R).1, (cutB isP R).2) := by rw [h1, cutB_app hDP]
  rw [hcut1]
  have hmanl : (D ++ (cutB isP R).1).length ≤ 1024 := by
    rcases cutB_eq isP R with ⟨c', v, k1, k2, k3, k4⟩ | ⟨k1, k2, k3⟩
    · have := congrArg List.length k3
      rw [List.length_append] at this
      rw [List.length_append]; omega
    · rw [k2, List.length_append]; omega
  simp only []
  rw [c2 _ hmanl, bnd]
  unfold F304_8
  simp only []
  rw [cutB_app hDd]
  simp only []
  rcases h3 with hR | ⟨c, R', hR, hq⟩
  · -- nothing behind the digits
    subst hR
    simp only [cutB_nil, List.append_nil, Option.getD_none, Option.isSome_none]
    rw [c3 D (by omega), bnd]
    unfold F304_9 F304_10
    rw [rnl_all h2, bf (decide_eq_false (by omega)), c3 [] (by simp), bnd]
    unfold F304_11 F304_12
    rw [bf (decide_eq_false (by simp [rnl])), bt (decide_eq_true (by simp; omega))]
    unfold F304_13
    rw [bt (by simp), show (p : Int) + (D.length : Int) = ((p + D.length : Nat) : Int) from by omega, hwr _ (by omega), hgo]
    unfold hend
    rw [bt (by rcases hst with ⟨rfl, _⟩ | ⟨rfl, _⟩ <;> rfl)]
    have : p + D.length = t.length := by rw [List.length_nil] at hSD; omega
    rw [this]
  · have hRl : R.length = R'.length + 1 := by rw [hR]; rfl
    cases hdot : isDot c with
    | true =>
      have hc46 : c.toNat = 46 := by unfold isDot at hdot; simpa using hdot
      have hnp : isP c = false := by unfold isP; simp; omega
      obtain ⟨st2, hst2, hgo2⟩ : ∃ st2 : Int, ((st2 = 6 ∧ D = []) ∨ (st2 = 5 ∧ D ≠ [])) ∧ hgo N t ⟨neg, false, 0, 0, st, D⟩ (p + D.length) R = hgo N t ⟨neg, false, 0, 0, st2, D⟩ (p + D.length + 1) R' := by
        rcases hst with ⟨rfl, hz⟩ | ⟨rfl, hz⟩
        · refine ⟨6, Or.inl ⟨rfl, hz⟩, ?_⟩
          have : hstep ⟨neg, false, 0, 0, 3, D⟩ c = some ⟨neg, false, 0, 0, 6, D⟩ := by unfold hstep; rw [hq, hc46]; simp
          rw [hR, hgo, this]
        · refine ⟨5, Or.inr ⟨rfl, hz⟩, ?_⟩
          have : hstep ⟨neg, false, 0, 0, 4, D⟩ c = some ⟨neg, false, 0, 0, 5, D⟩ := by unfold hstep; rw [hq, hc46]; simp
          rw [hR, hgo, this]
      rw [hgo2, hR, cutB_pass hnp]
      simp only []
      rw [cutB_hit hdot]
      simp only [List.append_nil, Option.getD_some]
      rw [c3 D (by omega), bnd]
      unfold F304_9 F304_10
      rw [rnl_all h2, bf (decide_eq_false (by omega))]
      obtain ⟨D2, R2, g1, g2, g3⟩ := spn hxB R'
      have hR2 : R'.length = D2.length + R2.length := by rw [g1, List.length_append]
      have hD2P : ∀ c ∈ D2, isP c = false := fun c hc => (hx_np (g2 c hc)).1
      have hcut2 : cutB isP R' = (D2 ++ (cutB isP R2).1, (cutB isP R2).2) := by rw [g1, cutB_app hD2P]
      rw [hcut2]
      simp only []
      have hpos2 : t.drop (p + D.length + 1 + D2.length) = R2 := by
        have : t.drop (p + D.length + 1) = R' := (drop_cons (hpR.trans hR)).2.2.1
        exact drop_app (this.trans g1)
      obtain ⟨st3, hst3, hgo3'⟩ : ∃ st3 : Int, ((st3 = 6 ∧ D = [] ∧ D2 = []) ∨ (st3 = 5 ∧ D ≠ [] ∧ D2 = []) ∨ (st3 = 7 ∧ D2 ≠ [])) ∧ hgo N t ⟨neg, false, 0, 0, st2, D⟩ (p + D.length + 1) R' = hgo N t ⟨neg, false, (D2.length : Int), 0, st3, D ++ D2⟩ (p + D.length + 1 + D2.length) R2 := by
        by_cases hz2 : D2 = []
        · rw [g1, hz2, List.nil_append, List.append_nil]
          rcases hst2 with ⟨rfl, hz⟩ | ⟨rfl, hz⟩
          · exact ⟨6, Or.inl ⟨rfl, hz, rfl⟩, rfl⟩
          · exact ⟨5, Or.inr (Or.inl ⟨rfl, hz, rfl⟩), rfl⟩
        · refine ⟨7, Or.inr (Or.inr ⟨rfl, hz2⟩), ?_⟩
          rw [g1, hgo56 (by rcases hst2 with ⟨rfl, _⟩ | ⟨rfl, _⟩ <;> simp) hz2 g2 (by omega)]
      rw [hgo3']
      have hfl : (D2 ++ (cutB isP R2).1).length ≤ 1024 := by
        have h9 := hmanl
        rw [hR, cutB_pass hnp, hcut2] at h9
        simp only [List.length_append, List.length_cons] at h9 ⊢
        omega
      rw [c3 _ hfl, bnd]
      unfold F304_11 F304_12
      rcases g3 with hRz | ⟨c2', R2', hRc, hq2⟩
      · subst hRz
        simp only [cutB_nil, List.append_nil, Option.getD_none, Option.isSome_none]
        rw [rnl_all g2, bf (decide_eq_false (by omega)), bt (decide_eq_true (by rw [List.length_nil] at hR2; omega))]
        unfold F304_13
        have hml : ((D ++ c :: D2).length : Int) = ((D.length + 1 + D2.length : Nat) : Int) := by rw [List.length_append, List.length_cons]; omega
        rw [bt (by simp), hml, show (p : Int) + ((D.length + 1 + D2.length : Nat) : Int) = ((p + D.length + 1 + D2.length : Nat) : Int) from by omega, hwr _ (by rw [List.length_nil] at hR2; omega), hgo]
        unfold hend
        rw [bt (by rcases hst3 with ⟨rfl, _⟩ | ⟨rfl, _⟩ | ⟨rfl, _⟩ <;> rfl)]
        have : p + D.length + 1 + D2.length = t.length := by rw [List.length_nil] at hR2; omega
        rw [this]
      · have hR2l : R2.length = R2'.length + 1 := by rw [hRc]; rfl
        cases hp2 : isP c2' with
        | true =>
          rw [hRc, cutB_hit hp2]
          simp only [List.append_nil, Option.getD_some, Option.isSome_some]
          rw [rnl_all g2, bf (decide_eq_false (by omega)), bt (decide_eq_true (by omega))]
          unfold F304_13
          have hml : ((D ++ c :: D2).length : Int) = ((D.length + 1 + D2.length : Nat) : Int) := by rw [List.length_append, List.length_cons]; omega
          rw [hml]
          have hlow : ((c2' ||| 32).toNat == 112) = true := by rw [isP_low, hp2]
          by_cases hz : D ++ D2 = []
          · rw [bt (by rw [hz]; rfl), show (p : Int) + ((D.length + 1 + D2.length : Nat) : Int) = ((p + D.length + 1 + D2.length : Nat) : Int) from by omega, hwr _ (by omega)]
            obtain ⟨hz1, hz2⟩ := List.append_eq_nil_iff.1 hz
            have hs6 : st3 = 6 := by
              rcases hst3 with ⟨h, _⟩ | ⟨_, h, _⟩ | ⟨_, h⟩
              · exact h
              · exact (h hz1).elim
              · exact (h hz2).elim
            have hno : hstep ⟨neg, false, (D2.length : Int), 0, 6, D ++ D2⟩ c2' = none := by
              have hnd : c2'.toNat ≠ 46 := by unfold isP at hp2; simp at hp2; omega
              unfold hstep; rw [hq2]; simp
            rw [hs6, hgo, hno]
          · have hne : ((D ++ D2) == ([] : List UInt8)) = false := by
              rw [beq_eq_false_iff_ne]; exact hz
            rw [bf (by rw [hne]; rfl)]
            have hstp : hstep ⟨neg, false, (D2.length : Int), 0, st3, D ++ D2⟩ c2' = some ⟨neg, false, (D2.length : Int), 0, 8, D ++ D2⟩ := by
              have hnd : (c2'.toNat == 46) = false := by unfold isP at hp2; simp at hp2 ⊢; omega
              unfold hstep; rw [hq2, hlow, hnd]
              rcases hst3 with ⟨rfl, h, h'⟩ | ⟨rfl, _⟩ | ⟨rfl, _⟩
              · exact (hz (by rw [h, h']; rfl)).elim
              · simp
              · simp
            rw [hgo, hstp]
            simp only []
            rw [w64_id (n := ((D.length + 1 + D2.length : Nat) : Int) + 1) (by omega), w64_id (by omega), show (p : Int) + (((D.length + 1 + D2.length : Nat) : Int) + 1) = ((p + D.length + 1 + D2.length + 1 : Nat) : Int) from by omega]
            exact F304_14_ok hN ht (drop_cons (hpos2.trans hRc)).2.2.1 (by omega) (by omega)
        | false =>
          rw [hRc, cutB_pass hp2]
          simp only []
          rw [rnl_app g2, rnl_stop hq2, bt (decide_eq_true (by rw [List.length_append, List.length_cons]; omega))]
          rw [w64_id (n := (p : Int) + (D.length : Int)) (by omega), w64_id (n := (p : Int) + (D.length : Int) + 1) (by omega), show (p : Int) + (D.length : Int) + 1 + ((D2.length + 0 : Nat) : Int) = ((p + D.length + 1 + D2.length : Nat) : Int) from by omega, hwr _ (by omega)]
          have hno : hstep ⟨neg, false, (D2.length : Int), 0, st3, D ++ D2⟩ c2' = none := by
            unfold hstep; rw [hq2, isP_low, hp2]
            rcases hst3 with ⟨rfl, _⟩ | ⟨rfl, _⟩ | ⟨rfl, _⟩ <;> simp
          rw [hgo, hno]
    | false =>
      have hnd : (c.toNat == 46) = false := by unfold isDot at hdot; simpa using hdot
      cases hpc : isP c with
      | true =>
        rw [hR, cutB_hit hpc]
        simp only [cutB_nil, List.append_nil, Option.getD_none, Option.getD_some, Option.isSome_some]
        rw [c3 D (by omega), bnd]
        unfold F304_9 F304_10
        rw [rnl_all h2, bf (decide_eq_false (by omega)), c3 [] (by simp), bnd]
        unfold F304_11 F304_12
        rw [bf (decide_eq_false (by simp [rnl])), bt (decide_eq_true (by simp; omega))]
        unfold F304_13
        rw [List.append_nil]
        have hlow : ((c ||| 32).toNat == 112) = true := by rw [isP_low, hpc]
        rcases hst with ⟨rfl, hz⟩ | ⟨rfl, hz⟩
        · rw [bt (by rw [hz]; rfl), show (p : Int) + (D.length : Int) = ((p + D.length : Nat) : Int) from by omega, hwr _ (by omega)]
          have hno : hstep ⟨neg, false, 0, 0, 3, D⟩ c = none := by
            unfold hstep; rw [hq, hnd]; simp
          rw [hgo, hno]
        · have hne : (D == ([] : List UInt8)) = false := by rw [beq_eq_false_iff_ne]; exact hz
          rw [bf (by rw [hne]; rfl)]
          have hstp : hstep ⟨neg, false, 0, 0, 4, D⟩ c = some ⟨neg, false, 0, 0, 8, D⟩ := by
            unfold hstep; rw [hq, hlow, hnd]; simp
          rw [hgo, hstp]
          simp only []
          rw [w64_id (n := (D.length : Int) + 1) (by omega), w64_id (by omega), show (p : Int) + ((D.length : Int) + 1) = ((p + D.length + 1 : Nat) : Int) from by omega]
          have := F304_14_ok (N := N) (t := t) (neg := neg) (D1 := D) (D2 := []) (p := p + D.length + 1) (E := R') hN ht (drop_cons (hpR.trans hR)).2.2.1 (by omega) (by simp; omega)
          rw [this, List.append_nil]
          rfl
      | false =>
        rw [hR, cutB_pass hpc]
        simp only []
        rw [cutB_pass hdot]
        simp only []
        have hfl : (D ++ c :: (cutB isDot (cutB isP R').1).1).length ≤ 1024 := by
          have h9 : (cutB isDot (cutB isP R').1).1.length ≤ R'.length := by
            have a1 : (cutB isP R').1.length ≤ R'.length := by
              rcases cutB_eq isP R' with ⟨c', v, k1, k2, k3, k4⟩ | ⟨k1, k2, k3⟩
              · have := congrArg List.length k3
                rw [List.length_append] at this
                omega
              · rw [k2]; exact Nat.le_refl _
            have a2 : (cutB isDot (cutB isP R').1).1.length ≤ (cutB isP R').1.length := by
              rcases cutB_eq isDot (cutB isP R').1 with ⟨c', v, k1, k2, k3, k4⟩ | ⟨k1, k2, k3⟩
              · have := congrArg List.length k3
                rw [List.length_append] at this
                omega
              · rw [k2]; exact Nat.le_refl _
            omega
          rw [List.length_append, List.length_cons]; omega
        rw [c3 _ hfl, bnd]
        unfold F304_9 F304_10
        rw [rnl_app h2, rnl_stop hq, bt (decide_eq_true (by rw [List.length_append, List.length_cons]; omega))]
        rw [show (p : Int) + ((D.length + 0 : Nat) : Int) = ((p + D.length : Nat) : Int) from by omega, hwr _ (by omega)]
        have hno : hstep ⟨neg, false, 0, 0, st, D⟩ c = none := by
          unfold hstep; rw [hq, hnd, isP_low, hpc]
          rcases hst with ⟨rfl, _⟩ | ⟨rfl, _⟩ <;> simp
        rw [hgo, hno]
end
end Go.Proofs.YfwaawGreat
