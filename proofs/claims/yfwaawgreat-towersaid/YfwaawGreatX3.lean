/-
  hexa.Scan = hmodel.Scan: the model's pieces.
-/
import Derived.Test.YfwaawGreatX2
namespace Go.Proofs.YfwaawGreat
open Go.Aw
set_option linter.unusedVariables false
set_option linter.unusedSimpArgs false

theorem spn (q : UInt8 → Bool) : ∀ s : List UInt8, ∃ D R, s = D ++ R ∧ (∀ c ∈ D, q c = true) ∧ (R = [] ∨ ∃ c R', R = c :: R' ∧ q c = false)
  | [] => ⟨[], [], rfl, (fun _ h => by cases h), Or.inl rfl⟩
  | c :: s => by
    cases hq : q c with
    | false => exact ⟨[], c :: s, rfl, (fun _ h => by cases h), Or.inr ⟨c, s, rfl, hq⟩⟩
    | true =>
      obtain ⟨D, R, h1, h2, h3⟩ := spn q s
      refine ⟨c :: D, R, by rw [h1]; rfl, ?_, h3⟩
      intro d hd
      rcases List.mem_cons.1 hd with k | k
      · rw [k]; exact hq
      · exact h2 d k
theorem cutB_app {q : UInt8 → Bool} {R : List UInt8} : ∀ {D : List UInt8}, (∀ c ∈ D, q c = false) → cutB q (D ++ R) = (D ++ (cutB q R).1, (cutB q R).2)
  | [], _ => rfl
  | c :: D, h => by
    rw [List.cons_append, cutB, h c (List.mem_cons_self ..), cutB_app fun d hd => h d (List.mem_cons_of_mem _ hd)]
    rfl
theorem cutB_nil {q : UInt8 → Bool} : cutB q [] = ([], none) := rfl
theorem cutB_hit {q : UInt8 → Bool} {c : UInt8} {R : List UInt8} (h : q c = true) : cutB q (c :: R) = ([], some R) := by rw [cutB, h]; rfl
theorem cutB_pass {q : UInt8 → Bool} {c : UInt8} {R : List UInt8} (h : q c = false) : cutB q (c :: R) = (c :: (cutB q R).1, (cutB q R).2) := by rw [cutB, h]; rfl
/-- How many bytes at the head satisfy q. -/
def rnl (q : UInt8 → Bool) : List UInt8 → Nat
  | [] => 0
  | c :: s => bif q c then rnl q s + 1 else 0
theorem rnl_app {q : UInt8 → Bool} {R : List UInt8} : ∀ {D : List UInt8}, (∀ c ∈ D, q c = true) → rnl q (D ++ R) = D.length + rnl q R
  | [], _ => by simp
  | c :: D, h => by
    rw [List.cons_append, rnl, h c (List.mem_cons_self ..), rnl_app fun d hd => h d (List.mem_cons_of_mem _ hd), List.length_cons, cond_true]; omega
theorem rnl_stop {q : UInt8 → Bool} {c : UInt8} {R : List UInt8} (h : q c = false) : rnl q (c :: R) = 0 := by rw [rnl, h]; rfl
theorem rnl_all {q : UInt8 → Bool} {D : List UInt8} (h : ∀ c ∈ D, q c = true) : rnl q D = D.length := by
  have := rnl_app (R := []) h
  rwa [List.append_nil, show rnl q [] = 0 from rfl] at this
theorem rnl_le (q : UInt8 → Bool) : ∀ s, rnl q s ≤ s.length
  | [] => Nat.le_refl _
  | c :: s => by
    rw [rnl, List.length_cons]
    have := rnl_le q s
    cases q c <;> simp <;> omega
theorem drop_cons {t : List UInt8} {p : Nat} {c : UInt8} {R : List UInt8} (h : t.drop p = c :: R) : p < t.length ∧ t.getD p 0 = c ∧ t.drop (p + 1) = R ∧ t[p]? = some c := by
  have hpl : p < t.length := by
    have := congrArg List.length h
    rw [List.length_drop, List.length_cons] at this; omega
  have hc : t[p]? = some c := by
    have := congrArg (fun l => l[0]?) h
    simpa using this
  refine ⟨hpl, ?_, ?_, hc⟩
  · rw [List.getD_eq_getElem?_getD, hc]; rfl
  · have := congrArg List.tail h
    rw [List.tail_drop] at this
    exact this
theorem drop_nil {t : List UInt8} {p : Nat} (h : t.drop p = []) (hp : p ≤ t.length) : p = t.length := by
  have := congrArg List.length h
  rw [List.length_drop, List.length_nil] at this; omega
theorem drop_app {t : List UInt8} {p : Nat} {D R : List UInt8} (h : t.drop p = D ++ R) : t.drop (p + D.length) = R := by
  rw [← List.drop_drop, h, List.drop_left]
theorem getD_cons (t : List UInt8) (p : Nat) (hp : p < t.length) : t.drop p = t.getD p 0 :: t.drop (p + 1) := by
  rw [List.drop_eq_getElem_cons hp, List.getD_eq_getElem?_getD, List.getElem?_eq_getElem hp]; rfl

/-- hmodel's cut. -/
theorem F381_ok {N : Nat} {s : List UInt8} {a b : Nat} (ha : a < 256) (hb : b < 256) (hs : s.length < N) (hl : s.length ≤ 1024) :
    F381 N s (BitVec.ofNat 8 a) (BitVec.ofNat 8 b) = some ((cutB (fun c => (c.toNat == a) || (c.toNat == b)) s).1, ((cutB (fun c => (c.toNat == a) || (c.toNat == b)) s).2.getD []), (cutB (fun c => (c.toNat == a) || (c.toNat == b)) s).2.isSome) := by
  generalize hq : (fun c : UInt8 => (c.toNat == a) || (c.toNat == b)) = q
  have key : ∀ (R : List UInt8) (M p : Nat), R.length < M → s.drop p = R → p ≤ s.length → (∀ c ∈ s.take p, q c = false) →
      iterL (F381_L1 N s (BitVec.ofNat 8 a) (BitVec.ofNat 8 b)) M (p : Int) = some ((cutB q s).1, ((cutB q s).2.getD []), (cutB q s).2.isSome) := by
    intro R
    induction R with
    | nil =>
      intro M p hM hR hp hall
      obtain ⟨M, rfl⟩ : ∃ K, M = K + 1 := ⟨M - 1, by omega⟩
      have hpl := drop_nil hR hp
      rw [iterL]
      unfold F381_L1 F381_L1b F381_2
      rw [bf (decide_eq_false (by omega))]
      rw [hpl, List.take_length] at hall
      have := cutB_app (R := []) hall
      rw [List.append_nil, cutB_nil, List.append_nil] at this
      rw [this]
      rfl
    | cons c R ih =>
      intro M p hM hR hp hall
      obtain ⟨M, rfl⟩ : ∃ K, M = K + 1 := ⟨M - 1, by omega⟩
      obtain ⟨hpl, hg, hR', hc⟩ := drop_cons hR
      have hsplit : s = s.take p ++ c :: R := by rw [← hR]; exact (List.take_append_drop p s).symm
      rw [iterL]
      unfold F381_L1 F381_L1b F381_2
      simp only [Int.toNat_natCast, hg]
      rw [bt (decide_eq_true (by omega)), bt (c := decide (0 ≤ (p : Int)) && decide ((p : Int) < (s.length : Int))) (by simp; omega), bt (c := decide (0 ≤ (p : Int)) && decide ((p : Int) < (s.length : Int))) (by simp; omega), u8_beq c a ha, u8_beq c b hb]
      have hqc : q c = ((c.toNat == a) || (c.toNat == b)) := by rw [← hq]
      have hmerge : (bif c.toNat == a then F381_3 N s (BitVec.ofNat 8 a) (BitVec.ofNat 8 b) (p : Int) true else F381_3 N s (BitVec.ofNat 8 a) (BitVec.ofNat 8 b) (p : Int) (c.toNat == b)) = F381_3 N s (BitVec.ofNat 8 a) (BitVec.ofNat 8 b) (p : Int) (q c) := by
        rw [hqc]; cases c.toNat == a <;> rfl
      rw [hmerge]
      cases hqq : q c with
      | true =>
        unfold F381_3
        rw [w64_id (by omega), bt rfl, bt (by simp; omega), bt (by simp; omega)]
        rw [show ((p : Int) + 1).toNat = p + 1 from by omega]
        simp only [Int.toNat_natCast, Int.toNat_zero, List.drop_zero, Nat.sub_zero, tk_all]
        rw [hR']
        have h2 := cutB_app (R := c :: R) hall
        rw [← hsplit, cutB_hit hqq, List.append_nil] at h2
        rw [h2]
        rfl
      | false =>
        unfold F381_3
        rw [w64_id (by omega), bf rfl]
        simp only []
        rw [show ((p : Int) + 1) = ((p + 1 : Nat) : Int) from by omega]
        refine ih M (p + 1) (by rw [List.length_cons] at hM; omega) hR' (by omega) ?_
        intro d hd
        rw [List.take_add_one, hc] at hd
        rcases List.mem_append.1 hd with k | k
        · exact hall d k
        · simp at k; rw [k]; exact hqq
  have := key s N 0 hs rfl (by omega) (by simp)
  unfold F381
  exact this

set_option maxRecDepth 10000 in
theorem hxB_low : ∀ c : UInt8, (decide (97 ≤ (c ||| 32).toNat) && decide ((c ||| 32).toNat ≤ 102)) = ((decide (97 ≤ c.toNat) && decide (c.toNat ≤ 102)) || (decide (65 ≤ c.toNat) && decide (c.toNat ≤ 70))) := by
  intro c
  have key : ∀ d : Fin 256, (decide (97 ≤ (UInt8.ofNat d.val ||| 32).toNat) && decide ((UInt8.ofNat d.val ||| 32).toNat ≤ 102)) = ((decide (97 ≤ (UInt8.ofNat d.val).toNat) && decide ((UInt8.ofNat d.val).toNat ≤ 102)) || (decide (65 ≤ (UInt8.ofNat d.val).toNat) && decide ((UInt8.ofNat d.val).toNat ≤ 70))) := by decide
  have := key ⟨c.toNat, c.toNat_lt⟩
  simpa using this
/-- hmodel's run. -/
theorem F382_ok {N : Nat} {s : List UInt8} {hx : Bool} (hs : s.length < N) (hl : s.length ≤ 1024) :
    F382 N s hx = some (rnl (fun c => bif hx then hxB c else dgB c) s : Int) := by
  generalize hq : (fun c : UInt8 => bif hx then hxB c else dgB c) = q
  have key : ∀ (R : List UInt8) (M p : Nat), R.length < M → s.drop p = R → p ≤ s.length → rnl q s = p + rnl q R →
      iterL (F382_L2 N s hx) M (p : Int) = some (rnl q s : Int) := by
    intro R
    induction R with
    | nil =>
      intro M p hM hR hp hall
      obtain ⟨M, rfl⟩ : ∃ K, M = K + 1 := ⟨M - 1, by omega⟩
      have hpl := drop_nil hR hp
      rw [iterL]
      unfold F382_L2 F382_L2b F382_3 F382_1
      rw [bf (decide_eq_false (by omega)), hall]
      simp [rnl]
    | cons c R ih =>
      intro M p hM hR hp hall
      obtain ⟨M, rfl⟩ : ∃ K, M = K + 1 := ⟨M - 1, by omega⟩
      obtain ⟨hpl, hg, hR', hc⟩ := drop_cons hR
      rw [iterL]
      unfold F382_L2 F382_L2b F382_3 F382_4 F382_5 F382_6 F382_1
      simp only [Int.toNat_natCast, hg]
      rw [bt (decide_eq_true (by omega)), bt (c := decide (0 ≤ (p : Int)) && decide ((p : Int) < (s.length : Int))) (by simp; omega)]
      have e1 : c.toBitVec.toNat = c.toNat := rfl
      have e2 : (c.toBitVec ||| 32#8).toNat = (c ||| 32).toNat := rfl
      have hqc : ((!((decide ((48#8).toNat ≤ c.toBitVec.toNat)) && (decide (c.toBitVec.toNat ≤ (57#8).toNat)))) && (!(hx && ((decide ((97#8).toNat ≤ (c.toBitVec ||| 32#8).toNat)) && (decide ((c.toBitVec ||| 32#8).toNat ≤ (102#8).toNat)))))) = !(q c) := by
        rw [e1, e2, ← hq]
        have h3 := hxB_low c
        rw [show (97#8).toNat = 97 from rfl, show (102#8).toNat = 102 from rfl, show (48#8).toNat = 48 from rfl, show (57#8).toNat = 57 from rfl, h3]
        unfold hxB dgB
        cases hx <;> simp [Bool.and_assoc]
      rw [hqc]
      cases hqq : q c with
      | true =>
        rw [w64_id (by omega)]
        simp only [Bool.not_true, cond_false]
        rw [show ((p : Int) + 1) = ((p + 1 : Nat) : Int) from by omega]
        refine ih M (p + 1) (by rw [List.length_cons] at hM; omega) hR' (by omega) ?_
        rw [hall, rnl, hqq, cond_true]; omega
      | false =>
        rw [hall, rnl, hqq]
        rfl
  have := key s N 0 hs rfl (by omega) (by simp)
  unfold F382
  exact this
end Go.Proofs.YfwaawGreat
