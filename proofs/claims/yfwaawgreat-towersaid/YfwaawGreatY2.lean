/-
  dec.Scan = dmodel.Scan: the model's pieces.
-/
import Derived.Test.YfwaawGreatY1
import Derived.Test.YfwaawGreatG10
namespace Go.Proofs.YfwaawGreat
open Go.Aw
set_option linter.unusedVariables false
set_option linter.unusedSimpArgs false

section
variable {N : Nat} {t : List UInt8}
/-- dmodel's digits. -/
theorem F403_ok {s : List UInt8} (hs : s.length < N) (hl : s.length ≤ 1024) : F403 N s = some (rnl dgB s : Int) := by
  have key : ∀ (R : List UInt8) (M p : Nat), R.length < M → s.drop p = R → p ≤ s.length → rnl dgB s = p + rnl dgB R →
      iterL (F403_L2 N s) M (p : Int) = some (rnl dgB s : Int) := by
    intro R
    induction R with
    | nil =>
      intro M p hM hR hp hall
      obtain ⟨M, rfl⟩ : ∃ K, M = K + 1 := ⟨M - 1, by omega⟩
      have hpl := drop_nil hR hp
      rw [iterL]
      unfold F403_L2 F403_L2b F403_3 F403_1
      rw [bf (decide_eq_false (by omega)), hall]
      simp [rnl]
    | cons c R ih =>
      intro M p hM hR hp hall
      obtain ⟨M, rfl⟩ : ∃ K, M = K + 1 := ⟨M - 1, by omega⟩
      obtain ⟨hpl, hg, hR', hc⟩ := drop_cons hR
      have hstep : F403_L2 N s (p : Int) = F403_3 N s (p : Int) (dgB c) := by
        unfold F403_L2 F403_L2b
        simp only [Int.toNat_natCast, hg]
        rw [bt (decide_eq_true (by omega)), bt (c := decide (0 ≤ (p : Int)) && decide ((p : Int) < (s.length : Int))) (by simp; omega), bt (c := decide (0 ≤ (p : Int)) && decide ((p : Int) < (s.length : Int))) (by simp; omega)]
        show (bif decide (48 ≤ c.toNat) then F403_3 N s (p : Int) (decide (c.toNat ≤ 57)) else F403_3 N s (p : Int) false) = _
        unfold dgB
        cases decide (48 ≤ c.toNat) <;> rfl
      rw [iterL, hstep]
      unfold F403_3 F403_1
      cases hqq : dgB c with
      | true =>
        rw [w64_id (by omega)]
        simp only [cond_true]
        rw [show ((p : Int) + 1) = ((p + 1 : Nat) : Int) from by omega]
        refine ih M (p + 1) (by rw [List.length_cons] at hM; omega) hR' (by omega) ?_
        rw [hall, rnl, hqq, cond_true]; omega
      | false =>
        rw [hall, rnl, hqq]
        rfl
  have := key s N 0 hs rfl (by omega) (by simp)
  unfold F403
  exact this
/-- dmodel's cut. -/
theorem F402_ok {s : List UInt8} {a b : Nat} (ha : a < 256) (hb : b < 256) (hs : s.length < N) (hl : s.length ≤ 1024) :
    F402 N s (BitVec.ofNat 8 a) (BitVec.ofNat 8 b) = some (bif (cutB (fun c => (c.toNat == a) || (c.toNat == b)) s).2.isSome then ((cutB (fun c => (c.toNat == a) || (c.toNat == b)) s).1.length : Int) else -1) := by
  generalize hq : (fun c : UInt8 => (c.toNat == a) || (c.toNat == b)) = q
  have key : ∀ (R : List UInt8) (M p : Nat), R.length < M → s.drop p = R → p ≤ s.length → (∀ c ∈ s.take p, q c = false) →
      iterL (F402_L1 N s (BitVec.ofNat 8 a) (BitVec.ofNat 8 b)) M (p : Int) = some (bif (cutB q s).2.isSome then ((cutB q s).1.length : Int) else -1) := by
    intro R
    induction R with
    | nil =>
      intro M p hM hR hp hall
      obtain ⟨M, rfl⟩ : ∃ K, M = K + 1 := ⟨M - 1, by omega⟩
      have hpl := drop_nil hR hp
      rw [iterL]
      unfold F402_L1 F402_L1b F402_2
      rw [bf (decide_eq_false (by omega))]
      rw [hpl, List.take_length] at hall
      have := cutB_app (R := []) hall
      rw [List.append_nil, cutB_nil, List.append_nil] at this
      rw [this]
      rfl
    | cons c R ih =>
      intro M p hM hR hp hall
      obtain ⟨M, rfl⟩ : ∃ K, M = K + 1 := ⟨M - 1, by omega⟩
      obtain ⟨hpl, hg, hR', hc⟩ := drop_cons hR
      have hsplit : s = s.take p ++ c :: R := by rw [← hR]; exact (List.take_append_drop p s).symm
      rw [iterL]
      unfold F402_L1 F402_L1b F402_2
      simp only [Int.toNat_natCast, hg]
      rw [bt (decide_eq_true (by omega)), bt (c := decide (0 ≤ (p : Int)) && decide ((p : Int) < (s.length : Int))) (by simp; omega), bt (c := decide (0 ≤ (p : Int)) && decide ((p : Int) < (s.length : Int))) (by simp; omega), u8_beq c a ha, u8_beq c b hb]
      have hqc : q c = ((c.toNat == a) || (c.toNat == b)) := by rw [← hq]
      have hmerge : (bif c.toNat == a then F402_3 N s (BitVec.ofNat 8 a) (BitVec.ofNat 8 b) (p : Int) true else F402_3 N s (BitVec.ofNat 8 a) (BitVec.ofNat 8 b) (p : Int) (c.toNat == b)) = F402_3 N s (BitVec.ofNat 8 a) (BitVec.ofNat 8 b) (p : Int) (q c) := by
        rw [hqc]; cases c.toNat == a <;> rfl
      rw [hmerge]
      cases hqq : q c with
      | true =>
        unfold F402_3
        rw [bt rfl]
        have h2 := cutB_app (R := c :: R) hall
        rw [← hsplit, cutB_hit hqq, List.append_nil] at h2
        rw [h2]
        simp only [Option.isSome_some, cond_true]
        rw [List.length_take, show min p s.length = p from by omega]
        rfl
      | false =>
        unfold F402_3
        rw [w64_id (by omega), bf rfl]
        simp only []
        rw [show ((p : Int) + 1) = ((p + 1 : Nat) : Int) from by omega]
        refine ih M (p + 1) (by rw [List.length_cons] at hM; omega) hR' (by omega) ?_
        intro d hd
        rw [List.take_add_one, hc] at hd
        rcases List.mem_append.1 hd with k | k
        · exact hall d k
        · simp at k; rw [k]; exact hqq
  have := key s N 0 hs rfl (by omega) (by simp)
  unfold F402
  exact this
/-- How many letters of a word stand at the head. -/
def mt : List UInt8 → List UInt8 → Nat
  | c :: s, d :: w => bif (c ||| 32).toNat == d.toNat then mt s w + 1 else 0
  | _, _ => 0
theorem mt_nil (s : List UInt8) : mt s [] = 0 := by cases s <;> rfl
theorem mt_le : ∀ s w, mt s w ≤ s.length
  | [], _ => Nat.le_refl _
  | c :: s, [] => by rw [mt_nil]; omega
  | c :: s, d :: w => by
    rw [mt, List.length_cons]
    have := mt_le s w
    cases (c ||| 32).toNat == d.toNat <;> simp <;> omega
theorem u8_beq2 (c d : UInt8) : ((c.toBitVec ||| 32#8) == d.toBitVec) = ((c ||| 32).toNat == d.toNat) := by
  have h := u8_beq (c ||| 32) d.toNat d.toNat_lt
  have e : BitVec.ofNat 8 d.toNat = d.toBitVec := by
    apply BitVec.eq_of_toNat_eq
    rw [BitVec.toNat_ofNat]
    show d.toNat % 2 ^ 8 = d.toNat
    have := d.toNat_lt
    omega
  rw [e] at h
  exact h
theorem F375_ok {s w : List UInt8} (hs : s.length < N) (hl : s.length ≤ 1024) (hwl : w.length ≤ 1024) : F375 N s w = some (mt s w : Int) := by
  have key : ∀ (R : List UInt8) (M p : Nat), R.length < M → s.drop p = R → p ≤ s.length → mt s w = p + mt R (w.drop p) →
      iterL (F375_L2 N s w) M (p : Int) = some (mt s w : Int) := by
    intro R
    induction R with
    | nil =>
      intro M p hM hR hp hall
      obtain ⟨M, rfl⟩ : ∃ K, M = K + 1 := ⟨M - 1, by omega⟩
      have hpl := drop_nil hR hp
      rw [iterL]
      unfold F375_L2 F375_L2b F375_3 F375_1
      rw [bf (decide_eq_false (by omega)), hall]
      simp [mt]
    | cons c R ih =>
      intro M p hM hR hp hall
      obtain ⟨M, rfl⟩ : ∃ K, M = K + 1 := ⟨M - 1, by omega⟩
      obtain ⟨hpl, hg, hR', hc⟩ := drop_cons hR
      by_cases hw : p < w.length
      · have hwd := getD_cons w p hw
        have hstep : F375_L2 N s w (p : Int) = F375_3 N s w (p : Int) ((c ||| 32).toNat == (w.getD p 0).toNat) := by
          unfold F375_L2 F375_L2b
          simp only [Int.toNat_natCast, hg]
          rw [bt (decide_eq_true (by omega)), bt (decide_eq_true (by omega)), bt (by simp; omega), bt (by simp; omega), u8_beq2]
        rw [iterL, hstep]
        unfold F375_3 F375_1
        rw [hwd, mt] at hall
        cases hqq : ((c ||| 32).toNat == (w.getD p 0).toNat) with
        | true =>
          rw [w64_id (by omega)]
          simp only [cond_true]
          rw [show ((p : Int) + 1) = ((p + 1 : Nat) : Int) from by omega]
          refine ih M (p + 1) (by rw [List.length_cons] at hM; omega) hR' (by omega) ?_
          rw [hall, hqq, cond_true]; omega
        | false =>
          rw [hall, hqq]
          rfl
      · have hstep : F375_L2 N s w (p : Int) = F375_3 N s w (p : Int) false := by
          unfold F375_L2 F375_L2b
          rw [bt (decide_eq_true (by omega)), bf (decide_eq_false (by omega))]
        rw [iterL, hstep]
        unfold F375_3 F375_1
        rw [hall, List.drop_eq_nil_of_le (by omega), mt_nil]
        rfl
  have := key s N 0 hs rfl (by omega) (by simp)
  unfold F375
  exact this
end
end Go.Proofs.YfwaawGreat
