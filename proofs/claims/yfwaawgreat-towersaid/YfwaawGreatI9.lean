/-
  native: order, lesser and greater.
-/
import Derived.Test.YfwaawGreatI8
import Derived.Test.YfwaawGreatC4
namespace Go.Proofs.YfwaawGreat
open Go.Aw
set_option linter.unusedVariables false
set_option linter.unusedSimpArgs false

section
variable {e m mode : BitVec 8} {f : Ieee.Format} {neg na nb : Bool} {x : BitVec 64} {N : Nat}
theorem cmpI (x y : Int) : compare x y = if x < y then .lt else if x = y then .eq else .gt := rfl
theorem cmpN (x y : Nat) : compare x y = if x < y then .lt else if x = y then .eq else .gt := rfl
/-- The ordering that a code tells. -/
def oc (i : Int) : Ordering := if i = -1 then .lt else if i = 0 then .eq else .gt
theorem oc_lt : oc (-1) = .lt := rfl
theorem oc_eq : oc 0 = .eq := rfl
theorem oc_gt : oc 1 = .gt := rfl
theorem cm_same {s : Bool} {P Q : Nat} (h : P = Q) : cm s P s Q = 0 := by unfold cm; rw [if_pos (Or.inr ⟨rfl, h⟩)]
theorem cm_zero {s t : Bool} {P Q : Nat} (h : P = 0 ∧ Q = 0) : cm s P t Q = 0 := by unfold cm; rw [if_pos (Or.inl h)]
theorem cm_flt {P Q : Nat} (h : P < Q) : cm false P false Q = -1 := by unfold cm; rw [if_neg (by omega), decide_eq_true h]; rfl
theorem cm_fgt {P Q : Nat} (h : Q < P) : cm false P false Q = 1 := by unfold cm; rw [if_neg (by omega), decide_eq_false (by omega)]; rfl
theorem cm_tlt {P Q : Nat} (h : P < Q) : cm true P true Q = 1 := by unfold cm; rw [if_neg (by omega), decide_eq_true h]; rfl
theorem cm_tgt {P Q : Nat} (h : Q < P) : cm true P true Q = -1 := by unfold cm; rw [if_neg (by omega), decide_eq_false (by omega)]; rfl
theorem cm_ft {P Q : Nat} (h : ¬ (P = 0 ∧ Q = 0)) : cm false P true Q = 1 := by
  unfold cm
  rw [if_neg (fun g => by rcases g with g | g; exact h g; exact absurd g.1 (by decide))]
  rfl
theorem cm_tf {P Q : Nat} (h : ¬ (P = 0 ∧ Q = 0)) : cm true P false Q = -1 := by
  unfold cm
  rw [if_neg (fun g => by rcases g with g | g; exact h g; exact absurd g.1 (by decide))]
  rfl
/-- Any rung below infinity is a number in units of the least place. -/
theorem Kd.rany (k : Kd e m f) {P : Nat} (hP : P < infP e.toNat m.toNat) : ∃ mag place, f.read (P + sgn e.toNat m.toNat neg) = .number neg mag place ∧ f.leastPlace ≤ place ∧ mag * 2 ^ (place - f.leastPlace).toNat = uv m.toNat P ∧ place ≤ (bia e.toNat : Int) - m.toNat := by
  by_cases c : P = 0
  · subst c
    have hb := bia_ge k.fm.e2
    have hl := k.lp
    rw [Nat.zero_add]
    exact ⟨0, f.leastPlace, k.rzero, by omega, by rw [Nat.zero_mul, uv_zero], by omega⟩
  · obtain ⟨mag, place, h1, h2⟩ := k.rnum (neg := neg) (show 0 < P by omega) hP
    exact ⟨mag, place, h1, h2.pl, h2.u, h2.ph⟩
theorem ord_cm (k : Kd e m f) {P Q : Nat} (hP : P ≤ infP e.toNat m.toNat) (hQ : Q ≤ infP e.toNat m.toNat) : f.order (P + sgn e.toNat m.toNat na) (Q + sgn e.toNat m.toNat nb) = some (oc (cm na P nb Q)) := by
  have hip := infP_pos k.fm
  have hpm := pow_pos2 m.toNat
  unfold Ieee.Format.order
  rcases Nat.eq_or_lt_of_le hP with hP | hP <;> rcases Nat.eq_or_lt_of_le hQ with hQ | hQ
  · rw [hP, hQ, k.rinf, k.rinf]
    generalize infP e.toNat m.toNat = I at *
    show some (compare nb.toNat na.toNat) = _
    have hI : ¬ (I = 0 ∧ I = 0) := by omega
    cases na <;> cases nb
    · rw [cm_same rfl]; rfl
    · rw [cm_ft hI]; rfl
    · rw [cm_tf hI]; rfl
    · rw [cm_same rfl]; rfl
  · obtain ⟨mb, pb, h1, h2, h3, h4⟩ := k.rany (neg := nb) hQ
    rw [hP, k.rinf, h1]
    generalize infP e.toNat m.toNat = I at *
    show some (if na = true then Ordering.lt else Ordering.gt) = _
    have hI : ¬ (I = 0 ∧ Q = 0) := by omega
    cases na <;> cases nb
    · rw [cm_fgt hQ]; rfl
    · rw [cm_ft hI]; rfl
    · rw [cm_tf hI]; rfl
    · rw [cm_tgt hQ]; rfl
  · obtain ⟨ma, pa, h1, h2, h3, h4⟩ := k.rany (neg := na) hP
    rw [hQ, k.rinf, h1]
    generalize infP e.toNat m.toNat = I at *
    show some (if nb = true then Ordering.gt else Ordering.lt) = _
    have hI : ¬ (P = 0 ∧ I = 0) := by omega
    cases na <;> cases nb
    · rw [cm_flt hP]; rfl
    · rw [cm_ft hI]; rfl
    · rw [cm_tf hI]; rfl
    · rw [cm_tlt hP]; rfl
  · obtain ⟨ma, pa, h1, h2, h3, h4⟩ := k.rany (neg := na) hP
    obtain ⟨mb, pb, g1, g2, g3, g4⟩ := k.rany (neg := nb) hQ
    rw [h1, g1]
    obtain ⟨base, hbase⟩ : ∃ base, base = min pa pb := ⟨_, rfl⟩
    show some (compare (Ieee.signed na ma (pa - min pa pb).toNat) (Ieee.signed nb mb (pb - min pa pb).toNat)) = _
    rw [← hbase]
    obtain ⟨A, hA⟩ : ∃ A, A = ma * 2 ^ (pa - base).toNat := ⟨_, rfl⟩
    obtain ⟨B, hB⟩ : ∃ B, B = mb * 2 ^ (pb - base).toNat := ⟨_, rfl⟩
    obtain ⟨U, hU⟩ : ∃ U, U = 2 ^ (base - f.leastPlace).toNat := ⟨_, rfl⟩
    have hUp : 0 < U := by rw [hU]; exact pow_pos2 _
    have e1 : A * U = uv m.toNat P := by
      rw [← h3, hA, hU, Nat.mul_assoc, ← Nat.pow_add]; exact congrArg (fun t => ma * 2 ^ t) (by omega)
    have e2 : B * U = uv m.toNat Q := by
      rw [← g3, hB, hU, Nat.mul_assoc, ← Nat.pow_add]; exact congrArg (fun t => mb * 2 ^ t) (by omega)
    have l1 : A < B ↔ P < Q := by
      rw [← uv_lt_iff (M := m.toNat) (P := P) (Q := Q), ← e1, ← e2]
      exact ⟨fun h => Nat.mul_lt_mul_of_pos_right h hUp, fun h => Nat.lt_of_mul_lt_mul_right h⟩
    have l2 : A = B ↔ P = Q := by
      rw [← uv_eq_iff (M := m.toNat) (P := P) (Q := Q), ← e1, ← e2]
      exact ⟨fun h => by rw [h], fun h => Nat.mul_right_cancel hUp h⟩
    have l3 : A = 0 ↔ P = 0 := by
      rw [← uv_eq_iff (M := m.toNat) (P := P) (Q := 0), uv_zero, ← e1]
      exact ⟨fun h => by rw [h, Nat.zero_mul], fun h => by
        rcases Nat.mul_eq_zero.1 h with z | z
        · exact z
        · omega⟩
    have l4 : B = 0 ↔ Q = 0 := by
      rw [← uv_eq_iff (M := m.toNat) (P := Q) (Q := 0), uv_zero, ← e2]
      exact ⟨fun h => by rw [h, Nat.zero_mul], fun h => by
        rcases Nat.mul_eq_zero.1 h with z | z
        · exact z
        · omega⟩
    have hf : ∀ (q : Nat) (u : Int), Ieee.signed false q u.toNat = ((q * 2 ^ u.toNat : Nat) : Int) := fun q u => by
      unfold Ieee.signed; rw [if_neg (by decide), Nat.shiftLeft_eq]
    have ht : ∀ (q : Nat) (u : Int), Ieee.signed true q u.toNat = -((q * 2 ^ u.toNat : Nat) : Int) := fun q u => by
      unfold Ieee.signed; rw [if_pos rfl, Nat.shiftLeft_eq]
    clear h1 g1 h2 g2 h3 g3 h4 g4 hU e1 e2
    rw [cmpI]
    cases na <;> cases nb
    · rw [hf, hf, ← hA, ← hB]
      rcases Nat.lt_trichotomy P Q with c | c | c
      · rw [if_pos (by omega), cm_flt c]; rfl
      · rw [if_neg (by omega), if_pos (by omega), cm_same c]; rfl
      · rw [if_neg (by omega), if_neg (by omega), cm_fgt c]; rfl
    · rw [hf, ht, ← hA, ← hB]
      by_cases c : P = 0 ∧ Q = 0
      · rw [if_neg (by omega), if_pos (by omega), cm_zero c]; rfl
      · rw [if_neg (by omega), if_neg (by omega), cm_ft c]; rfl
    · rw [ht, hf, ← hA, ← hB]
      by_cases c : P = 0 ∧ Q = 0
      · rw [if_neg (by omega), if_pos (by omega), cm_zero c]; rfl
      · rw [if_pos (by omega), cm_tf c]; rfl
    · rw [ht, ht, ← hA, ← hB]
      rcases Nat.lt_trichotomy P Q with c | c | c
      · rw [if_neg (by omega), if_neg (by omega), cm_tlt c]; rfl
      · rw [if_neg (by omega), if_pos (by omega), cm_same c]; rfl
      · rw [if_pos (by omega), cm_tgt c]; rfl
/-- A pattern is a NaN, or a rung and a sign. -/
theorem Kd.cls (k : Kd e m f) (x : BitVec 64) :
    ((∃ s t, f.read (wd e m x) = .nan s t) ∧ (F65 e m x).2.1 = 4) ∨
    (∃ P s, P ≤ infP e.toNat m.toNat ∧ wd e m x = P + sgn e.toNat m.toNat s ∧ (F65 e m x).2.1 ≠ 4 ∧ (F65 e m x).1 = s ∧ (f.read (wd e m x)).isNaN = false ∧ ((F65 e m x).2.1 = 3 ↔ P = infP e.toNat m.toNat)) := by
  rcases k.opn x with ⟨ng, s, t, h1, h2, h3⟩ | ⟨neg, h1, h2, h3, h4⟩ | ⟨neg, h1, h2, h3, h4⟩ | ⟨neg, c, ex, man, P, mag, place, h1, h2, h3⟩
  · exact Or.inl ⟨⟨s, t, h1⟩, by rw [h2]⟩
  · refine Or.inr ⟨infP e.toNat m.toNat, neg, Nat.le_refl _, ?_, by rw [h2]; simp, by rw [h2], by rw [h1]; rfl, by rw [h2]; simp⟩
    unfold wd; rw [h3, F67_ok k.fm]
  · refine Or.inr ⟨0, neg, Nat.zero_le _, ?_, by rw [h2]; simp, by rw [h2], by rw [h1]; rfl, ?_⟩
    · unfold wd; rw [h3, F251_ok k.fm, Nat.zero_add]
    · rw [h2]
      have := infP_pos k.fm
      have := pow_pos2 m.toNat
      constructor
      · intro z; exact absurd z (by simp)
      · intro z; omega
  · refine Or.inr ⟨P, neg, Nat.le_of_lt h2.pi, h2.xm, ?_, by rw [h2.f65], by rw [h1]; rfl, ?_⟩
    · rw [h2.f65]; rcases h2.c12 with z | z <;> rw [z] <;> simp
    · rw [h2.f65]
      have := h2.pi
      constructor
      · intro z; rcases h2.c12 with y | y <;> rw [y] at z <;> exact absurd z (by simp)
      · intro z; omega
theorem ord_nanl {X Y : Nat} (h : ∃ s t, f.read X = .nan s t) : f.order X Y = none := by
  obtain ⟨s, t, h⟩ := h
  unfold Ieee.Format.order
  rw [h]; rfl
theorem ord_nanr {X Y : Nat} (h : ∃ s t, f.read Y = .nan s t) : f.order X Y = none := by
  obtain ⟨s, t, h⟩ := h
  unfold Ieee.Format.order
  rw [h]
  cases f.read X <;> rfl
/-- exact.Cmp is the model's order. -/
theorem ncmp_ok (k : Kd e m f) (a b : BitVec 64) : (F88 e m a b = 2 ∧ f.order (wd e m a) (wd e m b) = none) ∨ ((F88 e m a b = 0 ∨ F88 e m a b = -1 ∨ F88 e m a b = 1) ∧ f.order (wd e m a) (wd e m b) = some (oc (F88 e m a b))) := by
  rcases k.cls a with ⟨h1, h2⟩ | ⟨P, s, hP, hw, h4, hs, hn, _⟩
  · exact Or.inl ⟨F88_nan k.fm (Or.inl h2), ord_nanl h1⟩
  · rcases k.cls b with ⟨g1, g2⟩ | ⟨Q, t, hQ, gw, g4, gt, gn, _⟩
    · exact Or.inl ⟨F88_nan k.fm (Or.inr g2), ord_nanr g1⟩
    · right
      have h := F88_ok k.fm (a := a) (b := b) (na := s) (nb := t) (P := P) (Q := Q) (ca := (F65 e m a).2.1) (cb := (F65 e m b).2.1) (ea := (F65 e m a).2.2.1) (eb := (F65 e m b).2.2.1) (ma := (F65 e m a).2.2.2) (mb := (F65 e m b).2.2.2) (by rw [← hs]) (by rw [← gt]) (by rw [beq_eq_false_iff_ne]; exact h4) (by rw [beq_eq_false_iff_ne]; exact g4) hw gw hP hQ
      rw [h, hw, gw, ord_cm k hP hQ]
      exact ⟨cm_cases s P t Q, rfl⟩
end
end Go.Proofs.YfwaawGreat
