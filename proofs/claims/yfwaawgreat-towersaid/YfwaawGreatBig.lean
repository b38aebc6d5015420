/-
  Package nat on numbers: the contracts of the walked functions, from the plain laws on limbs.
-/
import Derived.Test.YfwaawGreatPn7
namespace Go.Proofs.YfwaawGreat
open Go.Aw
set_option linter.unusedVariables false

theorem vl_front (f : Nat → BitVec 32) (n : Nat) : vl (n + 1) f = (f 0).toNat + 4294967296 * vl n (fun i => f (i + 1)) := by
  rw [Nat.add_comm n 1, vl_split (f := f) (j := 1) n]
  have e : win 1 f = fun i => f (i + 1) := by funext i; show f (1 + i) = _; rw [Nat.add_comm]
  rw [e]
  simp only [vl, Nat.mul_zero, Nat.pow_zero, Nat.mul_one, Nat.zero_add]
  rw [Nat.mul_comm, p32]
theorem val_list : ∀ ls : List (BitVec 32), vl ls.length (fun i => ls.getD i 0#32) = val ls
  | [] => rfl
  | x :: ls => by
    rw [List.length_cons, vl_front, val, ← val_list ls]
    rfl
theorem val_map (f : Nat → BitVec 32) : ∀ n : Nat, val ((List.range n).map f) = vl n f
  | 0 => rfl
  | n + 1 => by
    rw [List.range_succ_eq_map, List.map_cons, val, vl_front, List.map_map]
    congr 2
    exact val_map (fun i => f (i + 1)) n

theorem big_ns {n : Nat} {H : PH} {v : Value} (h : (big n).p H v) : ∃ x, NN x ∧ vN x = n ∧ (ns U32 x).p H v := by
  obtain ⟨ls, h1, h2, ⟨h3, h4⟩ | ⟨h3, b, off, cap, arr, ty, fz, h4, h5, h6, h7⟩⟩ := h
  · subst h3
    exact ⟨(true, 0, fun _ => 0#32), NN_nil, h1, .inl ⟨rfl, rfl, h4⟩⟩
  · refine ⟨(false, ls.length, fun i => ls.getD i 0#32), .inr ⟨rfl, List.length_pos_iff.2 h3, ?_⟩, by rw [← h1]; exact val_list ls, .inr ⟨rfl, b, off, cap, arr, ty, fz, h4, h5, h6, ?_⟩⟩
    · show ls.getD (ls.length - 1) 0#32 ≠ 0#32
      have hlt : ls.length - 1 < ls.length := by have := List.length_pos_iff.2 h3; omega
      have e : ls.getLast? = some (ls.getD (ls.length - 1) 0#32) := by
        rw [List.getLast?_eq_getElem?, List.getD_eq_getElem?_getD, List.getElem?_eq_getElem hlt]; rfl
      exact h2 _ e
    · intro i hi
      refine h7 i _ ?_
      show ls[i]? = some (ls.getD i 0#32)
      rw [List.getD_eq_getElem?_getD, List.getElem?_eq_getElem hi]; rfl

theorem ns_big {x : NS (BitVec 32)} {H : PH} {v : Value} (hn : NN x) (h : (ns U32 x).p H v) : (big (vN x)).p H v := by
  rcases h with ⟨h1, h2, h3⟩ | ⟨h1, b, off, cap, arr, ty, fz, h4, h5, h6, h7⟩
  · have : vN x = 0 := by unfold vN; rw [h2]; rfl
    rw [this, h3]; exact big_nil H
  · rcases hn with hn | ⟨_, hp, ht⟩
    · rw [h1] at hn; exact absurd hn.1 (by decide)
    · have hlen : ((List.range x.2.1).map x.2.2).length = x.2.1 := by simp
      refine ⟨(List.range x.2.1).map x.2.2, val_map _ _, ?_, .inr ⟨?_, b, off, cap, arr, ty, fz, ?_, h5, by rw [hlen]; exact h6, ?_⟩⟩
      · intro y hy
        rw [List.getLast?_eq_getElem?, hlen] at hy
        have : ((List.range x.2.1).map x.2.2)[x.2.1 - 1]? = some (x.2.2 (x.2.1 - 1)) := by
          rw [List.getElem?_map, List.getElem?_range (by omega)]; rfl
        rw [this] at hy
        cases hy; exact ht
      · intro e
        rw [← List.length_eq_zero_iff, hlen] at e; omega
      · rw [hlen]; exact h4
      · intro i y hy
        rcases Nat.lt_or_ge i x.2.1 with hi | hi
        · rw [List.getElem?_map, List.getElem?_range hi] at hy
          simp only [Option.map_some, Option.some.injEq] at hy
          subst hy; exact h7 i hi
        · rw [List.getElem?_eq_none (by rw [hlen]; exact hi)] at hy; cases hy

theorem Fn_res {f : FuncId} {args : List AV} {res res' : AV} (h : Aw.Fn Hfaa.prog f args res) (hr : ∀ H v, res.p H v → res'.p H v) : Aw.Fn Hfaa.prog f args res' :=
  fun w H vs hH ha => (h w H vs hH ha).mono fun e w' ⟨v, h1, h2, h3⟩ => ⟨v, h1, hr _ _ h2, h3⟩
theorem Fn_arg {f : FuncId} {args' : List AV} {res : AV} (h : ∀ H vs, All2 H args' vs → ∃ args, Aw.Fn Hfaa.prog f args res ∧ All2 H args vs) : Aw.Fn Hfaa.prog f args' res :=
  fun w H vs hH ha => by
    obtain ⟨args, hf, h2⟩ := h H vs ha
    exact hf w H vs hH h2
/-- One number ahead. -/
theorem Fn_b1 {f : FuncId} {a : Nat} {l : List AV} {res : AV} (h : ∀ x, NN x → vN x = a → Aw.Fn Hfaa.prog f (ns U32 x :: l) res) : Aw.Fn Hfaa.prog f (big a :: l) res :=
  Fn_arg fun H vs hv => by
    match vs, hv with
    | v :: vs, ⟨h1, h2⟩ =>
      obtain ⟨x, e1, e2, e3⟩ := big_ns h1
      exact ⟨_, h x e1 e2, e3, h2⟩
theorem Fn_b2 {f : FuncId} {a b : Nat} {res : AV} (h : ∀ x y, NN x → vN x = a → NN y → vN y = b → Aw.Fn Hfaa.prog f [ns U32 x, ns U32 y] res) : Aw.Fn Hfaa.prog f [big a, big b] res :=
  Fn_arg fun H vs hv => by
    match vs, hv with
    | [v, u], ⟨h1, h2, h3⟩ =>
      obtain ⟨x, e1, e2, e3⟩ := big_ns h1
      obtain ⟨y, f1, f2, f3⟩ := big_ns h2
      exact ⟨_, h x y e1 e2 f1 f2, e3, f3, h3⟩
theorem Fn_rb {f : FuncId} {args : List AV} {r : NS (BitVec 32)} {n : Nat} (hn : NN r) (hv : vN r = n) (h : Aw.Fn Hfaa.prog f args (ns U32 r)) : Aw.Fn Hfaa.prog f args (big n) :=
  Fn_res h fun H v hp => by rw [← hv]; exact ns_big hn hp
theorem Fn_rb1 {f : FuncId} {args : List AV} {r : NS (BitVec 32)} {n : Nat} {l : List AV} (hn : NN r) (hv : vN r = n) (h : Aw.Fn Hfaa.prog f args (tup (ns U32 r :: l))) : Aw.Fn Hfaa.prog f args (tup (big n :: l)) :=
  Fn_res h fun H v hp => by
    obtain ⟨vs, e, ha⟩ := hp
    match vs, ha with
    | u :: us, ⟨h1, h2⟩ => exact ⟨u :: us, e, by rw [← hv]; exact ns_big hn h1, h2⟩
theorem Fn_rb2 {f : FuncId} {args : List AV} {r : NS (BitVec 32)} {n : Nat} {a : AV} {l : List AV} (hn : NN r) (hv : vN r = n) (h : Aw.Fn Hfaa.prog f args (tup (a :: ns U32 r :: l))) : Aw.Fn Hfaa.prog f args (tup (a :: big n :: l)) :=
  Fn_res h fun H v hp => by
    obtain ⟨vs, e, ha⟩ := hp
    match vs, ha with
    | t :: u :: us, ⟨h0, h1, h2⟩ => exact ⟨t :: u :: us, e, h0, by rw [← hv]; exact ns_big hn h1, h2⟩

theorem lim_len {x : NS (BitVec 32)} {a : Nat} (hn : NN x) (hv : vN x = a) (h : lim a = true) : x.2.1 ≤ 32768 :=
  hn.len (by rw [hv]; simpa [lim] using h)

theorem B20 (a0 : BitVec 64) : Aw.Fn Hfaa.prog 20 [is (U64 a0)] (big a0.toNat) := by
  obtain ⟨r, e, h1, h2⟩ := F20_ok (N := 3) a0 (by decide)
  exact Fn_rb h1 h2 (C20 3 a0 r e.symm)
theorem B22 (a0 : Nat) (a1 : Nat) (h : (lim a0 && lim a1) = true) : Aw.Fn Hfaa.prog 22 [big a0, big a1] (big (a0 * a1)) := by
  rw [Bool.and_eq_true] at h
  refine Fn_b2 fun x y hx ex hy ey => ?_
  have lx := lim_len hx ex h.1
  have ly := lim_len hy ey h.2
  obtain ⟨r, e, h1, h2⟩ := F22_ok (N := 5000000000) hx.ok hy.ok (by omega) (by omega) (by omega)
  exact Fn_rb h1 (by rw [h2, ex, ey]) (C22 _ x y r e.symm)
theorem B34 (a0 : Nat) (h : (lim a0) = true) : Aw.Fn Hfaa.prog 34 [big a0] (is (I64 (blen a0 : Int))) := by
  refine Fn_b1 fun x hx ex => ?_
  have lx := lim_len hx ex h
  have e := F34_ok (N := 5000000000) hx.ok (by omega) (by omega)
  rw [← ex]
  exact C34 _ x _ e.symm
theorem B35 (a0 : Nat) (a1 : Nat) (h : (lim a0 && lim a1) = true) : Aw.Fn Hfaa.prog 35 [big a0, big a1] (tup [big (a0 / a1), big (nmod a0 a1), is (Bl (a1 != 0))]) := by
  rw [Bool.and_eq_true] at h
  refine Fn_b2 fun x y hx ex hy ey => ?_
  have lx := lim_len hx ex h.1
  have ly := lim_len hy ey h.2
  obtain ⟨q, r, e, h1, h2, h3, h4⟩ := F35_ok (N := 5000000000) hx.ok hy.ok (by omega) (by omega) (by omega)
  rw [← ex, ← ey]
  exact Fn_rb1 h1 h3 (Fn_rb2 h2 h4 (C35 _ x y (q, r, _) e.symm))
theorem B36 (a0 : Nat) (a1 : BitVec 16) (h : (lim a0) = true) : Aw.Fn Hfaa.prog 36 [big a0, is (U16 a1)] (big (a0 * 2 ^ a1.toNat)) := by
  refine Fn_b1 fun x hx ex => ?_
  have lx := lim_len hx ex h
  obtain ⟨r, e, h1, h2⟩ := F36_ok (N := 5000000000) (k := a1) hx.ok (by omega) (by omega)
  exact Fn_rb h1 (by rw [h2, ex]) (C36 _ x a1 r e.symm)
theorem B37 (a0 : Nat) (h : (decide (a0 < 2 ^ 128)) = true) : Aw.Fn Hfaa.prog 37 [big a0] (agg [is (U64 (BitVec.ofNat 64 (a0 / 2 ^ 64))), is (U64 (BitVec.ofNat 64 a0))]) := by
  refine Fn_b1 fun x hx ex => ?_
  have e := F37_ok (N := 6) hx (by rw [ex]; simpa using h) (by decide)
  rw [ex] at e
  exact C37 _ x _ e.symm
theorem B38 (a0 : Nat) (a1 : BitVec 16) (h : (lim a0) = true) : Aw.Fn Hfaa.prog 38 [big a0, is (U16 a1)] (tup [big (a0 / 2 ^ a1.toNat), is (Bl (a0 % 2 ^ a1.toNat != 0))]) := by
  refine Fn_b1 fun x hx ex => ?_
  have lx := lim_len hx ex h
  obtain ⟨r, e, h1, h2⟩ := F38_ok (N := 5000000000) (k := a1) hx.ok (by omega) (by omega)
  rw [← ex]
  exact Fn_rb1 h1 h2 (C38 _ x a1 (r, _) e.symm)
theorem B55 (a0 : BitVec 16) : Aw.Fn Hfaa.prog 55 [is (U16 a0)] (big (5 ^ a0.toNat)) := by
  obtain ⟨r, e, h1, h2⟩ := F55_ok (N := 20001) a0 (by decide)
  exact Fn_rb h1 h2 (C55 _ a0 r e.symm)
theorem B60 (a0 : Nat) (a1 : Nat) (h : (lim a0 && lim a1) = true) : Aw.Fn Hfaa.prog 60 [big a0, big a1] (is (I8 (ncmp a0 a1))) := by
  rw [Bool.and_eq_true] at h
  refine Fn_b2 fun x y hx ex hy ey => ?_
  have lx := lim_len hx ex h.1
  have ly := lim_len hy ey h.2
  have e := F60_ok (N := 5000000000) hx.ok hy.ok (by omega) (by omega) (by omega) (by omega)
  rw [← ex, ← ey]
  exact C60 _ x y _ e.symm
theorem B61 (a0 : Nat) (h : (lim a0) = true) : Aw.Fn Hfaa.prog 61 [big a0] (big a0) := by
  refine Fn_b1 fun x hx ex => ?_
  have lx := lim_len hx ex h
  obtain ⟨r, e, h1, h2⟩ := F61_ok (N := 5000000000) hx.ok (by omega) (by omega)
  exact Fn_rb h1 (by rw [h2, ex]) (C61 _ x r e.symm)
theorem B210 (a0 : Nat) (h : (lim a0) = true) : Aw.Fn Hfaa.prog 210 [big a0] (is (U64 (BitVec.ofNat 64 a0))) := by
  refine Fn_b1 fun x hx ex => ?_
  have e := F210_ok (N := 0) (a := x)
  rw [← ex]
  exact C210 _ x _ e.symm
theorem B253 (a0 : Nat) (a1 : Nat) (h : (lim a0 && lim a1) = true) : Aw.Fn Hfaa.prog 253 [big a0, big a1] (big (a0 + a1)) := by
  rw [Bool.and_eq_true] at h
  refine Fn_b2 fun x y hx ex hy ey => ?_
  have lx := lim_len hx ex h.1
  have ly := lim_len hy ey h.2
  obtain ⟨r, e, h1, h2⟩ := F253_ok (N := 5000000000) hx.ok hy.ok (by omega) (by omega) (by omega) (by omega)
  exact Fn_rb h1 (by rw [h2, ex, ey]) (C253 _ x y r e.symm)
theorem B254 (a0 : Nat) (a1 : Nat) (h : (lim a0 && lim a1) = true) : Aw.Fn Hfaa.prog 254 [big a0, big a1] (tup [big (a0 - a1), is (Bl (decide (a1 ≤ a0)))]) := by
  rw [Bool.and_eq_true] at h
  refine Fn_b2 fun x y hx ex hy ey => ?_
  have lx := lim_len hx ex h.1
  have ly := lim_len hy ey h.2
  obtain ⟨r, e, h1, h2⟩ := F254_ok (N := 5000000000) hx.ok hy.ok (by omega) (by omega) (by omega) (by omega)
  rw [← ex, ← ey]
  exact Fn_rb1 h1 h2 (C254 _ x y (r, _) e.symm)
theorem B278 (a0 : Nat) (a1 : Int) (h : (lim a0 && i64ok a1) = true) : Aw.Fn Hfaa.prog 278 [big a0, is (I64 a1)] (is (Bl (nbit a0 a1))) := by
  rw [Bool.and_eq_true] at h
  refine Fn_b1 fun x hx ex => ?_
  have lx := lim_len hx ex h.1
  have hi : -9223372036854775808 ≤ a1 ∧ a1 < 9223372036854775808 := by
    have := h.2
    simp only [i64ok, Bool.and_eq_true, decide_eq_true_eq] at this
    omega
  have e := F278_ok (N := 0) (a := x) (by omega) hi
  rw [← ex]
  exact C278 _ x a1 _ e.symm
theorem B359 (a0 : Nat) (h : (lim a0) = true) : Aw.Fn Hfaa.prog 359 [big a0] (big (a0 + 1)) := by
  refine Fn_b1 fun x hx ex => ?_
  have lx := lim_len hx ex h
  obtain ⟨r, e, h1, h2⟩ := F359_ok (N := 5000000000) hx.ok (by omega) (by omega)
  exact Fn_rb h1 (by rw [h2, ex]) (C359 _ x r e.symm)
theorem B360 (a0 : Nat) (h : (lim a0) = true) : Aw.Fn Hfaa.prog 360 [big a0] (tup [big (isq a0), is (Bl (isq a0 * isq a0 == a0))]) := by
  refine Fn_b1 fun x hx ex => ?_
  have lx := lim_len hx ex h
  obtain ⟨r, e, h1, h2⟩ := F360_ok (N := 2 ^ (32 * x.2.1 + 1) + 4294967301) hx.ok (by omega) (Nat.lt_of_lt_of_le (by decide) (Nat.le_add_left _ _)) (Nat.lt_add_of_pos_right (by decide))
  rw [← ex]
  exact Fn_rb1 h1 h2 (C360 _ x (r, _) e.symm)
end Go.Proofs.YfwaawGreat
