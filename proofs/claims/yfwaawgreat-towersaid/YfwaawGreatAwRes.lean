/-
  What a function hands back: temporaries and cells.
-/
import Derived.Test.YfwaawGreatAwGen
namespace Go.Aw
open Go.RowKit

def resVar (tmps : Array Value) : ResultVar → Sem Value
  | .tmp t => pure (tmps.getD t undef)
  | .cell a t => do loadVar t (← asAddr (tmps.getD a undef))

section
variable {P : Program}

theorem run_res1 {fn : Func} {x : ResultVar} {tmps : Array Value} {w : World} {v : Value} (h : fn.results = #[x]) (hx : (resVar tmps x).run P w = .ok v w) : (results fn tmps).run P w = .ok v w := by
  have e : results fn tmps = resVar tmps x := by
    simp only [results, h]
    cases x <;> simp [resVar]
  rw [e]; exact hx

theorem run_res2 {fn : Func} {x y : ResultVar} {tmps : Array Value} {w : World} {v v' : Value} (h : fn.results = #[x, y]) (hx : (resVar tmps x).run P w = .ok v w) (hy : (resVar tmps y).run P w = .ok v' w) : (results fn tmps).run P w = .ok (.tuple #[v, v']) w := by
  have e : results fn tmps = (do let a ← resVar tmps x; let b ← resVar tmps y; pure (.tuple #[a, b])) := by
    simp only [results, h]
    cases x <;> cases y <;> simp [resVar]
  rw [e, Sem.run_bind, hx, Result.andThen_ok, Sem.run_bind, hy]; rfl

theorem run_res3 {fn : Func} {x y z : ResultVar} {tmps : Array Value} {w : World} {v v' v'' : Value} (h : fn.results = #[x, y, z]) (hx : (resVar tmps x).run P w = .ok v w) (hy : (resVar tmps y).run P w = .ok v' w) (hz : (resVar tmps z).run P w = .ok v'' w) : (results fn tmps).run P w = .ok (.tuple #[v, v', v'']) w := by
  have e : results fn tmps = (do let a ← resVar tmps x; let b ← resVar tmps y; let c ← resVar tmps z; pure (.tuple #[a, b, c])) := by
    simp only [results, h]
    cases x <;> cases y <;> cases z <;> simp [resVar]
  rw [e, Sem.run_bind, hx, Result.andThen_ok, Sem.run_bind, hy, Result.andThen_ok, Sem.run_bind, hz]; rfl

/-- One result variable. -/
def RV (P : Program) (s : St) (x : ResultVar) (av : AV) : Prop :=
  ∀ (B : Base) (bn : Nat → Loc) (a : Act) (w : World), RelB B bn s a w → ∃ v, (resVar a.tmps x).run P w = .ok v w ∧ av.p (cur B (blks bn s.b) w) v

theorem rvT {s : St} {t : Nat} {av : AV} (h : lk t s.t = some (.inl av)) : RV P s (.tmp t) av := fun _ _ a _ hr => ⟨a.tmps.getD t undef, rfl, hr.tmp t _ h⟩

theorem rvC {s : St} {t k m : Nat} {ty el : TypeId} {cells : List AV} (h : lk t s.t = some (.inr (.inl (k, 0)))) (hb : lk k s.b = some (pb el cells)) (ht : ∀ w, (isAgg ty).run P w = .ok true w) (hm : ∀ w, (sizeOf ty).run P w = .ok m w) (hl : cells.length = m) : RV P s (.cell t ty) (agg cells) :=
  fun B bn a w hr => by
    have h1 : a.tmps.getD t undef = .pointer (some ⟨(bn k).b, 0, none⟩) := hr.tmp t _ h
    obtain ⟨vs, g1, g2⟩ := hr.cellAt hb
    have hlen : vs.length = m := by rw [← g2.length]; exact hl
    refine ⟨.agg vs.toArray, ?_, vs, rfl, g2⟩
    simp only [resVar, h1, asAddr, loadVar]
    rw [Sem.run_bind]
    simp only [Sem.run_pure, Result.andThen_ok]
    rw [Sem.run_bind, ht]
    simp only [Result.andThen_ok, if_true]
    rw [Sem.run_bind, hm]
    simp only [Result.andThen_ok, loadCells]
    rw [Sem.run_bind, run_loadCellsFrom g1 m 0 _ (by omega)]
    simp [List.take_of_length_le (Nat.le_of_eq hlen)]

theorem res1 {fn : Func} {s : St} {x : ResultVar} {av : AV} (hf : fn.results = #[x]) (h : RV P s x av) : ResAt P fn s av :=
  fun B bn a w hr => let ⟨v, h1, h2⟩ := h B bn a w hr; ⟨v, run_res1 hf h1, h2⟩
theorem res2 {fn : Func} {s : St} {x y : ResultVar} {av av' : AV} (hf : fn.results = #[x, y]) (h : RV P s x av) (h' : RV P s y av') : ResAt P fn s (tup [av, av']) :=
  fun B bn a w hr => let ⟨v, h1, h2⟩ := h B bn a w hr; let ⟨v', h1', h2'⟩ := h' B bn a w hr; ⟨_, run_res2 hf h1 h1', [v, v'], rfl, h2, h2', trivial⟩
theorem res3 {fn : Func} {s : St} {x y z : ResultVar} {av av' av'' : AV} (hf : fn.results = #[x, y, z]) (h : RV P s x av) (h' : RV P s y av') (h'' : RV P s z av'') : ResAt P fn s (tup [av, av', av'']) :=
  fun B bn a w hr => let ⟨v, h1, h2⟩ := h B bn a w hr; let ⟨v', h1', h2'⟩ := h' B bn a w hr; let ⟨v'', h1'', h2''⟩ := h'' B bn a w hr; ⟨_, run_res3 hf h1 h1' h1'', [v, v', v''], rfl, h2, h2', h2'', trivial⟩
theorem res0 {fn : Func} {s : St} (hf : fn.results = #[]) : ResAt P fn s (tup []) :=
  fun _ _ a w _ => ⟨_, results_none hf a.tmps P w, [], rfl, trivial⟩
end
end Go.Aw
