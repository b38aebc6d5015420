/-
  The row's closed facts, and the statement out of the plain law.
-/
import Derived.Test.YfwaawGreatTop
import Derived.Test.YfwaawGreatCl
namespace Go.Proofs.YfwaawGreat
open Go.ChangeShapes Go.WideShapes Go.ChangeAt Go.RowKit Go.Aw
set_option maxRecDepth 100000
set_option maxHeartbeats 4000000

theorem facts3 : joinedFacts Hfaa.prog 3 Hfaa.f3 Rows.towerSpec Rows.towerRow = true := by
  unfold joinedFacts
  rw [← inp3, unf3, rec3, ← var3]
  kernel_rfl

theorem tower_of (hF : ∀ (e m mode : BitVec 8) (s : NS Opv), ∃ N, F3 N e m mode s = some true) : Rows.TowerSaid :=
  OpenClaim.holds_of_wide 3 Hfaa.f3 rfl rfl rfl rfl rfl rfl rfl ⟨rfl, rfl, rfl, rfl, rfl⟩ rfl rfl rfl rfl rfl (by kernel_rfl) Hfaa.func3 facts3
    (of_decide_eq_true (by kernel_rfl)) (by unfold Func.isWrapper; first | (rw [if_pos (by decide +kernel)]; kernel_rfl) | (rw [if_neg (by decide +kernel)]; exact ⟨rfl, rfl⟩))
    (fun os started H enc _ => tower_lifted hF os started H enc)
end Go.Proofs.YfwaawGreat
