import Derived.Test.YfwaawGreatTop2
import Derived.Test.YfwaawGreatJS
/-! law.Tower: the row. -/
namespace Go.Proofs.YfwaawGreat
theorem tower_holds : Rows.TowerSaid := tower_of tower_plain
end Go.Proofs.YfwaawGreat
