/-
  No cell of these rows narrows 'for every input' (looked for: loops, veiled, ifaces, maps, wideKeys, modest, calm, conditions, laid).
  DERIVED. THE GIVEN ROWS OF THIS SEAT. 7 by the template 'for every input the law returns true; each argument reads behind the call as it read before'; 0 by the template 'total and deterministic' (their statements: YfwaawGreatTotals.lean).
  GIVEN WITH THE SEED: the statements are not yours to turn. If you find one false, say at which input.
  Laid BY PROGRAM, IN A SANDBOX (cutbox-rows.mjs): the forced cells as the released guide's own fill.sh prints them over the translation 75f21159d19e65c1… (all of the seat's roots in one cut). By AI agents, Wed Nov 11 2026. No macro, syntax, notation, axiom, sorry.
-/
import Derived.Test.YfwaawGreatChecked
import GoSem.Claim
import GoSem.ClaimJoined
import GoSem.ClaimMapViews
import Derived.JoinedTies
import Derived.KernelRfl
namespace Go.Proofs.YfwaawGreat
/- THE CELL 'sum', in the pinned program and in every row, IS THE sha256 OF THE DUMP (.gsa) THAT YfwaawGreatProg.lean LOADS. Nothing in Lean hashes anything: it is a label: what it is worth is what the hold of that sum in a sandbox is worth. -/
noncomputable def Hfaa.pinned : Pinned := { name := "yfwaawgreat", sum := "75f21159d19e65c1d7c3ba98636f5c3f46573a338280b8746a39e2f6808094e2", checked := Hfaa.checked }
namespace Rows
def none {H : Type} : Left H := { results := [], args := [] }

/-- 'law.Tower': WHATEVER THE INPUT: true; the input reads as it did. -/
def towerSpec : ChangeSpec := { name := "tower", fn := fun _ => fun
  | [d1, d2, d3] => { results := [.lit (.bool true)], args := [d1, d2, d3] }
  | _ => none }
def towerRow : OpenClaim := { program := "yfwaawgreat", sum := "75f21159d19e65c1d7c3ba98636f5c3f46573a338280b8746a39e2f6808094e2", func := "softfloat/law.Tower", spec := "tower", inPlace := ["math.Float64bits", "math.Float32bits", "math.Float64frombits", "math.Float32frombits", "math.sqrt", "math.FMA", "math.archTrunc", "math.archCeil", "math.archFloor", "math.RoundToEven"], apart := false }
def TowerSaid : Prop := towerRow.holds Hfaa.pinned (OpenSpec.ofChange towerSpec)

/-- ITS FALSE NEIGHBOUR: 'it returns false'. Refute it at one input. -/
def towerWrong : ChangeSpec := { name := "tower", fn := fun _ => fun
  | [d1, d2, d3] => { results := [.lit (.bool false)], args := [d1, d2, d3] }
  | _ => none }
def TowerWrongFalsely : Prop := towerRow.holds Hfaa.pinned (OpenSpec.ofChange towerWrong)

/-- 'law.Refuses': WHATEVER THE INPUT: true; the input reads as it did. -/
def refusesSpec : ChangeSpec := { name := "refuses", fn := fun _ => fun
  | [d1, d2, d3, d4, d5, d6, d7, d8, d9] => { results := [.lit (.bool true)], args := [d1, d2, d3, d4, d5, d6, d7, d8, d9] }
  | _ => none }
def refusesRow : OpenClaim := { program := "yfwaawgreat", sum := "75f21159d19e65c1d7c3ba98636f5c3f46573a338280b8746a39e2f6808094e2", func := "softfloat/law.Refuses", spec := "refuses", inPlace := ["math.Float64bits", "math.Float32bits", "math.Float64frombits", "math.Float32frombits", "math.sqrt", "math.FMA", "math.archTrunc", "math.archCeil", "math.archFloor", "math.RoundToEven"], apart := false }
def RefusesSaid : Prop := refusesRow.holds Hfaa.pinned (OpenSpec.ofChange refusesSpec)

/-- ITS FALSE NEIGHBOUR: 'it returns false'. Refute it at one input. -/
def refusesWrong : ChangeSpec := { name := "refuses", fn := fun _ => fun
  | [d1, d2, d3, d4, d5, d6, d7, d8, d9] => { results := [.lit (.bool false)], args := [d1, d2, d3, d4, d5, d6, d7, d8, d9] }
  | _ => none }
def RefusesWrongFalsely : Prop := refusesRow.holds Hfaa.pinned (OpenSpec.ofChange refusesWrong)

/-- 'law.Tower64': WHATEVER THE INPUT: true; the input reads as it did. -/
def tower64Spec : ChangeSpec := { name := "tower64", fn := fun _ => fun
  | [d] => { results := [.lit (.bool true)], args := [d] }
  | _ => none }
def tower64Row : OpenClaim := { program := "yfwaawgreat", sum := "75f21159d19e65c1d7c3ba98636f5c3f46573a338280b8746a39e2f6808094e2", func := "softfloat/law.Tower64", spec := "tower64", inPlace := ["math.Float64bits", "math.Float32bits", "math.Float64frombits", "math.Float32frombits", "math.sqrt", "math.FMA", "math.archTrunc", "math.archCeil", "math.archFloor", "math.RoundToEven"], apart := false }
def Tower64Said : Prop := tower64Row.holds Hfaa.pinned (OpenSpec.ofChange tower64Spec)

/-- ITS FALSE NEIGHBOUR: 'it returns false'. Refute it at one input. -/
def tower64Wrong : ChangeSpec := { name := "tower64", fn := fun _ => fun
  | [d] => { results := [.lit (.bool false)], args := [d] }
  | _ => none }
def Tower64WrongFalsely : Prop := tower64Row.holds Hfaa.pinned (OpenSpec.ofChange tower64Wrong)

/-- 'law.Tower32': WHATEVER THE INPUT: true; the input reads as it did. -/
def tower32Spec : ChangeSpec := { name := "tower32", fn := fun _ => fun
  | [d] => { results := [.lit (.bool true)], args := [d] }
  | _ => none }
def tower32Row : OpenClaim := { program := "yfwaawgreat", sum := "75f21159d19e65c1d7c3ba98636f5c3f46573a338280b8746a39e2f6808094e2", func := "softfloat/law.Tower32", spec := "tower32", inPlace := ["math.Float64bits", "math.Float32bits", "math.Float64frombits", "math.Float32frombits", "math.sqrt", "math.FMA", "math.archTrunc", "math.archCeil", "math.archFloor", "math.RoundToEven"], apart := false }
def Tower32Said : Prop := tower32Row.holds Hfaa.pinned (OpenSpec.ofChange tower32Spec)

/-- ITS FALSE NEIGHBOUR: 'it returns false'. Refute it at one input. -/
def tower32Wrong : ChangeSpec := { name := "tower32", fn := fun _ => fun
  | [d] => { results := [.lit (.bool false)], args := [d] }
  | _ => none }
def Tower32WrongFalsely : Prop := tower32Row.holds Hfaa.pinned (OpenSpec.ofChange tower32Wrong)

/-- 'law.TowerFrom': WHATEVER THE INPUT: true; the input reads as it did. -/
def towerFromSpec : ChangeSpec := { name := "towerFrom", fn := fun _ => fun
  | [d1, d2, d3, d4] => { results := [.lit (.bool true)], args := [d1, d2, d3, d4] }
  | _ => none }
def towerFromRow : OpenClaim := { program := "yfwaawgreat", sum := "75f21159d19e65c1d7c3ba98636f5c3f46573a338280b8746a39e2f6808094e2", func := "softfloat/law.TowerFrom", spec := "towerFrom", inPlace := ["math.Float64bits", "math.Float32bits", "math.Float64frombits", "math.Float32frombits", "math.sqrt", "math.FMA", "math.archTrunc", "math.archCeil", "math.archFloor", "math.RoundToEven"], apart := false }
def TowerFromSaid : Prop := towerFromRow.holds Hfaa.pinned (OpenSpec.ofChange towerFromSpec)

/-- ITS FALSE NEIGHBOUR: 'it returns false'. Refute it at one input. -/
def towerFromWrong : ChangeSpec := { name := "towerFrom", fn := fun _ => fun
  | [d1, d2, d3, d4] => { results := [.lit (.bool false)], args := [d1, d2, d3, d4] }
  | _ => none }
def TowerFromWrongFalsely : Prop := towerFromRow.holds Hfaa.pinned (OpenSpec.ofChange towerFromWrong)

/-- 'law.TowerSoft': WHATEVER THE INPUT: true; the input reads as it did. -/
def towerSoftSpec : ChangeSpec := { name := "towerSoft", fn := fun _ => fun
  | [d1, d2, d3] => { results := [.lit (.bool true)], args := [d1, d2, d3] }
  | _ => none }
def towerSoftRow : OpenClaim := { program := "yfwaawgreat", sum := "75f21159d19e65c1d7c3ba98636f5c3f46573a338280b8746a39e2f6808094e2", func := "softfloat/law.TowerSoft", spec := "towerSoft", inPlace := ["math.Float64bits", "math.Float32bits", "math.Float64frombits", "math.Float32frombits", "math.sqrt", "math.FMA", "math.archTrunc", "math.archCeil", "math.archFloor", "math.RoundToEven"], apart := false }
def TowerSoftSaid : Prop := towerSoftRow.holds Hfaa.pinned (OpenSpec.ofChange towerSoftSpec)

/-- ITS FALSE NEIGHBOUR: 'it returns false'. Refute it at one input. -/
def towerSoftWrong : ChangeSpec := { name := "towerSoft", fn := fun _ => fun
  | [d1, d2, d3] => { results := [.lit (.bool false)], args := [d1, d2, d3] }
  | _ => none }
def TowerSoftWrongFalsely : Prop := towerSoftRow.holds Hfaa.pinned (OpenSpec.ofChange towerSoftWrong)

/-- 'law.TowerNative': WHATEVER THE INPUT: true; the input reads as it did. -/
def towerNativeSpec : ChangeSpec := { name := "towerNative", fn := fun _ => fun
  | [d1, d2] => { results := [.lit (.bool true)], args := [d1, d2] }
  | _ => none }
def towerNativeRow : OpenClaim := { program := "yfwaawgreat", sum := "75f21159d19e65c1d7c3ba98636f5c3f46573a338280b8746a39e2f6808094e2", func := "softfloat/law.TowerNative", spec := "towerNative", inPlace := ["math.Float64bits", "math.Float32bits", "math.Float64frombits", "math.Float32frombits", "math.sqrt", "math.FMA", "math.archTrunc", "math.archCeil", "math.archFloor", "math.RoundToEven"], apart := false }
def TowerNativeSaid : Prop := towerNativeRow.holds Hfaa.pinned (OpenSpec.ofChange towerNativeSpec)

/-- ITS FALSE NEIGHBOUR: 'it returns false'. Refute it at one input. -/
def towerNativeWrong : ChangeSpec := { name := "towerNative", fn := fun _ => fun
  | [d1, d2] => { results := [.lit (.bool false)], args := [d1, d2] }
  | _ => none }
def TowerNativeWrongFalsely : Prop := towerNativeRow.holds Hfaa.pinned (OpenSpec.ofChange towerNativeWrong)

end Rows
end Go.Proofs.YfwaawGreat
