/-
  No cell of these rows narrows 'for every input' (looked for: loops, veiled, ifaces, maps, wideKeys, modest, calm, conditions, laid).
  DERIVED. THE GIVEN ROWS OF THIS SEAT. 10 by the template 'for every input the law returns true; each argument reads behind the call as it read before'; 0 by the template 'total and deterministic' (their statements: YgctabTotals.lean).
  GIVEN WITH THE SEED: the statements are not yours to turn. If you find one false, say at which input.
  Laid BY PROGRAM, IN A SANDBOX (cutbox-rows.mjs): the forced cells as the released guide's own fill.sh prints them over the translation f10b3e14bc763bbd… (all of the seat's roots in one cut). By AI agents, Wed Nov 11 2026. No macro, syntax, notation, axiom, sorry.
-/
import Derived.Test.YgctabChecked
import GoSem.Claim
import GoSem.ClaimJoined
import GoSem.ClaimMapViews
import Derived.JoinedTies
import Derived.KernelRfl
namespace Go.Proofs.Ygctab
/- THE CELL 'sum', in the pinned program and in every row, IS THE sha256 OF THE DUMP (.gsa) THAT YgctabProg.lean LOADS. Nothing in Lean hashes anything: it is a label: what it is worth is what the hold of that sum in a sandbox is worth. -/
noncomputable def Tabg.pinned : Pinned := { name := "ygctab", sum := "f10b3e14bc763bbd341cba1cc4e70859970f002f1b7b63963e501bcc5bdd871a", checked := Tabg.checked }
namespace Rows
def none {H : Type} : Left H := { results := [], args := [] }

/-- 'law.Tower': WHATEVER THE INPUT: true; the input reads as it did. -/
def towerSpec : ChangeSpec := { name := "tower", fn := fun _ => fun
  | [d] => { results := [.lit (.bool true)], args := [d] }
  | _ => none }
def towerRow : OpenClaim := { program := "ygctab", sum := "f10b3e14bc763bbd341cba1cc4e70859970f002f1b7b63963e501bcc5bdd871a", func := "fftlab/law.Tower", spec := "tower", recurses := true, apart := false }
def TowerSaid : Prop := towerRow.holds Tabg.pinned (OpenSpec.ofChange towerSpec)

/-- ITS FALSE NEIGHBOUR: 'it returns false'. Refute it at one input. -/
def towerWrong : ChangeSpec := { name := "tower", fn := fun _ => fun
  | [d] => { results := [.lit (.bool false)], args := [d] }
  | _ => none }
def TowerWrongFalsely : Prop := towerRow.holds Tabg.pinned (OpenSpec.ofChange towerWrong)

/-- 'law.SmithNear': WHATEVER THE INPUT: true; the input reads as it did. -/
def smithNearSpec : ChangeSpec := { name := "smithNear", fn := fun _ => fun
  | [d1, d2, d3, d4] => { results := [.lit (.bool true)], args := [d1, d2, d3, d4] }
  | _ => none }
def smithNearRow : OpenClaim := { program := "ygctab", sum := "f10b3e14bc763bbd341cba1cc4e70859970f002f1b7b63963e501bcc5bdd871a", func := "fftlab/law.SmithNear", spec := "smithNear", inPlace := ["math.Float64frombits", "math.Float64bits", "math/bits.Sub64", "math/bits.Add64"], apart := false }
def SmithNearSaid : Prop := smithNearRow.holds Tabg.pinned (OpenSpec.ofChange smithNearSpec)

/-- ITS FALSE NEIGHBOUR: 'it returns false'. Refute it at one input. -/
def smithNearWrong : ChangeSpec := { name := "smithNear", fn := fun _ => fun
  | [d1, d2, d3, d4] => { results := [.lit (.bool false)], args := [d1, d2, d3, d4] }
  | _ => none }
def SmithNearWrongFalsely : Prop := smithNearRow.holds Tabg.pinned (OpenSpec.ofChange smithNearWrong)

/-- 'law.RobustNear': WHATEVER THE INPUT: true; the input reads as it did. -/
def robustNearSpec : ChangeSpec := { name := "robustNear", fn := fun _ => fun
  | [d1, d2, d3, d4] => { results := [.lit (.bool true)], args := [d1, d2, d3, d4] }
  | _ => none }
def robustNearRow : OpenClaim := { program := "ygctab", sum := "f10b3e14bc763bbd341cba1cc4e70859970f002f1b7b63963e501bcc5bdd871a", func := "fftlab/law.RobustNear", spec := "robustNear", inPlace := ["math.Float64frombits", "math.Float64bits", "math/bits.Sub64", "math/bits.Add64"], apart := false }
def RobustNearSaid : Prop := robustNearRow.holds Tabg.pinned (OpenSpec.ofChange robustNearSpec)

/-- ITS FALSE NEIGHBOUR: 'it returns false'. Refute it at one input. -/
def robustNearWrong : ChangeSpec := { name := "robustNear", fn := fun _ => fun
  | [d1, d2, d3, d4] => { results := [.lit (.bool false)], args := [d1, d2, d3, d4] }
  | _ => none }
def RobustNearWrongFalsely : Prop := robustNearRow.holds Tabg.pinned (OpenSpec.ofChange robustNearWrong)

/-- 'law.RobustScales': WHATEVER THE INPUT: true; the input reads as it did. -/
def robustScalesSpec : ChangeSpec := { name := "robustScales", fn := fun _ => fun
  | [d1, d2, d3, d4, d5, d6] => { results := [.lit (.bool true)], args := [d1, d2, d3, d4, d5, d6] }
  | _ => none }
def robustScalesRow : OpenClaim := { program := "ygctab", sum := "f10b3e14bc763bbd341cba1cc4e70859970f002f1b7b63963e501bcc5bdd871a", func := "fftlab/law.RobustScales", spec := "robustScales", inPlace := ["math.Float64frombits", "math.Float64bits"], apart := false }
def RobustScalesSaid : Prop := robustScalesRow.holds Tabg.pinned (OpenSpec.ofChange robustScalesSpec)

/-- ITS FALSE NEIGHBOUR: 'it returns false'. Refute it at one input. -/
def robustScalesWrong : ChangeSpec := { name := "robustScales", fn := fun _ => fun
  | [d1, d2, d3, d4, d5, d6] => { results := [.lit (.bool false)], args := [d1, d2, d3, d4, d5, d6] }
  | _ => none }
def RobustScalesWrongFalsely : Prop := robustScalesRow.holds Tabg.pinned (OpenSpec.ofChange robustScalesWrong)

/-- 'law.AccRoom': WHATEVER THE INPUT: true; the input reads as it did. -/
def accRoomSpec : ChangeSpec := { name := "accRoom", fn := fun _ => fun
  | [d1, d2, d3, d4] => { results := [.lit (.bool true)], args := [d1, d2, d3, d4] }
  | _ => none }
def accRoomRow : OpenClaim := { program := "ygctab", sum := "f10b3e14bc763bbd341cba1cc4e70859970f002f1b7b63963e501bcc5bdd871a", func := "fftlab/law.AccRoom", spec := "accRoom", inPlace := ["math/bits.Add64", "math/bits.Sub64", "math.Float64frombits", "math.Float64bits"], apart := false }
def AccRoomSaid : Prop := accRoomRow.holds Tabg.pinned (OpenSpec.ofChange accRoomSpec)

/-- ITS FALSE NEIGHBOUR: 'it returns false'. Refute it at one input. -/
def accRoomWrong : ChangeSpec := { name := "accRoom", fn := fun _ => fun
  | [d1, d2, d3, d4] => { results := [.lit (.bool false)], args := [d1, d2, d3, d4] }
  | _ => none }
def AccRoomWrongFalsely : Prop := accRoomRow.holds Tabg.pinned (OpenSpec.ofChange accRoomWrong)

/-- 'law.GrowStep': WHATEVER THE INPUT: true; the input reads as it did. -/
def growStepSpec : ChangeSpec := { name := "growStep", fn := fun _ => fun
  | [d1, d2] => { results := [.lit (.bool true)], args := [d1, d2] }
  | _ => none }
def growStepRow : OpenClaim := { program := "ygctab", sum := "f10b3e14bc763bbd341cba1cc4e70859970f002f1b7b63963e501bcc5bdd871a", func := "fftlab/law.GrowStep", spec := "growStep", inPlace := ["math.Float64frombits", "math.Float64bits", "math/bits.Sub64", "math/bits.Add64"], apart := false }
def GrowStepSaid : Prop := growStepRow.holds Tabg.pinned (OpenSpec.ofChange growStepSpec)

/-- ITS FALSE NEIGHBOUR: 'it returns false'. Refute it at one input. -/
def growStepWrong : ChangeSpec := { name := "growStep", fn := fun _ => fun
  | [d1, d2] => { results := [.lit (.bool false)], args := [d1, d2] }
  | _ => none }
def GrowStepWrongFalsely : Prop := growStepRow.holds Tabg.pinned (OpenSpec.ofChange growStepWrong)

/-- 'law.GrowRoom': WHATEVER THE INPUT: true; the input reads as it did. -/
def growRoomSpec : ChangeSpec := { name := "growRoom", fn := fun _ => fun
  | [d1, d2, d3] => { results := [.lit (.bool true)], args := [d1, d2, d3] }
  | _ => none }
def growRoomRow : OpenClaim := { program := "ygctab", sum := "f10b3e14bc763bbd341cba1cc4e70859970f002f1b7b63963e501bcc5bdd871a", func := "fftlab/law.GrowRoom", spec := "growRoom", inPlace := ["math.Float64frombits", "math.Float64bits", "math/bits.Sub64", "math/bits.Add64"], apart := false }
def GrowRoomSaid : Prop := growRoomRow.holds Tabg.pinned (OpenSpec.ofChange growRoomSpec)

/-- ITS FALSE NEIGHBOUR: 'it returns false'. Refute it at one input. -/
def growRoomWrong : ChangeSpec := { name := "growRoom", fn := fun _ => fun
  | [d1, d2, d3] => { results := [.lit (.bool false)], args := [d1, d2, d3] }
  | _ => none }
def GrowRoomWrongFalsely : Prop := growRoomRow.holds Tabg.pinned (OpenSpec.ofChange growRoomWrong)

/-- 'law.TableStays': WHATEVER THE INPUT: true; the input reads as it did. -/
def tableStaysSpec : ChangeSpec := { name := "tableStays", fn := fun _ => fun
  | [d1, d2, d3] => { results := [.lit (.bool true)], args := [d1, d2, d3] }
  | _ => none }
def tableStaysRow : OpenClaim := { program := "ygctab", sum := "f10b3e14bc763bbd341cba1cc4e70859970f002f1b7b63963e501bcc5bdd871a", func := "fftlab/law.TableStays", spec := "tableStays", inPlace := ["math.Float64frombits", "math.Float64bits"], apart := false }
def TableStaysSaid : Prop := tableStaysRow.holds Tabg.pinned (OpenSpec.ofChange tableStaysSpec)

/-- ITS FALSE NEIGHBOUR: 'it returns false'. Refute it at one input. -/
def tableStaysWrong : ChangeSpec := { name := "tableStays", fn := fun _ => fun
  | [d1, d2, d3] => { results := [.lit (.bool false)], args := [d1, d2, d3] }
  | _ => none }
def TableStaysWrongFalsely : Prop := tableStaysRow.holds Tabg.pinned (OpenSpec.ofChange tableStaysWrong)

/-- 'law.ElemClosed': WHATEVER THE INPUT: true; the input reads as it did. -/
def elemClosedSpec : ChangeSpec := { name := "elemClosed", fn := fun _ => fun
  | [d1, d2, d3, d4] => { results := [.lit (.bool true)], args := [d1, d2, d3, d4] }
  | _ => none }
def elemClosedRow : OpenClaim := { program := "ygctab", sum := "f10b3e14bc763bbd341cba1cc4e70859970f002f1b7b63963e501bcc5bdd871a", func := "fftlab/law.ElemClosed", spec := "elemClosed", apart := false }
def ElemClosedSaid : Prop := elemClosedRow.holds Tabg.pinned (OpenSpec.ofChange elemClosedSpec)

/-- ITS FALSE NEIGHBOUR: 'it returns false'. Refute it at one input. -/
def elemClosedWrong : ChangeSpec := { name := "elemClosed", fn := fun _ => fun
  | [d1, d2, d3, d4] => { results := [.lit (.bool false)], args := [d1, d2, d3, d4] }
  | _ => none }
def ElemClosedWrongFalsely : Prop := elemClosedRow.holds Tabg.pinned (OpenSpec.ofChange elemClosedWrong)

/-- 'law.NatClosed': WHATEVER THE INPUT: true; the input reads as it did. -/
def natClosedSpec : ChangeSpec := { name := "natClosed", fn := fun _ => fun
  | [d1, d2, d3] => { results := [.lit (.bool true)], args := [d1, d2, d3] }
  | _ => none }
def natClosedRow : OpenClaim := { program := "ygctab", sum := "f10b3e14bc763bbd341cba1cc4e70859970f002f1b7b63963e501bcc5bdd871a", func := "fftlab/law.NatClosed", spec := "natClosed", recurses := true, apart := false }
def NatClosedSaid : Prop := natClosedRow.holds Tabg.pinned (OpenSpec.ofChange natClosedSpec)

/-- ITS FALSE NEIGHBOUR: 'it returns false'. Refute it at one input. -/
def natClosedWrong : ChangeSpec := { name := "natClosed", fn := fun _ => fun
  | [d1, d2, d3] => { results := [.lit (.bool false)], args := [d1, d2, d3] }
  | _ => none }
def NatClosedWrongFalsely : Prop := natClosedRow.holds Tabg.pinned (OpenSpec.ofChange natClosedWrong)

end Rows
end Go.Proofs.Ygctab
