/- A part of the proof that a law answers true for every input: an executor of the model over an abstract heap, proved sound, or the use of it. -/
import Derived.Test.YthpfaaocjmedhaaGreatDoorXS6
namespace Go.Proofs.YthpfaaocjmedhaaGreatDoor.machineNil
open Go Go.X Go.ChangeShapes Go.WideShapes Go.ChangeAt Go.RowKit
set_option maxRecDepth 100000
theorem cLa : laidOutB Tryz.prog = true := by kernel_rfl
theorem cMa : mapsRowed Tryz.prog = true := by kernel_rfl
theorem cPk : (Rows.machineNilRow.plainKeys == Tryz.prog.plainKeys) = true := by kernel_rfl
theorem cSh : Tryz.prog.stopsHeard = true := by kernel_rfl
end Go.Proofs.YthpfaaocjmedhaaGreatDoor.machineNil
