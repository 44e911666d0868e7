/- A part of the proof that a law answers true for every input: an executor of the model over an abstract heap, proved sound, or the use of it. -/
import Derived.Test.YthpfaaocjmedhaaGreatDoorXS1
namespace Go.Proofs.YthpfaaocjmedhaaGreatDoor
open Go Go.X
set_option maxRecDepth 100000
theorem run_true (x0 x1 x2 x3 x4 x5 x6 x7 x8 x9 x10 x11 x12 x13 x14 x15 x16 x17 : Value) :
    isT (Go.X.run XE 3000 (.call 3 [.lit x0, .agg [.lit x1, .lit x2, .lit x3, .lit x4, .lit x5, .lit x6, .lit x7, .lit x8, .lit x9, .lit x10, .lit x11, .lit x12, .lit x13, .lit x14, .lit x15, .lit x16, .lit x17]] ⟨.leaf, 0⟩)) = true := by kernel_rfl
end Go.Proofs.YthpfaaocjmedhaaGreatDoor
