/- A part of the proof that a law answers true for every input: an executor of the model over an abstract heap, proved sound, or the use of it. -/
import Derived.Test.YthpfaaocjmedhaaGreatDoorXPlain
import Derived.Test.YthpfaaocjmedhaaGreatDoorProg
import Derived.KernelRfl
namespace Go.Proofs.YthpfaaocjmedhaaGreatDoor
open Go Go.X
noncomputable def XE : Env := ⟨ofListF Tryz.prog.types.toList 0 .leaf, ofListF Tryz.prog.funcs.toList 0 .leaf, plainList Tryz.prog [316, 411, 214, 486, 83] .leaf⟩
end Go.Proofs.YthpfaaocjmedhaaGreatDoor
