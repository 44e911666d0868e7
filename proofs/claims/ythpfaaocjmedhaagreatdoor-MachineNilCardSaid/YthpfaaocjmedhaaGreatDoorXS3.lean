/- A part of the proof that a law answers true for every input: an executor of the model over an abstract heap, proved sound, or the use of it. -/
import Derived.Test.YthpfaaocjmedhaaGreatDoorXS1
import Derived.Test.YthpfaaocjmedhaaGreatDoorXPlain3
namespace Go.Proofs.YthpfaaocjmedhaaGreatDoor
open Go Go.X
theorem names_ok : namesB Tryz.prog.funcs.toList = true := by kernel_rfl
theorem xenv_gen (P : Program) (h : namesB P.funcs.toList = true) (l : List Nat) : EnvOk2 P ⟨ofListF P.types.toList 0 .leaf, ofListF P.funcs.toList 0 .leaf, plainList P l .leaf⟩ :=
  { envOk_of P P.types.toList P.funcs.toList rfl rfl h _ with
    plain := plainList_ok l _ fun t ks h => by rw [T.get_leaf] at h; cases h }
theorem xenv_ok : EnvOk2 Tryz.prog XE := xenv_gen Tryz.prog names_ok _
end Go.Proofs.YthpfaaocjmedhaaGreatDoor
