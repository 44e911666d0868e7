/- A proof that the law MachineNil answers true for every input, its two library tables as the program lays them (closing text). -/
import Derived.Test.YthpfaaocjmedhaaGreatDoorXS7a
import Derived.Test.YthpfaaocjmedhaaGreatDoorXS7b
import Derived.Test.YthpfaaocjmedhaaGreatDoorXS7c
import Derived.Test.YthpfaaocjmedhaaGreatDoorXS7d
import Derived.Test.YthpfaaocjmedhaaGreatDoorXS7e
import Derived.Test.YthpfaaocjmedhaaGreatDoorXGoes
namespace Go.Proofs.YthpfaaocjmedhaaGreatDoor.machineNil
open Go Go.X Go.ChangeShapes Go.WideShapes Go.ChangeAt Go.RowKit
set_option maxRecDepth 100000
theorem closedT : joinedFacts Tryz.prog 3 Tryz.f3 (OpenSpec.ofChange Rows.machineNilSpec).bare Rows.machineNilRow = true := by
  unfold joinedFacts
  rw [cIn, cUn, cRe, cNa, cLa, cMa, cPk, cSh]
  kernel_rfl
theorem said : Rows.MachineNilSaid :=
  OpenClaim.holds_of_cond 3 Tryz.f3 rfl rfl rfl rfl rfl rfl rfl ⟨rfl, rfl, rfl, rfl, rfl⟩ rfl rfl rfl rfl rfl (by kernel_rfl) Tryz.func3 closedT
    (of_decide_eq_true (by kernel_rfl)) (by unfold Func.isWrapper; first | (rw [if_pos (by decide +kernel)]; kernel_rfl) | (rw [if_neg (by decide +kernel)]; exact ⟨rfl, rfl⟩))
    (fun os started H enc _ F => by rw [OpenClaim.pre_eq_preRow]; exact lifted os started H enc F)
theorem none_goes : goesB Tryz.prog.funcs.toList = false := by kernel_rfl
/-- No parameter wants a stand-in; the program's own looks are off: what the card asks. -/
theorem plain (f : FuncId) (fn : Func) (hf : Tryz.pinned.checked.prog.funcNamed "billet/billetlaw36.MachineNil" = some f) (hfn : Tryz.pinned.checked.prog.funcs[f]? = some fn) :
    true = Tryz.pinned.checked.prog.looks [] ∧ ∀ (j : Nat) t, fn.params[j]? = some t → Tryz.pinned.checked.prog.wantsStandIn t = false := by
  obtain rfl : f = 3 := Option.some.inj ((show Tryz.prog.funcNamed "billet/billetlaw36.MachineNil" = some 3 by kernel_rfl).symm.trans hf) |>.symm
  obtain rfl : fn = Tryz.f3 := (Option.some.inj (Tryz.func3.symm.trans hfn)).symm
  refine ⟨by kernel_rfl, fun j t ht => ?_⟩
  rw [Tryz.params3] at ht
  have h := Array.mem_of_getElem? ht
  simp at h
  rcases h with rfl | rfl
  · exact (show Tryz.prog.wantsStandIn 22 = false by kernel_rfl)
  · exact (show Tryz.prog.wantsStandIn 24 = false by kernel_rfl)
/-- THE CARD. -/
theorem card : Rows.MachineNilCardSaid :=
  Claim7.holds_tied_plain_at .later [] _ _ _ _ said (fun _ h => by cases h) (by kernel_rfl) (fun _ h => by cases h) machineNil_row_tie rfl ⟨rfl, rfl⟩ (by kernel_rfl) rfl plain (goesBy_none none_goes rfl).symm
#print axioms card
end Go.Proofs.YthpfaaocjmedhaaGreatDoor.machineNil
