/- A part of the proof that a law answers true for every input: an executor of the model over an abstract heap, proved sound, or the use of it. -/
import Derived.Test.YthpfaaocjmedhaaGreatDoorXS5
namespace Go.Proofs.YthpfaaocjmedhaaGreatDoor.machineNil
open Go Go.X Go.ChangeShapes Go.WideShapes Go.ChangeAt Go.RowKit

/-- The cells of a datum of numbers. -/
def litOf : DataW Unit → Value
  | .lit (.int k n) => .int k n
  | _ => undef
def rowOf : DataW Unit → List Value
  | .agg l => l.map litOf
  | _ => []
def firstCells : Array Value := (rowOf Go.Pinned.utf8First).toArray
def rangeCells : Array Value := (match (Rows.laid_unicode_utf8_acceptRanges : DataW Unit) with
  | .agg l => l.flatMap rowOf
  | _ => []).toArray
def request : Value := .agg #[.int .i64 0, .string ⟨#[]⟩, .string ⟨#[]⟩, .string ⟨#[]⟩, .string ⟨#[]⟩, .string ⟨#[]⟩, .string ⟨#[]⟩, .int .i64 0, .int .i64 0, .int .i64 0, .int .i64 0, .int .i64 0, .int .i64 0, .int .i64 0, .int .i64 0, .int .i64 0, .bool false]
def some17 {H : Type} : DataW H := .agg [.lit (.int .i64 0), .lit (.string []), .lit (.string []), .lit (.string []), .lit (.string []), .lit (.string []), .lit (.string []), .lit (.int .i64 0), .lit (.int .i64 0), .lit (.int .i64 0), .lit (.int .i64 0), .lit (.int .i64 0), .lit (.int .i64 0), .lit (.int .i64 0), .lit (.int .i64 0), .lit (.int .i64 0), .lit (.bool false)]

def fillIn (cs : Array Value) : Go.Obj → Go.Obj
  | .cells _ t frozen => .cells cs t frozen
  | o => o
/-- A WORLD FOR THE WITNESS: the settled one, the two tables holding what their initialisers lay. -/
noncomputable def laidWorld (os : Os) : World :=
  { World.holding Tryz.prog os ⟨#[], #[], []⟩ with heap := ((World.holding Tryz.prog os ⟨#[], #[], []⟩).heap.modify 1 (fillIn firstCells)).modify 2 (fillIn rangeCells) }
set_option maxRecDepth 100000
theorem laid_met (os : Os) : laidMet Tryz.prog Rows.machineNilRow.laid ((laidWorld os).forCall (fun _ _ => 0) ⟨#[], #[.int .u64 0, request], []⟩).memory :=
  laidMet_of_run' 8 (by kernel_rfl) (by kernel_rfl)
theorem reads (os : Os) {H : Type} (enc : TypeId × Value → H) : ∃ places, DataW.whole enc Tryz.prog ((laidWorld os).forCall (fun _ _ => 0) ⟨#[], #[.int .u64 0, request], []⟩).memory Tryz.f3.params.toList Rows.machineNilSpec.vars false #[Value.int .u64 0, request].toList 8 = some ([.lit (.int .u64 0), some17], [], places) :=
  ⟨[], by kernel_rfl⟩

theorem lifted (os : Os) (started : os.Started) (H : Type) (enc : TypeId × Value → H) (F : Stop.Interp) :
    ReturnsInHanded {} Tryz.checked os 3 .any ((OpenSpec.ofChange Rows.machineNilSpec).preRow enc Tryz.prog Tryz.f3 Rows.machineNilRow.domain false Rows.machineNilRow.laid) (((OpenSpec.ofChange Rows.machineNilSpec).at F).post enc Tryz.prog Tryz.f3 false true false false) := by
  obtain ⟨places, hx⟩ := reads os enc
  refine returnsInHanded_of_row (C := Tryz.checked) (s := OpenSpec.ofChange Rows.machineNilSpec) own started (by kernel_rfl) Tryz.func3
    (witness_row_at (enc := enc) (C := Tryz.checked) false (laidWorld os) #[.int .u64 0, request] rfl (by kernel_rfl) (by kernel_rfl) (by kernel_rfl)
      (OpenSpec.preRow_of_cond 8 hx (by kernel_rfl) (fun k hk => by cases hk) (by kernel_rfl) (laid_met os))) ?_
  intro W base args ds gs before hval hW _ _ _ _ _ _
  exact contract H enc W base args ds gs before hval hW

end Go.Proofs.YthpfaaocjmedhaaGreatDoor.machineNil
