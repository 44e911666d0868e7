/- A part of the proof that a law answers true for every input: an executor of the model over an abstract heap, proved sound, or the use of it. -/
import Derived.Test.YthpfaaocjmedhaaGreatDoorXS4
import Derived.Test.YthpfaaocjmedhaaGreatDoorXS3
import Derived.Test.YthpfaaocjmedhaaGreatDoorXTrod
import Derived.Test.YthpfaaocjmedhaaGreatDoorCards
import Derived.Test.YthpfaaocjmedhaaGreatDoorTie
import Derived.WalkKit
import Derived.ProofKit
import Derived.OpenShut
import Derived.Deep.DeepHandedRow
namespace Go.Proofs.YthpfaaocjmedhaaGreatDoor.machineNil
open Go Go.X Go.ChangeShapes Go.WideShapes Go.ChangeAt Go.RowKit
theorem own : ownKnob Tryz.prog.godebug = none := by kernel_rfl
def reqKinds : List CK := [.int .i64, .str, .str, .str, .str, .str, .str, .int .i64, .int .i64, .int .i64, .int .i64, .int .i64, .int .i64, .int .i64, .int .i64, .int .i64, .bool]
theorem flat22 : flatAt Tryz.prog 9 22 = some [.int .u64] := by kernel_rfl
theorem flat24 : flatAt Tryz.prog 9 24 = some reqKinds := by kernel_rfl
theorem cells22 : Tryz.prog.cellsOf 22 = [CK.int .u64].length := by kernel_rfl
theorem cells24 : Tryz.prog.cellsOf 24 = reqKinds.length := by kernel_rfl

theorem seventeen {α : Type} : ∀ (l : List α), l.length = 17 → ∃ c0 c1 c2 c3 c4 c5 c6 c7 c8 c9 c10 c11 c12 c13 c14 c15 c16, l = [c0, c1, c2, c3, c4, c5, c6, c7, c8, c9, c10, c11, c12, c13, c14, c15, c16]
  | [c0, c1, c2, c3, c4, c5, c6, c7, c8, c9, c10, c11, c12, c13, c14, c15, c16], _ => ⟨c0, c1, c2, c3, c4, c5, c6, c7, c8, c9, c10, c11, c12, c13, c14, c15, c16, rfl⟩

theorem kept_of {w w' : World} (h1 : w'.os = w.os) (h2 : w'.output = w.output) (h3 : ∀ b, b < w.heap.size → w'.heap[b]? = w.heap[b]?) (may : MemPlace → Prop) : w.keptBut w' may := by
  refine ⟨h1, h2, fun i hi => ?_⟩
  rw [h3 i hi]
  cases w.heap[i]? with
  | none => rfl
  | some o => cases o <;> first | rfl | exact ⟨rfl, rfl, rfl, fun _ _ => rfl⟩ | exact .inr ⟨rfl, rfl⟩

set_option maxRecDepth 100000 in
/-- THE CALL: whatever the tick and the request. -/
theorem walk (v0 : Value) (cs : Array Value) (h0 : kindsOk [.int .u64] [v0]) (h1 : kindsOk reqKinds cs.toList) (W : World) :
    Calls Tryz.prog 3 #[v0, .agg cs] W fun e W' => e = .returned (.bool true) ∧ (∀ may : MemPlace → Prop, W.keptBut W' may) ∧ ∀ a : Addr, W'.frozen? a = W.frozen? a := by
  obtain ⟨c0, c1, c2, c3, c4, c5, c6, c7, c8, c9, c10, c11, c12, c13, c14, c15, c16, hl⟩ := seventeen cs.toList (kindsOk_length h1)
  obtain ⟨s', hs⟩ := isT_ok (run_true v0 c0 c1 c2 c3 c4 c5 c6 c7 c8 c9 c10 c11 c12 c13 c14 c15 c16)
  have hr := lits_rel h1
  have hr0 := lits_rel h0
  have ha : VRels (fun _ => none) [.lit v0, .agg [.lit c0, .lit c1, .lit c2, .lit c3, .lit c4, .lit c5, .lit c6, .lit c7, .lit c8, .lit c9, .lit c10, .lit c11, .lit c12, .lit c13, .lit c14, .lit c15, .lit c16]] (#[v0, .agg cs] : Array Value).toList := by
    rw [List.map_cons, VRels.cons_iff] at hr0
    obtain ⟨u, rest, e1, e2, _⟩ := hr0
    cases e1
    refine VRels.cons e2 (VRels.cons ?_ VRels.nil)
    simp only [VRel]
    refine ⟨cs, rfl, ?_⟩
    rw [hl] at hr ⊢
    exact hr
  refine (calls_of_run xenv_ok Tryz.checked.mixed hs ha W).mono fun e W' ⟨v', he, ⟨ρ, hv⟩, h2, h3, _, h5, h6⟩ => ?_
  simp only [VRel] at hv
  subst hv
  exact ⟨he, kept_of h2 h3 h5, h6⟩

set_option maxRecDepth 100000 in
theorem contract (H : Type) (enc : TypeId × Value → H) (W : World) (base : Nat) (args : Array Value) (ds gs : List (DataW H)) (before : List MemPlace)
    (hval : ∀ (j : Nat) t v, Tryz.f3.params[j]? = some t → args[j]? = some v → Value.okWide Tryz.prog W .any base t v)
    (hW : DataW.Whole enc Tryz.prog Tryz.f3.params.toList Rows.machineNilSpec.vars false W args.toList ds gs before) :
    Calls Tryz.prog 3 args W fun e W' => ∃ v, e = .returned v ∧ Rows.machineNilSpec.post enc Tryz.prog Tryz.f3 false true false false W args v W' := by
  have hW' := hW
  obtain ⟨p, q, hA0, hV, rfl, hfz, hnd⟩ := hW
  have hA : DataW.TrodAll enc Tryz.prog W 0 (fun _ => true) true Tryz.f3.params.toList args.toList ds p := hA0
  rw [Tryz.params3] at hA hval
  obtain ⟨v0, v1, d0, d1, p0, p1, rfl, rfl, rfl, h0, h1⟩ := trodAll_two hA
  obtain ⟨rfl, rfl⟩ := trodVars_none hV
  obtain ⟨cs, rfl, hsz⟩ := okWide_struct Tryz.underlying24 (hval 1 24 v1 rfl rfl)
  obtain ⟨n, rfl⟩ := okWide_int Tryz.underlying22 (hval 0 22 v0 rfl rfl)
  obtain ⟨f0, t0⟩ := h0
  obtain ⟨f1, t1⟩ := h1
  obtain ⟨e0, k0⟩ := flat_places 9 22 _ flat22 cells22 _ _ _ _ _ _ _ t0
  obtain ⟨e1, k1⟩ := flat_places 9 24 _ flat24 cells24 _ _ _ _ _ _ _ t1
  simp only at e0 e1
  subst e0 e1
  clear hA0
  simp only [List.append_nil] at hW'
  refine (walk (.int .u64 n) cs k0 k1 W).mono fun e W' ⟨he, hk, hz⟩ => ?_
  subst he
  exact ⟨_, rfl, post_of_same (pa := []) (pv := []) hW' (fun _ _ _ => trodAll_cons_mk (shut_bool Tryz.underlying4 _) trodAll_mk0)
    (fun _ _ => trodAll_cons_mk (p' := []) (flat_Trod flat22 ⟨f0, t0⟩) (trodAll_cons_mk (p' := []) (flat_Trod flat24 ⟨f1, t1⟩) trodAll_mk0)) (fun _ _ => rfl) rfl
    (hk _) hz (ok_one (by kernel_rfl) rfl (okWide_bool_mk Tryz.underlying4 _))⟩
end Go.Proofs.YthpfaaocjmedhaaGreatDoor.machineNil
