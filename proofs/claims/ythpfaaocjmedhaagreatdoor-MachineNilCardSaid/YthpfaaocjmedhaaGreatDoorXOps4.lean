/- A part of the proof that a law answers true for every input: an executor of the model over an abstract heap, proved sound, or the use of it. -/
import Derived.Test.YthpfaaocjmedhaaGreatDoorXOps3
namespace Go.X
open Go
section
variable {P : Program} {E : Env}

theorem buildAs_ok {ρ : Rho} {s : S} {w : World} (hg : Good ρ s w) {place : Nat → Option (Nat × Nat)} {ps : List (Nat × V)} {ps' : List (Nat × Value)} (h1 : ps.map (·.1) = ps'.map (·.1)) (h2 : VRels ρ (ps.map (·.2)) (ps'.map (·.2)))
    {z : List V} {zs : Array Value} (hz : VRels ρ z zs.toList) {e : Sem Value} (he : ∀ vs, Instr.fill place zs ps' = some vs → e.run P w = .ok (.agg vs) w) : XV P e ρ s w (buildAs s place z ps) := by
  unfold buildAs
  split
  · rename_i l hl
    obtain ⟨vs, g1, g2⟩ := fillX_ok h1 h2 hz hl
    rw [forceS_eq]
    exact XV_pure hg ⟨.agg vs, he vs g1, by simp only [VRel]; exact ⟨vs, rfl, g2⟩⟩
  · trivial

def placeOf (fl : Field) : Sem (Nat × Nat) := do pure (fl.offset, ← sizeOf fl.type)

theorem fieldsPlaces_ok (H : EnvOk P E) (w : World) : ∀ (fs : List Field), allSized E fs = true →
    ∃ pl : List (Nat × Nat), (fs.mapM placeOf).run P w = .ok pl w ∧ ∀ i, pl[i]? = fieldsPlaces E fs i
  | [], _ => ⟨[], rfl, fun i => by simp [fieldsPlaces]⟩
  | f :: fs, h => by
    unfold allSized at h
    split at h
    · rename_i n hs
      obtain ⟨ti, hti, htn⟩ := size_ok H hs
      obtain ⟨pl, g1, g2⟩ := fieldsPlaces_ok H w fs h
      refine ⟨(f.offset, n) :: pl, ?_, fun i => ?_⟩
      · simp [List.mapM_cons, placeOf, run_sizeOf hti, htn, g1]
      · cases i with
        | zero => simp [fieldsPlaces, hs]
        | succ i => simpa [fieldsPlaces] using g2 i
    · cases h

variable (H : EnvOk P E)
include H

theorem opBuild_ok {ρ : Rho} {τ : T V} {a : Act} {s : S} {w : World} (hg : Good ρ s w) (ht : TRel ρ τ a.tmps) (t : Nat) (parts : Array (Nat × Operand)) :
    XV P (Instr.build t (parts.map fun (i, x) => (i, a.eval x))) ρ s w (opBuild E τ s t parts) := by
  unfold opBuild
  have hparts : ∀ ps, evParts τ parts.toList = some ps → ps.map (·.1) = ((parts.map fun (i, x) => (i, a.eval x)).toList).map (·.1) ∧ VRels ρ (ps.map (·.2)) (((parts.map fun (i, x) => (i, a.eval x)).toList).map (·.2)) := fun ps hps => by
    obtain ⟨g1, g2⟩ := evParts_ok ht hps
    refine ⟨by rw [g1]; simp, ?_⟩
    have e : ((parts.map fun (i, x) => (i, a.eval x)).toList).map (·.2) = parts.toList.map fun p => a.eval p.2 := by simp
    rw [e]; exact g2
  split
  · rename_i z fs ps hz hu hps
    split
    · rename_i hall
      obtain ⟨ti, z', hi, hz', hv⟩ := zeroCellsV_ok (ρ := ρ) H hz
      obtain ⟨pl, g1, g2⟩ := fieldsPlaces_ok H w fs.toList hall
      obtain ⟨p1, p2⟩ := hparts ps hps
      refine buildAs_ok hg p1 p2 hv fun vs hvs => ?_
      have hm : (fs.mapM placeOf).run P w = .ok pl.toArray w := by
        rw [← Array.toArray_toList (xs := fs), List.mapM_toArray]
        simp [g1]
      have hpl : (fun i => pl.toArray[i]?) = fieldsPlaces E fs.toList := by funext i; simpa using g2 i
      have hm' : Sem.run P (Array.mapM (fun f => do let __do_lift ← sizeOf f.type; pure (f.offset, __do_lift)) fs) w = .ok pl.toArray w := hm
      simp only [Instr.build, zeroValue, typeInfo, Sem.run_bind, Sem.run_pure, program, Sem.run, Result.andThen_ok, hi, hz', run_underlying (und_ok H hu), hm', hpl, hvs]
    · trivial
  · rename_i z n e ps hz hu hps
    split
    · rename_i es hes
      obtain ⟨ti, z', hi, hz', hv⟩ := zeroCellsV_ok (ρ := ρ) H hz
      obtain ⟨te, hte, htes⟩ := size_ok H hes
      obtain ⟨p1, p2⟩ := hparts ps hps
      refine buildAs_ok hg p1 p2 hv fun vs hvs => ?_
      have hvs' : Instr.fill (fun i => some (i * es, es)) z'.cells (parts.map fun (i, x) => (i, a.eval x)).toList = some vs := hvs
      simp only [Instr.build, zeroValue, typeInfo, Sem.run_bind, Sem.run_pure, program, Sem.run, Result.andThen_ok, hi, hz', run_underlying (und_ok H hu), run_sizeOf hte, htes, hvs']
    · trivial
  · trivial
end
end Go.X
