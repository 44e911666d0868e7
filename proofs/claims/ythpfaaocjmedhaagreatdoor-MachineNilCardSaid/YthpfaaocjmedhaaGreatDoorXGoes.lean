/- A part of the proof that a law answers true for every input: an executor of the model over an abstract heap, proved sound, or the use of it. -/
import GoSem.ClaimGoes
namespace Go.X
open Go
noncomputable def goesB : List Func → Bool
  | [] => false
  | f :: l => match f.goes with
    | true => true
    | false => goesB l
theorem goesB_ok : ∀ {l : List Func}, goesB l = false → ∀ f ∈ l, f.goes = false
  | [], _, f, hf => by cases hf
  | g :: l, h, f, hf => by
    unfold goesB at h
    split at h
    · cases h
    · rename_i hg
      rcases List.mem_cons.1 hf with rfl | hf
      · exact hg
      · exact goesB_ok h f hf
/-- Where no function of a translation goes, no call goes. -/
theorem goes_none {P : Program} (h : goesB P.funcs.toList = false) (f : FuncId) : P.goes f = false := by
  have h1 : ∀ fn ∈ P.funcs.toList, fn.goes = false := goesB_ok h
  have h2 : P.funcs.any Func.goes = false := by
    rw [← Array.any_toList, List.any_eq_false]
    intro fn hfn
    rw [h1 fn hfn]; simp
  unfold Program.goes
  rw [h2, Bool.and_false, Bool.or_false, List.any_eq_false]
  intro g _
  cases hg : P.funcs[g]? with
  | none => simp
  | some fn =>
    rw [Option.any_some, h1 fn (by have := Array.mem_of_getElem? hg; simpa using this)]; simp
theorem goesBy_none {P : Program} {c : OpenClaim} (h : goesB P.funcs.toList = false) (hs : c.start = .entering) : c.goesBy P = false := by
  unfold OpenClaim.goesBy Program.goesAt Program.goesFrom
  rw [hs]
  cases P.funcNamed c.func with
  | none => rfl
  | some f => simp [goes_none h f]
end Go.X
