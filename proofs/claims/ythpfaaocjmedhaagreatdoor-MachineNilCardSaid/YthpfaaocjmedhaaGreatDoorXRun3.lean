/- A part of the proof that a law answers true for every input: an executor of the model over an abstract heap, proved sound, or the use of it. -/
import Derived.Test.YthpfaaocjmedhaaGreatDoorXRun2
namespace Go.X
open Go
section
variable {P : Program} {E : Env} {ih : Ih}

theorem TRel.leaf {ρ : Rho} {tmps : Array Value} : TRel ρ .leaf tmps := fun i x h => by rw [T.get_leaf] at h; cases h

theorem TRel.args {ρ : Rho} {args : List V} {args' : Array Value} (h : VRels ρ args args'.toList) (n : Nat) : TRel ρ (layT args 0 .leaf) (args' ++ Array.replicate n undef) := by
  intro i x hi
  rw [get_layT] at hi
  split at hi
  · rename_i hb
    obtain ⟨v, h1, h2⟩ := h.get hi
    simp only [Nat.sub_zero, Array.getElem?_toList] at h1
    refine ⟨v, ?_, h2⟩
    rw [Array.getElem?_append_left (Array.getElem?_eq_some_iff.1 h1).1]
    exact h1
  · rw [T.get_leaf] at hi; cases hi

theorem stepCall_ok (H : EnvOk2 P E) (hih : IhOk P ih) (f : Nat) (args : List V) (s : S) : TaskOk P (.call f args s) (stepCall E ih f args s) := by
  simp only [TaskOk]
  intro ρ₀ s₀ w₀ ρ w args' hp ha
  have hlen := VRels.length ha
  cases hf : E.funcs.get f with
  | none => simp only [stepCall, hf]
  | some fn =>
  cases hb : fn.body with
  | none => simp only [stepCall, hf, hb]
  | some c =>
  cases hn : Nat.ble args.length fn.ntmps with
  | false => simp only [stepCall, hf, hb, hn]
  | true =>
  have hn' : args.length ≤ fn.ntmps := by simpa using hn
  simp only [stepCall, hf, hb, hn, layArgs, layCells_eq]
  have hc := hih (.code c ⟨f, fn.ntmps, none⟩ (layT args 0 .leaf) [] s)
  simp only [TaskOk] at hc
  have hc := hc ρ₀ s₀ w₀ ρ w { tmps := args' ++ Array.replicate (fn.ntmps - args'.size) undef, defers := [] } none hp rfl (TRel.args ha _) (by simp at hlen ⊢; omega) rfl
  have hcall : ∀ (x : XE) (τ' : T V) (ms' : List Nat) (s' s'' : S) (v : V), codeIn (fen none) 0 P c (Ends ρ₀ s₀ w₀ fn.ntmps x τ' ms' s') { tmps := args' ++ Array.replicate (fn.ntmps - args'.size) undef, defers := [] } w →
      (x = .norm ∨ x = .ret) → leaveX E fn.results.toList τ' ms' s' = .val v s'' → CallsIn Fence.wide 0 P f args' w (Gives ρ₀ s₀ w₀ v s'') := fun x τ' ms' s' s'' v h hx hl => by
    refine callsIn_of_wp_marks (H.funcs _ _ hf) hb trivial (wpIn_mono h.wpIn fun e a w' he => ?_)
    obtain ⟨rfl, ρ', h1, h2, h3, h4⟩ := he
    have := leaveX_ok H (f := Fence.wide) h2 h1 h4 hl
    rcases hx with rfl | rfl <;> exact this
  cases ho : ih (.code c ⟨f, fn.ntmps, none⟩ (layT args 0 .leaf) [] s) with
  | no _ => trivial
  | val _ _ => trivial
  | code x τ' ms' s' =>
    rw [ho] at hc
    cases x with
    | exit _ => trivial
    | norm =>
      simp only [callBack]
      cases hl : leaveX E fn.results.toList τ' ms' s' with
      | val v s'' => exact hcall _ _ _ _ _ _ hc (.inl rfl) hl
      | _ => trivial
    | ret =>
      simp only [callBack]
      cases hl : leaveX E fn.results.toList τ' ms' s' with
      | val v s'' => exact hcall _ _ _ _ _ _ hc (.inr rfl) hl
      | _ => trivial

/-! ## A round -/
theorem putParams_ok {ρ : Rho} {nt : Nat} {β : Type} {bad : β} {c : T V → β} : ∀ {ps : List Nat} {args : List V} {args' : List Value} {τ : T V} {tmps : Array Value}, VRels ρ args args' → TRel ρ τ tmps → tmps.size = nt →
    putParams nt ps args τ c bad = bad ∨ ∃ τ', putParams nt ps args τ c bad = c τ' ∧ args'.length = ps.length ∧
      TRel ρ τ' ((ps.zip args').foldl (fun tmps (t, a) => tmps.setIfInBounds t a) tmps) ∧ ((ps.zip args').foldl (fun tmps (t, a) => tmps.setIfInBounds t a) tmps).size = nt
  | [], [], args', τ, tmps, ha, ht, hn => by
    rw [VRels.nil_iff] at ha; subst ha
    exact .inr ⟨τ, rfl, rfl, ht, hn⟩
  | p :: ps, v :: vs, args', τ, tmps, ha, ht, hn => by
    rw [VRels.cons_iff] at ha
    obtain ⟨v', rest, rfl, h1, h2⟩ := ha
    unfold putParams
    split
    · rename_i hb
      have hb' : p < nt := by simpa using hb
      rw [T.put_eq]
      have ht' : TRel ρ (τ.set p (some v)) (tmps.setIfInBounds p v') := TRel.put (a := ⟨tmps, []⟩) ht (by show p < tmps.size; omega) h1
      rcases putParams_ok (bad := bad) (c := c) (ps := ps) h2 ht' (by simpa using hn) with h | ⟨τ', h3, h4, h5, h6⟩
      · exact .inl h
      · exact .inr ⟨τ', h3, by simp [h4], h5, h6⟩
    · exact .inl rfl
  | [], _ :: _, _, _, _, _, _, _ => .inl rfl
  | _ :: _, [], _, _, _, _, _, _ => .inl rfl

theorem loop_at {ρ : Rho} {s : S} {w : World} (hg : Good ρ s w) {i : Nat} {l : Loc} {st : LoopState} {pend : Option Code} {fn : Nat} {τ : T V} {nt : Nat} {ps : List Nat} {asg body : Code} {dm : Nat}
    (hc : s.heap.get i = some (.loop st pend fn τ nt ps asg body dm)) (hl : ρ i = some l) :
    ∃ tmps dl fn', w.heap[l.blk]? = some (.loop { state := st, pending := pend, fn := fn', tmps := tmps, params := ps.toArray, assign := asg, body := body, defers := dl.blk }) ∧
      TRel ρ τ tmps ∧ tmps.size = nt ∧ ρ dm = some dl ∧
      (Instr.getLoop l.blk).run P w = .ok { state := st, pending := pend, fn := fn', tmps := tmps, params := ps.toArray, assign := asg, body := body, defers := dl.blk } w := by
  obtain ⟨l', hl', tmps, dl, fn', h1, h2, h3, h4⟩ := hg.obj _ _ hc
  rw [hl] at hl'
  injection hl' with hl'
  subst hl'
  exact ⟨tmps, dl, fn', h1, h2, h3, h4, by simp [Instr.getLoop, getObj, Sem.run, h1]⟩

/-- The loop's record set anew. -/
theorem setLoop_ok {ρ : Rho} {s : S} {w : World} (hg : Good ρ s w) {i : Nat} {l : Loc} (hl : ρ i = some l) (st : LoopState) (pend : Option Code) (c : S → Out) :
    setLoop s i st pend c = .no 911 ∨ ∃ s' w' r, setLoop s i st pend c = c s' ∧ (Instr.getLoop l.blk).run P w = .ok r w ∧
      (setObj l.blk (.loop { r with state := st, pending := pend })).run P w = .ok () w' ∧ Post ρ s w ρ s' w' ∧
      (∀ st₀ pend₀ f τ nt ps asg body dm, s.heap.get i = some (.loop st₀ pend₀ f τ nt ps asg body dm) → r.state = st₀ ∧ r.pending = pend₀ ∧ s'.heap.get i = some (.loop st pend f τ nt ps asg body dm)) := by
  unfold setLoop
  split
  · rename_i st₀ pend₀ f τ nt ps asg body dm hc
    obtain ⟨tmps, dl, fn', h1, h2, h3, h4, h5⟩ := loop_at (P := P) hg hc hl
    have hset := run_setObj (P := P) (o' := .loop { state := st, pending := pend, fn := fn', tmps := tmps, params := ps.toArray, assign := asg, body := body, defers := dl.blk }) h1 (by simp)
    refine .inr ⟨⟨s.heap.set i (some (.loop st pend f τ nt ps asg body dm)), s.next⟩, _, _, ?_, h5, hset, ?_, ?_⟩
    · simp only [S.set', T.put_eq]
    · exact Post.setObj hg hc hl h1 _ (fun w' hw' => ⟨tmps, dl, fn', hw', h2, h3, h4⟩)
    · intro st₁ pend₁ f₁ τ₁ nt₁ ps₁ asg₁ body₁ dm₁ h
      rw [hc] at h
      cases h
      exact ⟨rfl, rfl, by simp [T.get_set]⟩
  · exact .inl rfl
end
end Go.X
