/- A part of the proof that a law answers true for every input: an executor of the model over an abstract heap, proved sound, or the use of it. -/
import Derived.Test.YthpfaaocjmedhaaGreatDoorXRun3
namespace Go.X
open Go
section
variable {P : Program} {E : Env} {ih : Ih}

theorem endRound_ok {ρ₀ : Rho} {s₀ : S} {w₀ : World} {ρ : Rho} {s s' : S} {w : World} (hp : Post ρ₀ s₀ w₀ ρ s w) {i : Nat} {l : Loc} (hl : ρ i = some l) {st : LoopState} {jump : Option Code}
    (hst : st = if jump.isNone then .ready else .done) {v : V} (h : setLoop s i st jump (fun s' => .val (.bool jump.isNone) s') = .val v s') :
    ∃ v' w', (Instr.endRound l.blk jump).run P w = .ok v' w' ∧ Gives ρ₀ s₀ w₀ v s' (.returned v') w' := by
  rcases setLoop_ok (P := P) hp.good hl st jump (fun s' => .val (.bool jump.isNone) s') with h1 | ⟨s₁, w₁, r, h1, h2, h3, h4, _⟩
  · rw [h1] at h; cases h
  · rw [h1] at h
    injection h with h5 h6
    subst h5 h6
    refine ⟨.bool jump.isNone, w₁, ?_, _, rfl, ρ, by simp only [VRel], hp.trans h4⟩
    subst hst
    simp only [Instr.endRound, Sem.run_bind, h2, Result.andThen_ok, h3, Sem.run_pure]

theorem roundEnd_ok {ρ₀ : Rho} {s₀ : S} {w₀ : World} {ρ : Rho} {s s' : S} {w : World} (hp : Post ρ₀ s₀ w₀ ρ s w) {i : Nat} {l : Loc} (hl : ρ i = some l) {x : XE} {τ : T V} {ms : List Nat} {v : V} {a : Act}
    (h : roundEnd i (.code x τ ms s) = .val v s') : roundPost P l.blk (Gives ρ₀ s₀ w₀ v s') (exitOf x) a w := by
  cases ms with
  | cons _ _ => cases x <;> cases h
  | nil =>
    cases x with
    | norm => exact endRound_ok hp hl rfl (jump := none) h
    | ret => exact endRound_ok hp hl rfl (jump := some .ret) h
    | exit id => exact endRound_ok hp hl rfl (jump := some (.exit id)) h

theorem stepRound_ok (hih : IhOk P ih) (i : Nat) (args : List V) (s : S) : TaskOk P (.round i args s) (stepRound ih i args s) := by
  simp only [TaskOk]
  intro ρ₀ s₀ w₀ ρ w l args' hp hl ha
  have key : ∀ v s', stepRound ih i args s = .val v s' → ∃ f tmps assign body, (Instr.yield l.blk args').run P w = .ok (.round l.blk f tmps assign body) w ∧ RoundIn Fence.wide 0 P l.blk f tmps assign body w (Gives ρ₀ s₀ w₀ v s') := by
    intro v s' h
    unfold stepRound at h
    split at h
    · rename_i pend f τ nt ps asg body dm hc
      obtain ⟨tmps, dl, fn', h1, h2, h3, h4, h5⟩ := loop_at (P := P) hp.good hc hl
      rcases putParams_ok (bad := .no 915) (c := fun τ' => roundBody ih i ⟨f, nt, some i⟩ body (ih (.code asg ⟨f, nt, some i⟩ τ' [] s))) (ps := ps) ha h2 h3 with k | ⟨τ', k1, k2, k3, k4⟩
      · rw [k] at h; cases h
      · rw [k1] at h
        generalize hf : (ps.zip args'.toList).foldl (fun tmps (t, a) => tmps.setIfInBounds t a) tmps = tmps' at k3 k4
        refine ⟨fn', tmps', asg, body, ?_, ?_⟩
        · have hfold : (ps.toArray.zip args').foldl (fun tmps (t, a) => tmps.setIfInBounds t a) tmps = tmps' := by
            rw [← hf, ← Array.foldl_toList]; simp
          simp only [Instr.yield, Sem.run_bind, h5, Result.andThen_ok]
          rw [if_neg (by simp at k2 ⊢; exact k2)]
          simp only [Sem.run_pure, hfold]
        · have hasg := hih (.code asg ⟨f, nt, some i⟩ τ' [] s)
          simp only [TaskOk] at hasg
          have hasg := hasg ρ s w ρ w { tmps := tmps', defers := [] } (some l.blk) (Post.refl hp.good) ⟨l, hl, rfl⟩ k3 k4 rfl
          refine roundIn_of_wpIn (F := Fence.wide) trivial ?_
          cases ho : ih (.code asg ⟨f, nt, some i⟩ τ' [] s) with
          | no _ => rw [ho] at h; cases h
          | val _ _ => rw [ho] at h; cases h
          | code x τ₁ ms₁ s₁ =>
            rw [ho] at h hasg
            unfold roundBody at h
            split at h
            · rename_i heq
              cases heq
              refine wpIn_mono hasg.wpIn fun e a w₁ he => ?_
              obtain ⟨rfl, ρ₁, p1, p2, p3, p4⟩ := he
              have hl₁ : ρ₁ i = some l := p1.le _ _ hl
              split at h
              · rename_i pend₁ f₁ τ₂ nt₁ ps₁ asg₁ body₁ dm₁ hc₁
                rcases setLoop_ok (P := P) p1.good hl₁ .busy pend₁ (fun s' => roundEnd i (ih (.code body ⟨f, nt, some i⟩ τ₁ [] s'))) with q | ⟨s₂, w₂, r, q1, q2, q3, q4, q5⟩
                · rw [q] at h; cases h
                · rw [q1] at h
                  obtain ⟨e1, e2, e3⟩ := q5 _ _ _ _ _ _ _ _ _ hc₁
                  refine ⟨w₂, ?_, ?_⟩
                  · have : ({ r with state := .busy } : Loop) = { r with state := .busy, pending := pend₁ } := by rw [← e2]
                    simp only [Instr.beginRound, Sem.run_bind, q2, Result.andThen_ok, this, q3, e1, Sem.run_pure]
                  · have hbody := hih (.code body ⟨f, nt, some i⟩ τ₁ [] s₂)
                    simp only [TaskOk] at hbody
                    have hbody := hbody ρ₁ s₂ w₂ ρ₁ w₂ a (some l.blk) (Post.refl q4.good) ⟨l, hl₁, rfl⟩ p2 p3 p4
                    cases hb : ih (.code body ⟨f, nt, some i⟩ τ₁ [] s₂) with
                    | no _ => rw [hb] at h; cases h
                    | val _ _ => rw [hb] at h; cases h
                    | code x₂ τ₃ ms₂ s₃ =>
                      rw [hb] at h hbody
                      refine wpIn_mono hbody.wpIn fun e' a' w₃ he' => ?_
                      obtain ⟨rfl, ρ₂, o1, o2, o3, o4⟩ := he'
                      exact roundEnd_ok (hp.trans (p1.trans (q4.trans o1))) (o1.le _ _ hl₁) h
              · cases h
            · cases h
            · cases h
    · cases h
  cases hq : stepRound ih i args s with
  | val v s' => exact key v s' hq
  | _ => trivial
end
end Go.X
