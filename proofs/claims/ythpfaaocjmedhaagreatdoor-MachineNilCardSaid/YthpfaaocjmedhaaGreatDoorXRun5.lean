/- A part of the proof that a law answers true for every input: an executor of the model over an abstract heap, proved sound, or the use of it. -/
import Derived.Test.YthpfaaocjmedhaaGreatDoorXRun4
namespace Go.X
open Go
section
variable {P : Program} {E : Env} {ih : Ih}

/-- What a walk of code comes to, for a task's outcome. -/
def CodeOut (P : Program) (r : Option Nat) (nt : Nat) (c : Code) (ρ₀ : Rho) (s₀ : S) (w₀ : World) (a : Act) (w : World) (out : Out) : Prop := match out with
  | .code x τ' ms' s' => c.wpIn (fen r) 0 P (Ends ρ₀ s₀ w₀ nt x τ' ms' s') a w
  | _ => True

theorem rangeEnd_ok {r : Option Nat} {nt : Nat} {ρ₀ : Rho} {s₀ : S} {w₀ : World} {ρ : Rho} {s : S} {w : World} (hp : Post ρ₀ s₀ w₀ ρ s w) {i : Nat} {l : Loc} (hl : ρ i = some l) {τ : T V} {a : Act} {ms : List Nat}
    (ht : TRel ρ τ a.tmps) (hs : a.tmps.size = nt) (hm : Marks ρ ms a.defers) {v : V} {v' : Value} {x : XE} {τ' : T V} {ms' : List Nat} {s' : S} (h : rangeEnd τ ms i (.val v s) = .code x τ' ms' s') :
    rangePost (fen r) 0 P l.blk (Ends ρ₀ s₀ w₀ nt x τ' ms' s') a (.returned v') w := by
  unfold rangeEnd at h
  simp only at h
  split at h
  · cases h
  · rename_i st pend f τ₁ nt₁ ps asg body dm hnb hc
    rcases setLoop_ok (P := P) hp.good hl .exhausted pend (jumpX τ ms pend) with q | ⟨s₂, w₂, rr, q1, q2, q3, q4, q5⟩
    · rw [q] at h; cases h
    · rw [q1] at h
      obtain ⟨e1, e2, e3⟩ := q5 _ _ _ _ _ _ _ _ _ hc
      have hend : (Instr.endLoop l.blk).run P w = .ok pend w₂ := by
        have hb : (rr.state == LoopState.busy) = false := by
          rw [e1]
          cases st <;> first | rfl | exact (hnb rfl).elim
        simp only [Instr.endLoop, Sem.run_bind, q2, Result.andThen_ok, hb, Bool.false_eq_true, if_false, q3, Sem.run_pure, e2]
      refine ⟨pend, w₂, hend, ?_⟩
      have fin : ∀ {x : XE}, Ends ρ₀ s₀ w₀ nt x τ ms s₂ (exitOf x) a w₂ := fun {x} => ⟨rfl, ρ, hp.trans q4, ht, hs, hm⟩
      unfold jumpX at h
      split at h
      · cases h; exact fin (x := .norm)
      · cases h; exact wpIn_ret (fin (x := .ret))
      · cases h; exact wpIn_exit (fin (x := .exit _))
      · cases h
  · cases h

theorem rangeGo_ok (H : EnvOk2 P E) (hih : IhOk P ih) {fr : Fr} {g : Operand} {ps : Array Tmp} {asg body : Code} {ρ₀ : Rho} {s₀ : S} {w₀ : World} {ρ : Rho} {s : S} {w₁ w : World} (hp : Post ρ₀ s₀ w₀ ρ s w) {r : Option Nat}
    {τ : T V} {a : Act} {ms : List Nat} {mark : List Deferred} (_hr : RoundRel ρ fr.round r) (ht : TRel ρ τ a.tmps) (hs : a.tmps.size = fr.nt) (hm : Marks ρ ms (mark ++ a.defers))
    {fv : V} (hfv : ev τ g = some fv) {dm : Nat} {dl : Loc} (hd : ρ dm = some dl) {x : XE} {τ' : T V} {ms' : List Nat} {s' : S}
    (h : rangeGo E ih fv ps.toList asg body fr τ dm ms s = .code x τ' ms' s')
    (hen : ∀ fn, (Instr.enterLoop fn a.tmps ps asg body r).run P w₁ = ((newObj (.loop { state := .ready, pending := none, fn, tmps := a.tmps, params := ps, assign := asg, body, defers := dl.blk })).run P w).andThen fun l w' => .ok (l, mark) w') :
    (Code.rangeFunc g ps asg body).wpIn (fen r) 0 P (Ends ρ₀ s₀ w₀ fr.nt x τ' ms' s') a w₁ := by
  refine wpIn_rangeFunc fun fn _ => ?_
  have hn := newObj_ok (P := P) hp.good (.loop { state := .ready, pending := none, fn, tmps := a.tmps, params := ps, assign := asg, body, defers := dl.blk }) 0 (.loop .ready none fr.fn τ fr.nt ps.toList asg body dm)
    (fun ρ' hle w' hw' => ⟨a.tmps, dl, fn, by simpa using hw', ht.mono hle, hs, hle _ _ hd⟩)
  unfold rangeGo S.new' at h
  simp only [T.put_eq, forceN_eq, Nat.succ_eq_add_one] at h
  generalize hs₁ : (⟨s.heap.set s.next (some (.loop .ready none fr.fn τ fr.nt ps.toList asg body dm)), s.next + 1⟩ : S) = s₁ at h hn
  generalize hρ₁ : ρ.with s.next ⟨w.heap.size, 0, 0⟩ = ρ₁ at hn
  have hl : ρ₁ s.next = some ⟨w.heap.size, 0, 0⟩ := by rw [← hρ₁]; exact with_self _ _ _
  obtain ⟨hn1, hn2⟩ := hn
  have ha := doApply_ok (P := P) H hn2.good (fv := fv) (fv' := a.eval g) (ev_ok (ht.mono hn2.le) hfv) (args := [.yield s.next]) (args' := #[.func (.yield w.heap.size) #[] #[]])
    (e := do let d ← resolve a.eval (rangeCall g w.heap.size) 0; invoke d.target d.args)
    (by exact VRels.cons (by simp only [VRel]; exact ⟨_, hl, rfl⟩) VRels.nil)
    (by simp only [resolve, Sem.run_bind]; simp [Act.eval])
  unfold rangeCallX at h
  split at h
  · rename_i f args s₂ heq
    rw [heq] at ha
    obtain ⟨ρ₂, w₂, args', h3, h4, h5⟩ := ha
    rw [Sem.run_bind] at h3
    cases hres : (resolve a.eval (rangeCall g w.heap.size) 0).run P (w.alloc (.loop { state := .ready, pending := none, fn, tmps := a.tmps, params := ps, assign := asg, body, defers := dl.blk })) with
    | halt _ _ => rw [hres] at h3; cases h3
    | ok d w₁' =>
      rw [hres] at h3
      refine ⟨w.heap.size, mark, _, d, w₁', f, args', w₂, ?_, hres, fun f' _ => fen_fn r f', h3, fen_depth r, ?_⟩
      · rw [show (fen r).round = r from rfl, hen fn, hn1]; rfl
      · have hc := hih (.call f args s₂)
        simp only [TaskOk] at hc
        have hc := hc ρ₂ s₂ w₂ ρ₂ w₂ args' (Post.refl h5.good) h4
        cases hi : ih (.call f args s₂) with
        | no _ => rw [hi] at h; cases h
        | code _ _ _ _ => rw [hi] at h; cases h
        | val v s₃ =>
          rw [hi] at h hc
          refine CallsIn.mono (F := fen r) hc fun e w₃ he => ?_
          obtain ⟨v', rfl, ρ₃, o1, o2⟩ := he
          have hle := (hn2.trans (h5.trans o2)).le
          have hle' := (h5.trans o2).le
          exact rangeEnd_ok (a := { a with defers := mark ++ a.defers }) (hp.trans (hn2.trans (h5.trans o2))) (hle' _ _ hl) (ht.mono hle) hs (hm.mono hle) h
  · cases h
  · cases h

theorem rangeX_ok (H : EnvOk2 P E) (hih : IhOk P ih) {fr : Fr} {g : Operand} {ps : Array Tmp} {asg body : Code} {ρ₀ : Rho} {s₀ : S} {w₀ : World} {ρ : Rho} {s : S} {w : World} (hp : Post ρ₀ s₀ w₀ ρ s w) {r : Option Nat}
    {τ : T V} {a : Act} {ms : List Nat} (hr : RoundRel ρ fr.round r) (ht : TRel ρ τ a.tmps) (hs : a.tmps.size = fr.nt) (hm : Marks ρ ms a.defers) {x : XE} {τ' : T V} {ms' : List Nat} {s' : S}
    (h : rangeX E ih g ps asg body fr τ ms s = .code x τ' ms' s') : (Code.rangeFunc g ps asg body).wpIn (fen r) 0 P (Ends ρ₀ s₀ w₀ fr.nt x τ' ms' s') a w := by
  unfold rangeX at h
  split at h
  · rename_i fv hfv
    split at h
    · rename_i hro
      rw [hro] at hr
      have hr' : r = none := hr
      subst hr'
      have hn := newObj_ok (P := P) hp.good (.deferred (some [])) 0 .mark (fun ρ' hle w' hw' => hw')
      unfold S.new' at h
      simp only [T.put_eq, forceN_eq, Nat.succ_eq_add_one] at h
      obtain ⟨hn1, hn2⟩ := hn
      have hd := with_self ρ s.next ⟨w.heap.size, 0, 0⟩
      refine rangeGo_ok (mark := [{ target := .collected w.heap.size, args := #[] }]) H hih (hp.trans hn2) (by rw [hro]; rfl) (ht.mono hn2.le) hs (show Marks _ (s.next :: ms) _ from ⟨_, _, hd, rfl, hm.mono hn2.le⟩) hfv hd h fun fn => ?_
      simp only [Instr.enterLoop, Sem.run_bind, hn1, Result.andThen_ok, Sem.run_pure]
    · rename_i i hro
      rw [hro] at hr
      obtain ⟨l, hl, rfl⟩ := hr
      split at h
      · rename_i st pend f τ₁ nt₁ ps₁ asg₁ body₁ dm hc
        obtain ⟨tmps, dl, fn', h1, h2, h3, h4, h5⟩ := loop_at (P := P) hp.good hc hl
        refine rangeGo_ok (mark := []) H hih hp (by rw [hro]; exact ⟨l, hl, rfl⟩) ht hs hm hfv h4 h fun fn => ?_
        simp only [Instr.enterLoop, Sem.run_bind, h5, Result.andThen_ok, Sem.run_pure]
      · cases h
  · cases h

theorem then_ok {r : Option Nat} {nt : Nat} {c : Code} {K : Act → World → Prop} {Q : Exit → Act → World → Prop} {ρ₀ : Rho} {s₀ : S} {w₀ : World} {a : Act} {w : World} {x : XE} {τ : T V} {ms : List Nat} {s : S}
    (h : c.wpIn (fen r) 0 P (Ends ρ₀ s₀ w₀ nt x τ ms s) a w)
    (hk : x = .norm → ∀ a' w' ρ', Post ρ₀ s₀ w₀ ρ' s w' → TRel ρ' τ a'.tmps → a'.tmps.size = nt → Marks ρ' ms a'.defers → K a' w')
    (hq : x ≠ .norm → ∀ a' w', Ends ρ₀ s₀ w₀ nt x τ ms s (exitOf x) a' w' → Q (exitOf x) a' w') : c.wpIn (fen r) 0 P (Exit.then K Q) a w :=
  wpIn_mono h fun e a' w' he => by
    have he' := he
    obtain ⟨rfl, ρ', h1, h2, h3, h4⟩ := he
    cases x with
    | norm => exact hk rfl a' w' ρ' h1 h2 h3 h4
    | ret => exact hq (by simp) a' w' he'
    | exit id => exact hq (by simp) a' w' he'

theorem stepCode_ok (H : EnvOk2 P E) (hih : IhOk P ih)
    (hreg : ∀ id ops fr τ ms s, TaskOk P (.code (.region id ops true) fr τ ms s) (regionX E ih ops true fr τ ms s))
    (c : Code) (fr : Fr) (τ : T V) (ms : List Nat) (s : S) : TaskOk P (.code c fr τ ms s) (stepCode E ih c fr τ ms s) := by
  simp only [TaskOk]
  intro ρ₀ s₀ w₀ ρ w a r hp hr ht hs hm
  cases c with
  | skip => exact wpIn_skip ⟨rfl, ρ, hp, ht, hs, hm⟩
  | label _ => exact wpIn_label ⟨rfl, ρ, hp, ht, hs, hm⟩
  | exit id => exact wpIn_exit ⟨rfl, ρ, hp, ht, hs, hm⟩
  | ret => exact wpIn_ret ⟨rfl, ρ, hp, ht, hs, hm⟩
  | goto _ => trivial
  | refuse _ => trivial
  | scope _ => trivial
  | rangeFunc g ps asg body =>
    simp only [stepCode]
    cases h : rangeX E ih g ps asg body fr τ ms s with
    | code x τ' ms' s' => exact rangeX_ok H hih hp hr ht hs hm h
    | _ => trivial
  | cond x y z =>
    simp only [stepCode]
    unfold condX
    cases hv : ev τ x with
    | none => trivial
    | some v =>
      have h := ev_ok ht hv
      cases v <;> try trivial
      rename_i b
      simp only [VRel] at h
      cases b with
      | true =>
        have hc := hih (.code y fr τ ms s)
        simp only [TaskOk] at hc
        have hc := hc ρ₀ s₀ w₀ ρ w a r hp hr ht hs hm
        simp only
        cases hi : ih (.code y fr τ ms s) with
        | code x τ' ms' s' => rw [hi] at hc; exact wpIn_cond_true h hc.wpIn
        | _ => trivial
      | false =>
        have hc := hih (.code z fr τ ms s)
        simp only [TaskOk] at hc
        have hc := hc ρ₀ s₀ w₀ ρ w a r hp hr ht hs hm
        simp only
        cases hi : ih (.code z fr τ ms s) with
        | code x τ' ms' s' => rw [hi] at hc; exact wpIn_cond_false h hc.wpIn
        | _ => trivial
  | block id b =>
    simp only [stepCode]
    have hc := hih (.code b fr τ ms s)
    simp only [TaskOk] at hc
    have hc := hc ρ₀ s₀ w₀ ρ w a r hp hr ht hs hm
    cases hi : ih (.code b fr τ ms s) with
    | val _ _ => trivial
    | no _ => trivial
    | code x τ' ms' s' =>
      rw [hi] at hc
      have hb : ∀ x', (∀ a' w', Ends ρ₀ s₀ w₀ fr.nt x τ' ms' s' (exitOf x) a' w' → Exit.inBlock id (Ends ρ₀ s₀ w₀ fr.nt x' τ' ms' s') (exitOf x) a' w') → (Code.block id b).wpIn (fen r) 0 P (Ends ρ₀ s₀ w₀ fr.nt x' τ' ms' s') a w := fun x' hx =>
        wpIn_block (wpIn_mono hc.wpIn fun e a' w' he => by have he' := he; obtain ⟨rfl, _⟩ := he; exact hx a' w' he')
      cases x with
      | norm => exact hb .norm fun a' w' he => he
      | ret => exact hb .ret fun a' w' he => he
      | exit j =>
        simp only [blockX]
        by_cases hj : j = id
        · subst hj
          rw [show Nat.beq j j = true from Nat.beq_refl j]
          refine hb .norm fun a' w' he => ?_
          simp only [exitOf, Exit.inBlock, if_true]
          obtain ⟨_, h⟩ := he
          exact ⟨rfl, h⟩
        · rw [show Nat.beq j id = false from by cases hb' : Nat.beq j id; rfl; exact absurd (Nat.eq_of_beq_eq_true hb') hj]
          refine hb (.exit j) fun a' w' he => ?_
          simp only [exitOf, Exit.inBlock, hj, if_false]
          exact he
  | seq x y =>
    simp only [stepCode]
    have hc := hih (.code x fr τ ms s)
    simp only [TaskOk] at hc
    have hc := hc ρ s w ρ w a r (Post.refl hp.good) hr ht hs hm
    cases hi : ih (.code x fr τ ms s) with
    | val _ _ => trivial
    | no _ => trivial
    | code e τ₁ ms₁ s₁ =>
      rw [hi] at hc
      cases e with
      | norm =>
        simp only [thenX]
        cases hj : ih (.code y fr τ₁ ms₁ s₁) with
        | code e₂ τ₂ ms₂ s₂ =>
          refine wpIn_seq (then_ok hc.wpIn (fun _ a' w' ρ' h1 h2 h3 h4 => ?_) (fun h => absurd rfl h))
          have hc := hih (.code y fr τ₁ ms₁ s₁)
          simp only [TaskOk] at hc
          have hc := hc ρ₀ s₀ w₀ ρ' w' a' r (hp.trans h1) (hr.mono h1.le) h2 h3 h4
          rw [hj] at hc
          exact hc.wpIn
        | _ => trivial
      | ret => exact wpIn_seq (then_ok hc.wpIn (fun h => by cases h) (fun _ a' w' ⟨h1, ρ', h2, h3⟩ => ⟨h1, ρ', hp.trans h2, h3⟩))
      | exit id => exact wpIn_seq (then_ok hc.wpIn (fun h => by cases h) (fun _ a' w' ⟨h1, ρ', h2, h3⟩ => ⟨h1, ρ', hp.trans h2, h3⟩))
  | loop b =>
    simp only [stepCode]
    have hc := hih (.code b fr τ ms s)
    simp only [TaskOk] at hc
    have hc := hc ρ s w ρ w a r (Post.refl hp.good) hr ht hs hm
    cases hi : ih (.code b fr τ ms s) with
    | val _ _ => trivial
    | no _ => trivial
    | code e τ₁ ms₁ s₁ =>
      rw [hi] at hc
      cases e with
      | norm =>
        simp only [thenX]
        cases hj : ih (.code (.loop b) fr τ₁ ms₁ s₁) with
        | code e₂ τ₂ ms₂ s₂ =>
          refine loopIn_step (then_ok hc.wpIn (fun _ a' w' ρ' h1 h2 h3 h4 => ?_) (fun h => absurd rfl h))
          have hc := hih (.code (.loop b) fr τ₁ ms₁ s₁)
          simp only [TaskOk] at hc
          have hc := hc ρ₀ s₀ w₀ ρ' w' a' r (hp.trans h1) (hr.mono h1.le) h2 h3 h4
          rw [hj] at hc
          exact hc
        | _ => trivial
      | ret => exact loopIn_step (then_ok hc.wpIn (fun h => by cases h) (fun _ a' w' ⟨h1, ρ', h2, h3⟩ => ⟨h1, ρ', hp.trans h2, h3⟩))
      | exit id => exact loopIn_step (then_ok hc.wpIn (fun h => by cases h) (fun _ a' w' ⟨h1, ρ', h2, h3⟩ => ⟨h1, ρ', hp.trans h2, h3⟩))
  | region id ops draw =>
    simp only [stepCode]
    cases draw with
    | false =>
      simp only [regionX]
      have hc := hih (.ops ops.toList ops.toList fr τ ms s)
      simp only [TaskOk] at hc
      have hc := hc ρ₀ s₀ w₀ ρ w a r 0 hp hr ht hs hm (by simp)
      cases hi : ih (.ops ops.toList ops.toList fr τ ms s) with
      | code x τ' ms' s' =>
        rw [hi] at hc
        refine wpIn_region ?_
        simpa [List.range_eq_range'] using hc
      | _ => trivial
    | true =>
      have h := hreg id ops fr τ ms s
      simp only [TaskOk] at h
      have h := h ρ₀ s₀ w₀ ρ w a r hp hr ht hs hm
      cases hi : regionX E ih ops true fr τ ms s with
      | code x τ' ms' s' => rw [hi] at h; exact h
      | _ => trivial
end
end Go.X
