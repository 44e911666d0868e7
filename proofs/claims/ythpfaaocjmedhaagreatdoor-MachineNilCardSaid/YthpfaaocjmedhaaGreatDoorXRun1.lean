/- A part of the proof that a law answers true for every input: an executor of the model over an abstract heap, proved sound, or the use of it. -/
import Derived.Test.YthpfaaocjmedhaaGreatDoorXOps15
import Derived.RangeFuncLeaves
namespace Go.X
open Go

/-! ## Fences, marks -/
/-- The wide fence, in a round or not. -/
def fen (r : Option Nat) : Fence := { Fence.wide with round := r }
theorem fen_fn (r : Option Nat) (f : FuncId) : (fen r).fn f := trivial
theorem fen_depth (r : Option Nat) {p : Prop} : (fen r).depth.isSome = true → p := fun h => by simp [fen, Fence.wide] at h
theorem fen_room (r : Option Nat) (n : Nat) : (fen r).room n := fun _ h => by simp [fen, Fence.wide] at h

def RoundRel (ρ : Rho) : Option Nat → Option Nat → Prop
  | none, r => r = none
  | some i, r => ∃ l, ρ i = some l ∧ r = some l.blk
theorem RoundRel.mono {ρ ρ' : Rho} (h : ρ.le ρ') : ∀ {x r : Option Nat}, RoundRel ρ x r → RoundRel ρ' x r
  | none, _, e => e
  | some _, _, ⟨l, h1, h2⟩ => ⟨l, h _ _ h1, h2⟩

def Marks (ρ : Rho) : List Nat → List Deferred → Prop
  | [], ds => ds = []
  | m :: ms, ds => ∃ l rest, ρ m = some l ∧ ds = { target := .collected l.blk, args := #[] } :: rest ∧ Marks ρ ms rest
theorem Marks.mono {ρ ρ' : Rho} (h : ρ.le ρ') : ∀ {ms : List Nat} {ds : List Deferred}, Marks ρ ms ds → Marks ρ' ms ds
  | [], _, e => e
  | _ :: _, _, ⟨l, rest, h1, h2, h3⟩ => ⟨l, rest, h _ _ h1, h2, Marks.mono h h3⟩

def exitOf : XE → Exit
  | .norm => .normal
  | .exit id => .exit id
  | .ret => .ret

/-! ## What a task comes to -/
def Ends (ρ₀ : Rho) (s₀ : S) (w₀ : World) (nt : Nat) (x : XE) (τ : T V) (ms : List Nat) (s : S) : Exit → Act → World → Prop := fun e a w =>
  e = exitOf x ∧ ∃ ρ, Post ρ₀ s₀ w₀ ρ s w ∧ TRel ρ τ a.tmps ∧ a.tmps.size = nt ∧ Marks ρ ms a.defers

def Gives (ρ₀ : Rho) (s₀ : S) (w₀ : World) (v : V) (s : S) : Ending → World → Prop := fun e w =>
  ∃ v', e = .returned v' ∧ ∃ ρ, VRel ρ v v' ∧ Post ρ₀ s₀ w₀ ρ s w

/-- The round's state, where a loop goes on. -/
def loopIn (F : Fence) (n : Nat) (P : Program) (c : Code) (Q : Exit → Act → World → Prop) (a : Act) (w : World) : Prop :=
  ∀ (b : Frame) (k : List Item) (cs : List Frame), b.roundOf = F.round → F.fn b.fn → F.room (cs.length + 1 + n) →
    ∃ e a' w', Q e a' w' ∧ ArrivesIn (Machine.fenced P F) P (lone (b.atR a (.code c :: .inLoop c :: k)) cs w) b k cs e a' w'

def codeIn (F : Fence) (n : Nat) (P : Program) (c : Code) (Q : Exit → Act → World → Prop) (a : Act) (w : World) : Prop := match c with
  | .loop b => loopIn F n P b Q a w
  | c => c.wpIn F n P Q a w

theorem loopIn.wpIn {F : Fence} {n : Nat} {P : Program} {c : Code} {Q : Exit → Act → World → Prop} {a : Act} {w : World} (h : loopIn F n P c Q a w) : (Code.loop c).wpIn F n P Q a w :=
  fun b k cs hro hb hr => let ⟨e, a', w', hq, harr⟩ := h b k cs hro hb hr; ⟨e, a', w', hq, .of_steps (.one (fenced_calm hb hr rfl) stepR_loop) harr⟩

theorem codeIn.wpIn {F : Fence} {n : Nat} {P : Program} {c : Code} {Q : Exit → Act → World → Prop} {a : Act} {w : World} (h : codeIn F n P c Q a w) : c.wpIn F n P Q a w := by
  cases c <;> first | exact loopIn.wpIn h | exact h

theorem loopIn_step {F : Fence} {n : Nat} {P : Program} {c : Code} {Q : Exit → Act → World → Prop} {a : Act} {w : World}
    (h : c.wpIn F n P (Exit.then (loopIn F n P c Q) Q) a w) : loopIn F n P c Q a w := by
  intro b k cs hro hb hr
  obtain ⟨e, a₁, w₁, hq, harr⟩ := h b (.inLoop c :: k) cs hro hb hr
  cases e with
  | normal =>
    obtain ⟨e₂, a₂, w₂, hq₂, harr₂⟩ := hq b k cs hro hb hr
    exact ⟨e₂, a₂, w₂, hq₂, .of_steps (StepsIn.trans harr (.one (fenced_calm hb hr rfl) stepR_inLoop)) harr₂⟩
  | exit id => exact ⟨_, a₁, w₁, hq, .pass (x := .inLoop c) rfl (fun _ _ => .inl (by simp)) harr⟩
  | goto l => exact ⟨_, a₁, w₁, hq, .pass (x := .inLoop c) rfl (fun _ _ => .inl (by simp)) harr⟩
  | ret => exact ⟨_, a₁, w₁, hq, .pass (x := .inLoop c) rfl (fun _ _ => .inl (by simp)) harr⟩
  | panic ch => exact ⟨_, a₁, w₁, hq, .pass (x := .inLoop c) rfl (fun _ _ => .inl (by simp)) harr⟩
  | outgrown => exact ⟨_, a₁, w₁, hq, .pass (x := .inLoop c) rfl (fun _ _ => .inl (by simp)) harr⟩

def TaskOk (P : Program) (task : Task) (out : Out) : Prop := match task with
  | .code c fr τ ms s => ∀ (ρ₀ : Rho) (s₀ : S) (w₀ : World) (ρ : Rho) (w : World) (a : Act) (r : Option Nat), Post ρ₀ s₀ w₀ ρ s w → RoundRel ρ fr.round r → TRel ρ τ a.tmps → a.tmps.size = fr.nt → Marks ρ ms a.defers →
    match out with
    | .code x τ' ms' s' => codeIn (fen r) 0 P c (Ends ρ₀ s₀ w₀ fr.nt x τ' ms' s') a w
    | _ => True
  | .ops l all fr τ ms s => ∀ (ρ₀ : Rho) (s₀ : S) (w₀ : World) (ρ : Rho) (w : World) (a : Act) (r : Option Nat) (k : Nat), Post ρ₀ s₀ w₀ ρ s w → RoundRel ρ fr.round r → TRel ρ τ a.tmps → a.tmps.size = fr.nt → Marks ρ ms a.defers →
    l = all.drop k →
    match out with
    | .code x τ' ms' s' => wpOpsIn (fen r) 0 P all.toArray (Ends ρ₀ s₀ w₀ fr.nt x τ' ms' s') (List.range' k l.length) a w
    | _ => True
  | .call f args s => ∀ (ρ₀ : Rho) (s₀ : S) (w₀ : World) (ρ : Rho) (w : World) (args' : Array Value), Post ρ₀ s₀ w₀ ρ s w → VRels ρ args args'.toList →
    match out with
    | .val v s' => CallsIn Fence.wide 0 P f args' w (Gives ρ₀ s₀ w₀ v s')
    | _ => True
  | .round i args s => ∀ (ρ₀ : Rho) (s₀ : S) (w₀ : World) (ρ : Rho) (w : World) (l : Loc) (args' : Array Value), Post ρ₀ s₀ w₀ ρ s w → ρ i = some l → VRels ρ args args'.toList →
    match out with
    | .val v s' => ∃ f tmps assign body, (Instr.yield l.blk args').run P w = .ok (.round l.blk f tmps assign body) w ∧ RoundIn Fence.wide 0 P l.blk f tmps assign body w (Gives ρ₀ s₀ w₀ v s')
    | _ => True

theorem TaskOk.no {P : Program} {task : Task} {n : Nat} : TaskOk P task (.no n) := by
  cases task <;> simp only [TaskOk] <;> intros <;> trivial

def IhOk (P : Program) (ih : Ih) : Prop := ∀ task, TaskOk P task (ih task)

/-! ## One operation after another -/
theorem undef_rel {ρ : Rho} : VRel ρ (.tuple []) undef := by simp only [VRel]; exact ⟨#[], rfl, VRels.nil⟩

theorem TRel.put {ρ : Rho} {τ : T V} {a : Act} (ht : TRel ρ τ a.tmps) {d : Nat} {v : V} {v' : Value} (hd : d < a.tmps.size) (hv : VRel ρ v v') : TRel ρ (τ.set d (some v)) (a.put (some d) v').tmps := by
  intro i x hi
  rw [T.get_set] at hi
  by_cases e : i = d
  · rw [if_pos e] at hi
    injection hi with hi
    subst hi e
    exact ⟨v', by simp [Act.put, hd], hv⟩
  · rw [if_neg e] at hi
    obtain ⟨u, h1, h2⟩ := ht i x hi
    refine ⟨u, ?_, h2⟩
    simp only [Act.put]
    rw [Array.getElem?_setIfInBounds, if_neg (Ne.symm e)]
    exact h1

theorem put_defers (a : Act) (d : Option Nat) (v : Value) : (a.put d v).defers = a.defers := by cases d <;> rfl
theorem put_size (a : Act) (d : Option Nat) (v : Value) : (a.put d v).tmps.size = a.tmps.size := by cases d <;> simp [Act.put]

theorem wantedX_ok {ρ : Rho} {τ : T V} {a : Act} (ht : TRel ρ τ a.tmps) {o : Oper} {all : List Oper} {b : Bool} (h : wantedX o all τ = some b) : Region.wanted o (yielded all.toArray a.tmps) = b := by
  unfold wantedX at h
  unfold Region.wanted
  split at h
  · rename_i hg; rw [hg]; simpa using h
  · rename_i j want hg
    rw [hg]
    simp only
    split at h
    · rename_i q hq
      split at h
      · rename_i d hd
        have hy : yielded all.toArray a.tmps j = match a.tmps[d]? with | some (.bool b) => some b | _ => none := by
          simp only [yielded, List.getElem?_toArray, hq, hd, Option.bind_some]
          rfl
        split at h
        · rename_i b' hb'
          obtain ⟨v, h1, h2⟩ := ht _ _ hb'
          simp only [VRel] at h2
          subst h2
          rw [hy, h1]
          simp only [Option.some.injEq] at h
          rw [← h]
          cases b' <;> cases want <;> rfl
        · rename_i hb'
          obtain ⟨v, h1, h2⟩ := ht _ _ hb'
          simp only [VRel] at h2
          obtain ⟨vs, rfl, _⟩ := h2
          rw [hy, h1]
          simp only [Option.some.injEq] at h
          rw [← h]
          rfl
        · cases h
      · cases h
    · cases h

section
variable {P : Program} {E : Env} {ih : Ih}

theorem opsRest_ok (hih : IhOk P ih) {rest all : List Oper} {fr : Fr} {τ : T V} {ms : List Nat} {d : Option Nat} {v : V} {s : S} {ρ₀ : Rho} {s₀ : S} {w₀ : World} {ρ : Rho} {w : World} {a : Act} {r : Option Nat} {k : Nat}
    (hp : Post ρ₀ s₀ w₀ ρ s w) (hr : RoundRel ρ fr.round r) (ht : TRel ρ τ a.tmps) (hs : a.tmps.size = fr.nt) (hm : Marks ρ ms a.defers) (hl : rest = all.drop k) {v' : Value} (hv : VRel ρ v v') :
    match opsRest ih rest all fr τ ms d v s with
    | .code x τ' ms' s' => wpOpsIn (fen r) 0 P all.toArray (Ends ρ₀ s₀ w₀ fr.nt x τ' ms' s') (List.range' k rest.length) (a.put d v') w
    | _ => True := by
  unfold opsRest
  cases d with
  | none =>
    simp only [putDst]
    exact hih (.ops rest all fr τ ms s) ρ₀ s₀ w₀ ρ w _ r k hp hr ht hs hm hl
  | some d =>
    have h : putDst fr τ (some d) v (.no 902) (fun τ' => ih (.ops rest all fr τ' ms s)) = if d < fr.nt then ih (.ops rest all fr (τ.set d (some v)) ms s) else .no 902 := by
      simp only [putDst, T.put_eq]
      by_cases hd : d < fr.nt
      · rw [if_pos hd, show Nat.blt d fr.nt = true from by simpa using hd]
      · rw [if_neg hd, show Nat.blt d fr.nt = false from by cases hb : Nat.blt d fr.nt; rfl; exact absurd (by simpa using hb) hd]
    rw [h]
    by_cases hd : d < fr.nt
    · rw [if_pos hd]
      exact hih (.ops rest all fr (τ.set d (some v)) ms s) ρ₀ s₀ w₀ ρ w _ r k hp hr (ht.put (by omega) hv) ((put_size ..).trans hs) ((put_defers ..).symm ▸ hm) hl
    · rw [if_neg hd]; trivial

theorem range'_cons (k n : Nat) : List.range' k (n + 1) = k :: List.range' (k + 1) n := rfl

theorem doOp_defer {τ : T V} {s : S} {c : Call} : ∃ n, doOp E τ s (.defer c) = .no n := ⟨_, rfl⟩

theorem stepOps_ok (H : EnvOk2 P E) (hih : IhOk P ih) (l all : List Oper) (fr : Fr) (τ : T V) (ms : List Nat) (s : S) : TaskOk P (.ops l all fr τ ms s) (stepOps E ih l all fr τ ms s) := by
  simp only [TaskOk]
  intro ρ₀ s₀ w₀ ρ w a r k hp hr ht hs hm hl
  cases l with
  | nil =>
    simp only [stepOps, List.length_nil]
    exact ⟨rfl, ρ, hp, ht, hs, hm⟩
  | cons o rest =>
    have hk : all[k]? = some o := by
      have := congrArg (·[0]?) hl
      simp only [List.getElem?_drop, List.getElem?_cons_zero, Nat.add_zero] at this
      exact this.symm
    have hrest : rest = all.drop (k + 1) := by
      have := congrArg List.tail hl
      simpa using this
    have hk' : all.toArray[k]? = some o := by simpa using hk
    have hab : ∀ f, o.about P w a.eval = some f → (fen r).fn f := fun f _ => fen_fn r f
    simp only [List.length_cons, range'_cons, wpOpsIn, hk', stepOps]
    cases hw : wantedX o all τ with
    | none => trivial
    | some b =>
    cases b with
    | false =>
      have h1 := wantedX_ok ht hw
      have h2 := opsRest_ok (d := o.dst) hih hp hr ht hs hm hrest undef_rel
      simp only [h1, Bool.false_eq_true, if_false]
      cases hq : opsRest ih rest all fr τ ms o.dst (.tuple []) s with
      | code x τ' ms' s' => rw [hq] at h2; exact ⟨hab, h2⟩
      | _ => trivial
    | true =>
      have h1 := wantedX_ok ht hw
      simp only [h1, if_true, Oper.wpIn]
      by_cases hdef : ∃ c, o.op = .defer c
      · obtain ⟨c, hc⟩ := hdef
        rw [hc]
        trivial
      have hsem : o.semAt (fen r).round a.eval = execOp a.eval o := Oper.semAt_eq _ _ _ fun c hc => hdef ⟨c, hc⟩
      have hx := doOp_ok H hp.good ht o
      rw [hsem]
      cases hd : doOp E τ s o.op with
      | no _ => trivial
      | val v s₁ =>
        rw [hd] at hx
        obtain ⟨ρ₁, w₁, v', h3, h4, h5⟩ := hx
        have h2 := opsRest_ok (d := o.dst) hih (hp.trans h5) (hr.mono h5.le) (ht.mono h5.le) hs (hm.mono h5.le) hrest h4
        simp only [opsOn]
        cases hq : opsRest ih rest all fr τ ms o.dst v s₁ with
        | code x τ' ms' s' => rw [hq] at h2; exact ⟨hab, by rw [h3]; exact h2⟩
        | _ => trivial
      | skip s₁ =>
        rw [hd] at hx
        obtain ⟨ρ₁, w₁, h3, h5⟩ := hx
        have h2 := opsRest_ok (d := o.dst) hih (hp.trans h5) (hr.mono h5.le) (ht.mono h5.le) hs (hm.mono h5.le) hrest undef_rel
        simp only [opsOn]
        cases hq : opsRest ih rest all fr τ ms o.dst (.tuple []) s₁ with
        | code x τ' ms' s' => rw [hq] at h2; exact ⟨hab, by rw [h3]; exact h2⟩
        | _ => trivial
      | enter f args s₁ =>
        rw [hd] at hx
        obtain ⟨ρ₁, w₁, args', h3, h4, h5⟩ := hx
        simp only [opsOn]
        have hc := hih (.call f args s₁)
        simp only [TaskOk] at hc
        have hc := hc ρ₁ s₁ w₁ ρ₁ w₁ args' (Post.refl h5.good) h4
        cases hi : ih (.call f args s₁) with
        | no _ => trivial
        | code _ _ _ _ => trivial
        | val v s₂ =>
          rw [hi] at hc
          simp only [opsBack]
          cases hq : opsRest ih rest all fr τ ms o.dst v s₂ with
          | code x τ' ms' s' =>
            refine ⟨hab, ?_⟩
            rw [h3]
            refine ⟨fen_depth r, CallsIn.mono (F := fen r) hc fun e w'' he => ?_⟩
            obtain ⟨v', rfl, ρ₂, h6, h7⟩ := he
            have hle := (h5.trans h7).le
            have h2 := opsRest_ok (v := v) (d := o.dst) hih (hp.trans (h5.trans h7)) (hr.mono hle) (ht.mono hle) hs (hm.mono hle) hrest h6
            rw [hq] at h2
            exact h2
          | _ => trivial
      | round i args s₁ =>
        rw [hd] at hx
        obtain ⟨rfl, l, args', h3, h4, h5⟩ := hx
        simp only [opsOn]
        have hc := hih (.round i args s₁)
        simp only [TaskOk] at hc
        have hc := hc ρ s₁ w ρ w l args' (Post.refl hp.good) h3 h4
        cases hi : ih (.round i args s₁) with
        | no _ => trivial
        | code _ _ _ _ => trivial
        | val v s₂ =>
          rw [hi] at hc
          obtain ⟨f, tmps, assign, body, hy, hc⟩ := hc
          simp only [opsBack]
          cases hq : opsRest ih rest all fr τ ms o.dst v s₂ with
          | code x τ' ms' s' =>
            refine ⟨hab, ?_⟩
            rw [h5, hy]
            refine ⟨fen_depth r, RoundIn.mono (F := fen r) hc fun e w'' he => ?_⟩
            obtain ⟨v', rfl, ρ₂, h6, h7⟩ := he
            have h2 := opsRest_ok (v := v) (d := o.dst) hih (hp.trans h7) (hr.mono h7.le) (ht.mono h7.le) hs (hm.mono h7.le) hrest h6
            rw [hq] at h2
            exact h2
          | _ => trivial

end
end Go.X
