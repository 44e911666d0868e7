/- A part of the proof that a law answers true for every input: an executor of the model over an abstract heap, proved sound, or the use of it. -/
import Derived.Test.YthpfaaocjmedhaaGreatDoorXBase
import Derived.Laws.IdiomCopy
import Derived.Laws.Append
namespace Go.X
open Go

structure EnvOk (P : Program) (E : Env) : Prop where
  types : ∀ t i, E.types.get t = some i → P.info? t = some i
  funcs : ∀ f fn, E.funcs.get f = some fn → P.funcs[f]? = some fn
  names : ∀ f fn, E.funcs.get f = some fn → (fn.name == "runtime.NumGoroutine") = false

section
variable {P : Program} {E : Env}

theorem info_ok (H : EnvOk P E) {t : Nat} {i : TypeInfo} (h : E.info t = some i) : P.info? t = some i := H.types t i h

theorem und_ok (H : EnvOk P E) {t : Nat} {d : TypeDesc} (h : E.und t = some d) : P.underlying t = some d := by
  unfold Env.und at h
  cases hi : E.info t with
  | none => rw [hi] at h; cases h
  | some i =>
    rw [hi] at h
    have hp := info_ok H hi
    unfold Program.underlying
    rw [hp]
    obtain ⟨desc, a, b, c, d', e, f, g, k, m⟩ := i
    cases desc <;> simp only at h ⊢ <;> try exact h
    rename_i nm u
    cases hu : E.info u with
    | none => rw [hu] at h; cases h
    | some j => rw [hu] at h; rw [info_ok H hu]; simpa using h

theorem size_ok (H : EnvOk P E) {t n : Nat} (h : sizeX E t = some n) : ∃ i, P.info? t = some i ∧ i.size = n := by
  unfold sizeX at h
  cases hi : E.info t with
  | none => rw [hi] at h; cases h
  | some i => rw [hi] at h; exact ⟨i, info_ok H hi, by simpa using h⟩

theorem run_sizeOf {t : Nat} {i : TypeInfo} (h : P.info? t = some i) (w : World) : (sizeOf t).run P w = .ok i.size w := by
  simp [sizeOf, typeInfo, h]

theorem run_isAgg {t : Nat} {d : TypeDesc} (h : P.underlying t = some d) (w : World) : (isAgg t).run P w = .ok (isAggD d) w := by
  simp only [isAgg, Sem.run_bind, run_underlying h, Result.andThen_ok]
  cases d <;> rfl

/-! ## Constants -/
theorem ofValue_ok {ρ : Rho} : ∀ n, (∀ v x, ofValue n v = some x → VRel ρ x v) ∧ (∀ vs l, ofValues n vs = some l → VRels ρ l vs) := by
  intro n
  induction n with
  | zero => exact ⟨fun v x h => (by simp [ofValue] at h), fun vs l h => (by simp [ofValues] at h)⟩
  | succ n ih =>
    refine ⟨fun v x h => ?_, fun vs l h => ?_⟩
    · unfold ofValue at h
      split at h <;> (try simp only [forceI_eq, forceL_eq, Option.some.injEq] at h) <;> (try (subst h; simp only [VRel]; done)) <;> (try (subst h; simp only [VRel]; exact ⟨_, rfl, rfl⟩))
      · split at h
        · rename_i l hl
          simp only [Option.some.injEq] at h; subst h; simp only [VRel]; exact ⟨_, rfl, ih.2 _ _ hl⟩
        · cases h
      · split at h
        · rename_i l hl
          simp only [Option.some.injEq] at h; subst h; simp only [VRel]; exact ⟨_, rfl, ih.2 _ _ hl⟩
        · cases h
      · cases h
    · unfold ofValues at h
      split at h
      · simp only [Option.some.injEq] at h; subst h; exact VRels.nil
      · split at h
        · rename_i x hx
          split at h
          · rename_i l hl
            simp only [Option.some.injEq] at h; subst h; exact VRels.cons (ih.1 _ _ hx) (ih.2 _ _ hl)
          · cases h
        · cases h

theorem ev_ok {ρ : Rho} {τ : T V} {a : Act} (ht : TRel ρ τ a.tmps) {o : Operand} {x : V} (h : ev τ o = some x) : VRel ρ x (a.eval o) := by
  cases o with
  | tmp t =>
    obtain ⟨v, h1, h2⟩ := ht t x h
    simp only [Act.eval, Array.getD_eq_getD_getElem?, h1]
    exact h2
  | const v => exact (ofValue_ok _).1 _ _ h
  | global g => simp only [ev, Option.some.injEq] at h; subst h; simp only [VRel, Act.eval]
  | func f =>
    simp only [ev, Option.some.injEq] at h; subst h; simp only [VRel, Act.eval]
    exact ⟨#[], #[], rfl, VRels.nil, VRels.nil⟩

theorem evs_ok {ρ : Rho} {τ : T V} {a : Act} (ht : TRel ρ τ a.tmps) : ∀ {l : List Operand} {xs : List V}, evs τ l = some xs → VRels ρ xs (l.map a.eval)
  | [], _, h => by simp only [evs, Option.some.injEq] at h; subst h; exact VRels.nil
  | o :: l, xs, h => by
    unfold evs at h
    split at h
    · rename_i x hx
      split at h
      · rename_i r hr
        simp only [Option.some.injEq] at h; subst h
        exact VRels.cons (ev_ok ht hx) (evs_ok ht hr)
      · cases h
    · cases h

theorem evParts_ok {ρ : Rho} {τ : T V} {a : Act} (ht : TRel ρ τ a.tmps) : ∀ {l : List (Nat × Operand)} {xs : List (Nat × V)}, evParts τ l = some xs →
    xs.map (·.1) = l.map (·.1) ∧ VRels ρ (xs.map (·.2)) (l.map fun p => a.eval p.2)
  | [], _, h => by simp only [evParts, Option.some.injEq] at h; subst h; exact ⟨rfl, VRels.nil⟩
  | (i, o) :: l, xs, h => by
    unfold evParts at h
    split at h
    · rename_i x hx
      split at h
      · rename_i r hr
        simp only [Option.some.injEq] at h; subst h
        obtain ⟨h1, h2⟩ := evParts_ok ht hr
        exact ⟨by simp [h1], VRels.cons (ev_ok ht hx) h2⟩
      · cases h
    · cases h

theorem optEv_ok {ρ : Rho} {τ : T V} {a : Act} (ht : TRel ρ τ a.tmps) {o : Option Operand} {x : Option V} (h : optEv τ o = some x) :
    match x with
    | none => o.map a.eval = none
    | some v => ∃ u, o.map a.eval = some u ∧ VRel ρ v u := by
  cases o with
  | none => simp only [optEv, Option.some.injEq] at h; subst h; rfl
  | some o =>
    simp only [optEv] at h
    split at h
    · rename_i v hv
      simp only [Option.some.injEq] at h; subst h
      exact ⟨_, rfl, ev_ok ht hv⟩
    · cases h

/-! ## What an operation comes to -/
def XV (P : Program) (e : Sem Value) (ρ : Rho) (s : S) (w : World) : XR → Prop
  | .val v s' => ∃ ρ' w' v', e.run P w = .ok v' w' ∧ VRel ρ' v v' ∧ Post ρ s w ρ' s' w'
  | .no _ => True
  | _ => False

def XU (P : Program) (e : Sem Unit) (ρ : Rho) (s : S) (w : World) : XR → Prop
  | .skip s' => ∃ ρ' w', e.run P w = .ok () w' ∧ Post ρ s w ρ' s' w'
  | .no _ => True
  | _ => False

def XN (P : Program) (e : Sem Next) (ρ : Rho) (s : S) (w : World) : XR → Prop
  | .val v s' => ∃ ρ' w' v', e.run P w = .ok (.value v') w' ∧ VRel ρ' v v' ∧ Post ρ s w ρ' s' w'
  | .skip s' => ∃ ρ' w', e.run P w = .ok .skip w' ∧ Post ρ s w ρ' s' w'
  | .enter f args s' => ∃ ρ' w' args', e.run P w = .ok (.enter f args') w' ∧ VRels ρ' args args'.toList ∧ Post ρ s w ρ' s' w'
  | .round i args s' => s' = s ∧ ∃ l args', ρ i = some l ∧ VRels ρ args args'.toList ∧ e.run P w = (Instr.yield l.blk args').run P w
  | .no _ => True

theorem XN_of_XV {e : Sem Value} {ρ : Rho} {s : S} {w : World} {r : XR} (h : XV P e ρ s w r) : XN P (do pure (.value (← e))) ρ s w r := by
  cases r with
  | val v s' =>
    obtain ⟨ρ', w', v', h1, h2, h3⟩ := h
    exact ⟨ρ', w', v', by simp [h1], h2, h3⟩
  | no _ => trivial
  | skip _ => exact h.elim
  | enter _ _ _ => exact h.elim
  | round _ _ _ => exact h.elim

theorem XN_of_XU {e : Sem Unit} {ρ : Rho} {s : S} {w : World} {r : XR} (h : XU P e ρ s w r) : XN P (do e; pure .skip) ρ s w r := by
  cases r with
  | skip s' =>
    obtain ⟨ρ', w', h1, h3⟩ := h
    exact ⟨ρ', w', by simp [h1], h3⟩
  | no _ => trivial
  | val _ _ => exact h.elim
  | enter _ _ _ => exact h.elim
  | round _ _ _ => exact h.elim

/-- A value, and the world as it was. -/
theorem XV_pure {e : Sem Value} {ρ : Rho} {s : S} {w : World} {v : V} (hg : Good ρ s w) (h : ∃ v', e.run P w = .ok v' w ∧ VRel ρ v v') : XV P e ρ s w (.val v s) :=
  let ⟨v', h1, h2⟩ := h; ⟨ρ, w, v', h1, h2, Post.refl hg⟩

/-! ## Reading -/
theorem Loc.addr_add (l : Loc) (o n : Nat) : (l.addr o).add n = l.addr (o + n) := by
  unfold Loc.addr; rw [Addr.add_lit, Nat.add_assoc]

theorem cell_of {ρ : Rho} {l : Loc} {w : World} {n : Nat} {cs : T V} {e : Nat} (h : ORel ρ l w (.cells n cs e)) {o : Nat} {x : V} (hx : cs.get o = some x) :
    oneCell x = true ∧ ∃ v, w.cell? (l.addr o) = some v ∧ VRel ρ x v := by
  obtain ⟨cur, fr, h1, h2, h3, h4, h5⟩ := h
  obtain ⟨h0, v, h6, h7⟩ := h5 o x hx
  exact ⟨h0, v, by simp [World.cell?, Loc.addr, h1, h6], h7⟩

theorem readCells_length {t : T V} : ∀ {n o : Nat} {l : List V}, readCells t n o = some l → l.length = n
  | 0, _, _, h => by simp only [readCells, Option.some.injEq] at h; subst h; rfl
  | n + 1, o, l, h => by
    unfold readCells at h
    split at h
    · split at h
      · rename_i r hr
        simp only [Option.some.injEq] at h; subst h
        simp [readCells_length hr]
      · cases h
    · cases h

theorem readCells_get {t : T V} : ∀ {n o : Nat} {l : List V}, readCells t n o = some l → ∀ j x, l[j]? = some x → t.get (o + j) = some x
  | 0, _, _, h, j, x, hj => by simp only [readCells, Option.some.injEq] at h; subst h; simp at hj
  | n + 1, o, l, h, j, x, hj => by
    unfold readCells at h
    split at h
    · rename_i y hy
      split at h
      · rename_i r hr
        simp only [Option.some.injEq] at h; subst h
        cases j with
        | zero => simp at hj; subst hj; exact hy
        | succ j =>
          have := readCells_get hr j x (by simpa using hj)
          rwa [show o + (j + 1) = Nat.succ o + j from by omega]
      · cases h
    · cases h

/-- What a list of cells in a tree stands for, in the world. -/
theorem cells_read {ρ : Rho} {l : Loc} {w : World} {n : Nat} {cs : T V} {e : Nat} (h : ORel ρ l w (.cells n cs e)) : ∀ {k o : Nat} {xs : List V}, readCells cs k o = some xs →
    ∃ vs : List Value, VRels ρ xs vs ∧ (∀ j v, vs[j]? = some v → w.cell? ((l.addr o).add j) = some v) := by
  intro k
  induction k with
  | zero =>
    intro o xs hx
    simp only [readCells, Option.some.injEq] at hx
    subst hx
    exact ⟨[], VRels.nil, fun j v hj => by simp at hj⟩
  | succ k ih =>
    intro o xs hx
    unfold readCells at hx
    split at hx
    · rename_i y hy
      split at hx
      · rename_i r hr
        simp only [Option.some.injEq] at hx
        subst hx
        obtain ⟨vs, h1, h2⟩ := ih hr
        obtain ⟨_, v, h3, h4⟩ := cell_of h hy
        refine ⟨v :: vs, VRels.cons h4 h1, fun j u hj => ?_⟩
        cases j with
        | zero => simp at hj; subst hj; simpa [Addr.add] using h3
        | succ j =>
          have := h2 j u (by simpa using hj)
          rw [Loc.addr_add] at this ⊢
          rwa [show o + (j + 1) = Nat.succ o + j from by omega]
      · cases hx
    · cases hx

theorem run_loadCells_rel {ρ : Rho} {l : Loc} {w : World} {n : Nat} {cs : T V} {e : Nat} (h : ORel ρ l w (.cells n cs e)) {k o : Nat} {xs : List V} (hx : readCells cs k o = some xs) :
    ∃ vs : Array Value, (loadCells (l.addr o) k).run P w = .ok vs w ∧ VRels ρ xs vs.toList := by
  obtain ⟨vs, h1, h2⟩ := cells_read h hx
  have hl : vs.length = k := by rw [VRels.length h1, readCells_length hx]
  refine ⟨vs.toArray, ?_, by simpa using h1⟩
  rw [← hl]
  exact run_loadCells_list w _ vs h2

variable (H : EnvOk P E)
include H

theorem doLoad_ok {ρ : Rho} {s : S} {w : World} (hg : Good ρ s w) {a : V} {a' : Value} (ha : VRel ρ a a') (t : Nat) : XV P (Instr.loadAt t a') ρ s w (doLoad E t a s) := by
  unfold doLoad
  split
  · rename_i i o
    split
    · rename_i n cs e hc
      simp only [VRel] at ha
      obtain ⟨l, hl, rfl⟩ := ha
      obtain ⟨l', hl', hr⟩ := hg.obj _ _ hc
      rw [hl] at hl'
      injection hl' with hl'
      subst hl'
      split
      · rename_i d hd
        have hu := und_ok H hd
        have hag := run_isAgg hu w
        split
        · rename_i hb
          split
          · rename_i k hk
            obtain ⟨ti, hti, htk⟩ := size_ok H hk
            split
            · rename_i xs hx
              obtain ⟨vs, h1, h2⟩ := run_loadCells_rel (P := P) hr hx
              rw [forceS_eq]
              refine XV_pure hg ⟨.agg vs, ?_, by simp only [VRel]; exact ⟨vs, rfl, h2⟩⟩
              simp [Instr.loadAt, Instr.sureAddr, loadVar, hag, hb, run_sizeOf hti, htk, h1]
            · trivial
          · trivial
        · rename_i hb
          split
          · rename_i x hx
            obtain ⟨_, v, h3, h4⟩ := cell_of hr hx
            refine XV_pure hg ⟨v, ?_, h4⟩
            simp [Instr.loadAt, Instr.sureAddr, loadVar, hag, hb, load, Sem.run, h3]
          · trivial
      · trivial
    · trivial
  · trivial
  · trivial
end
end Go.X
