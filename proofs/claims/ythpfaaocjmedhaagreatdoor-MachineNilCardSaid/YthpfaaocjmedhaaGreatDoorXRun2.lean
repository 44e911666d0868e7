/- A part of the proof that a law answers true for every input: an executor of the model over an abstract heap, proved sound, or the use of it. -/
import Derived.Test.YthpfaaocjmedhaaGreatDoorXRun1
namespace Go.X
open Go
section
variable {P : Program} {E : Env} {ih : Ih}

/-- An object that is given up, its block turned. -/
theorem Post.drop {ρ : Rho} {s : S} {w w' : World} (h : Good ρ s w) {i : Nat} {o : Obj} {l : Loc} (hi : s.heap.get i = some o) (hl : ρ i = some l)
    (hsz : w'.heap.size = w.heap.size) (hb : ∀ b, b ≠ l.blk → w'.heap[b]? = w.heap[b]?) (hos : w'.os = w.os) (ht : w'.tape = w.tape) (hout : w'.output = w.output) (hfz : ∀ a : Addr, a.block = l.blk → w'.frozen? a = false) :
    Post ρ s w ρ ⟨s.heap.set i none, s.next⟩ w' := by
  have hx : ∀ j o', (s.heap.set i none).get j = some o' → j ≠ i ∧ s.heap.get j = some o' := fun j o' hj => by
    rw [T.get_set] at hj
    by_cases e : j = i
    · rw [if_pos e] at hj; cases hj
    · rw [if_neg e] at hj; exact ⟨e, hj⟩
  refine ⟨⟨?_, ?_, h.fresh⟩, Rho.le_refl _, fun _ _ => rfl, Nat.le_refl _, by omega, ?_, ?_, hos, ht, hout, fun a => ?_⟩
  · intro j o' hj
    obtain ⟨e, hj⟩ := hx j o' hj
    obtain ⟨l', h1, h2⟩ := h.obj j o' hj
    exact ⟨l', h1, h2.mono (Rho.le_refl _) (hb _ (h.inj j i o' o l' l hj hi h1 hl e))⟩
  · intro a b oa ob la lb ha hb' hra hrb hab
    exact h.inj a b oa ob la lb (hx a oa ha).2 (hx b ob hb').2 hra hrb hab
  · intro b _ hn
    exact hb b (fun e => hn i o l hi hl e.symm)
  · intro j o' l' hj hr
    exact .inr ⟨j, o', l', (hx j o' hj).2, hr, rfl⟩
  · by_cases e : a.block = l.blk
    · obtain ⟨l₁, h1, h2⟩ := h.obj i o hi
      rw [hl] at h1
      injection h1 with h1
      subst h1
      rw [hfz a e, h2.unfrozen a e]
    · exact frozen_same (hb _ e)

/-! ## The results of a function -/
def resultLoad (t : Nat) (a : Value) : Sem Value := do loadVar t (← asAddr a)

theorem doLoad_same (H : EnvOk P E) {ρ : Rho} {s s' : S} {w : World} (hg : Good ρ s w) {a v : V} {a' : Value} (ha : VRel ρ a a') {t : Nat} (h : doLoad E t a s = .val v s') :
    ∃ v', (Instr.loadAt t a').run P w = .ok v' w ∧ VRel ρ v v' ∧ (resultLoad t a').run P w = .ok v' w := by
  unfold doLoad at h
  split at h
  · rename_i i o
    split at h
    · rename_i n cs e hc
      simp only [VRel] at ha
      obtain ⟨l, hl, rfl⟩ := ha
      obtain ⟨l', hl', hr⟩ := hg.obj _ _ hc
      rw [hl] at hl'
      injection hl' with hl'
      subst hl'
      have key : ∀ v', (loadVar t (l.addr o)).run P w = .ok v' w → VRel ρ v v' → ∃ v', (Instr.loadAt t (.pointer (some (l.addr o)))).run P w = .ok v' w ∧ VRel ρ v v' ∧ (resultLoad t (.pointer (some (l.addr o)))).run P w = .ok v' w :=
        fun v' h1 h2 => ⟨v', by simp [Instr.loadAt, Instr.sureAddr, h1], h2, by simp [resultLoad, asAddr, h1]⟩
      split at h
      · rename_i d hd
        have hu := und_ok H hd
        have hag := run_isAgg hu w
        split at h
        · rename_i hb
          split at h
          · rename_i k hk
            obtain ⟨ti, hti, htk⟩ := size_ok H hk
            split at h
            · rename_i xs hx
              obtain ⟨vs, h1, h2⟩ := run_loadCells_rel (P := P) hr hx
              rw [forceS_eq] at h
              injection h with h3 h4
              subst h3
              refine key (.agg vs) ?_ (by simp only [VRel]; exact ⟨vs, rfl, h2⟩)
              simp [loadVar, hag, hb, run_sizeOf hti, htk, h1]
            · cases h
          · cases h
        · rename_i hb
          split at h
          · rename_i x hx
            obtain ⟨_, v', h3, h4⟩ := cell_of hr hx
            injection h with h5 h6
            subst h5
            refine key v' ?_ h4
            simp [loadVar, hag, hb, load, Sem.run, h3]
          · cases h
      · cases h
    · cases h
  · cases h
  · cases h

def resultSem (tmps : Array Value) : ResultVar → Sem Value
  | .tmp t => pure (tmps.getD t undef)
  | .cell a t => resultLoad t (tmps.getD a undef)

theorem results_eq (fn : Func) (tmps : Array Value) : results fn tmps = (do
    let vs ← List.toArray <$> fn.results.toList.mapM (resultSem tmps)
    pure (if h : vs.size = 1 then vs[0] else .tuple vs)) := by
  unfold results
  rw [← Array.mapM_eq_mapM_toList]
  congr 1

theorem resultsX_ok (H : EnvOk2 P E) {s : S} {τ : T V} {tmps : Array Value} {ρ : Rho} {w : World} (hg : Good ρ s w) (ht : TRel ρ τ tmps) : ∀ {l : List ResultVar} {xs : List V}, resultsX E τ s l = some xs →
    ∃ vs, (l.mapM (resultSem tmps)).run P w = .ok vs w ∧ VRels ρ xs vs
  | [], xs, h => by
    simp only [resultsX, Option.some.injEq] at h; subst h
    exact ⟨[], by simp, VRels.nil⟩
  | .tmp t :: rest, xs, h => by
    unfold resultsX at h
    split at h
    · rename_i v l hv hl
      simp only [Option.some.injEq] at h; subst h
      obtain ⟨vs, h1, h2⟩ := resultsX_ok H hg ht hl
      obtain ⟨u, h3, h4⟩ := ht _ _ hv
      refine ⟨u :: vs, ?_, VRels.cons h4 h2⟩
      simp [resultSem, h1, h3]
    · cases h
  | .cell a t :: rest, xs, h => by
    unfold resultsX at h
    split at h
    · rename_i p hp
      split at h
      · rename_i v s' l hv hl
        simp only [Option.some.injEq] at h; subst h
        obtain ⟨u, h3, h4⟩ := ht _ _ hp
        obtain ⟨v', _, h7, h8⟩ := doLoad_same (P := P) H.toEnvOk hg h4 hv
        obtain ⟨vs, h1, h2⟩ := resultsX_ok H hg ht hl
        refine ⟨v' :: vs, ?_, VRels.cons h7 h2⟩
        have h9 : (resultSem tmps (.cell a t)).run P w = .ok v' w := by
          rw [← h8]
          simp [resultSem, h3]
        simp [h1, h9]
      · cases h
    · cases h

theorem giveX_ok (H : EnvOk2 P E) {fn : Func} {τ : T V} {tmps : Array Value} {s s' : S} {v : V} {ρ₀ : Rho} {s₀ : S} {w₀ : World} {ρ : Rho} {w : World} (hp : Post ρ₀ s₀ w₀ ρ s w) (ht : TRel ρ τ tmps)
    (h : giveX E fn.results.toList τ s = .val v s') : ∃ v', (results fn tmps).run P w = .ok v' w ∧ Gives ρ₀ s₀ w₀ v s' (.returned v') w := by
  unfold giveX at h
  split at h
  · rename_i l hl
    injection h with h1 h2
    subst h1 h2
    obtain ⟨vs, h3, h4⟩ := resultsX_ok (P := P) H hp.good ht hl
    have hlen := VRels.length h4
    refine ⟨if h : vs.toArray.size = 1 then vs.toArray[0] else .tuple vs.toArray, ?_, _, rfl, ρ, ?_, hp⟩
    · rw [results_eq]; simp [h3]
    · match l, vs, h4 with
      | [], [], h4 => simp only [oneOf, VRel]; exact ⟨#[], rfl, VRels.nil⟩
      | [x], [u], h4 => rw [VRels.cons_iff] at h4; obtain ⟨u', rest, e, h5, _⟩ := h4; cases e; simpa [oneOf] using h5
      | x :: y :: l, u :: u' :: vs, h4 => simp only [oneOf, VRel]; exact ⟨(u :: u' :: vs).toArray, by simp, by simpa using h4⟩
      | [], _ :: _, _ => simp at hlen
      | [_], [], _ => simp at hlen
      | [_], _ :: _ :: _, _ => simp at hlen
      | _ :: _ :: _, [], _ => simp at hlen
      | _ :: _ :: _, [_], _ => simp at hlen
  · cases h

theorem leaveX_ok (H : EnvOk2 P E) {fn : Func} {τ : T V} {tmps : Array Value} {v : V} {s' : S} {ρ₀ : Rho} {s₀ : S} {w₀ : World} {ρ : Rho} (ht : TRel ρ τ tmps) {f : Fence} : ∀ {ms : List Nat} {ds : List Deferred} {s : S} {w : World},
    Post ρ₀ s₀ w₀ ρ s w → Marks ρ ms ds → leaveX E fn.results.toList τ ms s = .val v s' → LeavesInM f 0 P fn tmps (Gives ρ₀ s₀ w₀ v s') ds .returning w
  | [], ds, s, w, hp, hm, h => by
    simp only [Marks] at hm; subst hm
    obtain ⟨v', h1, h2⟩ := giveX_ok H hp ht (show giveX E fn.results.toList τ s = .val v s' from h)
    exact ⟨v', h1, h2⟩
  | m :: ms, ds, s, w, hp, hm, h => by
    obtain ⟨l, rest, h1, rfl, h2⟩ := hm
    unfold leaveX takeMarks at h
    split at h
    · rename_i hmk
      rw [T.put_eq] at h
      obtain ⟨l', h3, h4⟩ := hp.good.obj _ _ hmk
      rw [h1] at h3
      injection h3 with h3
      subst h3
      have h4' : w.heap[l.blk]? = some (.deferred (some [])) := h4
      obtain ⟨k1, k2, k3⟩ := setObj_heap (w := w) (o' := .deferred none) h4'
      have hset := run_setObj (P := P) (o' := .deferred none) h4' (by simp)
      have hd := Post.drop (w' := { w with heap := w.heap.setIfInBounds l.blk (.deferred none) }) hp.good hmk h1 k1 k2 rfl rfl rfl (fun a ha => by unfold World.frozen?; rw [ha]; simp only [k3])
      have hrec := leaveX_ok H (fn := fn) (v := v) (s' := s') (f := f) ht (hp.trans hd) h2 h
      refine ⟨by simp, .inl ⟨l.blk, _, rfl, ?_, hrec⟩⟩
      simp [Instr.takeDeferred, getObj, Sem.run, h4', hset]
    · cases h
end
end Go.X
