/- A part of the proof that a law answers true for every input: an executor of the model over an abstract heap, proved sound, or the use of it. -/
import Derived.Test.YthpfaaocjmedhaaGreatDoorXDraw6
namespace Go.X
open Go
noncomputable section
/-- A list as a tree. -/
def ofListF {α : Type} : List α → Nat → T α → T α
  | [], _, t => t
  | x :: l, i, t => T.put t i (some x) fun t' => forceN (Nat.succ i) fun i' => ofListF l i' t'
def isT : Out → Bool
  | .val (.bool true) _ => true
  | _ => false
def namesB : List Func → Bool
  | [] => true
  | f :: l => match f.name == "runtime.NumGoroutine" with
    | true => false
    | false => namesB l
end
theorem ofListF_get {α : Type} : ∀ (l : List α) (i : Nat) (t : T α) (j : Nat) (x : α), (ofListF l i t).get j = some x → (i ≤ j ∧ l[j - i]? = some x) ∨ t.get j = some x
  | [], i, t, j, x, h => .inr h
  | y :: l, i, t, j, x, h => by
    unfold ofListF at h
    rw [T.put_eq, forceN_eq] at h
    rcases ofListF_get l (Nat.succ i) _ j x h with ⟨h1, h2⟩ | h1
    · refine .inl ⟨by omega, ?_⟩
      rw [show j - i = (j - Nat.succ i) + 1 from by omega]
      simpa using h2
    · rw [T.get_set] at h1
      by_cases e : j = i
      · rw [if_pos e] at h1; subst e; exact .inl ⟨Nat.le_refl _, by simpa using h1⟩
      · rw [if_neg e] at h1; exact .inr h1
theorem isT_ok {o : Out} (h : isT o = true) : ∃ s', o = .val (.bool true) s' := by
  unfold isT at h
  split at h
  · exact ⟨_, rfl⟩
  · cases h
theorem namesB_ok : ∀ {l : List Func}, namesB l = true → ∀ f ∈ l, (f.name == "runtime.NumGoroutine") = false
  | [], _, f, hf => by cases hf
  | g :: l, h, f, hf => by
    unfold namesB at h
    split at h
    · cases h
    · rename_i hg
      rcases List.mem_cons.1 hf with rfl | hf
      · exact hg
      · exact namesB_ok h f hf
theorem envOk_of (P : Program) (tys : List TypeInfo) (fns : List Func) (ht : P.types.toList = tys) (hf : P.funcs.toList = fns) (hn : namesB fns = true) (pl : T (List CK)) :
    EnvOk P ⟨ofListF tys 0 .leaf, ofListF fns 0 .leaf, pl⟩ where
  types := fun t i h => by
    rcases ofListF_get _ _ _ _ _ h with ⟨_, h1⟩ | h1
    · subst ht
      have h2 : P.types[t]? = some i := by simpa using h1
      have h3 : t < P.types.size := (Array.getElem?_eq_some_iff.1 h2).1
      simp only [Tables.info?, h3, if_true]
      exact h2
    · rw [T.get_leaf] at h1; cases h1
  funcs := fun t i h => by
    rcases ofListF_get _ _ _ _ _ h with ⟨_, h1⟩ | h1
    · subst hf; simpa using h1
    · rw [T.get_leaf] at h1; cases h1
  names := fun t i h => by
    rcases ofListF_get _ _ _ _ _ h with ⟨_, h1⟩ | h1
    · exact namesB_ok hn _ (List.mem_of_getElem? h1)
    · rw [T.get_leaf] at h1; cases h1
end Go.X
