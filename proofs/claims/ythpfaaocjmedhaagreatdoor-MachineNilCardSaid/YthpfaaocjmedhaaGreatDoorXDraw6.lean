/- A part of the proof that a law answers true for every input: an executor of the model over an abstract heap, proved sound, or the use of it. -/
import Derived.Test.YthpfaaocjmedhaaGreatDoorXDraw5
namespace Go.X
open Go
section
variable {P : Program} {E : Env} {ih : Ih}

theorem drawX_ok (H : EnvOk2 P E) (hm : P.follows .mixedOrders = true) (hih : IhOk P ih) (id : Nat) (ops : Array Oper) (fr : Fr) (τ : T V) (ms : List Nat) (s : S) : TaskOk P (.code (.region id ops true) fr τ ms s) (regionX E ih ops true fr τ ms s) := by
  simp only [TaskOk]
  intro ρ₀ s₀ w₀ ρ w a r hp hr ht hs hmk
  have key : ∀ x τ' ms' s', regionX E ih ops true fr τ ms s = .code x τ' ms' s' → (Code.region id ops true).wpIn (fen r) 0 P (Ends ρ₀ s₀ w₀ fr.nt x τ' ms' s') a w := by
    intro x τ' ms' s' h
    simp only [regionX] at h
    unfold drawX at h
    split at h
    · rename_i hst
      have st := static_ok hst
      obtain ⟨recs, Tt, St, tr, hT, hS, hk⟩ := drawGo_ok H hih h
      rw [List.append_nil] at hk
      unfold drawEnd at hk
      rw [List.reverse_reverse] at hk
      split at hk
      · rename_i hl
        split at hk
        · rename_i hh
          cases hk
          refine wpIn_region_any hm ?_
          have hd := Post.drawn hp.good (w.drawn + 1)
          have hp' := hp.trans hd
          refine any_ok H tr st r (fun i q hq hc hi => ?_) (by simpa using hh) (ρ₀ := ρ) (w₀ := { w with drawn := w.drawn + 1 }) (ds := a.defers) (fun ρ' a' w' h1 h2 h3 h4 => ?_) ops.size _ 0 ρ a _ (by simp) ?_ ?_ ?_ ?_ rfl
          · have := loadsB_ok hl i q hq hc hi
            rw [Nat.zero_add] at this
            rw [hS]; exact this
          · rw [hS] at h1
            exact ⟨rfl, ρ', hp'.trans h1, h2, h3, h4 ▸ hmk.mono h1.le⟩
          · rw [unl_new]; simp
          · intro i o hi hl'
            exfalso
            unfold Lst at hl'
            simp [Array.getD_eq_getD_getElem?, Array.getElem?_replicate] at hl'
            split at hl' <;> simp at hl'
          · refine ⟨fun i o q d hi hq hl' => ?_, fun t x hx _ => ?_, hs⟩
            · exfalso
              unfold Lst at hl'
              simp [Array.getD_eq_getD_getElem?, Array.getElem?_replicate] at hl'
              split at hl' <;> simp at hl'
            · rw [hT] at hx; exact ht t x hx
          · have hno : ∀ k, ¬ Lst (Array.replicate ops.size false) k := fun k hl' => by
              unfold Lst at hl'
              simp [Array.getD_eq_getD_getElem?, Array.getElem?_replicate] at hl'
              split at hl' <;> simp at hl'
            have hhas : ∀ {id o m}, Has E ops.toList St 0 (Array.replicate ops.size false) id o m → s.heap.get id = some o ∧ m = s.next := fun {id o m} h => by
              rcases h with ⟨h1, h2⟩ | ⟨k, ok, _, _, _, h4, _⟩
              · rw [hS] at h1 h2; exact ⟨h1, h2⟩
              · exact absurd h4 (hno k)
            have hg := hd.good
            have hcut : ρ.cut s.next = ρ := funext fun i => by
              by_cases h : i < s.next
              · exact Rho.cut_eq h
              · rw [Rho.cut_none (by omega), hg.fresh i (by omega)]
            refine ⟨fun i o _ _ => ⟨fun h => absurd h (hno i), fun h => absurd h (by omega)⟩, Nat.zero_le _, .inl rfl, Rho.le_refl _, fun _ _ => rfl, fun id o m h => ?_, fun id o m id' o' m' l l' h h' hl1 hl2 hne => ?_, fun i hi _ id h1 h2 => ?_, fun id h => ?_, Nat.le_refl _, fun _ _ _ => rfl, fun id o m l h h' => ?_, rfl, rfl, rfl, fun _ => rfl⟩
            · obtain ⟨h1, rfl⟩ := hhas h
              obtain ⟨l, h2, h3⟩ := hg.obj id o h1
              refine ⟨?_, l, h2, by rw [hcut]; exact h3⟩
              rcases Nat.lt_or_ge id s.next with h4 | h4
              · exact h4
              · rw [hg.fresh id h4] at h2; cases h2
            · exact hg.inj _ _ _ _ _ _ (hhas h).1 (hhas h').1 hl1 hl2 hne
            · exact hg.fresh id (Nat.le_trans (by rw [← hS]; exact St_mono tr (Nat.zero_le i) (by omega)) h1)
            · exact hg.fresh id (Nat.le_trans (by rw [← hS]; exact St_mono tr (Nat.zero_le _) (Nat.le_refl _)) h)
            · exact .inr ⟨id, o, l, by rw [hS]; exact (hhas h).1, h', rfl⟩
        · cases hk
      · cases hk
    · cases h
  cases hq : regionX E ih ops true fr τ ms s with
  | code x τ' ms' s' => exact key x τ' ms' s' hq
  | _ => trivial

theorem run_ok (H : EnvOk2 P E) (hm : P.follows .mixedOrders = true) : ∀ n, IhOk P (run E n)
  | 0 => fun _ => TaskOk.no
  | n + 1 => fun task => by
    have hih := run_ok H hm n
    show TaskOk P task (stepTask E (run E n) task)
    cases task with
    | code c fr τ ms s => exact stepCode_ok H hih (fun id ops fr τ ms s => drawX_ok H hm hih id ops fr τ ms s) c fr τ ms s
    | ops l all fr τ ms s => exact stepOps_ok H hih l all fr τ ms s
    | call f args s => exact stepCall_ok H hih f args s
    | round i args s => exact stepRound_ok hih i args s

/-- **A call whose reckoning comes to a value, in every world.** -/
theorem calls_of_run (H : EnvOk2 P E) (hm : P.follows .mixedOrders = true) {n f : Nat} {args : List V} {v : V} {s' : S} (h : run E n (.call f args ⟨.leaf, 0⟩) = .val v s') {args' : Array Value} (ha : VRels (fun _ => none) args args'.toList) (w : World) :
    Calls P f args' w fun e w' => ∃ v', e = .returned v' ∧ (∃ ρ : Rho, VRel ρ v v') ∧ w'.os = w.os ∧ w'.output = w.output ∧ w.heap.size ≤ w'.heap.size ∧ (∀ b, b < w.heap.size → w'.heap[b]? = w.heap[b]?) ∧ ∀ a : Addr, w'.frozen? a = w.frozen? a := by
  have hg : Good (fun _ => none) ⟨.leaf, 0⟩ w := good_leaf fun _ _ => rfl
  have := run_ok H hm n (.call f args ⟨.leaf, 0⟩)
  simp only [TaskOk] at this
  have := this _ _ _ _ w args' (Post.refl hg) ha
  rw [h] at this
  refine callsIn_wide.1 (this.mono fun e w' he => ?_)
  obtain ⟨v', rfl, ρ', h1, h2⟩ := he
  exact ⟨v', rfl, ⟨ρ', h1⟩, h2.os, h2.output, h2.size, fun b hb => h2.old b hb fun i o l hi _ => (by rw [show (⟨.leaf, 0⟩ : S).heap = .leaf from rfl, T.get_leaf] at hi; cases hi), h2.froz⟩
end
end Go.X
