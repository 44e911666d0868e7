/- A part of the proof that a law answers true for every input: an executor of the model over an abstract heap, proved sound, or the use of it. -/
import Derived.Test.YthpfaaocjmedhaaGreatDoorXPlain2
namespace Go.X
open Go
section
variable {P : Program}

theorem checkKey_flat (b : Bool) : ∀ D t ks, flatAt P D t = some ks → ∀ D', D ≤ D' → ∀ (w : World) x, Fit P t ks x → (Instr.checkKey b D' t x).run P w = .ok () w := by
  intro D
  induction D with
  | zero => intro t ks h; simp [flatAt] at h
  | succ D ih =>
    intro t ks h D' hD w x hx
    obtain ⟨D', rfl⟩ : ∃ k, D' = k + 1 := ⟨D' - 1, by omega⟩
    unfold flatAt at h
    split at h
    · rename_i k hu
      simp [Instr.checkKey, run_underlying hu]
    · rename_i hu
      simp [Instr.checkKey, run_underlying hu]
    · rename_i hu
      simp [Instr.checkKey, run_underlying hu]
    · rename_i fs hu
      split at h
      · cases h
      · rename_i hst
        unfold Fit at hx
        rw [hu] at hx
        obtain ⟨xs, rfl, hx⟩ := hx
        simp only [Instr.checkKey, Sem.run_bind, run_underlying hu, Result.andThen_ok]
        rw [← Array.forIn_toList]
        have key : ∀ (l : List Field) (o : Nat) (ks : List CK), flatFields P (flatAt P D) l o = some ks → kindsOk ks (xs.toList.drop o) →
            (forIn l PUnit.unit fun f r => (do
              if f.name ≠ "_" then
                let a ← part f.type xs f.offset
                Instr.checkKey b D' f.type a
                pure (ForInStep.yield PUnit.unit)
              else pure (ForInStep.yield PUnit.unit) : Sem (ForInStep PUnit))).run P w = .ok PUnit.unit w := by
          intro l
          induction l with
          | nil => intro o ks _ _; simp
          | cons f l ihl =>
            intro o ks hl hk
            unfold flatFields at hl
            split at hl
            · rename_i k1 hn ho hk1
              split at hl
              · rename_i i hi
                split at hl
                · rename_i hsz
                  split at hl
                  · rename_i r hr
                    cases hl
                    have ho' : f.offset = o := Nat.eq_of_beq_eq_true ho
                    have hsz' : i.size = k1.length := Nat.eq_of_beq_eq_true hsz
                    have hn' : f.name ≠ "_" := by simpa using hn
                    obtain ⟨hx1, hx2⟩ := kindsOk_append hk
                    obtain ⟨a, p1, p2, p3⟩ := part_flat hk1 hi hsz' hx1 w
                    have e := ih _ _ hk1 D' (by omega) w a p2
                    have hrest := ihl (o + k1.length) r hr (by rw [← List.drop_drop]; exact hx2)
                    rw [List.forIn_cons]
                    simp only [hn', ne_eq, not_false_eq_true, if_true, Sem.run_bind, ho', p1, Result.andThen_ok, e, Sem.run_pure]
                    exact hrest
                  · cases hl
                · cases hl
              · cases hl
            · cases hl
        have := key fs.toList 0 ks h (by simpa using hx)
        rw [this]; rfl
    · cases h

theorem plainOk_of {t : Nat} {ks : List CK} {fs : Array Field} (hu : P.underlying t = some (.struct fs)) (hf : flatAt P 9 t = some ks) (hg : P.eqGuardType P.depth t = false) : PlainOk P t ks where
  agg := ⟨fs, hu⟩
  guard := hg
  eq := fun w xs ys hx hy => by
    have hfit : ∀ zs : Array Value, kindsOk ks zs.toList → Fit P t ks (.agg zs) := fun zs hz => by unfold Fit; rw [hu]; exact ⟨zs, rfl, hz⟩
    exact equalIn_flat 9 t ks hf 10000 (by omega) w _ _ (hfit xs hx) (hfit ys hy)
  key := fun w b xs hx => by
    have hfit : ∀ zs : Array Value, kindsOk ks zs.toList → Fit P t ks (.agg zs) := fun zs hz => by unfold Fit; rw [hu]; exact ⟨zs, rfl, hz⟩
    exact checkKey_flat b 9 t ks hf 10000 (by omega) w _ (hfit xs hx)

theorem plainList_ok : ∀ (l : List Nat) (T₀ : T (List CK)), (∀ t ks, T₀.get t = some ks → PlainOk P t ks) → ∀ t ks, (plainList P l T₀).get t = some ks → PlainOk P t ks
  | [], _, h, t, ks, ht => h t ks ht
  | i :: l, T₀, h, t, ks, ht => by
    unfold plainList at ht
    split at ht
    · rename_i fs ks' hu hf hg
      rw [T.put_eq] at ht
      refine plainList_ok l _ (fun t' ks'' ht' => ?_) t ks ht
      rw [T.get_set] at ht'
      by_cases e : t' = i
      · rw [if_pos e] at ht'
        cases ht'
        subst e
        exact plainOk_of hu hf hg
      · rw [if_neg e] at ht'
        exact h t' ks'' ht'
    · exact plainList_ok l T₀ h t ks ht
end
end Go.X
