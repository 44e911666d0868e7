/- A part of the proof that a law answers true for every input: an executor of the model over an abstract heap, proved sound, or the use of it. -/
import Derived.Test.YthpfaaocjmedhaaGreatDoorXPlain3
import Derived.ProofKit
namespace Go.X
open Go
section
variable {H : Type} {enc : TypeId × Value → H} {P : Program}

theorem flatFields_mem {rec : Nat → Option (List CK)} : ∀ {l : List Field} {o : Nat} {ks : List CK}, flatFields P rec l o = some ks → ∀ f ∈ l, ∃ k, rec f.type = some k
  | [], _, _, _, f, hf => by cases hf
  | g :: l, o, ks, h, f, hf => by
    unfold flatFields at h
    split at h
    · rename_i k1 _ _ hk
      split at h
      · split at h
        · split at h
          · rename_i r hr
            rcases List.mem_cons.1 hf with rfl | hf
            · exact ⟨k1, hk⟩
            · exact flatFields_mem hr f hf
          · cases h
        · cases h
      · cases h
    · cases h

/-- A type of numbers, texts and bools reads alike in all worlds. -/
theorem flat_trod : ∀ (D t : Nat) (ks : List CK), flatAt P D t = some ks → ∀ (n : Nat) (cs : List Value) (W W' : World) (b b' : Nat) (sp sp' : Nat → Bool) (hd hd' : Bool),
    DataW.trod enc P W b sp hd n t cs = DataW.trod enc P W' b' sp' hd' n t cs := by
  intro D
  induction D with
  | zero => intro t ks h; simp [flatAt] at h
  | succ D ih =>
    intro t ks h n cs W W' b b' sp sp' hd hd'
    cases n with
    | zero => rfl
    | succ n =>
      unfold flatAt at h
      split at h
      · rename_i k hu
        unfold DataW.trod
        rw [hu]
        split <;> first | rfl | (rename_i heq; cases heq) | simp_all
      · rename_i hu
        unfold DataW.trod
        rw [hu]
        split <;> first | rfl | (rename_i heq; cases heq) | simp_all
      · rename_i hu
        unfold DataW.trod
        rw [hu]
        split <;> first | rfl | (rename_i heq; cases heq) | simp_all
      · rename_i fs hu
        split at h
        · cases h
        · unfold DataW.trod
          rw [hu]
          have hm : (fs.toList.mapM fun f => DataW.trod enc P W b sp hd n f.type ((cs.drop f.offset).take (P.cellsOf f.type))) = (fs.toList.mapM fun f => DataW.trod enc P W' b' sp' hd' n f.type ((cs.drop f.offset).take (P.cellsOf f.type))) := by
            have : ∀ l : List Field, (∀ f ∈ l, ∃ k, flatAt P D f.type = some k) → (l.mapM fun f => DataW.trod enc P W b sp hd n f.type ((cs.drop f.offset).take (P.cellsOf f.type))) = (l.mapM fun f => DataW.trod enc P W' b' sp' hd' n f.type ((cs.drop f.offset).take (P.cellsOf f.type))) := by
              intro l
              induction l with
              | nil => intro _; rfl
              | cons f l ihl =>
                intro hl
                obtain ⟨k, hk⟩ := hl f (by simp)
                rw [List.mapM_cons, List.mapM_cons, ih f.type k hk n _ W W' b b' sp sp' hd hd', ihl fun g hg => hl g (by simp [hg])]
            exact this fs.toList (flatFields_mem h)
          simp only [hm]
      · cases h

theorem flat_Trod {D t : Nat} {ks : List CK} (h : flatAt P D t = some ks) {v : Value} {d : DataW H} {ps : List MemPlace} {W W' : World} {b b' : Nat} {sp sp' : Nat → Bool} {hd hd' : Bool} (ht : DataW.Trod enc P W b sp hd t v d ps) :
    DataW.Trod enc P W' b' sp' hd' t v d ps := by
  obtain ⟨n, hn⟩ := ht
  exact ⟨n, by rw [← flat_trod D t ks h n _ W W' b b' sp sp' hd hd']; exact hn⟩

theorem kindsOk_mk : ∀ {k1 k2 : List CK} {l m : List Value}, kindsOk k1 l → kindsOk k2 m → kindsOk (k1 ++ k2) (l ++ m)
  | [], _, [], _, _, h => h
  | _ :: k1, _, _ :: _, _, h, h' => ⟨h.1, kindsOk_mk (k1 := k1) h.2 h'⟩
  | [], _, _ :: _, _, h, _ => h.elim
  | _ :: _, _, [], _, h, _ => h.elim

/-- Nothing stands behind such a value. -/
theorem flat_places : ∀ (D t : Nat) (ks : List CK), flatAt P D t = some ks → P.cellsOf t = ks.length → ∀ (n : Nat) (cs : List Value) (W : World) (b : Nat) (sp : Nat → Bool) (hd : Bool) (x : DataW H × List MemPlace), DataW.trod enc P W b sp hd n t cs = some x → x.2 = [] ∧ kindsOk ks cs := by
  intro D
  induction D with
  | zero => intro t ks h; simp [flatAt] at h
  | succ D ih =>
    intro t ks h hC n cs W b sp hd x hx
    unfold flatAt at h
    split at h
    · rename_i k hu
      obtain ⟨m, rfl, rfl, _⟩ := DataW.trod_int hu hx
      cases h
      exact ⟨rfl, ⟨m, rfl⟩, trivial⟩
    · rename_i hu
      obtain ⟨m, rfl, rfl, _⟩ := DataW.trod_string hu hx
      cases h
      exact ⟨rfl, ⟨m, rfl⟩, trivial⟩
    · rename_i hu
      obtain ⟨m, rfl, rfl⟩ := DataW.trod_bool hu hx
      cases h
      exact ⟨rfl, ⟨m, rfl⟩, trivial⟩
    · rename_i fs hu
      split at h
      · cases h
      · obtain ⟨xs, m, rfl, rfl, hlen, hxl, hf⟩ := DataW.trod_struct hu hx
        have key : ∀ (l : List Field) (o : Nat) (ks : List CK) (xs : List (DataW H × List MemPlace)), flatFields P (flatAt P D) l o = some ks → xs.length = l.length →
            (∀ (i : Nat) (f : Field), l[i]? = some f → DataW.trod enc P W b sp hd m f.type ((cs.drop f.offset).take (P.cellsOf f.type)) = xs[i]?) → kindsOk ks ((cs.drop o).take ks.length) ∧ xs.flatMap (·.2) = [] := by
          intro l
          induction l with
          | nil =>
            intro o ks xs hl hx _
            simp only [flatFields, Option.some.injEq] at hl
            subst hl
            rw [List.length_eq_zero_iff.1 hx]
            exact ⟨by simp [kindsOk], rfl⟩
          | cons f l ihl =>
            intro o ks xs hl hxl hf
            unfold flatFields at hl
            split at hl
            · rename_i k1 hn ho hk1
              split at hl
              · rename_i i hi
                split at hl
                · rename_i hsz
                  split at hl
                  · rename_i r hr
                    cases hl
                    have ho' : f.offset = o := Nat.eq_of_beq_eq_true ho
                    have hsz' : i.size = k1.length := Nat.eq_of_beq_eq_true hsz
                    have hcl : P.cellsOf f.type = k1.length := by unfold Program.cellsOf; rw [hi]; exact hsz'
                    obtain ⟨x, xs', rfl⟩ : ∃ x xs', xs = x :: xs' := by
                      cases xs with
                      | nil => simp at hxl
                      | cons x xs' => exact ⟨x, xs', rfl⟩
                    have h0 := hf 0 f (by simp)
                    rw [ho', hcl] at h0
                    obtain ⟨p1, p2⟩ := ih f.type k1 hk1 hcl m _ W b sp hd x (by simpa using h0)
                    obtain ⟨q1, q2⟩ := ihl (o + k1.length) r xs' hr (by simpa using hxl) (fun i g hg => by have := hf (i + 1) g (by simpa using hg); simpa using this)
                    refine ⟨?_, by simp [p1, q2]⟩
                    rw [List.length_append, List.take_add, List.drop_drop]
                    exact kindsOk_mk p2 q1
                  · cases hl
                · cases hl
              · cases hl
            · cases hl
        obtain ⟨h1, h2⟩ := key fs.toList 0 ks xs h (by simpa using hxl) (fun i f hi => hf i f (by simpa using hi))
        refine ⟨h2, ?_⟩
        rw [List.drop_zero, ← hC, ← hlen, List.take_length] at h1
        exact h1
    · cases h

/-- Flat cells, taken as they are. -/
theorem lits_rel : ∀ {ks : List CK} {l : List Value}, kindsOk ks l → VRels (fun _ => none) (l.map V.lit) l
  | [], [], _ => VRels.nil
  | c :: ks, v :: l, h => by
    refine VRels.cons ?_ (lits_rel h.2)
    simp only [VRel]
    refine ⟨trivial, ?_⟩
    have h1 := h.1
    cases c with
    | int k => obtain ⟨n, rfl⟩ := h1; exact ⟨rfl, rfl⟩
    | str => obtain ⟨n, rfl⟩ := h1; exact ⟨rfl, rfl⟩
    | bool => obtain ⟨n, rfl⟩ := h1; exact ⟨rfl, rfl⟩
  | [], _ :: _, h => h.elim
  | _ :: _, [], h => h.elim
end
end Go.X
