/- A part of the proof that a law answers true for every input: an executor of the model over an abstract heap, proved sound, or the use of it. -/
import Derived.Test.YthpfaaocjmedhaaGreatDoorXPlain
namespace Go.X
open Go
section
variable {P : Program}

def Fit (P : Program) (t : Nat) (ks : List CK) (x : Value) : Prop := match P.underlying t with
  | some (.struct _) => ∃ xs, x = .agg xs ∧ kindsOk ks xs.toList
  | _ => ∃ c, ks = [c] ∧ kindOk c x ∧ P.underlying t = some (match c with | .int k => .int k | .str => .string | .bool => .bool)

theorem kindsOk_length : ∀ {ks : List CK} {l : List Value}, kindsOk ks l → l.length = ks.length
  | [], [], _ => rfl
  | _ :: _, _ :: _, h => by simp [kindsOk_length h.2]
  | [], _ :: _, h => h.elim
  | _ :: _, [], h => h.elim
theorem kindsOk_append : ∀ {k1 k2 : List CK} {l : List Value}, kindsOk (k1 ++ k2) l → kindsOk k1 (l.take k1.length) ∧ kindsOk k2 (l.drop k1.length)
  | [], _, _, h => ⟨by simp [kindsOk], by simpa using h⟩
  | c :: k1, k2, v :: l, h => by
    obtain ⟨h1, h2⟩ := kindsOk_append (k1 := k1) (k2 := k2) (l := l) h.2
    exact ⟨⟨h.1, h1⟩, h2⟩
  | _ :: _, _, [], h => h.elim
theorem cellsSame_append : ∀ {a b c d : List Value}, a.length = c.length → cellsSame (a ++ b) (c ++ d) = (cellsSame a c && cellsSame b d)
  | [], b, [], d, _ => by simp [cellsSame]
  | x :: a, b, y :: c, d, h => by
    simp only [List.cons_append, cellsSame, cellsSame_append (a := a) (b := b) (c := c) (d := d) (by simpa using h), Bool.and_assoc]
  | [], _, _ :: _, _, h => by simp at h
  | _ :: _, _, [], _, h => by simp at h

theorem take_cells {xs : Array Value} {o n : Nat} : (xs.extract o (o + n)).toList = (xs.toList.drop o).take n := by
  rw [Array.toList_extract]; simp [List.extract]

theorem part_flat {D t : Nat} {ks : List CK} (hf : flatAt P D t = some ks) {i : TypeInfo} (hi : P.info? t = some i) (hs : i.size = ks.length) {xs : Array Value} {o : Nat} (hk : kindsOk ks ((xs.toList.drop o).take ks.length)) (w : World) :
    ∃ a, (part t xs o).run P w = .ok a w ∧ Fit P t ks a ∧ a.cells.toList = (xs.toList.drop o).take ks.length := by
  cases D with
  | zero => simp [flatAt] at hf
  | succ D =>
    have scalar : ∀ c d, P.underlying t = some d → isAggD d = false → ks = [c] → d = (match c with | .int k => .int k | .str => .string | .bool => .bool) → ∃ a, (part t xs o).run P w = .ok a w ∧ Fit P t ks a ∧ a.cells.toList = (xs.toList.drop o).take ks.length := fun c d hu hd hks hdc => by
      subst hks
      have hl := kindsOk_length hk
      have hlt : o < xs.toList.length := by
        rcases Nat.lt_or_ge o xs.toList.length with h | h
        · exact h
        · simp [List.drop_of_length_le h] at hl
      have hdr : (xs.toList.drop o).take 1 = [xs.toList[o]] := by
        rw [List.drop_eq_getElem_cons hlt]; simp
      simp only [List.length_cons, List.length_nil, Nat.zero_add] at hk ⊢
      rw [hdr] at hk ⊢
      have hag := run_isAgg (P := P) hu w
      refine ⟨xs.toList[o], ?_, ?_, ?_⟩
      · have hx : xs[o]? = some xs.toList[o] := by
          rw [← Array.getElem?_toList, List.getElem?_eq_getElem hlt]
        simp [part, hag, hd, hx]
      · unfold Fit
        rw [hu]
        have : ∃ c', [c] = [c'] ∧ kindOk c' xs.toList[o] ∧ some d = some (match c' with | .int k => TypeDesc.int k | .str => .string | .bool => .bool) := ⟨c, rfl, hk.1, by rw [hdc]⟩
        subst hdc
        cases c <;> exact this
      · obtain ⟨hk1, _⟩ := hk
        cases c with
        | int k => obtain ⟨n, hn⟩ := hk1; rw [hn]; rfl
        | str => obtain ⟨n, hn⟩ := hk1; rw [hn]; rfl
        | bool => obtain ⟨n, hn⟩ := hk1; rw [hn]; rfl
    unfold flatAt at hf
    split at hf
    · rename_i k hu; cases hf; exact scalar _ _ hu rfl rfl rfl
    · rename_i hu; cases hf; exact scalar _ _ hu rfl rfl rfl
    · rename_i hu; cases hf; exact scalar _ _ hu rfl rfl rfl
    · rename_i fs hu
      have hag := run_isAgg (P := P) hu w
      refine ⟨.agg (xs.extract o (o + ks.length)), ?_, ?_, ?_⟩
      · simp [part, hag, isAggD, run_sizeOf hi, hs]
      · unfold Fit; rw [hu]; exact ⟨_, rfl, by rw [take_cells]; exact hk⟩
      · exact take_cells
    · cases hf

theorem eqFields_flat {rec : Nat → Option (List CK)} {D D' : Nat} (hrec : rec = flatAt P D) (IH : ∀ t ks, flatAt P D t = some ks → ∀ (w : World) x y, Fit P t ks x → Fit P t ks y → (Op.equalIn D' t x y).run P w = .ok (cellsSame x.cells.toList y.cells.toList) w) {xs ys : Array Value} (w : World) :
    ∀ (fs : List Field) (o : Nat) (ks : List CK), flatFields P rec fs o = some ks → kindsOk ks (xs.toList.drop o) → kindsOk ks (ys.toList.drop o) → (Op.eqFields D' xs ys fs).run P w = .ok (cellsSame (xs.toList.drop o) (ys.toList.drop o)) w
  | [], o, ks, h, hx, hy => by
    simp only [flatFields, Option.some.injEq] at h
    subst h
    have h1 := kindsOk_length hx
    have h2 := kindsOk_length hy
    rw [List.length_eq_zero_iff.1 h1, List.length_eq_zero_iff.1 h2]
    simp [Op.eqFields, cellsSame]
  | f :: fs, o, ks, h, hx, hy => by
    unfold flatFields at h
    split at h
    · rename_i k1 hn ho hk
      split at h
      · rename_i i hi
        split at h
        · rename_i hsz
          split at h
          · rename_i r hr
            cases h
            have ho' : f.offset = o := Nat.eq_of_beq_eq_true ho
            have hsz' : i.size = k1.length := Nat.eq_of_beq_eq_true hsz
            have hn' : f.name ≠ "_" := by simpa using hn
            rw [hrec] at hk
            obtain ⟨hx1, hx2⟩ := kindsOk_append hx
            obtain ⟨hy1, hy2⟩ := kindsOk_append hy
            obtain ⟨a, p1, p2, p3⟩ := part_flat hk hi hsz' hx1 w
            obtain ⟨b, q1, q2, q3⟩ := part_flat hk hi hsz' hy1 w
            have e := IH _ _ hk w a b p2 q2
            have hrest := eqFields_flat (xs := xs) (ys := ys) hrec IH w fs (o + k1.length) r hr (by rw [← List.drop_drop]; exact hx2) (by rw [← List.drop_drop]; exact hy2)
            have hsame : cellsSame (xs.toList.drop o) (ys.toList.drop o) = (cellsSame ((xs.toList.drop o).take k1.length) ((ys.toList.drop o).take k1.length) && cellsSame (xs.toList.drop (o + k1.length)) (ys.toList.drop (o + k1.length))) := by
              rw [← List.drop_drop, ← List.drop_drop, ← cellsSame_append (by rw [kindsOk_length hx1, kindsOk_length hy1]), List.take_append_drop, List.take_append_drop]
            simp only [Op.eqFields, hn', ne_eq, not_false_eq_true, if_true, Sem.run_bind, ho', p1, q1, Result.andThen_ok, e, p3, q3]
            rw [hsame]
            cases hc : cellsSame ((xs.toList.drop o).take k1.length) ((ys.toList.drop o).take k1.length) with
            | true => simpa using hrest
            | false => simp
          · cases h
        · cases h
      · cases h
    · cases h

theorem equalIn_flat : ∀ D t ks, flatAt P D t = some ks → ∀ D', D ≤ D' → ∀ (w : World) x y, Fit P t ks x → Fit P t ks y → (Op.equalIn D' t x y).run P w = .ok (cellsSame x.cells.toList y.cells.toList) w := by
  intro D
  induction D with
  | zero => intro t ks h; simp [flatAt] at h
  | succ D ih =>
    intro t ks h D' hD w x y hx hy
    obtain ⟨D', rfl⟩ : ∃ k, D' = k + 1 := ⟨D' - 1, by omega⟩
    unfold flatAt at h
    split at h
    · rename_i k hu
      unfold Fit at hx hy
      rw [hu] at hx hy
      obtain ⟨c, e1, h1, h2⟩ := hx
      obtain ⟨c', e1', h1', h2'⟩ := hy
      cases h; cases e1; cases e1'
      obtain ⟨n, rfl⟩ := h1
      obtain ⟨m, rfl⟩ := h1'
      rw [run_equalIn_int w D' t _ _ _ _ hu]
      simp [Value.cells, cellsSame, cellSame]
    · rename_i hu
      unfold Fit at hx hy
      rw [hu] at hx hy
      obtain ⟨c, e1, h1, h2⟩ := hx
      obtain ⟨c', e1', h1', h2'⟩ := hy
      cases h; cases e1; cases e1'
      obtain ⟨n, rfl⟩ := h1
      obtain ⟨m, rfl⟩ := h1'
      simp [Op.equalIn, run_underlying hu, Value.cells, cellsSame, cellSame]
    · rename_i hu
      unfold Fit at hx hy
      rw [hu] at hx hy
      obtain ⟨c, e1, h1, h2⟩ := hx
      obtain ⟨c', e1', h1', h2'⟩ := hy
      cases h; cases e1; cases e1'
      obtain ⟨n, rfl⟩ := h1
      obtain ⟨m, rfl⟩ := h1'
      simp [Op.equalIn, run_underlying hu, Value.cells, cellsSame, cellSame]
    · rename_i fs hu
      split at h
      · cases h
      · rename_i hst
        unfold Fit at hx hy
        rw [hu] at hx hy
        obtain ⟨xs, rfl, hx⟩ := hx
        obtain ⟨ys, rfl, hy⟩ := hy
        have hfo : P.underlying t = some (.struct (P.fieldsOf t)) := by
          unfold Program.fieldsOf; rw [hu]
        rw [run_equalIn_struct w D' t xs ys hfo hst]
        have hff : P.fieldsOf t = fs := by unfold Program.fieldsOf; rw [hu]
        rw [hff]
        have := eqFields_flat (D' := D') rfl (fun t ks ht w x y => ih t ks ht D' (by omega) w x y) (xs := xs) (ys := ys) w fs.toList 0 ks h (by simpa using hx) (by simpa using hy)
        simpa [Value.cells] using this
    · cases h
end
end Go.X
