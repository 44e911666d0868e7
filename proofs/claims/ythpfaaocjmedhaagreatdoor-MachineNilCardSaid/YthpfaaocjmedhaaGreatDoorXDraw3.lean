/- A part of the proof that a law answers true for every input: an executor of the model over an abstract heap, proved sound, or the use of it. -/
import Derived.Test.YthpfaaocjmedhaaGreatDoorXDraw2
namespace Go.X
open Go

def Lst (listed : Array Bool) (i : Nat) : Prop := listed.getD i false = true

theorem lst_set {listed : Array Bool} {i j : Nat} (hi : i < listed.size) : Lst (listed.setIfInBounds i true) j ↔ j = i ∨ Lst listed j := by
  unfold Lst
  simp only [Array.getD_eq_getD_getElem?, Array.getElem?_setIfInBounds]
  by_cases e : i = j
  · subst e; simp [hi]
  · rw [if_neg e]; simp [show ¬ j = i from fun h => e h.symm]

section
variable {P : Program} {E : Env} {nt : Nat} {all : List Oper} {recs : List Rec} {Tt : Nat → T V} {St : Nat → S}

def Closed (all : List Oper) (listed : Array Bool) : Prop := ∀ i o, all[i]? = some o → Lst listed i → ∀ e ∈ o.after.toList, Region.binds .any e = true → Lst listed e.on

theorem closed_bef (st : Static E all) {listed : Array Bool} (hc : Closed all listed) : ∀ (i : Nat), (∀ o, all[i]? = some o → ∀ e ∈ o.after.toList, Region.binds .any e = true → Lst listed e.on) → ∀ j, bef (masks all) i j = true → Lst listed j := by
  intro i
  induction i using Nat.strongRecOn with
  | _ i ih =>
    intro hr j hb
    obtain ⟨o, e, h1, h2, h3, h4⟩ := masks_ok all i j hb
    have hl := hr o h1 e h2 h3
    rcases h4 with rfl | h4
    · exact hl
    · exact ih e.on (st.back i o h1 e h2 h3) (fun o' ho' => hc _ o' ho' hl) j h4

/-! ### The temporaries -/
structure InvT (all : List Oper) (recs : List Rec) (nt : Nat) (τ₀ : T V) (listed : Array Bool) (ρ : Rho) (a : Act) : Prop where
  here : ∀ (i : Nat) (o : Oper) (r : Rec) (d : Nat), all[i]? = some o → recs[i]? = some r → Lst listed i → o.dst = some d → ∃ v', a.tmps[d]? = some v' ∧ VRel ρ r.v v'
  rest : ∀ t x, τ₀.get t = some x → (∀ (i : Nat) (o : Oper), all[i]? = some o → Lst listed i → o.dst ≠ some t) → ∃ v', a.tmps[t]? = some v' ∧ VRel ρ x v'
  size : a.tmps.size = nt

theorem Tt_get (tr : Trace P E nt all recs all Tt St) : ∀ i, i ≤ all.length → ∀ t x, (Tt i).get t = some x →
    (∃ j o r, j < i ∧ all[j]? = some o ∧ recs[j]? = some r ∧ o.dst = some t ∧ x = r.v) ∨ ((∀ (j : Nat) (o : Oper), j < i → all[j]? = some o → o.dst ≠ some t) ∧ (Tt 0).get t = some x) := by
  intro i
  induction i with
  | zero => exact fun _ t x h => .inr ⟨fun j o hj => absurd hj (by omega), h⟩
  | succ i ih =>
    intro hi t x h
    have hlt : i < all.length := by omega
    obtain ⟨r, h1, h2, h3, h4⟩ := tr.step i all[i] (by simp [hlt])
    rw [h4] at h
    have up : (Tt i).get t = some x → (all[i]).dst ≠ some t → (∃ j o r, j < i + 1 ∧ all[j]? = some o ∧ recs[j]? = some r ∧ o.dst = some t ∧ x = r.v) ∨ ((∀ (j : Nat) (o : Oper), j < i + 1 → all[j]? = some o → o.dst ≠ some t) ∧ (Tt 0).get t = some x) := fun hx hd => by
      rcases ih (by omega) t x hx with ⟨j, o, r', k1, k2⟩ | ⟨k1, k2⟩
      · exact .inl ⟨j, o, r', by omega, k2⟩
      · refine .inr ⟨fun j o hj ho => ?_, k2⟩
        rcases Nat.lt_or_ge j i with hj' | hj'
        · exact k1 j o hj' ho
        · obtain rfl : j = i := by omega
          simp [hlt] at ho
          rw [← ho]; exact hd
    unfold putT at h
    split at h
    · rename_i hd
      exact up h (by rw [hd]; simp)
    · rename_i d hd
      rw [T.get_set] at h
      by_cases e : t = d
      · rw [if_pos e] at h
        injection h with h
        exact .inl ⟨i, all[i], r, by omega, by simp [hlt], h1, by rw [hd, e], h.symm⟩
      · rw [if_neg e] at h
        exact up h (by rw [hd]; intro hh; injection hh with hh; exact e hh.symm)

/-- What an operation looks at, when it is ready. -/
theorem ready_rel (tr : Trace P E nt all recs all Tt St) (st : Static E all) {listed : Array Bool} {ρ : Rho} {a : Act} (hc : Closed all listed) (inv : InvT all recs nt (Tt 0) listed ρ a) {i : Nat} {o : Oper} (ho : all[i]? = some o)
    (hn : ¬ Lst listed i) (hr : ∀ e ∈ o.after.toList, Region.binds .any e = true → Lst listed e.on) {r : Rec} (hok : RecOk P E nt all (Tt i) (St i) o r) : TRel ρ r.τo a.tmps := by
  intro t x hx
  obtain ⟨h1, h2⟩ := hok.look t x hx
  have hlt : i < all.length := (List.getElem?_eq_some_iff.1 ho).1
  have hbi : ∀ j, bef (masks all) i j = true → Lst listed j := closed_bef st hc i fun o' ho' => by rw [ho] at ho'; cases ho'; exact hr
  rcases Tt_get tr i (by omega) t x h2 with ⟨j, oj, rj, k1, k2, k3, k4, rfl⟩ | ⟨k1, k2⟩
  · exact inv.here j oj rj t k2 k3 (hbi j ((st.tmps i o j oj t ho k2 k4 (by omega) h1).1 k1)) k4
  · refine inv.rest t x k2 fun j oj hj hl hd => ?_
    rcases Nat.lt_trichotomy j i with h | h | h
    · exact k1 j oj h hj hd
    · subst h; exact hn hl
    · have hb := (st.tmps i o j oj t ho hj hd (by omega) h1).2 h
      exact hn (closed_bef st hc j (fun o' ho' => hc _ o' ho' hl) i hb)

theorem InvT.step (st : Static E all) {τ₀ : T V} {listed : Array Bool} {ρ ρ' : Rho} {a : Act} (inv : InvT all recs nt τ₀ listed ρ a) (hle : ρ.le ρ') {i : Nat} (hi : i < listed.size) {o : Oper} {r : Rec} (ho : all[i]? = some o) (hr : recs[i]? = some r)
    (hd : ∀ d, o.dst = some d → d < nt) {v' : Value} (hv : VRel ρ' r.v v') : InvT all recs nt τ₀ (listed.setIfInBounds i true) ρ' (a.put o.dst v') := by
  have other : ∀ t, o.dst ≠ some t → (a.put o.dst v').tmps[t]? = a.tmps[t]? := fun t ht => by
    cases hd' : o.dst with
    | none => rfl
    | some d =>
      simp only [Act.put]
      rw [Array.getElem?_setIfInBounds, if_neg (fun h => ht (by rw [hd', h]))]
  refine ⟨fun j oj rj d hj hrj hl hdj => ?_, fun t x hx hn => ?_, (put_size ..).trans inv.size⟩
  · by_cases e : j = i
    · subst e
      rw [ho] at hj; cases hj
      rw [hr] at hrj; cases hrj
      rw [hdj]
      refine ⟨v', ?_, hv⟩
      have := hd d hdj
      simp [Act.put, inv.size, this]
    · rw [other d (st.dsts i o j oj d ho hj hdj e)]
      obtain ⟨u, h1, h2⟩ := inv.here j oj rj d hj hrj (((lst_set hi).1 hl).resolve_left e) hdj
      exact ⟨u, h1, h2.mono hle⟩
  · rw [other t (hn i o ho ((lst_set hi).2 (.inl rfl)))]
    obtain ⟨u, h1, h2⟩ := inv.rest t x hx fun j oj hj hl => hn j oj hj ((lst_set hi).2 (.inr hl))
    exact ⟨u, h1, h2.mono hle⟩

/-! ### The heap -/
def Has (E : Env) (all : List Oper) (St : Nat → S) (p : Nat) (listed : Array Bool) (id : Nat) (o : Obj) (m : Nat) : Prop :=
  ((St p).heap.get id = some o ∧ m = (St p).next) ∨
  ∃ (k : Nat) (ok : Oper), p ≤ k ∧ all[k]? = some ok ∧ clsOf E ok.op = .alloc ∧ Lst listed k ∧ (St k).next ≤ id ∧ id < (St (k + 1)).next ∧ (St (k + 1)).heap.get id = some o ∧ m = (St (k + 1)).next

structure InvH (E : Env) (all : List Oper) (St : Nat → S) (ρ₀ : Rho) (w₀ : World) (p : Nat) (listed : Array Bool) (ρ : Rho) (w : World) : Prop where
  chain : ∀ (i : Nat) (o : Oper), all[i]? = some o → clsOf E o.op = .chain → (Lst listed i ↔ i < p)
  ple : p ≤ all.length
  place : p = 0 ∨ ∃ c o, p = c + 1 ∧ all[c]? = some o ∧ clsOf E o.op = .chain
  le : ρ₀.le ρ
  keep : ∀ i, i < (St 0).next → ρ i = ρ₀ i
  obj : ∀ id o m, Has E all St p listed id o m → id < m ∧ ∃ l, ρ id = some l ∧ ORel (ρ.cut m) l w o
  inj : ∀ id o m id' o' m' l l', Has E all St p listed id o m → Has E all St p listed id' o' m' → ρ id = some l → ρ id' = some l' → id ≠ id' → l.blk ≠ l'.blk
  off : ∀ (i : Nat), i < all.length → ¬ Lst listed i → ∀ id, (St i).next ≤ id → id < (St (i + 1)).next → ρ id = none
  fresh : ∀ id, (St all.length).next ≤ id → ρ id = none
  size : w₀.heap.size ≤ w.heap.size
  old : ∀ b, b < w₀.heap.size → (∀ i o l, (St 0).heap.get i = some o → ρ₀ i = some l → l.blk ≠ b) → w.heap[b]? = w₀.heap[b]?
  new : ∀ id o m l, Has E all St p listed id o m → ρ id = some l → w₀.heap.size ≤ l.blk ∨ ∃ j o' l', (St 0).heap.get j = some o' ∧ ρ₀ j = some l' ∧ l'.blk = l.blk
  os : w.os = w₀.os
  tape : w.tape = w₀.tape
  output : w.output = w₀.output
  froz : ∀ a : Addr, w.frozen? a = w₀.frozen? a

theorem St_mono (tr : Trace P E nt all recs all Tt St) : ∀ {i j}, i ≤ j → j ≤ all.length → (St i).next ≤ (St j).next := by
  intro i j hij
  induction hij with
  | refl => exact fun _ => Nat.le_refl _
  | step h ih =>
    rename_i j
    intro hj
    obtain ⟨r, h1, h2, h3, _⟩ := tr.step j all[j] (by simp [show j < all.length from hj])
    exact Nat.le_trans (ih (by omega)) (h3 ▸ h2.next)

/-- The state in the text's order, out of what stands. -/
theorem lex_has (tr : Trace P E nt all recs all Tt St) {p : Nat} {listed : Array Bool} : ∀ {q : Nat}, p ≤ q → q ≤ all.length →
    (∀ (k : Nat) (o : Oper), p ≤ k → k < q → all[k]? = some o → clsOf E o.op ≠ .chain) → (∀ (k : Nat) (o : Oper), p ≤ k → k < q → all[k]? = some o → clsOf E o.op = .alloc → Lst listed k) →
    ∀ id o, (St q).heap.get id = some o → ∃ m, m ≤ (St q).next ∧ Has E all St p listed id o m := by
  intro q hpq
  induction hpq with
  | refl => exact fun _ _ _ id o h => ⟨_, Nat.le_refl _, .inl ⟨h, rfl⟩⟩
  | step hpq ih =>
    rename_i q
    have hpq' : p ≤ q := hpq
    intro hq hch hal id o h
    have hlt : q < all.length := hq
    have hq' : all[q]? = some all[q] := by simp [hlt]
    obtain ⟨r, h1, h2, h3, _⟩ := tr.step q all[q] hq'
    have hih := ih (by omega) (fun k o hk hk' => hch k o hk (by omega)) (fun k o hk hk' => hal k o hk (by omega))
    have same : r.s' = St q → ∃ m, m ≤ (St (q + 1)).next ∧ Has E all St p listed id o m := fun hs => by
      rw [h3, hs] at h ⊢
      exact hih id o h
    cases hi : r.idle with
    | true => exact same ((h2.idle hi).2)
    | false =>
      cases hc : r.c with
      | chain => exact absurd (h2.cls.symm.trans hc) (hch q _ hpq' (by omega) hq')
      | pure => exact same (h2.pure hi hc).1
      | load => exact same (h2.load hi hc)
      | alloc =>
        obtain ⟨_, s₁, _, k2, k3⟩ := h2.alloc hi hc
        have hcl := h2.cls.symm.trans hc
        have h' := h
        rw [h3, k3] at h'
        split at h'
        · rename_i hb
          refine ⟨(St (q + 1)).next, Nat.le_refl _, .inr ⟨q, _, hpq', hq', hcl, hal q _ hpq' (by omega) hq' hcl, hb.1, ?_, h, rfl⟩⟩
          rw [h3, k2]; exact hb.2
        · obtain ⟨m, k4, k5⟩ := hih id o h'
          refine ⟨m, Nat.le_trans k4 ?_, k5⟩
          rw [h3]; exact h2.next

theorem InvH.good (tr : Trace P E nt all recs all Tt St) {ρ₀ : Rho} {w₀ : World} {p : Nat} {listed : Array Bool} {ρ : Rho} {w : World} (inv : InvH E all St ρ₀ w₀ p listed ρ w) {q : Nat} (hpq : p ≤ q) (hq : q ≤ all.length)
    (hch : ∀ (k : Nat) (o : Oper), p ≤ k → k < q → all[k]? = some o → clsOf E o.op ≠ .chain) (hal : ∀ (k : Nat) (o : Oper), p ≤ k → k < q → all[k]? = some o → clsOf E o.op = .alloc → Lst listed k) :
    Good (ρ.cut (St q).next) (St q) w := by
  have hl := lex_has (listed := listed) tr hpq hq hch hal
  refine ⟨fun id o h => ?_, fun i j oi oj li lj hi hj hri hrj hij => ?_, fun i hi => Rho.cut_none hi⟩
  · obtain ⟨m, h1, h2⟩ := hl id o h
    obtain ⟨h3, l, h4, h5⟩ := inv.obj id o m h2
    exact ⟨l, by rw [Rho.cut_eq (by omega)]; exact h4, h5.mono (Rho.cut_mono ρ h1) rfl⟩
  · obtain ⟨m, _, h2⟩ := hl i oi hi
    obtain ⟨m', _, h2'⟩ := hl j oj hj
    exact inv.inj i oi m j oj m' li lj h2 h2' (Rho.cut_le _ _ _ _ hri) (Rho.cut_le _ _ _ _ hrj) hij
end
end Go.X
