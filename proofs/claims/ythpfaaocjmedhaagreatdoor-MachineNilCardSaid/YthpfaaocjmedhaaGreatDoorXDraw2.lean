/- A part of the proof that a law answers true for every input: an executor of the model over an abstract heap, proved sound, or the use of it. -/
import Derived.Test.YthpfaaocjmedhaaGreatDoorXDraw1
namespace Go.X
open Go

/-! ## Masks -/
theorem edgeMask_ok : ∀ (es : List Edge) (ms : List Nat) (m j : Nat), (edgeMask es ms m).testBit j = true →
    m.testBit j = true ∨ ∃ e ∈ es, Region.binds .any e = true ∧ (e.on = j ∨ (ms.getD e.on 0).testBit j = true)
  | [], _, _, _, h => .inl h
  | e :: es, ms, m, j, h => by
    unfold edgeMask at h
    split at h
    · rename_i hb
      rcases edgeMask_ok es ms _ j h with h1 | ⟨e', h1, h2, h3⟩
      · have h1' : (m ||| (2 ^ e.on ||| ms.getD e.on 0)).testBit j = true := h1
        rw [Nat.testBit_or, Nat.testBit_or, Nat.testBit_two_pow] at h1'
        simp only [Bool.or_eq_true, decide_eq_true_eq] at h1'
        rcases h1' with h1' | h1' | h1'
        · exact .inl h1'
        · exact .inr ⟨e, by simp, hb, .inl h1'⟩
        · exact .inr ⟨e, by simp, hb, .inr h1'⟩
      · exact .inr ⟨e', List.mem_cons_of_mem _ h1, h2, h3⟩
    · rcases edgeMask_ok es ms m j h with h1 | ⟨e', h1, h2, h3⟩
      · exact .inl h1
      · exact .inr ⟨e', List.mem_cons_of_mem _ h1, h2, h3⟩

def MaskOk (all : List Oper) (ms : List Nat) : Prop := ∀ i j, bef ms i j = true → ∃ o e, all[i]? = some o ∧ e ∈ o.after.toList ∧ Region.binds .any e = true ∧ (e.on = j ∨ bef ms e.on j = true)

theorem masksGo_ok : ∀ (l pre : List Oper) (ms : List Nat), ms.length = pre.length → MaskOk pre ms → MaskOk (pre ++ l) (masksGo l ms)
  | [], pre, ms, _, h => by simpa [masksGo] using h
  | o :: l, pre, ms, hl, h => by
    unfold masksGo
    rw [forceN_eq]
    have := masksGo_ok l (pre ++ [o]) (ms ++ [edgeMask o.after.toList ms 0]) (by simp [hl]) ?_
    · simpa using this
    · intro i j hij
      have hget : ∀ k, k < ms.length → (ms ++ [edgeMask o.after.toList ms 0]).getD k 0 = ms.getD k 0 := fun k hk => by
        simp [List.getD_eq_getElem?_getD, List.getElem?_append_left hk]
      unfold bef at hij
      rcases Nat.lt_trichotomy i ms.length with hi | hi | hi
      · rw [hget i hi] at hij
        obtain ⟨o', e, h1, h2, h3, h4⟩ := h i j hij
        refine ⟨o', e, by rw [List.getElem?_append_left (by omega)]; exact h1, h2, h3, h4.imp id fun h5 => ?_⟩
        unfold bef at h5 ⊢
        rcases Nat.lt_or_ge e.on ms.length with hk | hk
        · rw [hget _ hk]; exact h5
        · simp [List.getD_eq_getElem?_getD, List.getElem?_eq_none hk] at h5
      · subst hi
        have : (ms ++ [edgeMask o.after.toList ms 0]).getD ms.length 0 = edgeMask o.after.toList ms 0 := by simp [List.getD_eq_getElem?_getD]
        rw [this] at hij
        rcases edgeMask_ok _ _ _ _ hij with h1 | ⟨e, h1, h2, h3⟩
        · simp at h1
        · refine ⟨o, e, by rw [hl]; simp, h1, h2, h3.imp id fun h5 => ?_⟩
          unfold bef
          rcases Nat.lt_or_ge e.on ms.length with hk | hk
          · rw [hget _ hk]; exact h5
          · simp [List.getD_eq_getElem?_getD, List.getElem?_eq_none hk] at h5
      · have : (ms ++ [edgeMask o.after.toList ms 0]).getD i 0 = 0 := by
          rw [List.getD_eq_getElem?_getD, List.getElem?_eq_none (by simp; omega)]; rfl
        rw [this] at hij
        simp at hij

theorem masks_ok (all : List Oper) : MaskOk all (masks all) := by
  have := masksGo_ok all [] [] rfl (fun i j h => by simp [bef] at h)
  simpa [masks] using this

/-! ## What is looked at once -/
structure Static (E : Env) (all : List Oper) : Prop where
  back : ∀ (i : Nat) (o : Oper), all[i]? = some o → ∀ e ∈ o.after.toList, Region.binds .any e = true → e.on < i
  tmps : ∀ (i : Nat) (o : Oper) (j : Nat) (oj : Oper) (d : Nat), all[i]? = some o → all[j]? = some oj → oj.dst = some d → j ≠ i → d ∈ looks all o → (j < i → bef (masks all) i j = true) ∧ (i < j → bef (masks all) j i = true)
  dsts : ∀ (i : Nat) (o : Oper) (j : Nat) (oj : Oper) (d : Nat), all[i]? = some o → all[j]? = some oj → oj.dst = some d → j ≠ i → o.dst ≠ some d
  chain : ∀ (i : Nat) (o : Oper) (j : Nat) (oj : Oper), all[i]? = some o → all[j]? = some oj → clsOf E o.op = .chain → j < i → (clsOf E oj.op = .chain ∨ clsOf E oj.op = .alloc) → bef (masks all) i j = true

theorem backB_ok {i : Nat} : ∀ {es : List Edge}, backB es i = true → ∀ e ∈ es, Region.binds .any e = true → e.on < i
  | [], _, e, he, _ => by cases he
  | e' :: es, h, e, he, hb => by
    unfold backB at h
    rcases List.mem_cons.1 he with rfl | he
    · rw [hb] at h
      simp only at h
      split at h
      · rename_i h1; simpa using h1
      · cases h
    · split at h
      · split at h
        · exact backB_ok h e he hb
        · cases h
      · exact backB_ok h e he hb

theorem seenB_mem {b : Nat} : ∀ {l : List Nat}, seenB b l = true ↔ b ∈ l := seenB_iff

theorem pairB_ok {E : Env} {all : List Oper} {ms : List Nat} {oi oj : Oper} {i j : Nat} (h : pairB E all ms oi oj i j = true) :
    (∀ d, oj.dst = some d → j ≠ i → (d ∈ looks all oi → (j < i → bef ms i j = true) ∧ (i < j → bef ms j i = true)) ∧ oi.dst ≠ some d) ∧
    (clsOf E oi.op = .chain → j < i → (clsOf E oj.op = .chain ∨ clsOf E oj.op = .alloc) → bef ms i j = true) := by
  unfold pairB at h
  rw [Bool.and_eq_true] at h
  obtain ⟨h1, h2⟩ := h
  refine ⟨fun d hd hne => ?_, fun hc hlt hk => ?_⟩
  · rw [hd] at h1
    simp only at h1
    have hb : Nat.beq i j = false := by
      cases hb : Nat.beq i j with
      | false => rfl
      | true => exact absurd (Nat.eq_of_beq_eq_true hb).symm hne
    rw [hb] at h1
    simp only [Bool.and_eq_true] at h1
    obtain ⟨h3, h4⟩ := h1
    refine ⟨fun hm => ?_, fun hd' => ?_⟩
    · rw [seenB_iff.2 hm] at h3
      simp only at h3
      refine ⟨fun hlt => ?_, fun hlt => ?_⟩
      · rw [show Nat.blt j i = true from by simpa using hlt] at h3; exact h3
      · rw [show Nat.blt j i = false from by cases hb' : Nat.blt j i; rfl; exact absurd (show j < i by simpa using hb') (by omega)] at h3; exact h3
    · rw [hd'] at h4
      simp at h4
  · rw [hc] at h2
    simp only at h2
    rw [show Nat.blt j i = true from by simpa using hlt] at h2
    simp only at h2
    rcases hk with hk | hk <;> rw [hk] at h2 <;> exact h2

theorem rowB_ok {E : Env} {all : List Oper} {ms : List Nat} {oi : Oper} {i : Nat} : ∀ {l : List Oper} {k : Nat}, rowB E all ms oi i l k = true → ∀ j oj, l[j]? = some oj → pairB E all ms oi oj i (k + j) = true
  | [], _, _, j, oj, hj => by simp at hj
  | o :: l, k, h, j, oj, hj => by
    unfold rowB at h
    split at h
    · rename_i h1
      cases j with
      | zero => simp at hj; subst hj; exact h1
      | succ j => have := rowB_ok h j oj (by simpa using hj); rwa [show Nat.succ k + j = k + (j + 1) from by omega] at this
    · cases h

theorem staticGo_ok {E : Env} {all : List Oper} {ms : List Nat} : ∀ {l : List Oper} {k : Nat}, staticGo E all ms l k = true → ∀ i oi, l[i]? = some oi →
    backB oi.after.toList (k + i) = true ∧ rowB E all ms oi (k + i) all 0 = true
  | [], _, _, i, oi, hi => by simp at hi
  | o :: l, k, h, i, oi, hi => by
    unfold staticGo at h
    split at h
    · rename_i h1
      split at h
      · rename_i h2
        cases i with
        | zero => simp at hi; subst hi; exact ⟨h1, h2⟩
        | succ i => have := staticGo_ok h i oi (by simpa using hi); rwa [show Nat.succ k + i = k + (i + 1) from by omega] at this
      · cases h
    · cases h

theorem static_ok {E : Env} {all : List Oper} (h : staticB E all = true) : Static E all := by
  have hh : ∀ i o, all[i]? = some o → backB o.after.toList i = true ∧ ∀ j oj, all[j]? = some oj → pairB E all (masks all) o oj i j = true := fun i o hi => by
    obtain ⟨h1, h2⟩ := staticGo_ok (k := 0) h i o hi
    rw [Nat.zero_add] at h1 h2
    exact ⟨h1, fun j oj hj => by have := rowB_ok h2 j oj hj; rwa [Nat.zero_add] at this⟩
  refine ⟨fun i o hi => backB_ok (hh i o hi).1, fun i o j oj d hi hj hd hne hm => ?_, fun i o j oj d hi hj hd hne => ?_, fun i o j oj hi hj => ?_⟩
  · exact ((pairB_ok ((hh i o hi).2 j oj hj)).1 d hd hne).1 hm
  · exact ((pairB_ok ((hh i o hi).2 j oj hj)).1 d hd hne).2
  · exact (pairB_ok ((hh i o hi).2 j oj hj)).2

/-! ## Below -/
noncomputable def Rho.cut (ρ : Rho) (n : Nat) : Rho := fun i => if i < n then ρ i else none

theorem Rho.cut_le (ρ : Rho) (n : Nat) : (ρ.cut n).le ρ := fun i l h => by
  unfold Rho.cut at h
  split at h
  · exact h
  · cases h
theorem Rho.cut_mono (ρ : Rho) {n m : Nat} (h : n ≤ m) : (ρ.cut n).le (ρ.cut m) := fun i l hi => by
  unfold Rho.cut at hi ⊢
  split at hi
  · rw [if_pos (by omega)]; exact hi
  · cases hi
theorem Rho.cut_eq {ρ : Rho} {n i : Nat} (h : i < n) : ρ.cut n i = ρ i := if_pos h
theorem Rho.cut_none {ρ : Rho} {n i : Nat} (h : n ≤ i) : ρ.cut n i = none := if_neg (by omega)

theorem below_ok {ρ : Rho} {n : Nat} : ∀ d, (∀ x v, belowV n d x = true → VRel ρ x v → VRel (ρ.cut n) x v) ∧ (∀ l vs, belowVs n d l = true → VRels ρ l vs → VRels (ρ.cut n) l vs) := by
  intro d
  induction d with
  | zero => exact ⟨fun x v h => by simp [belowV] at h, fun l vs h => by simp [belowVs] at h⟩
  | succ d ih =>
    refine ⟨fun x v h hr => ?_, fun l vs h hr => ?_⟩
    · cases x <;> simp only [belowV] at h <;> simp only [VRel] at hr ⊢ <;> try exact hr
      case ptr i o => obtain ⟨l, h1, h2⟩ := hr; exact ⟨l, by rw [Rho.cut_eq (by simpa using h)]; exact h1, h2⟩
      case slice i o k c => obtain ⟨l, cap, h1, h2⟩ := hr; exact ⟨l, cap, by rw [Rho.cut_eq (by simpa using h)]; exact h1, h2⟩
      case map i => obtain ⟨l, h1, h2⟩ := hr; exact ⟨l, by rw [Rho.cut_eq (by simpa using h)]; exact h1, h2⟩
      case yield i => obtain ⟨l, h1, h2⟩ := hr; exact ⟨l, by rw [Rho.cut_eq (by simpa using h)]; exact h1, h2⟩
      case func fn f c =>
        split at h
        · rename_i h1
          obtain ⟨fs, cs, h2, h3, h4⟩ := hr
          exact ⟨fs, cs, h2, ih.2 _ _ h1 h3, ih.2 _ _ h h4⟩
        · cases h
      case iface t x => obtain ⟨y, h1, h2⟩ := hr; exact ⟨y, h1, ih.1 _ _ h h2⟩
      case agg l => obtain ⟨vs, h1, h2⟩ := hr; exact ⟨vs, h1, ih.2 _ _ h h2⟩
      case tuple l => obtain ⟨vs, h1, h2⟩ := hr; exact ⟨vs, h1, ih.2 _ _ h h2⟩
    · cases l with
      | nil => rw [VRels.nil_iff] at hr; subst hr; exact VRels.nil
      | cons x l =>
        rw [VRels.cons_iff] at hr
        obtain ⟨v, rest, rfl, h1, h2⟩ := hr
        simp only [belowVs] at h
        split at h
        · rename_i hb; exact VRels.cons (ih.1 _ _ hb h1) (ih.2 _ _ h h2)
        · cases h

theorem TRel.cut {ρ : Rho} {τ : T V} {tmps : Array Value} {n : Nat} (h : TRel ρ τ tmps) (hb : Below n τ) : TRel (ρ.cut n) τ tmps :=
  fun t x hx => let ⟨v, h1, h2⟩ := h t x hx; ⟨v, h1, (below_ok _).1 _ _ (hb t x hx) h2⟩

/-! ## Equal values -/
theorem beqNs_ok : ∀ {l m : List Nat}, beqNs l m = true → l = m
  | [], [], _ => rfl
  | a :: l, b :: m, h => by
    unfold beqNs at h
    split at h
    · rename_i h1; rw [Nat.eq_of_beq_eq_true h1, beqNs_ok h]
    · cases h
  | [], _ :: _, h => by simp [beqNs] at h
  | _ :: _, [], h => by simp [beqNs] at h

theorem beqCap_ok {c e : Cap} (h : beqCap c e = true) : c = e := by
  unfold beqCap at h
  split at h
  · rw [Nat.eq_of_beq_eq_true h]
  · split at h
    · rename_i h1; rw [Nat.eq_of_beq_eq_true h1, Nat.eq_of_beq_eq_true h]
    · cases h
  · cases h

theorem beqV_ok : ∀ d, (∀ x y, beqV d x y = true → x = y) ∧ (∀ l m, beqVs d l m = true → l = m) := by
  intro d
  induction d with
  | zero => exact ⟨fun x y h => by simp [beqV] at h, fun l m h => by simp [beqVs] at h⟩
  | succ d ih =>
    refine ⟨fun x y h => ?_, fun l m h => ?_⟩
    · unfold beqV at h
      split at h <;> try rfl
      · split at h <;> first | rfl | cases h
      · split at h
        · rename_i h1; rw [of_decide_eq_true h1, of_decide_eq_true h]
        · cases h
      · rw [beqNs_ok h]
      · split at h
        · rename_i h1; rw [Nat.eq_of_beq_eq_true h1, Nat.eq_of_beq_eq_true h]
        · cases h
      · split at h
        · rename_i h1; rw [Nat.eq_of_beq_eq_true h1, Nat.eq_of_beq_eq_true h]
        · cases h
      · rw [Nat.eq_of_beq_eq_true h]
      · split at h
        · rename_i h1
          split at h
          · rename_i h2
            split at h
            · rename_i h3; rw [Nat.eq_of_beq_eq_true h1, Nat.eq_of_beq_eq_true h2, Nat.eq_of_beq_eq_true h3, beqCap_ok h]
            · cases h
          · cases h
        · cases h
      · split at h
        · rename_i h1; rw [Nat.eq_of_beq_eq_true h1, ih.1 _ _ h]
        · cases h
      · rw [ih.2 _ _ h]
      · rw [ih.2 _ _ h]
      · cases h
    · unfold beqVs at h
      split at h
      · rfl
      · split at h
        · rename_i h1; rw [ih.1 _ _ h1, ih.2 _ _ h]
        · cases h
      · cases h

/-! ## What is looked at again -/
theorem fitsB_ok {ms : List Nat} {i p : Nat} : ∀ {recs : List Rec} {k : Nat}, (∀ j r, recs[j]? = some r → r.c = .chain → (k + j < p → bef ms (k + j) i = false) ∧ (p ≤ k + j → bef ms i (k + j) = false)) → fitsB ms i p recs k = true
  | [], _, _ => rfl
  | r :: recs, k, h => by
    have hrec := fitsB_ok (ms := ms) (i := i) (p := p) (recs := recs) (k := Nat.succ k) fun j r' hj hc => by
      have := h (j + 1) r' (by simpa using hj) hc
      rwa [show k + (j + 1) = Nat.succ k + j from by omega] at this
    unfold fitsB
    split
    · rename_i hc
      obtain ⟨h1, h2⟩ := h 0 r (by simp) hc
      rw [Nat.add_zero] at h1 h2
      split
      · rename_i hb; rw [h1 (by simpa using hb)]; exact hrec
      · rename_i hb
        have : ¬ k < p := fun hh => by rw [show Nat.blt k p = true from by simpa using hh] at hb; cases hb
        rw [h2 (by omega)]; exact hrec
    · exact hrec

theorem putObjs_all (h : T Obj) : ∀ (k i : Nat) (b : T Obj), ∃ b', (∀ (β : Type) (c : T Obj → β), putObjs h k i b c = c b') ∧ ∀ id, b'.get id = if i ≤ id ∧ id < i + k then h.get id else b.get id
  | 0, i, b => ⟨b, fun _ _ => rfl, fun id => by rw [if_neg (by omega)]⟩
  | k + 1, i, b => by
    obtain ⟨b', h1, h2⟩ := putObjs_all h k (i + 1) (b.set i (h.get i))
    refine ⟨b', fun β c => by unfold putObjs; rw [T.put_eq, forceN_eq]; exact h1 β c, fun id => ?_⟩
    rw [h2, T.get_set]
    by_cases e : id = i
    · subst e; rw [if_neg (by omega), if_pos rfl, if_pos (by omega)]
    · rw [if_neg e]
      by_cases e2 : i + 1 ≤ id ∧ id < i + 1 + k
      · rw [if_pos e2, if_pos (by omega)]
      · rw [if_neg e2, if_neg (by omega)]

theorem heapAt_ok {ms : List Nat} {i p : Nat} : ∀ (recs : List Rec) (k : Nat) (h : T Obj), ∃ h', (∀ (β : Type) (c : T Obj → β), heapAt ms i p recs k h c = c h') ∧
    ∀ id o, h'.get id = some o → h.get id = some o ∨ ∃ j r, recs[j]? = some r ∧ r.c = .alloc ∧ p ≤ k + j ∧ bef ms i (k + j) = true ∧ r.s.next ≤ id ∧ id < r.s.next + (r.s'.next - r.s.next) ∧ r.s'.heap.get id = some o
  | [], k, h => ⟨h, fun _ _ => rfl, fun id o hh => .inl hh⟩
  | r :: recs, k, h => by
    have up : ∀ (h₀ h' : T Obj), (∀ id o, h'.get id = some o → h₀.get id = some o ∨ ∃ j r', recs[j]? = some r' ∧ r'.c = .alloc ∧ p ≤ Nat.succ k + j ∧ bef ms i (Nat.succ k + j) = true ∧ r'.s.next ≤ id ∧ id < r'.s.next + (r'.s'.next - r'.s.next) ∧ r'.s'.heap.get id = some o) →
        ∀ id o, h'.get id = some o → h₀.get id = some o ∨ ∃ j r', (r :: recs)[j]? = some r' ∧ r'.c = .alloc ∧ p ≤ k + j ∧ bef ms i (k + j) = true ∧ r'.s.next ≤ id ∧ id < r'.s.next + (r'.s'.next - r'.s.next) ∧ r'.s'.heap.get id = some o := fun h₀ h' hh id o ho => by
      rcases hh id o ho with h1 | ⟨j, r', h1, h2, h3, h4, h5, h6, h7⟩
      · exact .inl h1
      · exact .inr ⟨j + 1, r', by simpa using h1, h2, by omega, by rwa [show k + (j + 1) = Nat.succ k + j from by omega], h5, h6, h7⟩
    by_cases hc : r.c = .alloc ∧ Nat.ble p k = true ∧ bef ms i k = true
    · obtain ⟨c1, c2, c3⟩ := hc
      obtain ⟨b', k1, k2⟩ := putObjs_all r.s'.heap (Nat.sub r.s'.next r.s.next) r.s.next h
      obtain ⟨h', h1, h2⟩ := heapAt_ok (ms := ms) (i := i) (p := p) recs (Nat.succ k) b'
      refine ⟨h', fun β c => ?_, fun id o ho => ?_⟩
      · unfold heapAt
        rw [c1]
        simp only [c2, c3]
        rw [k1]
        exact h1 β c
      · rcases up b' h' h2 id o ho with h3 | h3
        · rw [k2] at h3
          split at h3
          · rename_i hb
            exact .inr ⟨0, r, by simp, c1, by simpa using c2, by simpa using c3, hb.1, hb.2, h3⟩
          · exact .inl h3
        · exact .inr h3
    · obtain ⟨h', h1, h2⟩ := heapAt_ok (ms := ms) (i := i) (p := p) recs (Nat.succ k) h
      refine ⟨h', fun β c => ?_, up h h' h2⟩
      unfold heapAt
      split
      · rename_i hc1
        split
        · rename_i hc2
          split
          · rename_i hc3; exact absurd ⟨hc1, hc2, hc3⟩ hc
          · exact h1 β c
        · exact h1 β c
      · exact h1 β c
/-- A load gives what the walk has given, at the place p. -/
structure LoadAt (E : Env) (all : List Oper) (recs : List Rec) (r : Rec) (i p : Nat) (h : T Obj) (h' : T Obj) : Prop where
  sub : ∀ id o, h'.get id = some o → h.get id = some o ∨ ∃ (j : Nat) (q : Rec), recs[j]? = some q ∧ q.c = .alloc ∧ p ≤ j ∧ bef (masks all) i j = true ∧ q.s.next ≤ id ∧ id < q.s.next + (q.s'.next - q.s.next) ∧ q.s'.heap.get id = some o
  op : ∃ s', doOp E r.τo ⟨h', huge⟩ r.o.op = .val r.v s'

theorem loadAtB_ok {E : Env} {all : List Oper} {recs : List Rec} {r : Rec} {i p : Nat} {h : T Obj} (hb : loadAtB E (masks all) recs r i p h = true) (hf : fitsB (masks all) i p recs 0 = true) :
    ∃ h', LoadAt E all recs r i p h h' := by
  unfold loadAtB at hb
  rw [hf] at hb
  simp only at hb
  obtain ⟨h', h1, h2⟩ := heapAt_ok (ms := masks all) (i := i) (p := p) recs 0 h
  rw [h1] at hb
  refine ⟨h', fun id o ho => ?_, ?_⟩
  · rcases h2 id o ho with h3 | ⟨j, q, h3⟩
    · exact .inl h3
    · exact .inr ⟨j, q, by simpa using h3⟩
  · unfold sameLoad at hb
    split at hb
    · rename_i v s' hv
      exact ⟨s', by rw [hv, (beqV_ok _).1 _ _ hb]⟩
    · cases hb

theorem loadPlaces_ok {E : Env} {all : List Oper} {recs : List Rec} {r : Rec} {i : Nat} : ∀ {l : List Rec} {k : Nat}, loadPlaces E (masks all) recs r i l k = true →
    ∀ j q, l[j]? = some q → q.c = .chain → loadAtB E (masks all) recs r i (k + j + 1) q.s'.heap = true
  | [], _, _, j, q, hj, _ => by simp at hj
  | q' :: l, k, h, j, q, hj, hc => by
    unfold loadPlaces at h
    cases j with
    | zero =>
      simp at hj; subst hj
      rw [hc] at h
      simp only at h
      split at h
      · rename_i h1; exact h1
      · cases h
    | succ j =>
      have hrec : loadPlaces E (masks all) recs r i l (Nat.succ k) = true := by
        split at h
        · split at h
          · exact h
          · cases h
        · exact h
      have := loadPlaces_ok hrec j q (by simpa using hj) hc
      rwa [show Nat.succ k + j + 1 = k + (j + 1) + 1 from by omega] at this

theorem loadsB_ok {E : Env} {all : List Oper} {recs : List Rec} {h₀ : T Obj} : ∀ {l : List Rec} {k : Nat}, loadsB E (masks all) recs h₀ l k = true → ∀ i r, l[i]? = some r → r.c = .load → r.idle = false →
    loadAtB E (masks all) recs r (k + i) 0 h₀ = true ∧ loadPlaces E (masks all) recs r (k + i) recs 0 = true
  | [], _, _, i, r, hi, _, _ => by simp at hi
  | r' :: l, k, h, i, r, hi, hc, hd => by
    unfold loadsB at h
    cases i with
    | zero =>
      simp at hi; subst hi
      rw [hc, hd] at h
      simp only at h
      split at h
      · rename_i h1
        split at h
        · rename_i h2; exact ⟨h1, h2⟩
        · cases h
      · cases h
    | succ i =>
      have hrec : loadsB E (masks all) recs h₀ l (Nat.succ k) = true := by
        split at h
        · split at h
          · split at h
            · exact h
            · cases h
          · cases h
        · exact h
      have := loadsB_ok hrec i r (by simpa using hi) hc hd
      rwa [show Nat.succ k + i = k + (i + 1) from by omega] at this
end Go.X
