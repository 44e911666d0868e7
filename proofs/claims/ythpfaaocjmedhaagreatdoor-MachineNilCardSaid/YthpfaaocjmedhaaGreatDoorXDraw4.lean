/- A part of the proof that a law answers true for every input: an executor of the model over an abstract heap, proved sound, or the use of it. -/
import Derived.Test.YthpfaaocjmedhaaGreatDoorXDraw3
namespace Go.X
open Go
section
variable {P : Program} {E : Env} {nt : Nat} {all : List Oper} {recs : List Rec} {Tt : Nat → T V} {St : Nat → S}

/-- Nothing new: the world's old blocks stay. -/
theorem InvH.still {ρ₀ : Rho} {w₀ : World} {p : Nat} {listed : Array Bool} {ρ : Rho} {w w' : World} (inv : InvH E all St ρ₀ w₀ p listed ρ w) {i : Nat} (hi : i < listed.size) {o : Oper} (ho : all[i]? = some o)
    (hc : clsOf E o.op ≠ .chain) (hs : St (i + 1) = St i) (hsz : w.heap.size ≤ w'.heap.size) (hb : ∀ b, b < w.heap.size → w'.heap[b]? = w.heap[b]?) (hos : w'.os = w.os) (ht : w'.tape = w.tape) (hout : w'.output = w.output) (hfz : ∀ a : Addr, w'.frozen? a = w.frozen? a) :
    InvH E all St ρ₀ w₀ p (listed.setIfInBounds i true) ρ w' := by
  have has : ∀ {id o m}, Has E all St p (listed.setIfInBounds i true) id o m → Has E all St p listed id o m := fun {id o m} h => by
    rcases h with h | ⟨k, ok, h1, h2, h3, h4, h5, h6, h7⟩
    · exact .inl h
    · refine .inr ⟨k, ok, h1, h2, h3, ((lst_set hi).1 h4).resolve_left fun e => ?_, h5, h6, h7⟩
      subst e
      rw [hs] at h6
      omega
  refine ⟨fun k ok hk hck => ?_, inv.ple, inv.place, inv.le, inv.keep, fun id o m h => ?_, fun id o m id' o' m' l l' h h' => inv.inj id o m id' o' m' l l' (has h) (has h'), fun k hk hn => inv.off k hk fun h => hn ((lst_set hi).2 (.inr h)), inv.fresh,
    Nat.le_trans inv.size hsz, fun b hb' hn => (hb b (Nat.lt_of_lt_of_le hb' inv.size)).trans (inv.old b hb' hn), fun id o m l h => inv.new id o m l (has h), hos.trans inv.os, ht.trans inv.tape, hout.trans inv.output, fun a => (hfz a).trans (inv.froz a)⟩
  · rw [lst_set hi, ← inv.chain k ok hk hck]
    refine ⟨fun h => h.resolve_left fun e => ?_, .inr⟩
    subst e
    rw [ho] at hk; cases hk
    exact hc hck
  · obtain ⟨h1, l, h2, h3⟩ := inv.obj id o m (has h)
    exact ⟨h1, l, h2, h3.mono (Rho.le_refl _) (hb _ h3.lt)⟩

noncomputable def Rho.join (ρ' : Rho) (n : Nat) (ρ : Rho) : Rho := fun i => if i < n then ρ' i else ρ i
theorem Rho.join_lt {ρ' ρ : Rho} {n i : Nat} (h : i < n) : ρ'.join n ρ i = ρ' i := if_pos h
theorem Rho.join_ge {ρ' ρ : Rho} {n i : Nat} (h : n ≤ i) : ρ'.join n ρ i = ρ i := if_neg (by omega)

/-- A run of a state's own on numbers from n on. -/
structure Grown (ρ : Rho) (n n' : Nat) (ρ' ρ'' : Rho) : Prop where
  nn : n ≤ n'
  le : ρ.le ρ''
  cut : ρ''.cut n' = ρ'
  lo : ∀ i, i < n → ρ'' i = ρ i
  hi : ∀ i, n' ≤ i → ρ'' i = ρ i
  le' : ρ'.le ρ''

theorem grown_of {ρ : Rho} {s s' : S} {w w' : World} {n n' : Nat} (hn : s.next = n) (hn' : s'.next = n') {ρ' : Rho} (hp : Post (ρ.cut n) s w ρ' s' w') (hoff : ∀ id, n ≤ id → id < n' → ρ id = none) :
    Grown ρ n n' ρ' (ρ'.join n' ρ) := by
  have hnn : n ≤ n' := by rw [← hn, ← hn']; exact hp.next
  have hlo : ∀ i, i < n → ρ' i = ρ i := fun i hi => by rw [hp.keep i (by omega), Rho.cut_eq hi]
  refine ⟨hnn, fun i l hi => ?_, funext fun i => ?_, fun i hi => ?_, fun i hi => Rho.join_ge hi, fun i l hi => ?_⟩
  · by_cases h : i < n'
    · rw [Rho.join_lt h]
      by_cases h' : i < n
      · rw [hlo i h']; exact hi
      · rw [hoff i (by omega) h] at hi; cases hi
    · rw [Rho.join_ge (by omega)]; exact hi
  · by_cases h : i < n'
    · rw [Rho.cut_eq h, Rho.join_lt h]
    · rw [Rho.cut_none (by omega), hp.good.fresh i (by omega)]
  · rw [Rho.join_lt (by omega)]; exact hlo i hi
  · by_cases h : i < n'
    · rw [Rho.join_lt h]; exact hi
    · rw [hp.good.fresh i (by omega)] at hi; cases hi

theorem cut_le_of_le {ρ ρ' : Rho} (h : ρ.le ρ') (m : Nat) : (ρ.cut m).le (ρ'.cut m) := fun i l hi => by
  by_cases e : i < m
  · rw [Rho.cut_eq e] at hi ⊢; exact h _ _ hi
  · rw [Rho.cut_none (by omega)] at hi; cases hi

/-- A new object, whenever. -/
theorem InvH.alloc (tr : Trace P E nt all recs all Tt St) (st : Static E all) {ρ₀ : Rho} {w₀ : World} {p : Nat} {listed : Array Bool} {ρ : Rho} {w w' : World} (inv : InvH E all St ρ₀ w₀ p listed ρ w) (hcl : Closed all listed) {i : Nat} (hi : i < listed.size) (hil : i < all.length) {o : Oper} (ho : all[i]? = some o)
    (hun : ¬ Lst listed i) (hc : clsOf E o.op = .alloc) {s₁ : S} {ρ' : Rho} (hp : Post (ρ.cut (St i).next) ⟨.leaf, (St i).next⟩ w ρ' s₁ w') (hn' : (St (i + 1)).next = s₁.next)
    (hget : ∀ id, (St (i + 1)).heap.get id = if (St i).next ≤ id ∧ id < s₁.next then s₁.heap.get id else (St i).heap.get id) :
    ∃ ρ'', ρ.le ρ'' ∧ ρ'.le ρ'' ∧ InvH E all St ρ₀ w₀ p (listed.setIfInBounds i true) ρ'' w' := by
  have hg := grown_of (s := ⟨.leaf, (St i).next⟩) (n := (St i).next) (n' := (St (i + 1)).next) rfl hn'.symm hp (inv.off i hil hun)
  generalize hρ : ρ'.join (St (i + 1)).next ρ = ρ'' at hg
  have hblk : ∀ b, b < w.heap.size → w'.heap[b]? = w.heap[b]? := fun b hb => hp.old b hb fun j o l hj _ => by rw [show (⟨.leaf, (St i).next⟩ : S).heap = .leaf from rfl, T.get_leaf] at hj; cases hj
  have hnew : ∀ id o l, s₁.heap.get id = some o → ρ' id = some l → w.heap.size ≤ l.blk := fun id o l h1 h2 => by
    rcases hp.new id o l h1 h2 with h | ⟨j, o', l', h3, _⟩
    · exact h
    · rw [show (⟨.leaf, (St i).next⟩ : S).heap = .leaf from rfl, T.get_leaf] at h3; cases h3
  have hpi : p ≤ i := by
    rcases inv.place with rfl | ⟨c, oc, rfl, h1, h2⟩
    · omega
    · rcases Nat.lt_trichotomy i c with h | h | h
      · have hb := st.chain c oc i o h1 ho h2 h (.inr hc)
        have hl := (inv.chain c oc h1 h2).2 (by omega)
        exact absurd (closed_bef st hcl c (fun o' ho' => hcl _ o' ho' hl) i hb) hun
      · subst h; rw [h1] at ho; cases ho; rw [h2] at hc; cases hc
      · omega
  have has : ∀ {id ob m}, Has E all St p (listed.setIfInBounds i true) id ob m → Has E all St p listed id ob m ∨ ((St i).next ≤ id ∧ id < (St (i + 1)).next ∧ s₁.heap.get id = some ob ∧ m = (St (i + 1)).next) := fun {id ob m} h => by
    rcases h with h | ⟨k, ok, h1, h2, h3, h4, h5, h6, h7, h8⟩
    · exact .inl (.inl h)
    · rcases (lst_set hi).1 h4 with e | h4
      · subst e
        refine .inr ⟨h5, h6, ?_, h8⟩
        rw [hget, if_pos ⟨h5, by rw [← hn']; exact h6⟩] at h7
        exact h7
      · exact .inl (.inr ⟨k, ok, h1, h2, h3, h4, h5, h6, h7, h8⟩)
  have hold : ∀ {id ob m l}, Has E all St p listed id ob m → ρ'' id = some l → ρ id = some l ∧ l.blk < w.heap.size := fun {id ob m l} h hl => by
    obtain ⟨_, l', h2, h3⟩ := inv.obj _ _ _ h
    have := hg.le _ _ h2
    rw [hl] at this
    injection this with this
    subst this
    exact ⟨h2, h3.lt⟩
  have hnw : ∀ {id ob l}, id < (St (i + 1)).next → s₁.heap.get id = some ob → ρ'' id = some l → ρ' id = some l := fun {id ob l} h1 h2 h3 => by
    rw [← hg.cut, Rho.cut_eq h1]; exact h3
  refine ⟨ρ'', hg.le, hg.le', ?_⟩
  refine ⟨fun k ok hk hck => ?_, inv.ple, inv.place, inv.le.trans hg.le, fun j hj => ?_, fun id ob m h => ?_, fun id ob m id' ob' m' l l' h h' hl hl' hne => ?_, fun k hk hn id h1 h2 => ?_, fun id h => ?_,
    Nat.le_trans inv.size hp.size, fun b hb hn => (hblk b (Nat.lt_of_lt_of_le hb inv.size)).trans (inv.old b hb hn), fun id ob m l h hl => ?_, hp.os.trans inv.os, hp.tape.trans inv.tape, hp.output.trans inv.output, fun a => (hp.froz a).trans (inv.froz a)⟩
  · rw [lst_set hi, ← inv.chain k ok hk hck]
    refine ⟨fun h => h.resolve_left fun e => ?_, .inr⟩
    subst e
    rw [ho] at hk; cases hk
    rw [hc] at hck; cases hck
  · rw [hg.lo j (Nat.lt_of_lt_of_le hj (St_mono tr (Nat.zero_le _) (by omega)))]; exact inv.keep j hj
  · rcases has h with h | ⟨h1, h2, h3, rfl⟩
    · obtain ⟨h1, l, h2, h3⟩ := inv.obj _ _ _ h
      exact ⟨h1, l, hg.le _ _ h2, h3.mono (cut_le_of_le hg.le m) (hblk _ h3.lt)⟩
    · obtain ⟨l, h4, h5⟩ := hp.good.obj id ob h3
      exact ⟨h2, l, hg.le' _ _ h4, by rw [hg.cut]; exact h5⟩
  · rcases has h with h | ⟨h1, h2, h3, _⟩ <;> rcases has h' with h' | ⟨h1', h2', h3', _⟩
    · exact inv.inj _ _ _ _ _ _ _ _ h h' (hold h hl).1 (hold h' hl').1 hne
    · have := hnew _ _ _ h3' (hnw h2' h3' hl')
      have := (hold h hl).2
      omega
    · have := hnew _ _ _ h3 (hnw h2 h3 hl)
      have := (hold h' hl').2
      omega
    · exact hp.good.inj _ _ _ _ _ _ h3 h3' (hnw h2 h3 hl) (hnw h2' h3' hl') hne
  · have hk' : ¬ Lst listed k := fun hh => hn ((lst_set hi).2 (.inr hh))
    have hki : k ≠ i := fun e => hn ((lst_set hi).2 (.inl e))
    have h0 := inv.off k hk hk' id h1 h2
    rcases Nat.lt_or_ge k i with hlt | hge
    · rw [hg.lo id (Nat.lt_of_lt_of_le h2 (St_mono tr (by omega) (by omega)))]; exact h0
    · rw [hg.hi id (Nat.le_trans (St_mono tr (by omega) (by omega)) h1)]; exact h0
  · rw [hg.hi id (Nat.le_trans (St_mono tr (by omega) (by omega)) h)]; exact inv.fresh id h
  · rcases has h with h | ⟨h1, h2, h3, _⟩
    · exact inv.new _ _ _ _ h (hold h hl).1
    · exact .inl (Nat.le_trans inv.size (hnew _ _ _ h3 (hnw h2 h3 hl)))

/-- The chain goes on. -/
theorem InvH.chainGo (tr : Trace P E nt all recs all Tt St) {ρ₀ : Rho} {w₀ : World} {p : Nat} {listed : Array Bool} {ρ : Rho} {w w' : World} (inv : InvH E all St ρ₀ w₀ p listed ρ w) {c : Nat} (hi : c < listed.size) (hil : c < all.length) {o : Oper} (ho : all[c]? = some o)
    (hun : ¬ Lst listed c) (hc : clsOf E o.op = .chain) (hpc : p ≤ c)
    (hch : ∀ (k : Nat) (o : Oper), p ≤ k → k < c → all[k]? = some o → clsOf E o.op ≠ .chain) (hal : ∀ (k : Nat) (o : Oper), p ≤ k → k < c → all[k]? = some o → clsOf E o.op = .alloc → Lst listed k)
    {ρ' : Rho} (hp : Post (ρ.cut (St c).next) (St c) w ρ' (St (c + 1)) w') :
    ∃ ρ'', ρ.le ρ'' ∧ ρ'.le ρ'' ∧ InvH E all St ρ₀ w₀ (c + 1) (listed.setIfInBounds c true) ρ'' w' := by
  have hg := grown_of (n := (St c).next) (n' := (St (c + 1)).next) rfl rfl hp (inv.off c hil hun)
  generalize hρ : ρ'.join (St (c + 1)).next ρ = ρ'' at hg
  have hlex := lex_has (listed := listed) tr hpc (by omega) hch hal
  -- what stands beside
  have side : ∀ {id ob m}, (∃ (k : Nat) (ok : Oper), c + 1 ≤ k ∧ all[k]? = some ok ∧ clsOf E ok.op = .alloc ∧ Lst (listed.setIfInBounds c true) k ∧ (St k).next ≤ id ∧ id < (St (k + 1)).next ∧ (St (k + 1)).heap.get id = some ob ∧ m = (St (k + 1)).next) →
      Has E all St p listed id ob m ∧ (St (c + 1)).next ≤ id := fun {id ob m} ⟨k, ok, h1, h2, h3, h4, h5, h6, h7⟩ =>
    ⟨.inr ⟨k, ok, by omega, h2, h3, ((lst_set hi).1 h4).resolve_left (by omega), h5, h6, h7⟩, Nat.le_trans (St_mono tr h1 (by have := (List.getElem?_eq_some_iff.1 h2).1; omega)) h5⟩
  have apart : ∀ {id ob m l}, Has E all St p listed id ob m → (St (c + 1)).next ≤ id → ρ id = some l → ∀ i o l', (St c).heap.get i = some o → (ρ.cut (St c).next) i = some l' → l'.blk ≠ l.blk := fun {id ob m l} h hge hl i o l' h1 h2 => by
    obtain ⟨m', h3, h4⟩ := hlex i o h1
    have h5 := Rho.cut_le _ _ _ _ h2
    have h6 := (inv.obj _ _ _ h4).1
    exact inv.inj _ _ _ _ _ _ _ _ h4 h h5 hl (by have := hg.nn; omega)
  have hold : ∀ {id ob m l}, Has E all St p listed id ob m → ρ'' id = some l → ρ id = some l ∧ l.blk < w.heap.size := fun {id ob m l} h hl => by
    obtain ⟨_, l', h2, h3⟩ := inv.obj _ _ _ h
    have := hg.le _ _ h2
    rw [hl] at this
    injection this with this
    subst this
    exact ⟨h2, h3.lt⟩
  have hnw : ∀ {id ob l}, (St (c + 1)).heap.get id = some ob → ρ'' id = some l → id < (St (c + 1)).next ∧ ρ' id = some l := fun {id ob l} h2 h3 => by
    obtain ⟨l', h4, _⟩ := hp.good.obj _ _ h2
    have h5 := hg.le' _ _ h4
    rw [h3] at h5
    injection h5 with h5
    subst h5
    refine ⟨?_, h4⟩
    rcases Nat.lt_or_ge id (St (c + 1)).next with h | h
    · exact h
    · rw [hp.good.fresh id h] at h4; cases h4
  have hsep : ∀ {id ob l id' ob' m' l'}, (St (c + 1)).heap.get id = some ob → ρ'' id = some l → Has E all St p listed id' ob' m' → (St (c + 1)).next ≤ id' → ρ'' id' = some l' → l.blk ≠ l'.blk := fun {id ob l id' ob' m' l'} h hl h' hge hl' => by
    obtain ⟨k1, k2⟩ := hold h' hl'
    rcases hp.new id ob l h (hnw h hl).2 with h1 | ⟨j, oj, lj, h2, h3, h4⟩
    · omega
    · rw [← h4]; exact apart h' hge k1 j oj lj h2 h3
  refine ⟨ρ'', hg.le, hg.le', ?_⟩
  refine ⟨fun k ok hk hck => ?_, by omega, .inr ⟨c, o, rfl, ho, hc⟩, inv.le.trans hg.le, fun j hj => ?_, fun id ob m h => ?_, fun id ob m id' ob' m' l l' h h' hl hl' hne => ?_, fun k hk hn id h1 h2 => ?_, fun id h => ?_,
    Nat.le_trans inv.size hp.size, fun b hb hn => ?_, fun id ob m l h hl => ?_, hp.os.trans inv.os, hp.tape.trans inv.tape, hp.output.trans inv.output, fun a => (hp.froz a).trans (inv.froz a)⟩
  · rw [lst_set hi]
    constructor
    · rintro (rfl | h)
      · omega
      · have := (inv.chain k ok hk hck).1 h; omega
    · intro h
      by_cases e : k = c
      · exact .inl e
      · refine .inr ((inv.chain k ok hk hck).2 ?_)
        rcases Nat.lt_or_ge k p with h' | h'
        · exact h'
        · exact absurd hck (hch k ok h' (by omega) hk)
  · rw [hg.lo j (Nat.lt_of_lt_of_le hj (St_mono tr (Nat.zero_le _) (by omega)))]; exact inv.keep j hj
  · rcases h with ⟨h1, rfl⟩ | h
    · obtain ⟨l, h4, h5⟩ := hp.good.obj id ob h1
      exact ⟨(hnw h1 (hg.le' _ _ h4)).1, l, hg.le' _ _ h4, by rw [hg.cut]; exact h5⟩
    · obtain ⟨h1, h2⟩ := side h
      obtain ⟨h3, l, h4, h5⟩ := inv.obj _ _ _ h1
      exact ⟨h3, l, hg.le _ _ h4, h5.mono (cut_le_of_le hg.le m) (hp.old _ h5.lt fun i o l' h6 h7 => apart h1 h2 h4 i o l' h6 h7)⟩
  · rcases h with ⟨h1, _⟩ | h <;> rcases h' with ⟨h1', _⟩ | h'
    · exact hp.good.inj _ _ _ _ _ _ h1 h1' (hnw h1 hl).2 (hnw h1' hl').2 hne
    · exact hsep h1 hl (side h').1 (side h').2 hl'
    · exact (hsep h1' hl' (side h).1 (side h).2 hl).symm
    · exact inv.inj _ _ _ _ _ _ _ _ (side h).1 (side h').1 (hold (side h).1 hl).1 (hold (side h').1 hl').1 hne
  · have hk' : ¬ Lst listed k := fun hh => hn ((lst_set hi).2 (.inr hh))
    have hki : k ≠ c := fun e => hn ((lst_set hi).2 (.inl e))
    have h0 := inv.off k hk hk' id h1 h2
    rcases Nat.lt_or_ge k c with hlt | hge
    · rw [hg.lo id (Nat.lt_of_lt_of_le h2 (St_mono tr (by omega) (by omega)))]; exact h0
    · rw [hg.hi id (Nat.le_trans (St_mono tr (by omega) (by omega)) h1)]; exact h0
  · rw [hg.hi id (Nat.le_trans (St_mono tr (by omega) (by omega)) h)]; exact inv.fresh id h
  · refine (hp.old b (Nat.lt_of_lt_of_le hb inv.size) fun i o l h1 h2 => ?_).trans (inv.old b hb hn)
    obtain ⟨m, _, h4⟩ := hlex i o h1
    rcases inv.new _ _ _ _ h4 (Rho.cut_le _ _ _ _ h2) with h5 | ⟨j, oj, lj, h5, h6, h7⟩
    · omega
    · rw [← h7]; exact hn j oj lj h5 h6
  · rcases h with ⟨h1, _⟩ | h
    · rcases hp.new id ob l h1 (hnw h1 hl).2 with h2 | ⟨j, oj, lj, h2, h3, h4⟩
      · exact .inl (Nat.le_trans inv.size h2)
      · obtain ⟨m', _, h5⟩ := hlex j oj h2
        have := inv.new _ _ _ _ h5 (Rho.cut_le _ _ _ _ h3)
        rwa [h4] at this
    · exact inv.new _ _ _ _ (side h).1 (hold (side h).1 hl).1
end
end Go.X
