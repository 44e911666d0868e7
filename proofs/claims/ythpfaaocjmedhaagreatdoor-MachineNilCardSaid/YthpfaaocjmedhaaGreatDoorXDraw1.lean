/- A part of the proof that a law answers true for every input: an executor of the model over an abstract heap, proved sound, or the use of it. -/
import Derived.Test.YthpfaaocjmedhaaGreatDoorXRun5
import Derived.OrdersIn
namespace Go.X
open Go
section
variable {P : Program} {E : Env} {ih : Ih}

/-! ## One operation, whole -/
def OpSem (P : Program) (o : Oper) (τo : T V) (s : S) (v : V) (s' : S) : Prop :=
  ∀ (ρ : Rho) (w : World) (a : Act) (r : Option Nat) (K : Act → World → Prop) (Q : Exit → Act → World → Prop), Good ρ s w → TRel ρ τo a.tmps →
    (∀ ρ' w' v', Post ρ s w ρ' s' w' → VRel ρ' v v' → K (a.put o.dst v') w') → o.wpIn (fen r) 0 P a w K Q

theorem execX_ok (H : EnvOk2 P E) (hih : IhOk P ih) {o : Oper} {τo : T V} {s s' : S} {v : V} (h : execX E ih τo s o.op = .val v s') : OpSem P o τo s v s' := by
  intro ρ w a r K Q hg ht hK
  have hab : ∀ f, o.about P w a.eval = some f → (fen r).fn f := fun f _ => fen_fn r f
  unfold execX at h
  by_cases hdef : ∃ c, o.op = .defer c
  · obtain ⟨c, hc⟩ := hdef
    rw [hc] at h
    cases h
  have hsem : o.semAt (fen r).round a.eval = execOp a.eval o := Oper.semAt_eq _ _ _ fun c hc => hdef ⟨c, hc⟩
  have hx := doOp_ok H hg ht o
  unfold Oper.wpIn
  rw [hsem]
  refine ⟨hab, ?_⟩
  cases hd : doOp E τo s o.op with
  | no _ => rw [hd] at h; cases h
  | val v₁ s₁ =>
    rw [hd] at h hx
    obtain ⟨ρ₁, w₁, v', h3, h4, h5⟩ := hx
    cases h
    rw [h3]; exact hK ρ₁ w₁ v' h5 h4
  | skip s₁ =>
    rw [hd] at h hx
    obtain ⟨ρ₁, w₁, h3, h5⟩ := hx
    cases h
    rw [h3]; exact hK ρ₁ w₁ undef h5 undef_rel
  | enter f args s₁ =>
    rw [hd] at h hx
    obtain ⟨ρ₁, w₁, args', h3, h4, h5⟩ := hx
    have hc := hih (.call f args s₁)
    simp only [TaskOk] at hc
    have hc := hc ρ₁ s₁ w₁ ρ₁ w₁ args' (Post.refl h5.good) h4
    rw [show ih (.call f args s₁) = .val v s' from h] at hc
    rw [h3]
    refine ⟨fen_depth r, CallsIn.mono (F := fen r) hc fun e w'' he => ?_⟩
    obtain ⟨v', rfl, ρ₂, h6, h7⟩ := he
    exact hK ρ₂ w'' v' (h5.trans h7) h6
  | round i args s₁ =>
    rw [hd] at h hx
    obtain ⟨rfl, l, args', h3, h4, h5⟩ := hx
    have hc := hih (.round i args s₁)
    simp only [TaskOk] at hc
    have hc := hc ρ s₁ w ρ w l args' (Post.refl hg) h3 h4
    rw [show ih (.round i args s₁) = .val v s' from h] at hc
    obtain ⟨f, tmps, assign, body, hy, hc⟩ := hc
    rw [h5, hy]
    refine ⟨fen_depth r, RoundIn.mono (F := fen r) hc fun e w'' he => ?_⟩
    obtain ⟨v', rfl, ρ₂, h6, h7⟩ := he
    exact hK ρ₂ w'' v' h7 h6

/-- A load, whole: the world stays. -/
theorem load_ok (H : EnvOk2 P E) {o : Oper} {t : Nat} {x : Operand} (ho : o.op = .load t x) {τo : T V} {s s' : S} {v : V} (h : doOp E τo s o.op = .val v s') {ρ : Rho} {w : World} {a : Act} {r : Option Nat} {K : Act → World → Prop}
    {Q : Exit → Act → World → Prop} (hg : Good ρ s w) (ht : TRel ρ τo a.tmps) (hK : ∀ v', VRel ρ v v' → K (a.put o.dst v') w) : o.wpIn (fen r) 0 P a w K Q := by
  have hab : ∀ f, o.about P w a.eval = some f → (fen r).fn f := fun f _ => fen_fn r f
  have hsem : o.semAt (fen r).round a.eval = execOp a.eval o := Oper.semAt_eq _ _ _ fun c hc => by rw [ho] at hc; cases hc
  unfold Oper.wpIn
  rw [hsem]
  refine ⟨hab, ?_⟩
  rw [ho] at h
  have h' : opLoad E τo s t x = .val v s' := h
  unfold opLoad at h'
  split at h'
  · rename_i p hp
    obtain ⟨v', h1, h2, _⟩ := doLoad_same (P := P) H.toEnvOk hg (ev_ok ht hp) h'
    have : (execOp a.eval o).run P w = .ok (.value v') w := by
      unfold execOp
      rw [ho]
      simp [h1]
    rw [this]
    exact hK v' h2
  · cases h'

/-! ## What the walk in the text's order leaves -/
noncomputable def putT (τ : T V) (d : Option Nat) (v : V) : T V := match d with
  | none => τ
  | some d => τ.set d (some v)

def Below (n : Nat) (τ : T V) : Prop := ∀ t x, τ.get t = some x → belowV n 4000 x = true

structure RecOk (P : Program) (E : Env) (nt : Nat) (all : List Oper) (τ : T V) (s : S) (o : Oper) (r : Rec) : Prop where
  oper : r.o = o
  state : r.s = s
  cls : r.c = clsOf E o.op
  next : s.next ≤ r.s'.next
  look : ∀ t x, r.τo.get t = some x → t ∈ looks all o ∧ τ.get t = some x
  dst : ∀ d, o.dst = some d → d < nt
  want : wantedX o all r.τo = some (!r.idle)
  idle : r.idle = true → r.v = .tuple [] ∧ r.s' = s
  pure : r.idle = false → r.c = .pure → r.s' = s ∧ ∃ s₁, s₁.next = huge ∧ OpSem P o r.τo ⟨.leaf, huge⟩ r.v s₁
  load : r.idle = false → r.c = .load → r.s' = s
  alloc : r.idle = false → r.c = .alloc → Below s.next r.τo ∧ ∃ s₁, OpSem P o r.τo ⟨.leaf, s.next⟩ r.v s₁ ∧ r.s'.next = s₁.next ∧ ∀ id, r.s'.heap.get id = if s.next ≤ id ∧ id < s₁.next then s₁.heap.get id else s.heap.get id
  chain : r.idle = false → r.c = .chain → Below s.next r.τo ∧ OpSem P o r.τo s r.v r.s'

structure Trace (P : Program) (E : Env) (nt : Nat) (all : List Oper) (recs : List Rec) (l : List Oper) (Tt : Nat → T V) (St : Nat → S) : Prop where
  len : recs.length = l.length
  step : ∀ i o, l[i]? = some o → ∃ r, recs[i]? = some r ∧ RecOk P E nt all (Tt i) (St i) o r ∧ St (i + 1) = r.s' ∧ Tt (i + 1) = putT (Tt i) o.dst r.v

theorem restrict_ok {τ : T V} : ∀ (ts : List Nat) (acc : T V), ∃ τo, (∀ (β : Type) (c : T V → β), restrict τ ts acc c = c τo) ∧ ∀ t x, τo.get t = some x → (t ∈ ts ∧ τ.get t = some x) ∨ acc.get t = some x
  | [], acc => ⟨acc, fun _ _ => rfl, fun t x h => .inr h⟩
  | u :: ts, acc => by
    cases hy : τ.get u with
    | some y =>
      obtain ⟨τo, h1, h2⟩ := restrict_ok ts (acc.set u (some y))
      refine ⟨τo, fun β c => by unfold restrict; rw [hy]; simp only; rw [T.put_eq, h1], fun t x h => ?_⟩
      rcases h2 t x h with ⟨h3, h4⟩ | h3
      · exact .inl ⟨List.mem_cons_of_mem _ h3, h4⟩
      · rw [T.get_set] at h3
        by_cases e : t = u
        · rw [if_pos e] at h3
          exact .inl ⟨by simp [e], by rw [e, hy, h3]⟩
        · rw [if_neg e] at h3; exact .inr h3
    | none =>
      obtain ⟨τo, h1, h2⟩ := restrict_ok ts acc
      refine ⟨τo, fun β c => by unfold restrict; rw [hy]; simp only; rw [h1], fun t x h => ?_⟩
      rcases h2 t x h with ⟨h3, h4⟩ | h3
      · exact .inl ⟨List.mem_cons_of_mem _ h3, h4⟩
      · exact .inr h3

theorem belowT_ok {n : Nat} {τ : T V} : ∀ {ts : List Nat}, belowT n τ ts = true → ∀ t x, t ∈ ts → τ.get t = some x → belowV n 4000 x = true
  | u :: ts, h, t, x, ht, hx => by
    unfold belowT at h
    rcases List.mem_cons.1 ht with rfl | ht
    · rw [hx] at h
      simp only at h
      split at h
      · rename_i hb; exact hb
      · cases h
    · split at h
      · split at h
        · exact belowT_ok h t x ht hx
        · cases h
      · exact belowT_ok h t x ht hx

theorem putObjs_ok {h : T Obj} {β : Type} {c : T Obj → β} : ∀ {k i : Nat} {b : T Obj}, ∃ b', putObjs h k i b c = c b' ∧ ∀ id, b'.get id = if i ≤ id ∧ id < i + k then h.get id else b.get id
  | 0, i, b => ⟨b, rfl, fun id => by rw [if_neg (by omega)]⟩
  | k + 1, i, b => by
    unfold putObjs
    rw [T.put_eq, forceN_eq]
    obtain ⟨b', h1, h2⟩ := putObjs_ok (h := h) (c := c) (k := k) (i := i + 1) (b := b.set i (h.get i))
    refine ⟨b', h1, fun id => ?_⟩
    rw [h2, T.get_set]
    by_cases e : id = i
    · subst e; rw [if_neg (by omega), if_pos rfl, if_pos (by omega)]
    · rw [if_neg e]
      by_cases e2 : i + 1 ≤ id ∧ id < i + 1 + k
      · rw [if_pos e2, if_pos (by omega)]
      · rw [if_neg e2, if_neg (by omega)]

theorem drawNext_ok {fr : Fr} {o : Oper} {c : Cls} {idle : Bool} {τ τo : T V} {v : V} {s s' : S} {acc : List Rec} {k : T V → S → List Rec → Out} {x : XE} {τ' : T V} {ms : List Nat} {s₂ : S}
    (h : drawNext fr o c idle τ τo v s s' acc k = .code x τ' ms s₂) : s.next ≤ s'.next ∧ (∀ d, o.dst = some d → d < fr.nt) ∧ k (putT τ o.dst v) s' (⟨o, c, idle, τo, v, s, s'⟩ :: acc) = .code x τ' ms s₂ := by
  unfold drawNext at h
  split at h
  · rename_i hn
    refine ⟨by simpa using hn, ?_⟩
    unfold putDst at h
    split at h
    · rename_i hd
      exact ⟨fun d hd' => (by rw [hd] at hd'; cases hd'), by simpa [putT, hd] using h⟩
    · rename_i d hd
      split at h
      · rename_i hb
        rw [T.put_eq] at h
        refine ⟨fun d' hd' => ?_, by simpa [putT, hd] using h⟩
        rw [hd] at hd'
        cases hd'
        simpa using hb
      · cases h
  · cases h

theorem drawOp_ok (H : EnvOk2 P E) (hih : IhOk P ih) {fr : Fr} {all : List Oper} {o : Oper} {τ τo : T V} {s : S} {acc : List Rec} {k : T V → S → List Rec → Out} {x : XE} {τ' : T V} {ms : List Nat} {s₂ : S}
    (hlook : ∀ t x, τo.get t = some x → t ∈ looks all o ∧ τ.get t = some x) (hw : wantedX o all τo = some true)
    (h : drawOp E ih fr all o τ τo s acc k = .code x τ' ms s₂) : ∃ r, RecOk P E fr.nt all τ s o r ∧ k (putT τ o.dst r.v) r.s' (r :: acc) = .code x τ' ms s₂ := by
  have hbel : ∀ n, belowT n τo (looks all o) = true → Below n τo := fun n hb t x hx => belowT_ok hb t x (hlook t x hx).1 hx
  unfold drawOp at h
  split at h
  · rename_i hc
    unfold drawPure at h
    split at h
    · rename_i v s₁ hx
      split at h
      · rename_i hn
        obtain ⟨h1, h2, h3⟩ := drawNext_ok h
        refine ⟨⟨o, .pure, false, τo, v, s, s⟩, ⟨rfl, rfl, hc.symm, h1, hlook, h2, hw, fun hh => (by cases hh), fun _ _ => ⟨rfl, s₁, Nat.eq_of_beq_eq_true hn, execX_ok H hih hx⟩, fun _ hh => (by cases hh), fun _ hh => (by cases hh), fun _ hh => (by cases hh)⟩, h3⟩
      · cases h
    · cases h
    · cases h
  · rename_i hc
    unfold drawLoad at h
    split at h
    · rename_i v _ _
      obtain ⟨h1, h2, h3⟩ := drawNext_ok h
      exact ⟨⟨o, .load, false, τo, v, s, s⟩, ⟨rfl, rfl, hc.symm, h1, hlook, h2, hw, fun hh => (by cases hh), fun _ hh => (by cases hh), fun _ _ => rfl, fun _ hh => (by cases hh), fun _ hh => (by cases hh)⟩, h3⟩
    · cases h
    · cases h
  · rename_i hc
    split at h
    · rename_i hb
      unfold drawAlloc at h
      split at h
      · rename_i v s₁ hx
        obtain ⟨b', k1, k2⟩ := putObjs_ok (h := s₁.heap) (c := fun h => drawNext fr o .alloc false τ τo v s ⟨h, s₁.next⟩ acc k) (k := Nat.sub s₁.next s.next) (i := s.next) (b := s.heap)
        rw [k1] at h
        obtain ⟨h1, h2, h3⟩ := drawNext_ok h
        have h1' : s.next ≤ s₁.next := h1
        refine ⟨⟨o, .alloc, false, τo, v, s, ⟨b', s₁.next⟩⟩, ⟨rfl, rfl, hc.symm, h1, hlook, h2, hw, fun hh => (by cases hh), fun _ hh => (by cases hh), fun _ hh => (by cases hh), fun _ _ => ⟨hbel _ hb, s₁, execX_ok H hih hx, rfl, fun id => ?_⟩, fun _ hh => (by cases hh)⟩, h3⟩
        rw [k2]
        simp only [Nat.sub_eq, Nat.add_sub_cancel' h1']
      · cases h
      · cases h
    · cases h
  · rename_i hc
    split at h
    · rename_i hb
      unfold drawChain at h
      split at h
      · rename_i v s₁ hx
        obtain ⟨h1, h2, h3⟩ := drawNext_ok h
        exact ⟨⟨o, .chain, false, τo, v, s, s₁⟩, ⟨rfl, rfl, hc.symm, h1, hlook, h2, hw, fun hh => (by cases hh), fun _ hh => (by cases hh), fun _ hh => (by cases hh), fun _ hh => (by cases hh), fun _ _ => ⟨hbel _ hb, execX_ok H hih hx⟩⟩, h3⟩
      · cases h
      · cases h
    · cases h

theorem drawGo_ok (H : EnvOk2 P E) (hih : IhOk P ih) {fr : Fr} {all : List Oper} {k : T V → S → List Rec → Out} {x : XE} {τ' : T V} {ms : List Nat} {s₂ : S} : ∀ {l : List Oper} {τ : T V} {s : S} {acc : List Rec},
    drawGo E ih fr all l τ s acc k = .code x τ' ms s₂ → ∃ recs Tt St, Trace P E fr.nt all recs l Tt St ∧ Tt 0 = τ ∧ St 0 = s ∧ k (Tt l.length) (St l.length) (recs.reverse ++ acc) = .code x τ' ms s₂
  | [], τ, s, acc, h => ⟨[], fun _ => τ, fun _ => s, ⟨rfl, fun i o hi => by simp at hi⟩, rfl, rfl, h⟩
  | o :: rest, τ, s, acc, h => by
    have fin : ∀ r, RecOk P E fr.nt all τ s o r → drawGo E ih fr all rest (putT τ o.dst r.v) r.s' (r :: acc) k = .code x τ' ms s₂ → ∃ recs Tt St, Trace P E fr.nt all recs (o :: rest) Tt St ∧ Tt 0 = τ ∧ St 0 = s ∧
        k (Tt (o :: rest).length) (St (o :: rest).length) (recs.reverse ++ acc) = .code x τ' ms s₂ := fun r hr h => by
      obtain ⟨recs, Tt, St, h1, h2, h3, h4⟩ := drawGo_ok H hih h
      refine ⟨r :: recs, fun i => match i with | 0 => τ | i + 1 => Tt i, fun i => match i with | 0 => s | i + 1 => St i, ⟨by simp [h1.len], fun i o' hi => ?_⟩, rfl, rfl, by simpa using h4⟩
      cases i with
      | zero => simp at hi; subst hi; exact ⟨r, by simp, hr, h3, h2⟩
      | succ i => obtain ⟨r', k1, k2, k3, k4⟩ := h1.step i o' (by simpa using hi); exact ⟨r', by simpa using k1, k2, k3, k4⟩
    unfold drawGo at h
    obtain ⟨τo, k1, k2⟩ := restrict_ok (τ := τ) (looks all o) .leaf
    rw [k1] at h
    have hlook : ∀ t x, τo.get t = some x → t ∈ looks all o ∧ τ.get t = some x := fun t x hx => by
      rcases k2 t x hx with h | h
      · exact h
      · rw [T.get_leaf] at h; cases h
    split at h
    · cases h
    · rename_i hw
      obtain ⟨h1, h2, h3⟩ := drawNext_ok h
      exact fin ⟨o, clsOf E o.op, true, τo, .tuple [], s, s⟩ ⟨rfl, rfl, rfl, h1, hlook, h2, hw, fun _ => ⟨rfl, rfl⟩, fun hh => (by cases hh), fun hh => (by cases hh), fun hh => (by cases hh), fun hh => (by cases hh)⟩ h3
    · rename_i hw
      obtain ⟨r, h1, h2⟩ := drawOp_ok H hih hlook hw h
      exact fin r h1 h2
end
end Go.X
