/- A part of the proof that a law answers true for every input: an executor of the model over an abstract heap, proved sound, or the use of it. -/
import Derived.Test.YthpfaaocjmedhaaGreatDoorXDefs
import Derived.Laws.World
import Derived.CallsIn
namespace Go.X

/-! ## Trees -/
def P.toNat : P → Nat
  | .e => 1
  | .z p => 2 * p.toNat
  | .o p => 2 * p.toNat + 1

theorem P.ofF_toNat : ∀ (fuel k : Nat), 1 ≤ k → k ≤ fuel → (P.ofF fuel k).toNat = k := by
  intro fuel
  induction fuel with
  | zero => intro k h1 h2; omega
  | succ n ih =>
    intro k h1 h2
    show P.toNat (Bool.rec (Bool.rec (.o (P.ofF n (Nat.div k 2))) (.z (P.ofF n (Nat.div k 2))) (Nat.beq (Nat.mod k 2) 0)) .e (Nat.beq k 1)) = k
    cases hk : Nat.beq k 1 with
    | true => have := Nat.eq_of_beq_eq_true hk; simp [P.toNat, this]
    | false =>
      have hne : k ≠ 1 := fun e => by subst e; simp at hk
      have e2 : Nat.div k 2 = k / 2 := rfl
      have e3 : Nat.mod k 2 = k % 2 := rfl
      have hi := ih (k / 2) (by omega) (by omega)
      cases hm : Nat.beq (Nat.mod k 2) 0 with
      | true =>
        have := Nat.eq_of_beq_eq_true hm
        simp only [P.toNat, e2, hi]; omega
      | false =>
        have : k % 2 ≠ 0 := fun e => by rw [e3, e] at hm; simp at hm
        simp only [P.toNat, e2, hi]; omega

theorem P.of_toNat (i : Nat) : (P.of i).toNat = i + 1 := P.ofF_toNat _ _ (by omega) (by omega)
theorem P.of_inj {i j : Nat} (h : P.of i = P.of j) : i = j := by
  have := congrArg P.toNat h
  rw [P.of_toNat, P.of_toNat] at this
  omega

noncomputable def T.set {α : Type} (t : T α) (i : Nat) (x : Option α) : T α := T.put t i x id

theorem T.putP_eq' {α : Type} (x : Option α) (p : P) : ∀ (β : Type) (t : T α) (c : T α → β), T.putP x p t c = c (T.putP x p t id) := by
  induction p with
  | e => intro β t c; cases t <;> rfl
  | z p ih =>
    intro β t c
    cases t with
    | leaf => show T.putP x p .leaf (fun l' => c (.node none l' .leaf)) = c (T.putP x p .leaf (fun l' => .node none l' .leaf)); rw [ih β, ih (T α) _ (fun l' => T.node none l' .leaf)]
    | node v l r => show T.putP x p l (fun l' => c (.node v l' r)) = c (T.putP x p l (fun l' => .node v l' r)); rw [ih β, ih (T α) _ (fun l' => T.node v l' r)]
  | o p ih =>
    intro β t c
    cases t with
    | leaf => show T.putP x p .leaf (fun l' => c (.node none .leaf l')) = c (T.putP x p .leaf (fun l' => .node none .leaf l')); rw [ih β, ih (T α) _ (fun l' => T.node none .leaf l')]
    | node v l r => show T.putP x p r (fun l' => c (.node v l l')) = c (T.putP x p r (fun l' => .node v l l')); rw [ih β, ih (T α) _ (fun l' => T.node v l l')]
theorem T.putP_eq {α β : Type} (x : Option α) (p : P) (t : T α) (c : T α → β) : T.putP x p t c = c (T.putP x p t id) := T.putP_eq' x p β t c

theorem T.put_eq {α β : Type} (t : T α) (i : Nat) (x : Option α) (c : T α → β) : T.put t i x c = c (t.set i x) := T.putP_eq x _ t c

theorem T.at_leaf {α : Type} (p : P) : T.at p (.leaf : T α) = none := by cases p <;> rfl

theorem T.at_putP_same {α : Type} (x : Option α) (p : P) : ∀ t : T α, T.at p (T.putP x p t id) = x := by
  induction p with
  | e => intro t; cases t <;> rfl
  | z p ih =>
    intro t
    cases t with
    | leaf => show T.at (.z p) (T.putP x p .leaf _) = x; rw [T.putP_eq]; exact ih _
    | node v l r => show T.at (.z p) (T.putP x p l _) = x; rw [T.putP_eq]; exact ih _
  | o p ih =>
    intro t
    cases t with
    | leaf => show T.at (.o p) (T.putP x p .leaf _) = x; rw [T.putP_eq]; exact ih _
    | node v l r => show T.at (.o p) (T.putP x p r _) = x; rw [T.putP_eq]; exact ih _

theorem T.at_putP_ne {α : Type} (x : Option α) (p : P) : ∀ (q : P) (t : T α), q ≠ p → T.at q (T.putP x p t id) = T.at q t := by
  induction p with
  | e =>
    intro q t h
    cases q with
    | e => exact absurd rfl h
    | z q => cases t <;> first | rfl | (show T.at q .leaf = none; exact T.at_leaf q)
    | o q => cases t <;> first | rfl | (show T.at q .leaf = none; exact T.at_leaf q)
  | z p ih =>
    intro q t h
    cases t with
    | leaf =>
      show T.at q (T.putP x p .leaf _) = _
      rw [T.putP_eq]
      cases q with
      | e => rfl
      | z q => show T.at q (T.putP x p .leaf id) = none; rw [ih q _ (fun e => h (e ▸ rfl))]; exact T.at_leaf q
      | o q => show T.at q .leaf = none; exact T.at_leaf q
    | node v l r =>
      show T.at q (T.putP x p l _) = _
      rw [T.putP_eq]
      cases q with
      | e => rfl
      | z q => exact ih q _ (fun e => h (e ▸ rfl))
      | o q => rfl
  | o p ih =>
    intro q t h
    cases t with
    | leaf =>
      show T.at q (T.putP x p .leaf _) = _
      rw [T.putP_eq]
      cases q with
      | e => rfl
      | o q => show T.at q (T.putP x p .leaf id) = none; rw [ih q _ (fun e => h (e ▸ rfl))]; exact T.at_leaf q
      | z q => show T.at q .leaf = none; exact T.at_leaf q
    | node v l r =>
      show T.at q (T.putP x p r _) = _
      rw [T.putP_eq]
      cases q with
      | e => rfl
      | o q => exact ih q _ (fun e => h (e ▸ rfl))
      | z q => rfl

theorem T.get_set {α : Type} (t : T α) (i : Nat) (x : Option α) (j : Nat) : (t.set i x).get j = if j = i then x else t.get j := by
  by_cases h : j = i
  · subst h; simp only [if_true]; exact T.at_putP_same x _ t
  · rw [if_neg h]; exact T.at_putP_ne x _ _ t (fun e => h (P.of_inj e))

theorem T.get_leaf {α : Type} (i : Nat) : (T.leaf : T α).get i = none := T.at_leaf _

/-! ## What is handed on -/
section
variable {β : Type}
theorem forceN_eq (n : Nat) (c : Nat → β) : forceN n c = c n := by cases n <;> rfl
theorem forceI_eq (n : Int) (c : Int → β) : forceI n c = c n := by
  cases n with
  | ofNat m => exact forceN_eq m (fun m' => c (.ofNat m'))
  | negSucc m => exact forceN_eq m (fun m' => c (.negSucc m'))
theorem forceB_eq (b : Bool) (c : Bool → β) : forceB b c = c b := by cases b <;> rfl
theorem forceL_eq (l : List Nat) : ∀ c : List Nat → β, forceL l c = c l := by
  induction l with
  | nil => intro c; rfl
  | cons x l ih => intro c; show forceN x (fun x' => forceL l fun l' => c (x' :: l')) = _; rw [forceN_eq, ih]
theorem forceS_eq {α : Type} (l : List α) : ∀ c : List α → β, forceS l c = c l := by
  induction l with
  | nil => intro c; rfl
  | cons x l ih => intro c; show forceS l (fun l' => c (x :: l')) = _; rw [ih]
theorem forceV_eq (v : V) (c : V → β) : forceV v c = c v := by
  cases v <;> simp [forceV, forceI_eq, forceB_eq, forceL_eq]

noncomputable def layT : List V → Nat → T V → T V
  | [], _, t => t
  | x :: rest, o, t => layT rest (o + 1) (t.set o (some x))
theorem layCells_eq (l : List V) : ∀ (o : Nat) (t : T V) (c : T V → β), layCells l o t c = c (layT l o t) := by
  induction l with
  | nil => intro o t c; rfl
  | cons x l ih => intro o t c; simp only [layCells, T.put_eq, forceN_eq, ih, layT]
end

theorem get_layT (l : List V) : ∀ (o : Nat) (t : T V) (j : Nat), (layT l o t).get j = if o ≤ j ∧ j < o + l.length then l[j - o]? else t.get j := by
  induction l with
  | nil => intro o t j; simp only [layT, List.length_nil]; rw [if_neg (by omega)]
  | cons x l ih =>
    intro o t j
    simp only [layT, ih, List.length_cons, T.get_set]
    by_cases h1 : o + 1 ≤ j ∧ j < o + 1 + l.length
    · rw [if_pos h1, if_pos (by omega)]
      obtain ⟨k, rfl⟩ : ∃ k, j = o + 1 + k := ⟨j - (o + 1), by omega⟩
      simp [show o + 1 + k - o = k + 1 from by omega, show o + 1 + k - (o + 1) = k from by omega]
    · rw [if_neg h1]
      by_cases h2 : j = o
      · subst h2; simp
      · rw [if_neg h2, if_neg (by omega)]

/-! ## What a value stands for -/
structure Loc where
  blk : Nat
  base : Nat
  tot : Nat

abbrev Rho := Nat → Option Loc

def CapRel (c : Cap) (cap o tot : Nat) : Prop := match c with
  | .exact k => cap = k
  | .room es k => k ≤ cap ∧ o + cap * es ≤ tot

def Loc.addr (l : Loc) (o : Nat) : Addr := ⟨l.blk, l.base + o, none⟩

mutual
def VRel (ρ : Rho) : V → Value → Prop
  | .bool b, v => v = .bool b
  | .int k n, v => v = .int k n
  | .str l, v => ∃ s, v = .string s ∧ bytesOf s = l
  | .nilp, v => v = .pointer none
  | .ptr i o, v => ∃ l, ρ i = some l ∧ v = .pointer (some (l.addr o))
  | .gptr g o, v => v = .pointer (some ⟨g, o, none⟩)
  | .nils, v => v = .slice none 0 0
  | .emp, v => ∃ a c, v = .slice (some a) 0 c
  | .slice i o n c, v => ∃ l cap, ρ i = some l ∧ v = .slice (some (l.addr o)) n cap ∧ CapRel c cap o l.tot
  | .nilm, v => v = .map none
  | .map i, v => ∃ l, ρ i = some l ∧ v = .map (some l.blk)
  | .func fn first cap, v => ∃ fs cs, v = .func fn fs cs ∧ VRels ρ first fs.toList ∧ VRels ρ cap cs.toList
  | .yield i, v => ∃ l, ρ i = some l ∧ v = .func (.yield l.blk) #[] #[]
  | .nilf, v => v = .nilFunc
  | .iface t x, v => ∃ y, v = .iface t y ∧ VRel ρ x y
  | .nili, v => v = .nilIface
  | .agg l, v => ∃ vs, v = .agg vs ∧ VRels ρ l vs.toList
  | .lit u, v => v = u ∧ u.cells = #[u] ∧ u.oneCell' = true
  | .tuple l, v => ∃ vs, v = .tuple vs ∧ VRels ρ l vs.toList
def VRels (ρ : Rho) : List V → List Value → Prop
  | [], vs => vs = []
  | x :: l, vs => ∃ v rest, vs = v :: rest ∧ VRel ρ x v ∧ VRels ρ l rest
end

def Rho.le (ρ ρ' : Rho) : Prop := ∀ i l, ρ i = some l → ρ' i = some l

mutual
theorem VRel.mono {ρ ρ' : Rho} (h : ρ.le ρ') : ∀ {x : V} {v : Value}, VRel ρ x v → VRel ρ' x v
  | .bool _, _, r | .int _ _, _, r | .nilp, _, r | .gptr _ _, _, r | .nils, _, r | .nilm, _, r | .nilf, _, r | .nili, _, r | .emp, _, r | .str _, _, r | .lit _, _, r => by
    simpa only [VRel] using r
  | .ptr i o, _, r => by simp only [VRel] at r ⊢; obtain ⟨l, h1, h2⟩ := r; exact ⟨l, h _ _ h1, h2⟩
  | .slice i o n c, _, r => by simp only [VRel] at r ⊢; obtain ⟨l, cap, h1, h2⟩ := r; exact ⟨l, cap, h _ _ h1, h2⟩
  | .map i, _, r => by simp only [VRel] at r ⊢; obtain ⟨l, h1, h2⟩ := r; exact ⟨l, h _ _ h1, h2⟩
  | .yield i, _, r => by simp only [VRel] at r ⊢; obtain ⟨l, h1, h2⟩ := r; exact ⟨l, h _ _ h1, h2⟩
  | .func fn first cap, _, r => by
    simp only [VRel] at r ⊢; obtain ⟨fs, cs, h1, h2, h3⟩ := r; exact ⟨fs, cs, h1, VRels.mono h h2, VRels.mono h h3⟩
  | .iface t x, _, r => by simp only [VRel] at r ⊢; obtain ⟨y, h1, h2⟩ := r; exact ⟨y, h1, VRel.mono h h2⟩
  | .agg l, _, r => by simp only [VRel] at r ⊢; obtain ⟨y, h1, h2⟩ := r; exact ⟨y, h1, VRels.mono h h2⟩
  | .tuple l, _, r => by simp only [VRel] at r ⊢; obtain ⟨y, h1, h2⟩ := r; exact ⟨y, h1, VRels.mono h h2⟩
theorem VRels.mono {ρ ρ' : Rho} (h : ρ.le ρ') : ∀ {l : List V} {vs : List Value}, VRels ρ l vs → VRels ρ' l vs
  | [], _, r => by simpa only [VRels] using r
  | x :: l, _, r => by
    simp only [VRels] at r ⊢; obtain ⟨v, rest, h1, h2, h3⟩ := r; exact ⟨v, rest, h1, VRel.mono h h2, VRels.mono h h3⟩
end

theorem Rho.le_refl (ρ : Rho) : ρ.le ρ := fun _ _ h => h
theorem Rho.le.trans {a b c : Rho} (h : a.le b) (k : b.le c) : a.le c := fun i l e => k i l (h i l e)

section
variable {ρ : Rho}
theorem VRels.nil_iff {vs : List Value} : VRels ρ [] vs ↔ vs = [] := by simp only [VRels]
theorem VRels.cons_iff {x : V} {l : List V} {vs : List Value} : VRels ρ (x :: l) vs ↔ ∃ v rest, vs = v :: rest ∧ VRel ρ x v ∧ VRels ρ l rest := by simp only [VRels]
theorem VRels.cons {x : V} {l : List V} {v : Value} {vs : List Value} (h : VRel ρ x v) (k : VRels ρ l vs) : VRels ρ (x :: l) (v :: vs) := VRels.cons_iff.2 ⟨v, vs, rfl, h, k⟩
theorem VRels.nil : VRels ρ [] [] := VRels.nil_iff.2 rfl
theorem VRels.length : ∀ {l : List V} {vs : List Value}, VRels ρ l vs → vs.length = l.length
  | [], _, h => by rw [VRels.nil_iff] at h; simp [h]
  | x :: l, _, h => by rw [VRels.cons_iff] at h; obtain ⟨v, rest, rfl, _, h3⟩ := h; simp [VRels.length h3]
theorem VRels.get : ∀ {l : List V} {vs : List Value}, VRels ρ l vs → ∀ {i : Nat} {x : V}, l[i]? = some x → ∃ v, vs[i]? = some v ∧ VRel ρ x v
  | [], _, _, _, _, hi => by simp at hi
  | y :: l, _, h, i, x, hi => by
    rw [VRels.cons_iff] at h
    obtain ⟨v, rest, rfl, h2, h3⟩ := h
    cases i with
    | zero => simp at hi; subst hi; exact ⟨v, by simp, h2⟩
    | succ i => simp at hi; obtain ⟨u, h4, h5⟩ := VRels.get h3 hi; exact ⟨u, by simpa using h4, h5⟩
theorem VRels.get' : ∀ {l : List V} {vs : List Value}, VRels ρ l vs → ∀ {i : Nat} {v : Value}, vs[i]? = some v → ∃ x, l[i]? = some x ∧ VRel ρ x v
  | [], _, h, _, _, hi => by rw [VRels.nil_iff] at h; subst h; simp at hi
  | y :: l, _, h, i, x, hi => by
    rw [VRels.cons_iff] at h
    obtain ⟨v, rest, rfl, h2, h3⟩ := h
    cases i with
    | zero => simp at hi; subst hi; exact ⟨y, by simp, h2⟩
    | succ i => simp at hi; obtain ⟨u, h4, h5⟩ := VRels.get' h3 hi; exact ⟨u, by simpa using h4, h5⟩
theorem VRels.append : ∀ {l m : List V} {vs us : List Value}, VRels ρ l vs → VRels ρ m us → VRels ρ (l ++ m) (vs ++ us)
  | [], _, _, _, h, k => by rw [VRels.nil_iff] at h; subst h; simpa using k
  | x :: l, m, _, us, h, k => by
    rw [VRels.cons_iff] at h
    obtain ⟨v, rest, rfl, h2, h3⟩ := h
    exact VRels.cons h2 (VRels.append h3 k)
theorem VRels.of_get : ∀ {l : List V} {vs : List Value}, vs.length = l.length → (∀ (i : Nat) (x : V) (v : Value), l[i]? = some x → vs[i]? = some v → VRel ρ x v) → VRels ρ l vs
  | [], [], _, _ => VRels.nil
  | [], _ :: _, h, _ => by simp at h
  | _ :: _, [], h, _ => by simp at h
  | x :: l, v :: vs, h, k => VRels.cons (k 0 x v (by simp) (by simp)) (VRels.of_get (by simpa using h) fun i y u h1 h2 => k (i + 1) y u (by simpa using h1) (by simpa using h2))
end

/-! ## What an object stands for -/
def TRel (ρ : Rho) (τ : T V) (tmps : Array Value) : Prop := ∀ i x, τ.get i = some x → ∃ v, tmps[i]? = some v ∧ VRel ρ x v

def EntRel (ρ : Rho) : List (V × V × Nat) → List MapEntry → Prop
  | [], es => es = []
  | (k, v, b) :: l, es => ∃ e rest, es = e :: rest ∧ VRel ρ k e.key ∧ VRel ρ v e.val ∧ e.born = b ∧ EntRel ρ l rest

def CellsRel (ρ : Rho) (l : Loc) (cs : T V) (cur : Array Value) : Prop :=
  ∀ j x, cs.get j = some x → oneCell x = true ∧ ∃ v, cur[l.base + j]? = some v ∧ VRel ρ x v

def ORel (ρ : Rho) (l : Loc) (w : World) : Obj → Prop
  | .cells n cs elem => ∃ cur fr, w.heap[l.blk]? = some (.cells cur elem fr) ∧ cur.size = l.base + l.tot ∧ n ≤ l.tot ∧
      (∀ j, (fr.1 ≤ j && j < fr.2) = false) ∧ CellsRel ρ l cs cur
  | .map es clock => ∃ es', w.heap[l.blk]? = some (.map es' clock) ∧ EntRel ρ es es'.toList
  | .siter s pos => ∃ b, w.heap[l.blk]? = some (.stringIter b pos) ∧ bytesOf b = s ∧ l.base = 0
  | .miter m since seen stepped => ∃ m', w.heap[l.blk]? = some (.mapIter m' since seen.toArray stepped) ∧
      (match m with | none => m' = none | some i => ∃ l', ρ i = some l' ∧ m' = some l'.blk) ∧ l.base = 0
  | .mark => w.heap[l.blk]? = some (.deferred (some []))
  | .loop st pend _ τ nt ps asg body dm => ∃ tmps dl fn, w.heap[l.blk]? = some (.loop { state := st, pending := pend, fn := fn, tmps := tmps, params := ps.toArray, assign := asg, body := body, defers := dl.blk }) ∧
      TRel ρ τ tmps ∧ tmps.size = nt ∧ ρ dm = some dl

theorem TRel.mono {ρ ρ' : Rho} (h : ρ.le ρ') {τ : T V} {tmps : Array Value} (r : TRel ρ τ tmps) : TRel ρ' τ tmps :=
  fun i x hi => let ⟨v, h1, h2⟩ := r i x hi; ⟨v, h1, h2.mono h⟩

theorem EntRel.mono {ρ ρ' : Rho} (h : ρ.le ρ') : ∀ {l : List (V × V × Nat)} {es : List MapEntry}, EntRel ρ l es → EntRel ρ' l es
  | [], _, r => r
  | (_, _, _) :: _, _, ⟨e, rest, h1, h2, h3, h4, h5⟩ => ⟨e, rest, h1, h2.mono h, h3.mono h, h4, EntRel.mono h h5⟩

theorem CellsRel.mono {ρ ρ' : Rho} (h : ρ.le ρ') {l : Loc} {cs : T V} {cur : Array Value} (r : CellsRel ρ l cs cur) : CellsRel ρ' l cs cur :=
  fun j x hj => let ⟨h0, v, h1, h2⟩ := r j x hj; ⟨h0, v, h1, h2.mono h⟩

theorem ORel.mono {ρ ρ' : Rho} (h : ρ.le ρ') {l : Loc} {w w' : World} (hb : w'.heap[l.blk]? = w.heap[l.blk]?) {o : Obj} (r : ORel ρ l w o) : ORel ρ' l w' o := by
  cases o with
  | cells n cs elem => obtain ⟨cur, fr, h1, h2, h3, h4, h5⟩ := r; exact ⟨cur, fr, hb.trans h1, h2, h3, h4, h5.mono h⟩
  | map es clock => obtain ⟨es', h1, h2⟩ := r; exact ⟨es', hb.trans h1, h2.mono h⟩
  | siter s pos => obtain ⟨b, h1, h2⟩ := r; exact ⟨b, hb.trans h1, h2⟩
  | miter m since seen stepped =>
    obtain ⟨m', h1, h2, h0⟩ := r
    refine ⟨m', hb.trans h1, ?_, h0⟩
    cases m with
    | none => exact h2
    | some i => obtain ⟨l', h3, h4⟩ := h2; exact ⟨l', h _ _ h3, h4⟩
  | mark => exact hb.trans r
  | loop st pend fn τ nt ps asg body dm => obtain ⟨tmps, dl, f', h1, h2, h3, h4⟩ := r; exact ⟨tmps, dl, f', hb.trans h1, h2.mono h, h3, h _ _ h4⟩

/-! ## The heap -/
structure Good (ρ : Rho) (s : S) (w : World) : Prop where
  obj : ∀ i o, s.heap.get i = some o → ∃ l, ρ i = some l ∧ ORel ρ l w o
  inj : ∀ i j oi oj li lj, s.heap.get i = some oi → s.heap.get j = some oj → ρ i = some li → ρ j = some lj → i ≠ j → li.blk ≠ lj.blk
  fresh : ∀ i, s.next ≤ i → ρ i = none

structure Post (ρ : Rho) (s : S) (w : World) (ρ' : Rho) (s' : S) (w' : World) : Prop where
  good : Good ρ' s' w'
  le : ρ.le ρ'
  keep : ∀ i, i < s.next → ρ' i = ρ i
  next : s.next ≤ s'.next
  size : w.heap.size ≤ w'.heap.size
  old : ∀ b, b < w.heap.size → (∀ i o l, s.heap.get i = some o → ρ i = some l → l.blk ≠ b) → w'.heap[b]? = w.heap[b]?
  new : ∀ i o l, s'.heap.get i = some o → ρ' i = some l → w.heap.size ≤ l.blk ∨ ∃ j o' l', s.heap.get j = some o' ∧ ρ j = some l' ∧ l'.blk = l.blk
  os : w'.os = w.os
  tape : w'.tape = w.tape
  output : w'.output = w.output
  froz : ∀ a : Addr, w'.frozen? a = w.frozen? a

theorem Post.refl {ρ : Rho} {s : S} {w : World} (h : Good ρ s w) : Post ρ s w ρ s w :=
  ⟨h, Rho.le_refl _, fun _ _ => rfl, Nat.le_refl _, Nat.le_refl _, fun _ _ _ => rfl, fun i o l h1 h2 => .inr ⟨i, o, l, h1, h2, rfl⟩, rfl, rfl, rfl, fun _ => rfl⟩

theorem Post.trans {ρ ρ' ρ'' : Rho} {s s' s'' : S} {w w' w'' : World} (h : Post ρ s w ρ' s' w') (k : Post ρ' s' w' ρ'' s'' w'') : Post ρ s w ρ'' s'' w'' where
  good := k.good
  le := h.le.trans k.le
  keep := fun i hi => (k.keep i (Nat.lt_of_lt_of_le hi h.next)).trans (h.keep i hi)
  next := Nat.le_trans h.next k.next
  size := Nat.le_trans h.size k.size
  old := fun b hb hn => by
    refine (k.old b (Nat.lt_of_lt_of_le hb h.size) ?_).trans (h.old b hb hn)
    intro i o l h1 h2 e
    rcases h.new i o l h1 h2 with h3 | ⟨j, o', l', h3, h4, h5⟩
    · omega
    · exact hn j o' l' h3 h4 (h5.trans e)
  new := fun i o l h1 h2 => by
    rcases k.new i o l h1 h2 with h3 | ⟨j, o', l', h3, h4, h5⟩
    · exact .inl (Nat.le_trans h.size h3)
    · rcases h.new j o' l' h3 h4 with h6 | ⟨j', o'', l'', h6, h7, h8⟩
      · exact .inl (h5 ▸ h6)
      · exact .inr ⟨j', o'', l'', h6, h7, h8.trans h5⟩
  os := k.os.trans h.os
  tape := k.tape.trans h.tape
  output := k.output.trans h.output
  froz := fun a => (k.froz a).trans (h.froz a)

theorem ORel.unfrozen {ρ : Rho} {l : Loc} {w : World} {o : Obj} (h : ORel ρ l w o) (a : Addr) (ha : a.block = l.blk) : w.frozen? a = false := by
  unfold World.frozen?
  rw [ha]
  cases o with
  | cells n cs elem => obtain ⟨cur, fr, h1, _, _, h4, _⟩ := h; rw [h1]; exact h4 a.off
  | map es clock => obtain ⟨es', h1, h2⟩ := h; rw [h1]
  | siter s pos => obtain ⟨b, h1, h2⟩ := h; rw [h1]
  | miter m since seen stepped => obtain ⟨m', h1, h2⟩ := h; rw [h1]
  | mark => rw [show w.heap[l.blk]? = _ from h]
  | loop st pend fn τ nt ps asg body dm => obtain ⟨tmps, dl, f', h1, _⟩ := h; rw [h1]

theorem frozen_same {w w' : World} {a : Addr} (h : w'.heap[a.block]? = w.heap[a.block]?) : w'.frozen? a = w.frozen? a := by
  unfold World.frozen?; rw [h]

theorem ORel.lt {ρ : Rho} {l : Loc} {w : World} {o : Obj} (h : ORel ρ l w o) : l.blk < w.heap.size := by
  have : ∃ x, w.heap[l.blk]? = some x := by
    cases o with
    | cells n cs elem => obtain ⟨cur, fr, h1, _⟩ := h; exact ⟨_, h1⟩
    | map es clock => obtain ⟨es', h1, h2⟩ := h; exact ⟨_, h1⟩
    | siter s pos => obtain ⟨b, h1, h2⟩ := h; exact ⟨_, h1⟩
    | miter m since seen stepped => obtain ⟨m', h1, h2⟩ := h; exact ⟨_, h1⟩
    | mark => exact ⟨_, h⟩
    | loop st pend fn τ nt ps asg body dm => obtain ⟨tmps, dl, f', h1, _⟩ := h; exact ⟨_, h1⟩
  obtain ⟨x, hx⟩ := this
  exact (Array.getElem?_eq_some_iff.1 hx).1

/-- A world that differs in its count of draws alone. -/
theorem Good.drawn {ρ : Rho} {s : S} {w : World} (h : Good ρ s w) (n : Nat) : Good ρ s { w with drawn := n } :=
  ⟨fun i o hi => let ⟨l, h1, h2⟩ := h.obj i o hi; ⟨l, h1, h2.mono (Rho.le_refl _) rfl⟩, h.inj, h.fresh⟩

theorem Post.drawn {ρ : Rho} {s : S} {w : World} (h : Good ρ s w) (n : Nat) : Post ρ s w ρ s { w with drawn := n } :=
  ⟨h.drawn n, Rho.le_refl _, fun _ _ => rfl, Nat.le_refl _, Nat.le_refl _, fun _ _ _ => rfl, fun i o l h1 h2 => .inr ⟨i, o, l, h1, h2, rfl⟩, rfl, rfl, rfl, fun _ => rfl⟩

def Rho.with (ρ : Rho) (i : Nat) (l : Loc) : Rho := fun j => if j = i then some l else ρ j

theorem Rho.le_with {ρ : Rho} {i : Nat} (l : Loc) (h : ρ i = none) : ρ.le (ρ.with i l) := by
  intro j m hj
  unfold Rho.with
  by_cases e : j = i
  · subst e; rw [h] at hj; cases hj
  · rw [if_neg e]; exact hj

/-- A new object. -/
theorem Post.alloc {ρ : Rho} {s : S} {w : World} (h : Good ρ s w) (o : Go.Obj) (tot : Nat) (x : Obj)
    (hx : ORel (ρ.with s.next ⟨w.heap.size, 0, tot⟩) ⟨w.heap.size, 0, tot⟩ (w.alloc o) x) :
    Post ρ s w (ρ.with s.next ⟨w.heap.size, 0, tot⟩) ⟨s.heap.set s.next (some x), s.next + 1⟩ (w.alloc o) := by
  have hle : ρ.le (ρ.with s.next ⟨w.heap.size, 0, tot⟩) := Rho.le_with _ (h.fresh _ (Nat.le_refl _))
  have hold : ∀ b, b < w.heap.size → (w.alloc o).heap[b]? = w.heap[b]? := fun b hb => by
    show (w.heap.push o)[b]? = _
    rw [Array.getElem?_push, if_neg (by omega)]
  have hlt : ∀ i o' l, s.heap.get i = some o' → ρ i = some l → l.blk < w.heap.size := fun i o' l h1 h2 => by
    obtain ⟨l', h3, h4⟩ := h.obj i o' h1
    rw [h2] at h3
    injection h3 with h3
    subst h3
    exact h4.lt
  have hne : ∀ i o', s.heap.get i = some o' → i ≠ s.next := fun i o' h1 e => by
    obtain ⟨l', h3, h4⟩ := h.obj i o' h1
    rw [h.fresh i (by omega)] at h3
    cases h3
  refine ⟨⟨?_, ?_, ?_⟩, hle, ?_, Nat.le_succ _, (by show w.heap.size ≤ (w.heap.push o).size; simp), fun b hb _ => hold b hb, ?_, rfl, rfl, rfl, fun a => ?_⟩
  · intro i o' hi
    simp only [T.get_set] at hi
    by_cases e : i = s.next
    · rw [if_pos e] at hi
      injection hi with hi
      subst hi
      exact ⟨_, by simp [Rho.with, e], hx⟩
    · rw [if_neg e] at hi
      obtain ⟨l, h1, h2⟩ := h.obj i o' hi
      exact ⟨l, hle _ _ h1, h2.mono hle (hold _ h2.lt)⟩
  · intro i j oi oj li lj hi hj hri hrj hij
    simp only [T.get_set] at hi hj
    unfold Rho.with at hri hrj
    by_cases ei : i = s.next
    · rw [if_pos ei] at hri
      injection hri with hri
      subst hri
      by_cases ej : j = s.next
      · omega
      · rw [if_neg ej] at hj hrj
        have := hlt j oj lj hj hrj
        simp only; omega
    · rw [if_neg ei] at hi hri
      by_cases ej : j = s.next
      · rw [if_pos ej] at hrj
        injection hrj with hrj
        subst hrj
        have := hlt i oi li hi hri
        simp only; omega
      · rw [if_neg ej] at hj hrj
        exact h.inj i j oi oj li lj hi hj hri hrj hij
  · intro i hi
    have hi' : s.next + 1 ≤ i := hi
    unfold Rho.with
    rw [if_neg (by omega)]
    exact h.fresh i (by omega)
  · intro i hi
    unfold Rho.with
    rw [if_neg (by omega)]
  · intro i o' l hi hr
    simp only [T.get_set] at hi
    unfold Rho.with at hr
    by_cases e : i = s.next
    · rw [if_pos e] at hr
      injection hr with hr
      subst hr
      exact .inl (Nat.le_refl _)
    · rw [if_neg e] at hi hr
      exact .inr ⟨i, o', l, hi, hr, rfl⟩
  · rcases Nat.lt_trichotomy a.block w.heap.size with hb | hb | hb
    · exact frozen_same (hold _ hb)
    · rw [hx.unfrozen a hb]
      unfold World.frozen?
      rw [show w.heap[a.block]? = none from by rw [hb]; simp]
    · exact frozen_same (by
        show (w.heap.push o)[a.block]? = _
        rw [Array.getElem?_eq_none (by simp; omega), Array.getElem?_eq_none (by omega)])

theorem frozen_at {ρ ρ' : Rho} {s : S} {w w' : World} (h : Good ρ s w) {i : Nat} {o : Obj} {l l' : Loc} (hi : s.heap.get i = some o) (hl : ρ i = some l) {x : Obj}
    (hb : ∀ b, b ≠ l.blk → w'.heap[b]? = w.heap[b]?) (hx : ORel ρ' l' w' x) (hl' : l'.blk = l.blk) (a : Addr) : w'.frozen? a = w.frozen? a := by
  by_cases e : a.block = l.blk
  · obtain ⟨l₁, h1, h2⟩ := h.obj i o hi
    rw [hl] at h1
    injection h1 with h1
    subst h1
    rw [hx.unfrozen a (e.trans hl'.symm), h2.unfrozen a e]
  · exact frozen_same (hb _ e)

/-- A turned object. -/
theorem Post.set {ρ : Rho} {s : S} {w w' : World} (h : Good ρ s w) {i : Nat} {o : Obj} {l : Loc} (hi : s.heap.get i = some o) (hl : ρ i = some l) (x : Obj)
    (hsz : w'.heap.size = w.heap.size) (hb : ∀ b, b ≠ l.blk → w'.heap[b]? = w.heap[b]?) (hx : ORel ρ l w' x) (hos : w'.os = w.os) (ht : w'.tape = w.tape) (hout : w'.output = w.output) :
    Post ρ s w ρ ⟨s.heap.set i (some x), s.next⟩ w' := by
  refine ⟨⟨?_, ?_, h.fresh⟩, Rho.le_refl _, fun _ _ => rfl, Nat.le_refl _, by omega, ?_, ?_, hos, ht, hout, fun a => frozen_at h hi hl hb hx rfl a⟩
  · intro j o' hj
    simp only [T.get_set] at hj
    by_cases e : j = i
    · rw [if_pos e] at hj
      injection hj with hj
      subst hj
      exact ⟨l, e ▸ hl, hx⟩
    · rw [if_neg e] at hj
      obtain ⟨l', h1, h2⟩ := h.obj j o' hj
      exact ⟨l', h1, h2.mono (Rho.le_refl _) (hb _ (h.inj j i o' o l' l hj hi h1 hl e))⟩
  · intro a b oa ob la lb ha hb' hra hrb hab
    simp only [T.get_set] at ha hb'
    have hx1 : ∀ c oc, (if c = i then some x else s.heap.get c) = some oc → ∃ oc', s.heap.get c = some oc' := fun c oc hc => by
      by_cases e : c = i
      · exact ⟨o, e ▸ hi⟩
      · rw [if_neg e] at hc; exact ⟨oc, hc⟩
    obtain ⟨oa', ha'⟩ := hx1 a oa ha
    obtain ⟨ob', hb''⟩ := hx1 b ob hb'
    exact h.inj a b oa' ob' la lb ha' hb'' hra hrb hab
  · intro b _ hn
    exact hb b (fun e => hn i o l hi hl e.symm)
  · intro j o' l' hj hr
    simp only [T.get_set] at hj
    by_cases e : j = i
    · subst e; exact .inr ⟨j, o, l', hi, hr, rfl⟩
    · rw [if_neg e] at hj; exact .inr ⟨j, o', l', hj, hr, rfl⟩

/-- An object that is forgotten. -/
theorem Post.kill {ρ : Rho} {s : S} {w : World} (h : Good ρ s w) (i : Nat) : Post ρ s w ρ ⟨s.heap.set i none, s.next⟩ w := by
  have hx : ∀ j o, (s.heap.set i none).get j = some o → s.heap.get j = some o := fun j o hj => by
    rw [T.get_set] at hj
    by_cases e : j = i
    · rw [if_pos e] at hj; cases hj
    · rw [if_neg e] at hj; exact hj
  exact ⟨⟨fun j o hj => h.obj j o (hx j o hj), fun a b oa ob la lb ha hb => h.inj a b oa ob la lb (hx a oa ha) (hx b ob hb), h.fresh⟩, Rho.le_refl _, fun _ _ => rfl, Nat.le_refl _, Nat.le_refl _,
    fun _ _ _ => rfl, fun j o l hj hr => .inr ⟨j, o, l, hx j o hj, hr, rfl⟩, rfl, rfl, rfl, fun _ => rfl⟩

/-- An object that goes on under a new number, in the same block, from a place on. -/
theorem Post.rename {ρ : Rho} {s : S} {w w' : World} (h : Good ρ s w) {i : Nat} {o : Obj} {l : Loc} (hi : s.heap.get i = some o) (hl : ρ i = some l) (l' : Loc) (hl' : l'.blk = l.blk) (x : Obj)
    (hsz : w'.heap.size = w.heap.size) (hb : ∀ b, b ≠ l.blk → w'.heap[b]? = w.heap[b]?) (hx : ORel (ρ.with s.next l') l' w' x) (hos : w'.os = w.os) (ht : w'.tape = w.tape) (hout : w'.output = w.output) :
    Post ρ s w (ρ.with s.next l') ⟨(s.heap.set i none).set s.next (some x), s.next + 1⟩ w' := by
  have hle : ρ.le (ρ.with s.next l') := Rho.le_with _ (h.fresh _ (Nat.le_refl _))
  have hne : ∀ j o', s.heap.get j = some o' → j ≠ s.next := fun j o' h1 e => by
    obtain ⟨l', h3, h4⟩ := h.obj j o' h1
    rw [h.fresh j (by omega)] at h3
    cases h3
  refine ⟨⟨?_, ?_, ?_⟩, hle, ?_, Nat.le_succ _, by omega, ?_, ?_, hos, ht, hout, fun a => frozen_at h hi hl hb hx hl' a⟩
  · intro j o' hj
    simp only [T.get_set] at hj
    by_cases e : j = s.next
    · rw [if_pos e] at hj
      injection hj with hj
      subst hj
      exact ⟨l', by simp [Rho.with, e], hx⟩
    · rw [if_neg e] at hj
      by_cases e2 : j = i
      · rw [if_pos e2] at hj; cases hj
      · rw [if_neg e2] at hj
        obtain ⟨l2, h1, h2⟩ := h.obj j o' hj
        exact ⟨l2, hle _ _ h1, h2.mono hle (hb _ (h.inj j i o' o l2 l hj hi h1 hl e2))⟩
  · intro a b oa ob la lb ha hb' hra hrb hab
    simp only [T.get_set] at ha hb'
    unfold Rho.with at hra hrb
    by_cases ea : a = s.next
    · rw [if_pos ea] at hra
      injection hra with hra
      subst hra
      by_cases eb : b = s.next
      · omega
      · rw [if_neg eb] at hb' hrb
        by_cases e2 : b = i
        · rw [if_pos e2] at hb'; cases hb'
        · rw [if_neg e2] at hb'
          exact hl' ▸ h.inj i b o ob l lb hi hb' hl hrb (fun e => e2 e.symm)
    · rw [if_neg ea] at ha hra
      by_cases e2 : a = i
      · rw [if_pos e2] at ha; cases ha
      · rw [if_neg e2] at ha
        by_cases eb : b = s.next
        · rw [if_pos eb] at hrb
          injection hrb with hrb
          subst hrb
          exact hl' ▸ h.inj a i oa o la l ha hi hra hl e2
        · rw [if_neg eb] at hb' hrb
          by_cases e3 : b = i
          · rw [if_pos e3] at hb'; cases hb'
          · rw [if_neg e3] at hb'
            exact h.inj a b oa ob la lb ha hb' hra hrb hab
  · intro j hj
    have hj' : s.next + 1 ≤ j := hj
    unfold Rho.with
    rw [if_neg (by omega)]
    exact h.fresh j (by omega)
  · intro j hj
    unfold Rho.with
    rw [if_neg (by omega)]
  · intro b _ hn
    exact hb b (fun e => hn i o l hi hl e.symm)
  · intro j o' l2 hj hr
    simp only [T.get_set] at hj
    unfold Rho.with at hr
    by_cases e : j = s.next
    · rw [if_pos e] at hr
      injection hr with hr
      subst hr
      exact .inr ⟨i, o, l, hi, hl, hl'.symm⟩
    · rw [if_neg e] at hj hr
      by_cases e2 : j = i
      · rw [if_pos e2] at hj; cases hj
      · rw [if_neg e2] at hj
        exact .inr ⟨j, o', l2, hj, hr, rfl⟩

end Go.X
