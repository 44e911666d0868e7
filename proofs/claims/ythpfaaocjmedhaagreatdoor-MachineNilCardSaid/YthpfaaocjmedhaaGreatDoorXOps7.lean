/- A part of the proof that a law answers true for every input: an executor of the model over an abstract heap, proved sound, or the use of it. -/
import Derived.Test.YthpfaaocjmedhaaGreatDoorXOps6
namespace Go.X
open Go
section
variable {P : Program} {E : Env}

def Shape : V → Value → Prop
  | .nilp, v => v = .pointer none
  | .ptr _ _, v => ∃ a, v = .pointer (some a)
  | .nils, v => v = .slice none 0 0
  | .slice .., v => ∃ a n c, v = .slice (some a) n c
  | .emp, v => ∃ a n c, v = .slice (some a) n c
  | .nilm, v => v = .map none
  | .map _, v => ∃ m, v = .map (some m)
  | .nilf, v => v = .nilFunc
  | .func .., v => ∃ a b c, v = .func a b c
  | .nili, v => v = .nilIface
  | .iface .., v => ∃ t y, v = .iface t y
  | .bool b, v => v = .bool b
  | _, _ => True

theorem shape {ρ : Rho} {x : V} {v : Value} (h : VRel ρ x v) : Shape x v := by
  cases x <;> simp only [VRel] at h <;> simp only [Shape]
  case bool => exact h
  case nilp => exact h
  case ptr => obtain ⟨l, _, h⟩ := h; exact ⟨_, h⟩
  case nils => exact h
  case slice => obtain ⟨l, c, _, h, _⟩ := h; exact ⟨_, _, _, h⟩
  case emp => obtain ⟨a, c, h⟩ := h; exact ⟨_, _, _, h⟩
  case nilm => exact h
  case map => obtain ⟨l, _, h⟩ := h; exact ⟨_, h⟩
  case nilf => exact h
  case func => obtain ⟨a, b, h, _⟩ := h; exact ⟨_, _, _, h⟩
  case nili => exact h
  case iface => obtain ⟨y, h, _⟩ := h; exact ⟨_, _, h⟩

/-- What '==' and '!=' come to, guard and all. -/
def EqIs (P : Program) (t : Nat) (u v : Value) (b : Bool) : Prop :=
  (∀ op i j w, (eqGuard op t i j u v).run P w = .ok () w) ∧ (∀ w, (binOp .eql t u v).run P w = .ok (.bool b) w ∧ (binOp .neq t u v).run P w = .ok (.bool (!b)) w)

theorem EqIs.of {t : Nat} {u v : Value} {b : Bool} (h4 : ∀ w, (Op.equal t u v).run P w = .ok b w) (hg : ∀ op i j w, (eqGuard op t i j u v).run P w = .ok () w)
    (h2 : binOp .eql t u v = (do pure (.bool (← Op.equal t u v)))) (h3 : binOp .neq t u v = (do pure (.bool (!(← Op.equal t u v))))) : EqIs P t u v b := by
  refine ⟨hg, fun w => ?_⟩
  rw [h2, h3]
  simp [h4 w]

theorem equal_of {t : Nat} {u v : Value} {b : Bool} (h : ∀ n w, (Op.equalIn (n + 1) t u v).run P w = .ok b w) (w : World) : (Op.equal t u v).run P w = .ok b w := h 9999 w

theorem eqBare_ok {ρ : Rho} {d : TypeDesc} {t : Nat} (hd : P.underlying t = some d) {x y : V} {u v : Value} (hx : VRel ρ x u) (hy : VRel ρ y v) {b : Bool} (h : eqBare d x y = some b) : EqIs P t u v b := by
  have hx' := shape hx
  have hy' := shape hy
  clear hx hy
  unfold eqBare at h
  split at h
  case h_1 a1 a2 =>
    simp only [Shape] at hx' hy'
    subst hx'; subst hy'
    simp only [Option.some.injEq] at h
    subst h
    refine EqIs.of (equal_of fun n w => ?_) (fun op i j w => by cases op <;> rfl) rfl rfl
    simp only [Op.equalIn, Sem.run_bind, run_underlying hd, Result.andThen_ok]
    cases a1 <;> cases a2 <;> rfl
  all_goals
    first
      | (cases h; done)
      | skip
  all_goals
    simp only [Option.some.injEq] at h
    subst h
    simp only [Shape] at hx' hy'
    first
      | (subst hx'; skip)
      | (obtain ⟨_, rfl⟩ := hx'; skip)
      | (obtain ⟨_, _, rfl⟩ := hx'; skip)
      | (obtain ⟨_, _, _, rfl⟩ := hx'; skip)
    first
      | (subst hy'; skip)
      | (obtain ⟨_, rfl⟩ := hy'; skip)
      | (obtain ⟨_, _, rfl⟩ := hy'; skip)
      | (obtain ⟨_, _, _, rfl⟩ := hy'; skip)
    refine EqIs.of (equal_of fun n w => ?_) (fun op i j w => by cases op <;> rfl) rfl rfl
    simp only [Op.equalIn, Sem.run_bind, run_underlying hd, Result.andThen_ok]
    rfl

theorem eqPtr_ok (H : EnvOk P E) {ρ : Rho} {e t : Nat} (hd : P.underlying t = some (.pointer e)) {x y : V} {u v : Value} (hx : VRel ρ x u) (hy : VRel ρ y v) {b : Bool} (h : eqPtr E e x y = some b) : EqIs P t u v b := by
  unfold eqPtr at h
  split at h
  · rename_i i o j q
    split at h
    · rename_i n hij hsz
      have hij' : i = j := Nat.eq_of_beq_eq_true hij
      subst hij'
      simp only [Option.some.injEq] at h
      subst h
      simp only [VRel] at hx hy
      obtain ⟨l, hl, rfl⟩ := hx
      obtain ⟨l', hl', rfl⟩ := hy
      rw [hl] at hl'
      injection hl' with hl'
      subst hl'
      obtain ⟨ti, hti, htn⟩ := size_ok H hsz
      refine EqIs.of (equal_of fun n w => ?_) (fun op i j w => by cases op <;> rfl) rfl rfl
      have hne : ti.size ≠ 0 := by omega
      have hbo : (l.addr o == l.addr q) = Nat.beq o q := by
        rw [Bool.eq_iff_iff, beq_iff_eq, Nat.beq_eq]
        simp only [Loc.addr, Addr.mk.injEq, true_and, and_true]
        omega
      have hb0 : ((l.addr o).block == (l.addr q).block) = true := by simp [Loc.addr]
      simp only [Op.equalIn, Sem.run_bind, run_underlying hd, Result.andThen_ok, run_sizeOf hti, hne, ne_eq, not_false_eq_true, if_true, sameAddr, hb0, hbo]
      rfl
    · cases h
  · cases h

/-! ## Plain structs -/
def kindOk (c : CK) (v : Value) : Prop := match c with
  | .int k => ∃ n, v = .int k n
  | .str => ∃ s, v = .string s
  | .bool => ∃ b, v = .bool b

def kindsOk : List CK → List Value → Prop
  | [], [] => True
  | c :: ks, v :: vs => kindOk c v ∧ kindsOk ks vs
  | _, _ => False

/-- Two plain cells of one kind: are they the same? -/
def cellSame : Value → Value → Bool
  | .int _ a, .int _ b => a == b
  | .string a, .string b => a == b
  | .bool a, .bool b => a == b
  | _, _ => false
def cellsSame : List Value → List Value → Bool
  | v :: vs, u :: us => cellSame v u && cellsSame vs us
  | _, _ => true

/-- What is asked of a type that is listed as plain. -/
structure PlainOk (P : Program) (t : Nat) (ks : List CK) : Prop where
  agg : ∃ fs, P.underlying t = some (.struct fs)
  guard : P.eqGuardType P.depth t = false
  eq : ∀ (w : World) (xs ys : Array Value), kindsOk ks xs.toList → kindsOk ks ys.toList → (Op.equal t (.agg xs) (.agg ys)).run P w = .ok (cellsSame xs.toList ys.toList) w
  key : ∀ (w : World) (b : Bool) (xs : Array Value), kindsOk ks xs.toList → (Instr.checkKey b 10000 t (.agg xs)).run P w = .ok () w

theorem byteArray_beq (a b : ByteArray) : (a == b) = true ↔ a = b := by
  obtain ⟨x⟩ := a
  obtain ⟨y⟩ := b
  constructor
  · intro h
    have e : x = y := by simpa using (show (x == y) = true from h)
    rw [e]
  · intro h
    cases h
    show (x == x) = true
    simp
theorem eqCell_ok {ρ : Rho} {c : CK} {x y : V} {u v : Value} (hx : VRel ρ x u) (hy : VRel ρ y v) {b : Bool} (h : eqCell c x y = some b) : kindOk c u ∧ kindOk c v ∧ cellSame u v = b ∧ (b = true → u = v) := by
  unfold eqCell at h
  split at h
  · rename_i k i a j b'
    split at h
    · rename_i h1 h2
      have h1' := kindEq_iff.1 h1
      have h2' := kindEq_iff.1 h2
      subst h1'
      subst h2'
      simp only [VRel] at hx hy
      subst hx; subst hy
      simp only [Option.some.injEq] at h
      subst h
      rw [eqI_eq]
      exact ⟨⟨_, rfl⟩, ⟨_, rfl⟩, rfl, fun hb => by rw [beq_iff_eq] at hb; rw [hb]⟩
    · cases h
  · rename_i a b'
    simp only [VRel] at hx hy
    obtain ⟨s1, rfl, rfl⟩ := hx
    obtain ⟨s2, rfl, rfl⟩ := hy
    simp only [Option.some.injEq] at h
    subst h
    refine ⟨⟨_, rfl⟩, ⟨_, rfl⟩, ?_, fun hb => by rw [bytesOf_inj.1 (eqL_iff.1 hb)]⟩
    show (s1 == s2) = _
    rw [Bool.eq_iff_iff, byteArray_beq, eqL_iff, bytesOf_inj]
  · rename_i a b'
    simp only [VRel] at hx hy
    subst hx; subst hy
    simp only [Option.some.injEq] at h
    subst h
    refine ⟨⟨_, rfl⟩, ⟨_, rfl⟩, ?_, ?_⟩
    · show (a == b') = _
      cases a <;> cases b' <;> rfl
    · cases a <;> cases b' <;> simp
  · cases h

theorem eqCells_ok {ρ : Rho} : ∀ {ks : List CK} {x y : List V} {u v : List Value}, VRels ρ x u → VRels ρ y v → ∀ {b : Bool}, eqCells ks x y = some b → kindsOk ks u ∧ kindsOk ks v ∧ cellsSame u v = b ∧ (b = true → u = v)
  | [], [], [], _, _, hx, hy, b, h => by
    rw [VRels.nil_iff] at hx hy
    subst hx; subst hy
    simp only [eqCells, Option.some.injEq] at h
    subst h
    exact ⟨trivial, trivial, rfl, fun _ => rfl⟩
  | c :: ks, a :: x, q :: y, _, _, hx, hy, b, h => by
    rw [VRels.cons_iff] at hx hy
    obtain ⟨u, us, rfl, hx1, hx2⟩ := hx
    obtain ⟨v, vs, rfl, hy1, hy2⟩ := hy
    unfold eqCells at h
    split at h
    · rename_i hc
      obtain ⟨g1, g2, g3, g4⟩ := eqCell_ok hx1 hy1 hc
      obtain ⟨k1, k2, k3, k4⟩ := eqCells_ok hx2 hy2 h
      refine ⟨⟨g1, k1⟩, ⟨g2, k2⟩, ?_, fun hb => by rw [g4 rfl, k4 hb]⟩
      simp [cellsSame, g3, k3]
    · rename_i hc
      obtain ⟨g1, g2, g3, g4⟩ := eqCell_ok hx1 hy1 hc
      split at h
      · rename_i b' hb'
        obtain ⟨k1, k2, k3, k4⟩ := eqCells_ok hx2 hy2 hb'
        simp only [Option.some.injEq] at h
        subst h
        refine ⟨⟨g1, k1⟩, ⟨g2, k2⟩, ?_, fun hb => by cases hb⟩
        simp [cellsSame, g3]
      · cases h
    · cases h
  | [], _ :: _, _, _, _, _, _, _, h => by simp [eqCells] at h
  | [], [], _ :: _, _, _, _, _, _, h => by simp [eqCells] at h
  | _ :: _, [], _, _, _, _, _, _, h => by simp [eqCells] at h
  | _ :: _, _ :: _, [], _, _, _, _, _, h => by simp [eqCells] at h

structure EnvOk2 (P : Program) (E : Env) : Prop extends EnvOk P E where
  plain : ∀ t ks, E.plain.get t = some ks → PlainOk P t ks

theorem Eeq_ok (H : EnvOk2 P E) {ρ : Rho} {t : Nat} {x y : V} {u v : Value} (hx : VRel ρ x u) (hy : VRel ρ y v) {b : Bool} (h : E.eq t x y = some b) : EqIs P t u v b := by
  unfold Env.eq at h
  split at h
  · rename_i a c
    split at h
    · rename_i ks hks
      simp only [VRel] at hx hy
      obtain ⟨us, rfl, hx⟩ := hx
      obtain ⟨vs, rfl, hy⟩ := hy
      obtain ⟨k1, k2, k3, _⟩ := eqCells_ok hx hy h
      have hp := H.plain _ _ hks
      refine EqIs.of (fun w => by rw [hp.eq w us vs k1 k2, k3]) (fun op i j w => ?_) rfl rfl
      have hgd := hp.guard
      cases op <;> first | rfl | (simp [eqGuard, program, Sem.run, hgd])
    · cases h
  · rename_i i o j q
    split at h
    · rename_i e he
      exact eqPtr_ok H.toEnvOk (und_ok H.toEnvOk he) hx hy h
    · cases h
  · split at h
    · rename_i d hd
      exact eqBare_ok (und_ok H.toEnvOk hd) hx hy h
    · cases h
end
end Go.X
