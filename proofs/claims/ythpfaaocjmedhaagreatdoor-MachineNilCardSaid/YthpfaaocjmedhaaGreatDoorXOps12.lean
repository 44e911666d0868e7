/- A part of the proof that a law answers true for every input: an executor of the model over an abstract heap, proved sound, or the use of it. -/
import Derived.Test.YthpfaaocjmedhaaGreatDoorXOps11
namespace Go.X
open Go
section
variable {P : Program} {E : Env}

/-! ## Parts of slices -/
def OptRel (ρ : Rho) (x : Option V) (u : Option Value) : Prop := match x with
  | none => u = none
  | some v => ∃ u', u = some u' ∧ VRel ρ v u'

theorem optEv_rel {ρ : Rho} {τ : T V} {a : Act} (ht : TRel ρ τ a.tmps) {o : Option Operand} {x : Option V} (h : optEv τ o = some x) : OptRel ρ x (o.map a.eval) := by
  have := optEv_ok ht h
  cases x <;> exact this

theorem sliceBound_ok {ρ : Rho} {v : V} {u : Value} (h : VRel ρ v u) {n y : Nat} (hi : idxN v = some n) (hle : n ≤ y) (c : BoundsCode) (w : World) : (Instr.sliceBound u y c).run P w = .ok n w := by
  obtain ⟨k, rfl⟩ := idxN_ok h hi
  simp [Instr.sliceBound, asIntOf, hle]

theorem sliceBounds_ok {ρ : Rho} {lo hi : Option V} {lo' hi' : Option Value} (h1 : OptRel ρ lo lo') (h2 : OptRel ρ hi hi') {len cap l h : Nat} (hl : loX lo = some l) (hh : hiX hi len = some h) (hlh : l ≤ h) (hc : h ≤ cap) (isS : Bool) (w : World) :
    (Instr.sliceBounds isS len cap lo' hi' none).run P w = .ok (l, h, cap) w := by
  cases hi with
  | none =>
    simp only [OptRel] at h2
    subst h2
    simp only [hiX, Option.some.injEq] at hh
    subst hh
    cases lo with
    | none =>
      simp only [OptRel] at h1
      subst h1
      simp only [loX, Option.some.injEq] at hl
      subst hl
      simp [Instr.sliceBounds]
    | some v =>
      obtain ⟨u, rfl, hu⟩ := h1
      simp [Instr.sliceBounds, sliceBound_ok hu hl hlh]
  | some vh =>
    obtain ⟨uh, rfl, huh⟩ := h2
    cases lo with
    | none =>
      simp only [OptRel] at h1
      subst h1
      simp only [loX, Option.some.injEq] at hl
      subst hl
      simp [Instr.sliceBounds, sliceBound_ok huh hh hc]
    | some v =>
      obtain ⟨u, rfl, hu⟩ := h1
      simp [Instr.sliceBounds, sliceBound_ok huh hh hc, sliceBound_ok hu hl hlh]

theorem sliceBounds3_ok {ρ : Rho} {lo : Option V} {hi mx : V} {lo' : Option Value} {hi' mx' : Value} (h1 : OptRel ρ lo lo') (h2 : VRel ρ hi hi') (h3 : VRel ρ mx mx') {len cap l h m : Nat} (hl : loX lo = some l) (hh : idxN hi = some h) (hm : idxN mx = some m)
    (hlh : l ≤ h) (hhm : h ≤ m) (hmc : m ≤ cap) (isS : Bool) (w : World) : (Instr.sliceBounds isS len cap lo' (some hi') (some mx')).run P w = .ok (l, h, m) w := by
  cases lo with
  | none =>
    simp only [OptRel] at h1
    subst h1
    simp only [loX, Option.some.injEq] at hl
    subst hl
    simp [Instr.sliceBounds, sliceBound_ok h3 hm hmc, sliceBound_ok h2 hh hhm]
  | some v =>
    obtain ⟨u, rfl, hu⟩ := h1
    simp [Instr.sliceBounds, sliceBound_ok h3 hm hmc, sliceBound_ok h2 hh hhm, sliceBound_ok hu hl hlh]

/-- What a part of a slice is. -/
def partOf (a : Addr) (l h m es : Nat) : Value := .slice (some (if m = l then a else a.add (l * es))) (h - l) (m - l)

theorem cutExact_ok {ρ : Rho} {s : S} {w : World} (hg : Good ρ s w) {i o l h k es : Nat} {lc : Loc} (hl : ρ i = some lc) {e : Sem Value} (he : l ≤ h → h ≤ k → e.run P w = .ok (partOf (lc.addr o) l h k es) w) :
    XV P e ρ s w (cutExact i o l h k es s) := by
  unfold cutExact
  split
  · rename_i h1 h2
    have h1' := Nat.le_of_ble_eq_true h1
    have h2' := Nat.le_of_ble_eq_true h2
    split
    · rename_i hb
      have hkl : k = l := Nat.eq_of_beq_eq_true hb
      rw [forceN_eq]
      refine XV_pure hg ⟨_, he h1' h2', ?_⟩
      simp only [VRel, partOf, if_pos hkl]
      exact ⟨lc, k - l, hl, rfl, by simp [CapRel]; omega⟩
    · rename_i hb
      have hkl := Nat.ne_of_beq_eq_false hb
      simp only [forceN_eq]
      refine XV_pure hg ⟨_, he h1' h2', ?_⟩
      simp only [VRel, partOf, if_neg hkl, Loc.addr_add]
      exact ⟨lc, k - l, hl, rfl, rfl⟩
  · trivial

theorem cutRoom_ok {ρ : Rho} {s : S} {w : World} (hg : Good ρ s w) {i o l h e k cap es : Nat} {lc : Loc} (hl : ρ i = some lc) (hk : k ≤ cap) (hcap : o + cap * e ≤ lc.tot) {x : Sem Value} (he : l ≤ h → h ≤ cap → x.run P w = .ok (partOf (lc.addr o) l h cap es) w) :
    XV P x ρ s w (cutRoom i o l h e k es s) := by
  unfold cutRoom
  split
  · rename_i h1 h2 h3
    have h1' := Nat.le_of_ble_eq_true h1
    have h2' := Nat.le_of_ble_eq_true h2
    have h3' : e = es := Nat.eq_of_beq_eq_true h3
    subst h3'
    split
    · rename_i hlt
      have hlt' : l < k := by simpa [Nat.blt_eq] using hlt
      simp only [forceN_eq]
      refine XV_pure hg ⟨_, he h1' (by omega), ?_⟩
      have hne : ¬ (cap = l) := by omega
      simp only [VRel, partOf, if_neg hne, Loc.addr_add]
      refine ⟨lc, cap - l, hl, rfl, ?_, ?_⟩
      · show k - l ≤ cap - l; omega
      · show o + l * e + (cap - l) * e ≤ lc.tot
        have : l * e + (cap - l) * e = cap * e := by rw [← Nat.add_mul]; congr 1; omega
        omega
    · split
      · rename_i hb
        have hhl : h = l := Nat.eq_of_beq_eq_true hb
        refine XV_pure hg ⟨_, he h1' (by omega), ?_⟩
        simp only [VRel, partOf, hhl, Nat.sub_self]
        exact ⟨_, _, rfl⟩
      · trivial
  · trivial

theorem sliceX_ok {ρ : Rho} {s : S} {w : World} (hg : Good ρ s w) {x : V} {x' : Value} (hx : VRel ρ x x') {lo hi : Option V} {lo' hi' : Option Value} (h1 : OptRel ρ lo lo') (h2 : OptRel ρ hi hi') {t e es : Nat}
    (hu : P.underlying t = some (.slice e)) {ti : TypeInfo} (hti : P.info? e = some ti) (htn : ti.size = es) : XV P (Instr.sliceAt t x' lo' hi' none) ρ s w (sliceX x lo hi es s) := by
  unfold sliceX
  have run : ∀ {a : Addr} {n cap l h : Nat}, x' = .slice (some a) n cap → loX lo = some l → hiX hi n = some h → l ≤ h → h ≤ cap → (Instr.sliceAt t x' lo' hi' none).run P w = .ok (partOf a l h cap es) w := fun {a n cap l h} hx hl hh hlh hc => by
    rw [hx]
    have hb := sliceBounds_ok (P := P) h1 h2 hl hh hlh hc true w
    simp [Instr.sliceAt, Instr.slice, run_underlying hu, hb, run_sizeOf hti, htn, partOf]
    split <;> rfl
  split
  · simp only [VRel] at hx
    split
    · rename_i hl hh
      have hb := sliceBounds_ok (P := P) h1 h2 hl hh (Nat.le_refl 0) (Nat.le_refl 0) true w
      refine XV_pure hg ⟨.slice none 0 0, ?_, by simp only [VRel]⟩
      rw [hx]
      simp [Instr.sliceAt, Instr.slice, run_underlying hu, hb, run_sizeOf hti]
    · trivial
  · rename_i i o n c
    simp only [VRel] at hx
    obtain ⟨lc, cap, hl, hx, hcap⟩ := hx
    split
    · rename_i l h hlo hhi
      split
      · rename_i k
        have hk : cap = k := hcap
        subst hk
        exact cutExact_ok hg hl fun g1 g2 => run hx hlo hhi g1 g2
      · rename_i e' k
        exact cutRoom_ok hg hl hcap.1 hcap.2 fun g1 g2 => run hx hlo hhi g1 g2
    · trivial
  · trivial

theorem sliceX3_ok {ρ : Rho} {s : S} {w : World} (hg : Good ρ s w) {x : V} {x' : Value} (hx : VRel ρ x x') {lo : Option V} {hi mx : V} {lo' : Option Value} {hi' mx' : Value} (h1 : OptRel ρ lo lo') (h2 : VRel ρ hi hi') (h3 : VRel ρ mx mx') {t e es : Nat}
    (hu : P.underlying t = some (.slice e)) {ti : TypeInfo} (hti : P.info? e = some ti) (htn : ti.size = es) : XV P (Instr.sliceAt t x' lo' (some hi') (some mx')) ρ s w (sliceX3 x lo hi mx es s) := by
  unfold sliceX3
  split
  · rename_i i o n c l h m hlo hhi hmx
    simp only [VRel] at hx
    obtain ⟨lc, cap, hl, hx, hcap⟩ := hx
    split
    · rename_i hle
      have hle' : m ≤ cap := by
        have := Nat.le_of_ble_eq_true hle
        cases c with
        | exact k => have hk : cap = k := hcap; simp only [capLow] at this; omega
        | room e' k => have hk := hcap.1; simp only [capLow] at this; omega
      refine cutExact_ok hg hl fun g1 g2 => ?_
      rw [hx]
      have hb := sliceBounds3_ok (P := P) (len := n) h1 h2 h3 hlo hhi hmx g1 g2 hle' true w
      simp [Instr.sliceAt, Instr.slice, run_underlying hu, hb, run_sizeOf hti, htn, partOf]
      split <;> rfl
    · trivial
  · trivial

theorem bytes_extract (s : ByteArray) (a b : Nat) : bytesOf (s.extract a b) = ((bytesOf s).drop a).take (b - a) := by
  unfold bytesOf
  simp [List.map_take, List.map_drop, List.extract_eq_take_drop]

theorem doSlice_ok (H : EnvOk2 P E) {ρ : Rho} {s : S} {w : World} (hg : Good ρ s w) {x : V} {x' : Value} (hx : VRel ρ x x') {lo hi mx : Option V} {lo' hi' mx' : Option Value} (h1 : OptRel ρ lo lo') (h2 : OptRel ρ hi hi') (h3 : OptRel ρ mx mx') (t : Nat) :
    XV P (Instr.sliceAt t x' lo' hi' mx') ρ s w (doSlice E t x lo hi mx s) := by
  unfold doSlice
  split
  · rename_i l hu
    simp only [OptRel] at h3
    subst h3
    simp only [VRel] at hx
    obtain ⟨b, rfl, rfl⟩ := hx
    unfold sliceStr
    split
    · rename_i lo1 hi1 hl hh
      split
      · rename_i hle1 hle2
        have g1 := Nat.le_of_ble_eq_true hle1
        have g2 := Nat.le_of_ble_eq_true hle2
        rw [bytes_length] at hh g2
        have hb := sliceBounds_ok (P := P) h1 h2 hl hh g1 g2 false w
        rw [forceS_eq]
        refine XV_pure hg ⟨.string (b.extract lo1 hi1), ?_, by simp only [VRel]; exact ⟨_, rfl, bytes_extract b lo1 hi1⟩⟩
        simp [Instr.sliceAt, Instr.slice, run_underlying (und_ok H.toEnvOk hu), hb]
      · trivial
    · trivial
  · rename_i e hu
    simp only [OptRel] at h3
    subst h3
    split
    · rename_i es hes
      obtain ⟨ti, hti, htn⟩ := size_ok H.toEnvOk hes
      exact sliceX_ok hg hx h1 h2 (und_ok H.toEnvOk hu) hti htn
    · trivial
  · rename_i e m hu
    obtain ⟨m', rfl, hm⟩ := h3
    split
    · rename_i es h hes
      obtain ⟨h', rfl, hh⟩ := h2
      obtain ⟨ti, hti, htn⟩ := size_ok H.toEnvOk hes
      exact sliceX3_ok hg hx h1 hh hm (und_ok H.toEnvOk hu) hti htn
    · trivial
  · rename_i n e i o hu
    simp only [OptRel] at h3
    subst h3
    simp only [VRel] at hx
    obtain ⟨lc, hl, rfl⟩ := hx
    split
    · rename_i es hes
      simp only [OptRel] at h1 h2
      subst h1; subst h2
      obtain ⟨ti, hti, htn⟩ := size_ok H.toEnvOk hes
      refine XV_pure hg ⟨.slice (some (lc.addr o)) n n, ?_, by simp only [VRel]; exact ⟨lc, n, hl, rfl, rfl⟩⟩
      simp [Instr.sliceAt, Instr.sureAddr, run_underlying (und_ok H.toEnvOk hu), Instr.sliceBounds, run_sizeOf hti, Addr.add]
    · trivial
  · trivial
end
end Go.X
