/- A part of the proof that a law answers true for every input: an executor of the model over an abstract heap, proved sound, or the use of it. -/
import Derived.Test.YthpfaaocjmedhaaGreatDoorXOps2
namespace Go.X
open Go
section
variable {P : Program} {E : Env}

theorem idxN_ok {ρ : Rho} {x : V} {v : Value} {n : Nat} (h : VRel ρ x v) (hi : idxN x = some n) : ∃ k, v = .int k (n : Int) := by
  unfold idxN at hi
  split at hi
  · simp only [Option.some.injEq] at hi; subst hi; simp only [VRel] at h; exact ⟨_, h⟩
  · cases hi

theorem ofNat_eq (n : Nat) : Int.ofNat n = (n : Int) := rfl

variable (H : EnvOk P E)
include H

theorem doFieldAddr_ok {ρ : Rho} {s : S} {w : World} (hg : Good ρ s w) {x : V} {x' : Value} (hx : VRel ρ x x') (t f : Nat) : XV P (Instr.fieldAt t x' f) ρ s w (doFieldAddr E t x f s) := by
  unfold doFieldAddr
  split
  · rename_i i o
    split
    · rename_i fs hu
      split
      · rename_i fd hf
        split
        · rename_i k hk
          obtain ⟨ti, hti, htk⟩ := size_ok H hk
          simp only [VRel] at hx
          obtain ⟨l, hl, rfl⟩ := hx
          rw [forceN_eq]
          refine XV_pure hg ⟨.pointer (some (l.addr (o + fd.offset))), ?_, by simp only [VRel]; exact ⟨l, hl, rfl⟩⟩
          have hf' : fs[f]? = some fd := by rw [← hf]; simp
          simp [Instr.fieldAt, run_underlying (und_ok H hu), hf', Instr.sureAddr, fieldPlace, run_sizeOf hti, htk, Loc.addr_add]
        · trivial
      · trivial
    · trivial
  · trivial

theorem doIndexAddr_ok {ρ : Rho} {s : S} {w : World} (hg : Good ρ s w) {x ix : V} {x' ix' : Value} (hx : VRel ρ x x') (hix : VRel ρ ix ix') (t : Nat) : XV P (Instr.indexAt t x' ix') ρ s w (doIndexAddr E t x ix s) := by
  unfold doIndexAddr
  split
  · trivial
  · rename_i k hk
    obtain ⟨kd, rfl⟩ := idxN_ok hix hk
    split
    · rename_i e i o n c hu
      split
      · rename_i es hlt hes
        obtain ⟨ti, hti, htk⟩ := size_ok H hes
        have hkn : k < n := by simpa [Nat.blt_eq] using hlt
        simp only [VRel] at hx
        obtain ⟨l, cap, hl, rfl, hcap⟩ := hx
        rw [forceN_eq]
        refine XV_pure hg ⟨.pointer (some (l.addr (o + k * es))), ?_, by simp only [VRel]; exact ⟨l, hl, rfl⟩⟩
        simp [Instr.indexAt, asIntOf, run_underlying (und_ok H hu), run_sizeOf hti, htk, Loc.addr_add, hkn]
      · trivial
    · rename_i n e i o hu
      split
      · rename_i es hlt hes
        obtain ⟨ti, hti, htk⟩ := size_ok H hes
        have hkn : k < n := by simpa [Nat.blt_eq] using hlt
        simp only [VRel] at hx
        obtain ⟨l, hl, rfl⟩ := hx
        rw [forceN_eq]
        refine XV_pure hg ⟨.pointer (some (l.addr (o + k * es))), ?_, by simp only [VRel]; exact ⟨l, hl, rfl⟩⟩
        simp [Instr.indexAt, asIntOf, run_underlying (und_ok H hu), Instr.sureAddr, run_sizeOf hti, htk, Loc.addr_add, hkn]
      · trivial
    · trivial

omit H in
theorem VRels.extract {ρ : Rho} {l : List V} {vs : List Value} (h : VRels ρ l vs) (o n : Nat) : VRels ρ ((l.drop o).take n) ((vs.drop o).take n) := by
  refine VRels.of_get (by simp [h.length]) fun i x v h1 h2 => ?_
  rw [List.getElem?_take] at h1 h2
  split at h1
  · rename_i hi
    rw [if_pos hi] at h2
    rw [List.getElem?_drop] at h1 h2
    obtain ⟨u, h3, h4⟩ := h.get h1
    rw [h2] at h3
    injection h3 with h3
    exact h3 ▸ h4
  · cases h1

theorem partX_ok {ρ : Rho} {cs : List V} {vs : Array Value} (h : VRels ρ cs vs.toList) {t off : Nat} {x : V} (hp : partX E t cs off = some x) :
    ∃ v, (∀ w, (part t vs off).run P w = .ok v w) ∧ VRel ρ x v := by
  unfold partX at hp
  split at hp
  · rename_i d hd
    have hag := fun w => run_isAgg (und_ok H hd) w
    split at hp
    · rename_i hb
      split at hp
      · rename_i n hn
        obtain ⟨ti, hti, htk⟩ := size_ok H hn
        split at hp
        · simp only [Option.some.injEq] at hp
          subst hp
          refine ⟨.agg (vs.extract off (off + n)), fun w => by simp [part, hag, hb, run_sizeOf hti, htk], ?_⟩
          simp only [VRel]
          refine ⟨_, rfl, ?_⟩
          have := h.extract off n
          simpa [List.take_drop, Array.toList_extract, List.extract_eq_take_drop] using this
        · cases hp
      · cases hp
    · rename_i hb
      obtain ⟨v, h1, h2⟩ := h.get hp
      exact ⟨v, fun w => by
        have : vs[off]? = some v := by simpa using h1
        simp [part, hag, hb, this], h2⟩
  · cases hp

theorem doField_ok {ρ : Rho} {s : S} {w : World} (hg : Good ρ s w) {x : V} {x' : Value} (hx : VRel ρ x x') (t f : Nat) : XV P (Instr.field t x' f) ρ s w (doField E t x f s) := by
  unfold doField
  split
  · rename_i cs
    simp only [VRel] at hx
    obtain ⟨vs, rfl, hv⟩ := hx
    split
    · rename_i fs hu
      split
      · rename_i fd hf
        have hf' : fs[f]? = some fd := by rw [← hf]; simp
        have key : ∀ y, partX E fd.type cs fd.offset = some y → XV P (Instr.field t (.agg vs) f) ρ s w (.val y s) := fun y hy => by
          obtain ⟨v, h1, h2⟩ := partX_ok H hv hy
          refine XV_pure hg ⟨v, ?_, h2⟩
          simp [Instr.field, run_underlying (und_ok H hu), hf', asAgg, h1]
        split
        · rename_i l hl; rw [forceS_eq]; exact key _ hl
        · rename_i v _ hv'; exact key _ hv'
        · trivial
      · trivial
    · trivial
  · trivial

omit H in
theorem bytes_get {s : ByteArray} {k b : Nat} (h : (bytesOf s)[k]? = some b) : ∃ c : UInt8, s[k]? = some c ∧ c.toNat = b ∧ b < 256 ∧ k < s.size := by
  unfold bytesOf at h
  rw [List.getElem?_map] at h
  cases hk : s.data.toList[k]? with
  | none => rw [hk] at h; cases h
  | some c =>
    rw [hk] at h
    simp only [Option.map_some, Option.some.injEq] at h
    have hlt : k < s.data.toList.length := (List.getElem?_eq_some_iff.1 hk).1
    have hlt' : k < s.size := by show k < s.data.size; simpa using hlt
    refine ⟨c, ?_, h, by rw [← h]; exact c.toNat_lt, hlt'⟩
    rw [getElem?_pos s k hlt']
    have : s.data.toList[k] = c := (List.getElem?_eq_some_iff.1 hk).2
    simp only [Option.some.injEq]
    rw [← this]
    rfl

theorem doIndex_ok {ρ : Rho} {s : S} {w : World} (hg : Good ρ s w) {x ix : V} {x' ix' : Value} (hx : VRel ρ x x') (hix : VRel ρ ix ix') (t : Nat) : XV P (Instr.index t x' ix') ρ s w (doIndex E t x ix s) := by
  unfold doIndex
  split
  · trivial
  · rename_i k hk
    obtain ⟨kd, rfl⟩ := idxN_ok hix hk
    split
    · rename_i l hu
      split
      · rename_i b hb
        simp only [VRel] at hx
        obtain ⟨bs, rfl, rfl⟩ := hx
        obtain ⟨c, h1, h2, _, _⟩ := bytes_get hb
        refine XV_pure hg ⟨.int .u8 (c.toNat : Int), ?_, by simp only [VRel]; rw [h2]; rfl⟩
        simp [Instr.index, asIntOf, run_underlying (und_ok H hu), h1]
      · trivial
    · rename_i n e cs hu
      simp only [VRel] at hx
      obtain ⟨vs, rfl, hv⟩ := hx
      split
      · rename_i es hlt hes
        obtain ⟨ti, hti, htk⟩ := size_ok H hes
        have hkn : k < n := by simpa [Nat.blt_eq] using hlt
        have key : ∀ y, partX E e cs (Nat.mul k es) = some y → XV P (Instr.index t (.agg vs) (.int kd (k : Int))) ρ s w (.val y s) := fun y hy => by
          obtain ⟨v, h1, h2⟩ := partX_ok H hv hy
          have h1' : ∀ w, (part e vs (k * es)).run P w = .ok v w := h1
          refine XV_pure hg ⟨v, ?_, h2⟩
          simp [Instr.index, asIntOf, run_underlying (und_ok H hu), run_sizeOf hti, htk, hkn, h1']
        split
        · rename_i l hl; rw [forceS_eq]; exact key _ hl
        · rename_i v _ hv'; exact key _ hv'
        · trivial
      · trivial
    · trivial

/-! ## What is built -/
omit H in
theorem listPut_eq {α : Type} : ∀ (l : List α) (i : Nat) (x : α), listPut l i x = l.set i x
  | [], _, _ => by simp [listPut]
  | _ :: _, 0, _ => by simp [listPut]
  | y :: l, i + 1, x => by simp [listPut, listPut_eq l i x]

omit H in
theorem VRels.set {ρ : Rho} : ∀ {l : List V} {vs : List Value}, VRels ρ l vs → ∀ (i : Nat) {x : V} {v : Value}, VRel ρ x v → VRels ρ (l.set i x) (vs.set i v)
  | [], _, h, i, _, _, _ => by rw [VRels.nil_iff] at h; subst h; simpa using VRels.nil
  | y :: l, _, h, i, x, v, hx => by
    rw [VRels.cons_iff] at h
    obtain ⟨u, rest, rfl, h2, h3⟩ := h
    cases i with
    | zero => exact VRels.cons hx h3
    | succ i => exact VRels.cons h2 (VRels.set h3 i hx)

omit H in
theorem splice_ok {ρ : Rho} : ∀ {xs : List V} {vs : List Value}, VRels ρ xs vs → ∀ {base : List V} {bs : Array Value}, VRels ρ base bs.toList → ∀ o k : Nat,
    VRels ρ (splice base (o + k) xs) (vs.zipIdx k |>.foldl (fun (cs : Array Value) (x : Value × Nat) => cs.setIfInBounds (o + x.2) x.1) bs).toList
  | [], _, h, _, _, hb, o, k => by rw [VRels.nil_iff] at h; subst h; simpa [splice] using hb
  | x :: xs, _, h, base, bs, hb, o, k => by
    rw [VRels.cons_iff] at h
    obtain ⟨v, rest, rfl, h2, h3⟩ := h
    have hs : splice base (o + k) (x :: xs) = splice (base.set (o + k) x) (o + (k + 1)) xs := by simp [splice, listPut_eq, Nat.add_assoc]
    rw [hs]
    simp only [List.zipIdx_cons, List.foldl_cons]
    exact splice_ok h3 (bs := bs.setIfInBounds (o + k) v) (by simpa using hb.set (o + k) h2) o (k + 1)

omit H in
theorem fillX_ok {ρ : Rho} {place : Nat → Option (Nat × Nat)} : ∀ {ps : List (Nat × V)} {ps' : List (Nat × Value)}, ps.map (·.1) = ps'.map (·.1) → VRels ρ (ps.map (·.2)) (ps'.map (·.2)) →
    ∀ {z : List V} {zs : Array Value}, VRels ρ z zs.toList → ∀ {l : List V}, fillX place z ps = some l → ∃ vs, Instr.fill place zs ps' = some vs ∧ VRels ρ l vs.toList
  | [], [], _, _, z, zs, hz, l, h => by simp only [fillX, Option.some.injEq] at h; subst h; exact ⟨zs, rfl, hz⟩
  | [], _ :: _, h, _, _, _, _, _, _ => by simp at h
  | _ :: _, [], h, _, _, _, _, _, _ => by simp at h
  | (i, x) :: ps, (j, v) :: ps', h, hv, z, zs, hz, l, hl => by
    simp only [List.map_cons, List.cons.injEq] at h
    obtain ⟨rfl, h⟩ := h
    simp only [List.map_cons] at hv
    rw [VRels.cons_iff] at hv
    obtain ⟨u, rest, hu, h2, h3⟩ := hv
    simp only [List.cons.injEq] at hu
    obtain ⟨rfl, rfl⟩ := hu
    unfold fillX at hl
    split at hl
    · rename_i off size hpl
      split at hl
      · rename_i hq1 hq2
        have hlen : (cellsV x).length = size := Nat.eq_of_beq_eq_true hq1
        have hle : off + size ≤ z.length := Nat.le_of_ble_eq_true hq2
        have hc := cellsV_ok h2
        have hs := splice_ok hc hz off 0
        have hvl : v.cells.size = size := by rw [← hlen, ← hc.length]; simp
        have hzl : zs.size = z.length := by rw [← hz.length]; simp
        obtain ⟨vs, g1, g2⟩ := fillX_ok h h3 (zs := v.cells.zipIdx.foldl (fun cs (c, j) => cs.setIfInBounds (off + j) c) zs) (by
            have : (v.cells.zipIdx.foldl (fun (cs : Array Value) (x : Value × Nat) => cs.setIfInBounds (off + x.2) x.1) zs) = (v.cells.toList.zipIdx 0).foldl (fun (cs : Array Value) (x : Value × Nat) => cs.setIfInBounds (off + x.2) x.1) zs := by
              rw [← Array.foldl_toList]; simp
            rw [this]
            simpa using hs) hl
        refine ⟨vs, ?_, g2⟩
        simp only [Instr.fill, hpl]
        rw [if_neg (by simp [hvl]; omega)]
        exact g1
      · cases hl
    · cases hl
end
end Go.X
