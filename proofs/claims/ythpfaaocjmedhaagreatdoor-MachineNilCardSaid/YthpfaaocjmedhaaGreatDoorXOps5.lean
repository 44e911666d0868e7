/- A part of the proof that a law answers true for every input: an executor of the model over an abstract heap, proved sound, or the use of it. -/
import Derived.Test.YthpfaaocjmedhaaGreatDoorXOps4
namespace Go.X
open Go
section
variable {P : Program} {E : Env}

theorem repeatL_get (z : List V) (m : Nat) (hm : z.length = m) : ∀ (n i : Nat), i < n * m → (repeatL z n)[i]? = z[i % m]?
  | 0, i, h => by omega
  | n + 1, i, h => by
    unfold repeatL
    by_cases hi : i < m
    · rw [List.getElem?_append_left (by omega), Nat.mod_eq_of_lt hi]
    · rw [List.getElem?_append_right (by omega), hm, repeatL_get z m hm n (i - m) (by
        have h' : i < n * m + m := by rw [Nat.add_mul, Nat.one_mul] at h; exact h
        generalize n * m = q at h'
        omega)]
      congr 1
      exact (Nat.mod_eq_sub_mod (by omega)).symm

theorem repeatL_length (z : List V) : ∀ n, (repeatL z n).length = n * z.length
  | 0 => by simp [repeatL]
  | n + 1 => by simp [repeatL, repeatL_length z n, Nat.succ_mul, Nat.add_comm]

theorem repeat_ok {ρ : Rho} {z : List V} {zs : Array Value} (h : VRels ρ z zs.toList) (n m : Nat) (hm : z.length = m) :
    VRels ρ (repeatL z n) (((Array.range (n * m)).map (zs[· % zs.size]!)).toList) := by
  have hzs : zs.size = m := by rw [← hm, ← h.length]; simp
  refine VRels.of_get (by simp [repeatL_length, hm]) fun i x v h1 h2 => ?_
  have hlt : i < n * m := by
    have := (List.getElem?_eq_some_iff.1 h1).1
    rwa [repeatL_length, hm] at this
  rw [repeatL_get z m hm n i hlt] at h1
  obtain ⟨u, h3, h4⟩ := h.get h1
  have hv : v = zs[i % zs.size]! := by
    simp only [Array.toList_map, List.getElem?_map, Array.toList_range] at h2
    rw [List.getElem?_range hlt] at h2
    simpa using h2.symm
  rw [hv, hzs]
  have : zs[i % m]? = some u := by simpa using h3
  rw [Array.getElem!_eq_getD, Array.getD_eq_getD_getElem?, this]
  exact h4

variable (H : EnvOk P E)
include H

theorem zeroRow_ok {ρ : Rho} {n e es : Nat} {l : List V} (h : zeroRow E n e es = some l) :
    (n = 0 ∧ l = []) ∨ (0 < n ∧ ∃ i z, P.info? e = some i ∧ i.zero = some z ∧ z.cells.size = es ∧ VRels ρ l (((Array.range (n * es)).map (z.cells[· % z.cells.size]!)).toList)) := by
  unfold zeroRow at h
  split at h
  · simp only [Option.some.injEq] at h; exact .inl ⟨rfl, h.symm⟩
  · rename_i n
    split at h
    · rename_i z hz
      split at h
      · rename_i hb
        have hlen : z.length = es := Nat.eq_of_beq_eq_true hb
        simp only [Option.some.injEq] at h
        obtain ⟨i, z', hi, hz', hv⟩ := zeroCellsV_ok (ρ := ρ) H hz
        refine .inr ⟨by omega, i, z', hi, hz', by rw [← hlen, ← hv.length]; simp, ?_⟩
        rw [← h]
        exact repeat_ok hv (n + 1) es hlen
      · cases h
    · cases h

theorem opBuildSlice_ok {ρ : Rho} {τ : T V} {a : Act} {s : S} {w : World} (hg : Good ρ s w) (ht : TRel ρ τ a.tmps) (t len : Nat) (parts : Array (Nat × Operand)) :
    XV P (Instr.buildSlice t len (parts.map fun (i, x) => (i, a.eval x))) ρ s w (opBuildSlice E τ s t len parts) := by
  unfold opBuildSlice
  have hparts : ∀ ps, evParts τ parts.toList = some ps → ps.map (·.1) = ((parts.map fun (i, x) => (i, a.eval x)).toList).map (·.1) ∧ VRels ρ (ps.map (·.2)) (((parts.map fun (i, x) => (i, a.eval x)).toList).map (·.2)) := fun ps hps => by
    obtain ⟨g1, g2⟩ := evParts_ok ht hps
    refine ⟨by rw [g1]; simp, ?_⟩
    have e : ((parts.map fun (i, x) => (i, a.eval x)).toList).map (·.2) = parts.toList.map fun p => a.eval p.2 := by simp
    rw [e]; exact g2
  split
  · rename_i e ps hu hps
    split
    · rename_i es hes
      split
      · rename_i z hz hble
        have hle : len * es ≤ 16777216 := Nat.le_of_ble_eq_true hble
        obtain ⟨te, hte, htes⟩ := size_ok H hes
        obtain ⟨p1, p2⟩ := hparts ps hps
        split
        · rename_i l hl
          have hbase : ∃ zs : Array Value, VRels ρ z ((Array.range (len * es)).map (zs[· % zs.size]!)).toList ∧ (len * es ≠ 0 → ∃ z', (zeroValue e).run P w = .ok z' w ∧ z'.cells = zs) := by
            rcases zeroRow_ok (ρ := ρ) H hz with ⟨h0, hz0⟩ | ⟨h0, i, z', hi, hz', hsz, hv⟩
            · subst h0; subst hz0
              exact ⟨#[], by simpa using VRels.nil, fun h => absurd (Nat.zero_mul _) h⟩
            · exact ⟨z'.cells, hv, fun _ => ⟨z', by simp [zeroValue, typeInfo, hi, hz'], rfl⟩⟩
          obtain ⟨zs, hv, hrun⟩ := hbase
          obtain ⟨vs, g1, g2⟩ := fillX_ok p1 p2 hv hl
          have g1' : Instr.fill (fun i => some (i * es, es)) ((Array.range (len * es)).map (zs[· % zs.size]!)) (parts.map fun (i, x) => (i, a.eval x)).toList = some vs := g1
          simp only [Array.toList_map] at g1'
          rw [newCells_eq]
          split
          · rename_i h1
            have hp := Post.cells hg g2 h1 [] e
            simp only [List.append_nil, Array.toArray_toList] at hp
            refine ⟨_, _, .slice (some ⟨w.heap.size, 0, none⟩) len len, ?_, ?_, hp⟩
            · have hgt : ¬ (2 ^ 24 < len * es) := by omega
              by_cases h0 : len * es = 0
              · rw [h0] at g1' hgt
                simp only [Array.range_zero', Array.map_empty] at g1'
                simp [Instr.buildSlice, run_underlying (und_ok H hu), run_sizeOf hte, htes, h0, g1', newRow, newObj, Sem.run, Array.range_zero']
              · obtain ⟨z', hz', rfl⟩ := hrun h0
                simp [Instr.buildSlice, run_underlying (und_ok H hu), run_sizeOf hte, htes, hgt, h0, hz', g1', newRow, newObj, Sem.run]
            · simp only [VRel]
              exact ⟨_, len, with_self _ _ _, by simp [Loc.addr], rfl⟩
          · trivial
        · trivial
      · trivial
    · trivial
  · trivial

theorem opMakeSlice_ok {ρ : Rho} {τ : T V} {a : Act} {s : S} {w : World} (hg : Good ρ s w) (ht : TRel ρ τ a.tmps) (t : Nat) (l c : Operand) :
    XV P (Instr.makeSlice t (a.eval l) (a.eval c)) ρ s w (opMakeSlice E τ s t l c) := by
  unfold opMakeSlice
  split
  · rename_i e n m hu hl hc
    have hl' := ev_ok ht hl
    have hc' := ev_ok ht hc
    simp only [VRel] at hl' hc'
    split
    · rename_i i hi
      have hi' := info_ok H hi
      split
      · rename_i z hz h1 h2 h3
        have h1' : n ≤ m := Nat.le_of_ble_eq_true h1
        have h2' : i.bytes * m ≤ 16777216 := Nat.le_of_ble_eq_true h2
        have h3' : m ≤ 16777216 := Nat.le_of_ble_eq_true h3
        have wn : IntKind.i64.wrap (n : Int) = (n : Int) := by simp only [IntKind.wrap, IntKind.bits, IntKind.signed]; simp; omega
        have wm : IntKind.i64.wrap (m : Int) = (m : Int) := by simp only [IntKind.wrap, IntKind.bits, IntKind.signed]; simp; omega
        have hbase : ∃ zs : Array Value, VRels ρ z ((Array.range (m * i.size)).map (zs[· % zs.size]!)).toList ∧ (m * i.size ≠ 0 → ∃ z', (zeroValue e).run P w = .ok z' w ∧ z'.cells = zs) := by
          rcases zeroRow_ok (ρ := ρ) H hz with ⟨h0, hz0⟩ | ⟨h0, i', z', hi'', hz', hsz, hv⟩
          · subst h0; subst hz0
            exact ⟨#[], by simpa using VRels.nil, fun h => absurd (Nat.zero_mul _) h⟩
          · exact ⟨z'.cells, hv, fun _ => ⟨z', by simp [zeroValue, typeInfo, hi'', hz'], rfl⟩⟩
        obtain ⟨zs, hv, hrun⟩ := hbase
        rw [newCells_eq]
        split
        · rename_i hone
          have hp := Post.cells hg hv hone [] e
          simp only [List.append_nil, Array.toArray_toList] at hp
          refine ⟨_, _, .slice (some ⟨w.heap.size, 0, none⟩) n m, ?_, ?_, hp⟩
          · have hcast : ((i.bytes : Int) * (m : Int)) = ((i.bytes * m : Nat) : Int) := by simp
            have hb : (i.bytes : Int) * (m : Int) ≤ 16777216 := by rw [hcast]; omega
            have hm0 : ¬ ((m : Int) < 0) := by omega
            have hn0 : ¬ ((n : Int) < 0) := by omega
            have hnm : ¬ ((m : Int) < (n : Int)) := by omega
            rw [hl', hc', ofNat_eq, ofNat_eq]
            by_cases h0 : m * i.size = 0
            · simp [Instr.makeSlice, run_underlying (und_ok H hu), asInt, asIntOf, typeInfo, hi', wn, wm, hm0, hn0, hnm, askRoom, run_sizeOf hi', newRow, newObj, Sem.run, h0, Array.range_zero']
              intro hx
              omega
            · obtain ⟨z', hz', rfl⟩ := hrun h0
              simp [Instr.makeSlice, run_underlying (und_ok H hu), asInt, asIntOf, typeInfo, hi', wn, wm, hm0, hn0, hnm, askRoom, run_sizeOf hi', newRow, newObj, Sem.run, h0, hz']
              intro hx
              omega
          · simp only [VRel]
            exact ⟨_, m, with_self _ _ _, by simp [Loc.addr], rfl⟩
        · trivial
      · trivial
    · trivial
  · trivial
end
end Go.X
