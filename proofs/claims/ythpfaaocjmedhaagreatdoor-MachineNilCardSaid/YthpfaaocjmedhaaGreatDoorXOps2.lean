/- A part of the proof that a law answers true for every input: an executor of the model over an abstract heap, proved sound, or the use of it. -/
import Derived.Test.YthpfaaocjmedhaaGreatDoorXOps1
namespace Go.X
open Go
section
variable {P : Program} {E : Env}

theorem cellsV_ok {ρ : Rho} {x : V} {v : Value} (h : VRel ρ x v) : VRels ρ (cellsV x) v.cells.toList := by
  cases x
  case agg l =>
    simp only [VRel] at h
    obtain ⟨vs, rfl, h2⟩ := h
    exact h2
  all_goals
    have hc : v.cells = #[v] := by
      simp only [VRel] at h
      first
        | (subst h; rfl)
        | (obtain ⟨_, rfl, _⟩ := h; rfl)
        | (obtain ⟨rfl, h, _⟩ := h; exact h)
        | (obtain ⟨_, _, rfl⟩ := h; rfl)
        | (obtain ⟨_, _, _, rfl, _⟩ := h; rfl)
        | (obtain ⟨_, _, rfl, _⟩ := h; rfl)
    rw [hc]
    exact VRels.cons h VRels.nil

theorem oneCell_ok {ρ : Rho} {x : V} {v : Value} (h : VRel ρ x v) (hn : oneCell x = true) : v.oneCell' = true := by
  cases x <;> simp only [oneCell, Bool.false_eq_true] at hn <;> simp only [VRel] at h <;>
    first
      | (subst h; rfl)
      | (obtain ⟨_, rfl, _⟩ := h; rfl)
      | (obtain ⟨rfl, _, h⟩ := h; exact h)
      | (obtain ⟨_, _, rfl⟩ := h; rfl)
      | (obtain ⟨_, _, _, rfl, _⟩ := h; rfl)
      | (obtain ⟨_, _, rfl, _⟩ := h; rfl)

theorem allOne_iff : ∀ {l : List V}, allOne l = true ↔ ∀ x ∈ l, oneCell x = true
  | [] => by simp [allOne]
  | x :: l => by
    simp only [allOne, List.mem_cons, forall_eq_or_imp]
    cases hx : oneCell x with
    | true => simp [allOne_iff (l := l)]
    | false => simp

theorem allOne_vals {ρ : Rho} : ∀ {l : List V} {vs : List Value}, VRels ρ l vs → allOne l = true → ∀ v ∈ vs, v.oneCell' = true
  | [], _, h, _, v, hv => by rw [VRels.nil_iff] at h; subst h; simp at hv
  | x :: l, _, h, h1, v, hv => by
    rw [VRels.cons_iff] at h
    obtain ⟨u, rest, rfl, h2, h3⟩ := h
    have hx := allOne_iff.1 h1
    rcases List.mem_cons.1 hv with rfl | hv
    · exact oneCell_ok h2 (hx x (by simp))
    · exact allOne_vals h3 (allOne_iff.2 fun y hy => hx y (by simp [hy])) v hv

/-! ## New cells -/
theorem heap_at_alloc (w : World) (o : Go.Obj) : (w.alloc o).heap[w.heap.size]? = some o := by
  show (w.heap.push o)[w.heap.size]? = some o
  simp
theorem cellsRel_new {ρ : Rho} {b tot : Nat} {xs : List V} {cur : List Value} {vs : List Value} (h : VRels ρ xs vs) (h1 : allOne xs = true) :
    CellsRel ρ ⟨b, 0, tot⟩ (layT xs 0 .leaf) (vs ++ cur).toArray := by
  intro j x hj
  rw [get_layT] at hj
  by_cases hb : 0 ≤ j ∧ j < 0 + xs.length
  · rw [if_pos hb] at hj
    simp only [Nat.sub_zero] at hj
    obtain ⟨v, h2, h3⟩ := h.get hj
    refine ⟨allOne_iff.1 h1 x (List.mem_of_getElem? hj), v, ?_, h3⟩
    have hlt : j < vs.length := by rw [h.length]; omega
    rw [List.getElem?_toArray, show ({ blk := b, base := 0, tot := tot } : Loc).base + j = j from Nat.zero_add j, List.getElem?_append_left hlt]
    exact h2
  · rw [if_neg hb, T.get_leaf] at hj; cases hj

/-- A row of cells laid anew, with more cells behind those that are known. -/
theorem Post.cells {ρ : Rho} {s : S} {w : World} (h : Good ρ s w) {xs : List V} {vs : List Value} (hv : VRels ρ xs vs) (h1 : allOne xs = true) (more : List Value) (e : Nat) :
    Post ρ s w (ρ.with s.next ⟨w.heap.size, 0, vs.length + more.length⟩) ⟨s.heap.set s.next (some (.cells xs.length (layT xs 0 .leaf) e)), s.next + 1⟩ (w.alloc (.cells (vs ++ more).toArray e)) := by
  have hle : ρ.le (ρ.with s.next ⟨w.heap.size, 0, vs.length + more.length⟩) := Rho.le_with _ (h.fresh _ (Nat.le_refl _))
  refine Post.alloc h _ _ _ ?_
  refine ⟨(vs ++ more).toArray, (0, 0), heap_at_alloc w _, by simp, by rw [hv.length]; simp, fun j => by simp, ?_⟩
  exact cellsRel_new (hv.mono hle) h1

theorem newCells_eq (s : S) (cells : List V) (e : Nat) (c : Nat → S → XR) :
    newCells s cells e c = if allOne cells = true then c s.next ⟨s.heap.set s.next (some (.cells cells.length (layT cells 0 .leaf) e)), s.next + 1⟩ else .no 20 := by
  unfold newCells
  cases h : allOne cells with
  | true => simp only [layCells_eq, forceN_eq, S.new, T.put_eq, if_true, Nat.succ_eq_add_one]
  | false => simp

theorem with_self (ρ : Rho) (i : Nat) (l : Loc) : ρ.with i l i = some l := by simp [Rho.with]

theorem newPtr_ok {ρ : Rho} {s : S} {w : World} (hg : Good ρ s w) {xs : List V} {v : Value} (hv : VRels ρ xs v.cells.toList) (e : Nat) :
    XV P (do pure (.pointer (some (← newVar e v)))) ρ s w (newCells s xs e fun i s' => .val (.ptr i 0) s') := by
  rw [newCells_eq]
  split
  · rename_i h1
    have hp := Post.cells hg hv h1 [] e
    simp only [List.append_nil, Array.toArray_toList] at hp
    refine ⟨_, _, .pointer (some ⟨w.heap.size, 0, none⟩), ?_, ?_, hp⟩
    · simp [newVar, newRow, newObj, Sem.run]
    · simp only [VRel]
      exact ⟨_, with_self _ _ _, by simp [Loc.addr]⟩
  · trivial

theorem zeroCellsV_ok {ρ : Rho} {t : Nat} (H : EnvOk P E) {xs : List V} (h : zeroCellsV E t = some xs) :
    ∃ i z, P.info? t = some i ∧ i.zero = some z ∧ VRels ρ xs z.cells.toList := by
  unfold zeroCellsV at h
  split at h
  · rename_i i hi
    split at h
    · rename_i z hz
      split at h
      · rename_i x hx
        simp only [Option.some.injEq] at h
        subst h
        exact ⟨i, z, info_ok H hi, hz, cellsV_ok ((ofValue_ok _).1 _ _ hx)⟩
      · cases h
    · cases h
  · cases h

theorem zeroV_ok {ρ : Rho} {t : Nat} (H : EnvOk P E) {x : V} (h : zeroV E t = some x) : ∃ z, (∀ w, (zeroValue t).run P w = .ok z w) ∧ VRel ρ x z := by
  unfold zeroV at h
  split at h
  · rename_i i hi
    split at h
    · rename_i z hz
      exact ⟨z, fun w => by simp [zeroValue, typeInfo, info_ok H hi, hz], (ofValue_ok _).1 _ _ h⟩
    · cases h
  · cases h

variable (H : EnvOk P E)
include H

theorem opAlloc_ok {ρ : Rho} {s : S} {w : World} (hg : Good ρ s w) (e : Nat) : XV P (Instr.alloc e true (.tuple #[])) ρ s w (opAlloc E s e) := by
  unfold opAlloc
  split
  · rename_i z hz
    by_cases h1 : allOne z = true
    · obtain ⟨i, z', hi, hz', hv⟩ := zeroCellsV_ok (ρ := ρ) H hz
      have := newPtr_ok (P := P) hg hv e
      rw [newCells_eq, if_pos h1] at this ⊢
      obtain ⟨ρ', w', v', h2, h3, h4⟩ := this
      refine ⟨ρ', w', v', ?_, h3, h4⟩
      rw [← h2]
      simp [Instr.alloc, zeroValue, typeInfo, hi, hz']
    · rw [newCells_eq, if_neg h1]; trivial
  · trivial

omit H in
theorem opBox_ok {ρ : Rho} {τ : T V} {a : Act} {s : S} {w : World} (hg : Good ρ s w) (ht : TRel ρ τ a.tmps) (e : Nat) (x : Operand) : XV P (Instr.box e (a.eval x)) ρ s w (opBox τ s e x) := by
  unfold opBox
  split
  · rename_i v hv
    by_cases h1 : allOne (cellsV v) = true
    · exact newPtr_ok hg (cellsV_ok (ev_ok ht hv)) e
    · rw [newCells_eq, if_neg h1]; trivial
  · trivial

/-! ## Writing -/
omit H in
theorem setCells_heap (b : Nat) (cur : Array Value) (e : Nat) (fr : Nat × Nat) : ∀ (vs : List Value) (o : Nat) (w : World), w.heap[b]? = some (.cells cur e fr) →
    (w.setCells b o vs).heap.size = w.heap.size ∧ (∀ k, k ≠ b → (w.setCells b o vs).heap[k]? = w.heap[k]?) ∧ (w.setCells b o vs).os = w.os ∧ (w.setCells b o vs).tape = w.tape ∧ (w.setCells b o vs).output = w.output ∧
    ∃ cur', (w.setCells b o vs).heap[b]? = some (.cells cur' e fr) ∧ cur'.size = cur.size ∧ ∀ j, cur'[j]? = if o ≤ j ∧ j < o + vs.length ∧ j < cur.size then vs[j - o]? else cur[j]? := by
  intro vs
  induction vs generalizing cur with
  | nil =>
    intro o w h
    refine ⟨rfl, fun _ _ => rfl, rfl, rfl, rfl, cur, h, rfl, fun j => ?_⟩
    rw [if_neg (by simp; omega)]
  | cons v r ih =>
    intro o w h
    have hs : (w.setCell ⟨b, o, none⟩ v).heap[b]? = some (.cells (cur.setIfInBounds o v) e fr) := by
      simp [World.setCell, Array.getElem?_modify, h]
    obtain ⟨h1, h2, h3, h4, h5, cur', h6, h7, h8⟩ := ih (cur.setIfInBounds o v) (o + 1) (w.setCell ⟨b, o, none⟩ v) hs
    refine ⟨by simpa [World.setCells] using h1, fun k hk => ?_, h3, h4, h5, cur', h6, by simpa using h7, fun j => ?_⟩
    · rw [World.setCells, h2 k hk]
      simp [World.setCell, Array.getElem?_modify, Ne.symm hk]
    · rw [h8 j]
      simp only [Array.size_setIfInBounds, List.length_cons]
      by_cases hj : j = o
      · subst hj
        rw [if_neg (by omega)]
        by_cases hb : j < cur.size
        · rw [if_pos (by omega)]; simp [hb]
        · rw [if_neg (by omega), Array.getElem?_eq_none (by simp; omega), Array.getElem?_eq_none (by omega)]
      · by_cases hb : o + 1 ≤ j ∧ j < o + 1 + r.length ∧ j < cur.size
        · rw [if_pos hb, if_pos (by omega)]
          obtain ⟨k, rfl⟩ : ∃ k, j = o + 1 + k := ⟨j - (o + 1), by omega⟩
          simp [show o + 1 + k - o = k + 1 from by omega, show o + 1 + k - (o + 1) = k from by omega]
        · rw [if_neg hb, if_neg (by omega)]
          simp [Ne.symm hj]

omit H in
/-- Cells written into a known row. -/
theorem write_ok {ρ : Rho} {s : S} {w : World} (hg : Good ρ s w) {i : Nat} {l : Loc} {n : Nat} {cs : T V} {e : Nat} (hc : s.heap.get i = some (.cells n cs e)) (hl : ρ i = some l)
    {xs : List V} {vs : List Value} (hv : VRels ρ xs vs) (h1 : allOne xs = true) {o : Nat} (hn : o + xs.length ≤ n) :
    (storeCells (l.addr o) vs).run P w = .ok () (w.setCells l.blk (l.base + o) vs) ∧
    Post ρ s w ρ ⟨s.heap.set i (some (.cells n (layT xs o cs) e)), s.next⟩ (w.setCells l.blk (l.base + o) vs) := by
  obtain ⟨l', hl', cur, fr, hb, hsz, hnt, hfr, hcr⟩ := hg.obj _ _ hc
  rw [hl] at hl'
  injection hl' with hl'
  subst hl'
  obtain ⟨g1, g2, g3, g4, g5, cur', g6, g7, g8⟩ := setCells_heap l.blk cur e fr vs (l.base + o) w hb
  have hlen := hv.length
  constructor
  · have := run_storeCells_cells (P := P) l.blk (l.base + o) vs 0 w (fun j hj => ?_) (fun j hj => ?_) (allOne_vals hv h1)
    · simpa [Loc.addr] using this
    · simp only [World.cell?, hb, Nat.add_zero]
      have : l.base + o + j < cur.size := by omega
      simp [this]
    · simp only [World.frozen?, hb, Nat.add_zero]
      obtain ⟨lo, hi⟩ := fr
      exact hfr (l.base + o + j)
  · refine Post.set hg hc hl _ g1 g2 ?_ g3 g4 g5
    refine ⟨cur', fr, g6, by omega, hnt, fun j => hfr j, fun j x hj => ?_⟩
    rw [get_layT] at hj
    by_cases hin : o ≤ j ∧ j < o + xs.length
    · rw [if_pos hin] at hj
      obtain ⟨v, h2, h3⟩ := hv.get hj
      refine ⟨allOne_iff.1 h1 x (List.mem_of_getElem? hj), v, ?_, h3⟩
      rw [g8, if_pos (by omega), show l.base + j - (l.base + o) = j - o from by omega]
      exact h2
    · rw [if_neg hin] at hj
      obtain ⟨h0, v, h2, h3⟩ := hcr j x hj
      refine ⟨h0, v, ?_, h3⟩
      rw [g8, if_neg (by omega)]
      exact h2

theorem doStore_ok {ρ : Rho} {s : S} {w : World} (hg : Good ρ s w) {a x : V} {a' x' : Value} (ha : VRel ρ a a') (hx : VRel ρ x x') (t : Nat) : XU P (Instr.storeAt t a' x') ρ s w (doStore E t a x s) := by
  unfold doStore
  split
  · rename_i i o
    split
    · rename_i n cs e hc
      simp only [VRel] at ha
      obtain ⟨l, hl, rfl⟩ := ha
      split
      · rename_i k hk
        obtain ⟨ti, hti, htk⟩ := size_ok H hk
        split
        · rename_i hq1 hq2 hq3
          have hlen : (cellsV x).length = k := Nat.eq_of_beq_eq_true hq1
          have hv := cellsV_ok hx
          have hle := Nat.le_of_ble_eq_true hq3
          obtain ⟨h1, h2⟩ := write_ok (P := P) hg hc hl hv hq2 (o := o) (by rw [hlen]; exact hle)
          rw [layCells_eq]
          simp only [S.set, T.put_eq]
          refine ⟨ρ, _, ?_, h2⟩
          have hsz : x'.cells.size = ti.size := by rw [htk, ← hlen, ← hv.length]; simp
          simp [Instr.storeAt, Instr.sureAddr, storeVar, run_sizeOf hti, hsz, h1]
        · trivial
      · trivial
    · trivial
  · trivial
end
end Go.X
