/- A part of the proof that a law answers true for every input: an executor of the model over an abstract heap, proved sound, or the use of it. -/
import Derived.Test.YthpfaaocjmedhaaGreatDoorXOps12
namespace Go.X
open Go
section
variable {P : Program} {E : Env}

/-! ## append, copy, clear -/
theorem lenX_ok {ρ : Rho} {x : V} {u : Value} (h : VRel ρ x u) {n : Nat} (hn : lenX x = some n) (w : World) : (Builtin.lenOf u).run P w = .ok n w := by
  unfold lenX at hn
  split at hn
  · simp only [Option.some.injEq] at hn; subst hn; simp only [VRel] at h; subst h; rfl
  · simp only [Option.some.injEq] at hn; subst hn; simp only [VRel] at h; obtain ⟨a, c, rfl⟩ := h; rfl
  · simp only [Option.some.injEq] at hn; subst hn; simp only [VRel] at h; obtain ⟨l, c, _, rfl, _⟩ := h; rfl
  · simp only [Option.some.injEq] at hn; subst hn; simp only [VRel] at h; obtain ⟨b, rfl, rfl⟩ := h; simp [Builtin.lenOf, bytes_length]
  · cases hn

theorem sliceCells_ok {ρ : Rho} {s : S} {w : World} (hg : Good ρ s w) {x : V} {u : Value} (h : VRel ρ x u) {es n : Nat} {xs : List V} (hs : sliceCells s es x n = some xs) :
    ∃ vs, (Builtin.firstCells es n u).run P w = .ok vs w ∧ VRels ρ xs vs.toList := by
  unfold sliceCells at hs
  split at hs
  · simp only [Option.some.injEq] at hs; subst hs; simp only [VRel] at h; subst h; exact ⟨#[], rfl, VRels.nil⟩
  · split at hs
    · simp only [Option.some.injEq] at hs; subst hs; simp only [VRel] at h; obtain ⟨a, c, rfl⟩ := h
      exact ⟨#[], by simp [Builtin.firstCells, loadCells, loadCellsFrom], VRels.nil⟩
    · cases hs
  · rename_i i o _ _
    split at hs
    · rename_i n' cs e hc
      simp only [VRel] at h
      obtain ⟨l, c, hl, rfl, _⟩ := h
      obtain ⟨l', hl', hr⟩ := hg.obj _ _ hc
      rw [hl] at hl'
      injection hl' with hl'
      subst hl'
      obtain ⟨vs, h1, h2⟩ := run_loadCells_rel (P := P) hr hs
      exact ⟨vs, h1, h2⟩
    · cases hs
  · simp only [Option.some.injEq] at hs
    subst hs
    simp only [VRel] at h
    obtain ⟨b, rfl, rfl⟩ := h
    refine ⟨(b.extract 0 n).data.map fun b => .int .u8 b.toNat, rfl, ?_⟩
    have he : (b.extract 0 n).data.toList = b.data.toList.take n := by simp
    simp only [Array.toList_map, he]
    refine VRels.of_get (by simp [bytesOf]) fun i x v h1 h2 => ?_
    simp only [bytesOf, List.map_take, List.map_map] at h1 h2
    rw [List.getElem?_take] at h1 h2
    split at h1
    · rename_i hi
      rw [if_pos hi] at h2
      rw [List.getElem?_map] at h1 h2
      cases hb : b.data.toList[i]? with
      | none => rw [hb] at h1; cases h1
      | some c =>
        rw [hb] at h1 h2
        simp only [Option.map_some, Option.some.injEq, Function.comp] at h1 h2
        rw [← h1, ← h2]
        simp only [VRel]
        rfl
    · cases h1
  · cases hs

theorem zeroCells_size (z : Array Value) (n : Nat) : (Builtin.zeroCells z n).size = n * z.size := by simp [Builtin.zeroCells]

/-- A row laid by an append. -/
theorem run_append_fresh {tys : Array Nat} {t t2 e ty : Nat} {d2 : TypeDesc} (h0 : tys[0]? = some t) (h1 : tys[1]? = some t2) (ht : P.underlying t = some (.slice e)) (ht2 : P.underlying t2 = some d2) (hd2 : isRow d2 = true)
    {i : TypeInfo} (hi : P.info? e = some i) {z : Value} (hz : i.zero = some z) {base : Option Addr} {sLen sCap m : Nat} {x : Value} {w : World} {old new : Array Value}
    (hlen : (Builtin.lenOf x).run P w = .ok m w) (hold : (Builtin.firstCells i.size sLen (.slice base sLen sCap)).run P w.drew = .ok old w.drew) (hnew : (Builtin.firstCells i.size m x).run P w.drew = .ok new w.drew)
    (hgt : sCap < sLen + m) (h63 : sLen + m ≤ 1073741824) (hfit : (sLen + m) * i.bytes ≤ 1073741824) :
    (Builtin.append_ tys ty #[.slice base sLen sCap, x]).run P w =
      .ok (.slice (some ⟨w.heap.size, 0, none⟩) (sLen + m) (grownCap w (sLen + m) sCap e)) (w.drew.alloc (.cells (old ++ new ++ Builtin.zeroCells z.cells (grownCap w (sLen + m) sCap e - (sLen + m))) e)) := by
  have hn : ¬ (sLen + m ≤ sCap) := by omega
  have h63' : ¬ (9223372036854775807 < ((sLen : Int) + (m : Int))) := by omega
  have hf := growslice_fits (need := sLen + m) (old := sCap) (bytes := i.bytes) hgt (by omega)
  have h48' : ¬ (281474976710656 < Builtin.nextslicecap (sLen + m) sCap * i.bytes) := by omega
  cases d2 <;> simp only [isRow, Bool.false_eq_true] at hd2 <;>
    simp [Builtin.append_, h0, h1, run_underlying ht, run_underlying ht2, sizeOf, typeInfo, zeroValue, hi, hz, hlen, hn, h63', h48', Question.forced, hold, hnew, newRow, grownCap, newObj, Sem.run]

/-- An append in place. -/
theorem run_append_inplace {tys : Array Nat} {t t2 e ty : Nat} {d2 : TypeDesc} (h0 : tys[0]? = some t) (h1 : tys[1]? = some t2) (ht : P.underlying t = some (.slice e)) (ht2 : P.underlying t2 = some d2) (hd2 : isRow d2 = true)
    {i : TypeInfo} (hi : P.info? e = some i) {a : Addr} {sLen sCap m : Nat} {x : Value} {w w' : World} {new : Array Value}
    (hlen : (Builtin.lenOf x).run P w = .ok m w) (hnew : (Builtin.firstCells i.size m x).run P w = .ok new w) (hle : sLen + m ≤ sCap) (hst : (storeCells (a.add (sLen * i.size)) new.toList).run P w = .ok () w') :
    (Builtin.append_ tys ty #[.slice (some a) sLen sCap, x]).run P w = .ok (.slice (some a) (sLen + m) sCap) w' := by
  cases d2 <;> simp only [isRow, Bool.false_eq_true] at hd2 <;>
    simp [Builtin.append_, h0, h1, run_underlying ht, run_underlying ht2, sizeOf, typeInfo, hi, hlen, hle, hnew, hst]

theorem grownCap_ge' (w : World) (need old e : Nat) : need ≤ grownCap w need old e := by
  simp [grownCap, Question.cut]

theorem appendNew_ok (H : EnvOk2 P E) {ρ : Rho} {s : S} {w : World} (hg : Good ρ s w) {e es n : Nat} {cells : List V} {vs : List Value} (hv : VRels ρ cells vs) (hn : cells.length = n * es) {x : Sem Value}
    (hx : ∀ i z, P.info? e = some i → i.zero = some z → z.cells.size = es → n ≤ 1073741824 → n * i.bytes ≤ 1073741824 → 0 < n →
      ∃ cap, n ≤ cap ∧ x.run P w = .ok (.slice (some ⟨w.heap.size, 0, none⟩) n cap) (w.drew.alloc (.cells (vs.toArray ++ Builtin.zeroCells z.cells (cap - n)) e))) :
    XV P x ρ s w (appendNew E e es n cells s) := by
  unfold appendNew
  split
  · rename_i i l hi hl
    have hi' := info_ok H.toEnvOk hi
    split
    · rename_i h1 h2 h3
      rcases zeroRow_ok (ρ := ρ) H.toEnvOk hl with ⟨h0, _⟩ | ⟨_, i', z, hi'', hz, hzs, _⟩
      · omega
      · rw [hi'] at hi''
        injection hi'' with hi''
        subst hi''
        obtain ⟨cap, hcap, hrun⟩ := hx i z hi' hz hzs (Nat.le_of_ble_eq_true h2) (Nat.le_of_ble_eq_true h1) (by simpa [Nat.blt_eq] using h3)
        rw [newCells_eq]
        split
        · rename_i hone
          have hgd := hg.drawn (w.drawn + 1)
          have hp := Post.cells hgd hv hone (Builtin.zeroCells z.cells (cap - n)).toList e
          have heq : (vs ++ (Builtin.zeroCells z.cells (cap - n)).toList).toArray = vs.toArray ++ Builtin.zeroCells z.cells (cap - n) := by
            apply Array.toList_inj.1; simp
          rw [heq] at hp
          refine ⟨_, _, _, hrun, ?_, (Post.drawn hg (w.drawn + 1)).trans hp⟩
          simp only [VRel]
          refine ⟨_, cap, with_self _ _ _, by simp [Loc.addr], hcap, ?_⟩
          show 0 + cap * es ≤ vs.length + (Builtin.zeroCells z.cells (cap - n)).toList.length
          have hzl : (Builtin.zeroCells z.cells (cap - n)).toList.length = (cap - n) * es := by rw [Array.length_toList, zeroCells_size, hzs]
          rw [hzl, hv.length, hn, ← Nat.add_mul]
          have : n + (cap - n) = cap := by omega
          rw [this]; omega
        · trivial
    · trivial
  · trivial

theorem VRels.nil_of_length {ρ : Rho} {l : List V} {vs : List Value} (h : VRels ρ l vs) (h0 : l.length = 0) : vs = [] := List.eq_nil_of_length_eq_zero (by rw [h.length, h0])

theorem appendTo_ok (H : EnvOk2 P E) {ρ : Rho} {s : S} {w : World} (hg : Good ρ s w) {x y : V} {x' y' : Value} (hx : VRel ρ x x') (hy : VRel ρ y y') {tys : Array Nat} {t t2 e ty es m : Nat} {d2 : TypeDesc} (h0 : tys[0]? = some t) (h1 : tys[1]? = some t2)
    (ht : P.underlying t = some (.slice e)) (ht2 : P.underlying t2 = some d2) (hd2 : isRow d2 = true) {i : TypeInfo} (hi : P.info? e = some i) (hes : i.size = es) (hm : lenX y = some m) {new : List V} (hnew : sliceCells s es y m = some new) (hnl : new.length = m * es) :
    XV P (Builtin.append_ tys ty #[x', y']) ρ s w (appendTo E e es m x new s) := by
  subst hes
  have hlen := lenX_ok (P := P) hy hm w
  obtain ⟨vs, hv1, hv2⟩ := sliceCells_ok (P := P) hg hy hnew
  obtain ⟨vsd, hvd1, hvd2⟩ := sliceCells_ok (P := P) (hg.drawn (w.drawn + 1)) hy hnew
  unfold appendTo
  split
  · simp only [VRel] at hx
    subst hx
    split
    · refine XV_pure hg ⟨.slice none 0 0, ?_, by simp only [VRel]⟩
      cases d2 <;> simp only [isRow, Bool.false_eq_true] at hd2 <;>
        simp [Builtin.append_, h0, h1, run_underlying ht, run_underlying ht2, sizeOf, typeInfo, hi, hlen, hv1]
    · rename_i m
      refine appendNew_ok H hg hvd2 hnl fun i' z hi' hz hzs hn1 hn2 hn3 => ?_
      rw [hi] at hi'
      injection hi' with hi'
      subst hi'
      have hr := run_append_fresh (ty := ty) h0 h1 ht ht2 hd2 hi hz (base := none) (sLen := 0) (sCap := 0) hlen (old := #[]) rfl hvd1 (by omega) (by omega) (by simpa using hn2)
      refine ⟨_, grownCap_ge' w (m + 1) 0 e, ?_⟩
      simpa using hr
  · rename_i j o n c
    have hx0 := hx
    simp only [VRel] at hx
    obtain ⟨l, cap, hl, rfl, hcap⟩ := hx
    split
    · split
      · rename_i hle
        have hnc : n ≤ cap := by
          have := Nat.le_of_ble_eq_true hle
          cases c with
          | exact k => have hk : cap = k := hcap; simp only [capLow] at this; omega
          | room r k => have hk := hcap.1; simp only [capLow] at this; omega
        have hv0 : vs.toList = [] := hv2.nil_of_length (by rw [hnl]; simp)
        refine XV_pure hg ⟨_, run_append_inplace h0 h1 ht ht2 hd2 hi hlen hv1 (by omega) (w' := w) (by rw [hv0]; rfl), ?_⟩
        simp only [VRel]
        exact ⟨l, cap, hl, by simp, hcap⟩
      · trivial
    · rename_i m
      unfold appendAt
      split
      · rename_i tot cs el hc
        split
        · rename_i hle
          have hnc : n + (m + 1) ≤ cap := by
            have := Nat.le_of_ble_eq_true hle
            have this' : n + (m + 1) ≤ capLow c := this
            cases c with
            | exact k => have hk : cap = k := hcap; simp only [capLow] at this'; omega
            | room r k => have hk := hcap.1; simp only [capLow] at this'; omega
          unfold appendIn
          split
          · rename_i hb1 hb2
            have hb1' : o + n * i.size + new.length ≤ tot := Nat.le_of_ble_eq_true hb1
            obtain ⟨g1, g2⟩ := write_ok (P := P) hg hc hl hv2 hb2 (o := o + n * i.size) hb1'
            rw [layCells_eq]
            simp only [S.set, T.put_eq, forceN_eq]
            refine ⟨ρ, _, _, run_append_inplace h0 h1 ht ht2 hd2 hi hlen hv1 hnc (by rw [Loc.addr_add]; exact g1), ?_, g2⟩
            simp only [VRel]
            exact ⟨l, cap, hl, rfl, hcap⟩
          · trivial
        · rename_i hnle
          split
          · trivial
          · rename_i old hold
            have hol : old.length = n * i.size := readCells_length hold
            have hscd : sliceCells s i.size (.slice j o n c) n = some old := by simp only [sliceCells, hc]; exact hold
            obtain ⟨ovs, ho1, ho2⟩ := sliceCells_ok (P := P) (hg.drawn (w.drawn + 1)) hx0 hscd
            have hall : (old ++ new).length = (n + (m + 1)) * i.size := by rw [List.length_append, hol, hnl, Nat.add_mul]
            have fresh : cap < n + (m + 1) → ∀ s1, Good ρ s1 w → XV P (Builtin.append_ tys ty #[.slice (some (l.addr o)) n cap, y']) ρ s1 w (appendNew E e i.size (n + (m + 1)) (old ++ new) s1) := fun hgt s1 hg1 => by
              refine appendNew_ok H hg1 (VRels.append ho2 hvd2) hall fun i' z hi' hz hzs hn1 hn2 hn3 => ?_
              rw [hi] at hi'
              injection hi' with hi'
              subst hi'
              have hr := run_append_fresh (ty := ty) h0 h1 ht ht2 hd2 hi hz (base := some (l.addr o)) (sLen := n) (sCap := cap) hlen ho1 hvd1 hgt hn1 hn2
              refine ⟨_, grownCap_ge' w (n + (m + 1)) cap e, ?_⟩
              rw [hr]
              congr 3
              apply Array.toList_inj.1
              simp
            split
            · rename_i k
              have hk : cap = k := hcap
              have hgt : cap < n + (m + 1) := by
                have h2 : ¬ (n + (m + 1) ≤ k) := fun hle => by
                  have : Nat.ble (Nat.add n (m + 1)) (capLow (.exact k)) = true := Nat.ble_eq_true_of_le hle
                  rw [this] at hnle
                  cases hnle
                omega
              rw [forceN_eq]
              exact fresh hgt s hg
            · rename_i r k
              split
              · rename_i hr1 hr2 hr3
                have hre : r = i.size := Nat.eq_of_beq_eq_true hr1
                have hel : el = e := Nat.eq_of_beq_eq_true hr2
                subst hel
                simp only [S.kill, T.put_eq, forceN_eq]
                have hkill := Post.kill hg j
                by_cases hroom : n + (m + 1) ≤ cap
                · -- in place, though that is not known: the row goes on under a new number
                  obtain ⟨l', hl', cur, fr, hb, hsz, hnt, hfr, hcr⟩ := hg.obj _ _ hc
                  rw [hl] at hl'
                  injection hl' with hl'
                  subst hl'
                  have hcap2 := hcap.2
                  rw [hre] at hcap2
                  have hmul : (n + (m + 1)) * i.size ≤ cap * i.size := Nat.mul_le_mul_right _ hroom
                  have hmul2 : (n + (m + 1)) * i.size = n * i.size + (m + 1) * i.size := Nat.add_mul _ _ _
                  obtain ⟨g1, g2, g3, g4, g5, cur', g6, g7, g8⟩ := setCells_heap l.blk cur el fr vs.toList (l.base + (o + n * i.size)) w hb
                  have hvl : vs.toList.length = (m + 1) * i.size := by rw [hv2.length, hnl]
                  unfold appendNew
                  split
                  · split
                    · rw [newCells_eq]
                      split
                      · rename_i hone
                        have hnone : allOne new = true := allOne_iff.2 fun q hq => allOne_iff.1 hone q (by simp [hq])
                        have hst : (storeCells (l.addr (o + n * i.size)) vs.toList).run P w = .ok () (w.setCells l.blk (l.base + (o + n * i.size)) vs.toList) := by
                          have := run_storeCells_cells (P := P) l.blk (l.base + (o + n * i.size)) vs.toList 0 w (fun q hq => by
                            simp only [World.cell?, hb, Nat.add_zero]
                            have : l.base + (o + n * i.size) + q < cur.size := by omega
                            simp [this]) (fun q hq => by
                            simp only [World.frozen?, hb, Nat.add_zero]
                            obtain ⟨lo, hi'⟩ := fr
                            exact hfr _) (allOne_vals hv2 hnone)
                          simpa [Loc.addr] using this
                        have hp := Post.rename hg hc hl ⟨l.blk, l.base + o, l.tot - o⟩ rfl (.cells (old ++ new).length (layT (old ++ new) 0 .leaf) el) g1 g2 (by
                          have hle : ρ.le (ρ.with s.next ⟨l.blk, l.base + o, l.tot - o⟩) := Rho.le_with _ (hg.fresh _ (Nat.le_refl _))
                          refine ⟨cur', fr, g6, ?_, ?_, fun q => hfr q, fun q x hq => ?_⟩
                          · show cur'.size = l.base + o + (l.tot - o); omega
                          · show (old ++ new).length ≤ l.tot - o; omega
                          · rw [get_layT] at hq
                            by_cases hin : 0 ≤ q ∧ q < 0 + (old ++ new).length
                            · rw [if_pos hin] at hq
                              simp only [Nat.sub_zero] at hq
                              refine ⟨allOne_iff.1 hone x (List.mem_of_getElem? hq), ?_⟩
                              by_cases hq1 : q < old.length
                              · rw [List.getElem?_append_left hq1] at hq
                                obtain ⟨_, v, k1, k2⟩ := hcr (o + q) x (readCells_get hold q x hq)
                                refine ⟨v, ?_, k2.mono hle⟩
                                show cur'[l.base + o + q]? = some v
                                rw [g8, if_neg (by omega), Nat.add_assoc]
                                exact k1
                              · rw [List.getElem?_append_right (by omega)] at hq
                                obtain ⟨v, k1, k2⟩ := hv2.get hq
                                refine ⟨v, ?_, k2.mono hle⟩
                                show cur'[l.base + o + q]? = some v
                                rw [g8, if_pos (by omega)]
                                rw [← k1]
                                congr 1
                                omega
                            · rw [if_neg hin, T.get_leaf] at hq; cases hq) g3 g4 g5
                        refine ⟨_, _, _, run_append_inplace h0 h1 ht ht2 hd2 hi hlen hv1 hroom (by rw [Loc.addr_add]; exact hst), ?_, hp⟩
                        simp only [VRel]
                        refine ⟨⟨l.blk, l.base + o, l.tot - o⟩, cap, with_self _ _ _, by simp [Loc.addr], hroom, ?_⟩
                        show 0 + cap * i.size ≤ l.tot - o
                        omega
                      · trivial
                    · trivial
                  · trivial
                · exact (by
                    have := fresh (by omega) ⟨s.heap.set j none, s.next⟩ hkill.good
                    cases hq : appendNew E el i.size (n + (m + 1)) (old ++ new) ⟨s.heap.set j none, s.next⟩ with
                    | val v s' =>
                      rw [hq] at this
                      obtain ⟨ρ', w', v', k1, k2, k3⟩ := this
                      exact ⟨ρ', w', v', k1, k2, hkill.trans k3⟩
                    | no _ => trivial
                    | skip _ => rw [hq] at this; exact this.elim
                    | enter _ _ _ => rw [hq] at this; exact this.elim
                    | round _ _ _ => rw [hq] at this; exact this.elim)
              · trivial
      · trivial
  · trivial
end
end Go.X
