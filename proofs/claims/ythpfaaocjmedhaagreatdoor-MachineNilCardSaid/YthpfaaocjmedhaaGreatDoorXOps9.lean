/- A part of the proof that a law answers true for every input: an executor of the model over an abstract heap, proved sound, or the use of it. -/
import Derived.Test.YthpfaaocjmedhaaGreatDoorXOps8
namespace Go.X
open Go
section
variable {P : Program} {E : Env}

theorem EntRel.set {ρ : Rho} : ∀ {l : List (V × V × Nat)} {es : List MapEntry}, EntRel ρ l es → ∀ (p : Nat) {k v : V} {e : MapEntry}, VRel ρ k e.key → VRel ρ v e.val → EntRel ρ (l.set p (k, v, e.born)) (es.set p e)
  | [], _, h, p, _, _, _, _, _ => by simp only [EntRel] at h; subst h; simp [EntRel]
  | (k0, v0, b0) :: l, _, ⟨e0, rest, h1, h2, h3, h4, h5⟩, p, k, v, e, hk, hv => by
    subst h1
    cases p with
    | zero => exact ⟨e, rest, rfl, hk, hv, rfl, h5⟩
    | succ p => exact ⟨e0, rest.set p e, rfl, h2, h3, h4, EntRel.set h5 p hk hv⟩

theorem EntRel.snoc {ρ : Rho} : ∀ {l : List (V × V × Nat)} {es : List MapEntry}, EntRel ρ l es → ∀ {k v : V} {e : MapEntry}, VRel ρ k e.key → VRel ρ v e.val → EntRel ρ (l ++ [(k, v, e.born)]) (es ++ [e])
  | [], _, h, _, _, e, hk, hv => by simp only [EntRel] at h; subst h; exact ⟨e, [], rfl, hk, hv, rfl, rfl⟩
  | (k0, v0, b0) :: l, _, ⟨e0, rest, h1, h2, h3, h4, h5⟩, k, v, e, hk, hv => by
    subst h1
    exact ⟨e0, rest ++ [e], rfl, h2, h3, h4, EntRel.snoc h5 hk hv⟩

theorem EntRel.length {ρ : Rho} : ∀ {l : List (V × V × Nat)} {es : List MapEntry}, EntRel ρ l es → es.length = l.length
  | [], _, h => by simp only [EntRel] at h; subst h; rfl
  | (_, _, _) :: l, _, ⟨_, _, h1, _, _, _, h5⟩ => by subst h1; simp [EntRel.length h5]

theorem EntRel.eraseAt {ρ : Rho} : ∀ {l : List (V × V × Nat)} {es : List MapEntry}, EntRel ρ l es → ∀ (p : Nat), EntRel ρ (dropAt l p) (es.eraseIdx p)
  | [], _, h, p => by simp only [EntRel] at h; subst h; simp [EntRel, dropAt]
  | (k0, v0, b0) :: l, _, ⟨e0, rest, h1, h2, h3, h4, h5⟩, p => by
    subst h1
    cases p with
    | zero => exact h5
    | succ p => exact ⟨e0, rest.eraseIdx p, rfl, h2, h3, h4, EntRel.eraseAt h5 p⟩

theorem modify_toList {es : Array MapEntry} {p : Nat} {e : MapEntry} (h : es.toList[p]? = some e) (f : MapEntry → MapEntry) : (es.modify p f).toList = es.toList.set p (f e) := by
  apply List.ext_getElem?
  intro j
  have h' : es[p]? = some e := by simpa using h
  rw [Array.getElem?_toList, Array.getElem?_modify, List.getElem?_set, Array.getElem?_toList]
  by_cases hj : p = j
  · subst hj
    have hlt : p < es.toList.length := (List.getElem?_eq_some_iff.1 h).1
    simp only [if_true, h', Option.map_some, hlt]
  · simp [hj]

theorem run_setObj {w : World} {r : Nat} {o o' : Go.Obj} (h : w.heap[r]? = some o) (hc : ∀ c e f, o ≠ .cells c e f) : (setObj r o').run P w = .ok () { w with heap := w.heap.setIfInBounds r o' } := by
  cases o <;> first | (exact absurd rfl (hc _ _ _)) | (simp [setObj, Sem.run, h])

theorem setObj_heap {w : World} {r : Nat} {o o' : Go.Obj} (h : w.heap[r]? = some o) :
    (w.heap.setIfInBounds r o').size = w.heap.size ∧ (∀ b, b ≠ r → (w.heap.setIfInBounds r o')[b]? = w.heap[b]?) ∧ (w.heap.setIfInBounds r o')[r]? = some o' := by
  have hlt : r < w.heap.size := (Array.getElem?_eq_some_iff.1 h).1
  refine ⟨by simp, fun b hb => ?_, by simp [hlt]⟩
  rw [Array.getElem?_setIfInBounds, if_neg (Ne.symm hb)]

/-- An object of the maps' kind, set anew. -/
theorem Post.setObj {ρ : Rho} {s : S} {w : World} (hg : Good ρ s w) {i : Nat} {o : Obj} {l : Loc} (hi : s.heap.get i = some o) (hl : ρ i = some l) {old new : Go.Obj} (ho : w.heap[l.blk]? = some old) (x : Obj)
    (hx : ∀ w' : World, w'.heap[l.blk]? = some new → ORel ρ l w' x) : Post ρ s w ρ ⟨s.heap.set i (some x), s.next⟩ { w with heap := w.heap.setIfInBounds l.blk new } := by
  obtain ⟨h1, h2, h3⟩ := setObj_heap (w := w) (o' := new) ho
  exact Post.set hg hi hl x h1 h2 (hx _ h3) rfl rfl rfl

theorem map_at {ρ : Rho} {s : S} {w : World} (hg : Good ρ s w) {i : Nat} {l : Loc} {es : List (V × V × Nat)} {clock : Nat} (hc : s.heap.get i = some (.map es clock)) (hl : ρ i = some l) :
    ∃ es', w.heap[l.blk]? = some (.map es' clock) ∧ EntRel ρ es es'.toList ∧ (getObj l.blk).run P w = .ok (.map es' clock) w := by
  obtain ⟨l', hl', es', hb, her⟩ := hg.obj _ _ hc
  rw [hl] at hl'
  injection hl' with hl'
  subst hl'
  exact ⟨es', hb, her, by simp [getObj, Sem.run, hb]⟩

theorem doMapUpdate_ok (H : EnvOk2 P E) {ρ : Rho} {s : S} {w : World} (hg : Good ρ s w) {m k v : V} {m' k' v' : Value} (hm : VRel ρ m m') (hk : VRel ρ k k') (hv : VRel ρ v v') (t : Nat) :
    XU P (Instr.mapUpdate t m' k' v') ρ s w (doMapUpdate E t m k v s) := by
  unfold doMapUpdate
  split
  · rename_i kt et i hu
    have hu' := und_ok H.toEnvOk hu
    simp only [VRel] at hm
    obtain ⟨l, hl, rfl⟩ := hm
    split
    · rename_i km es clock hkm hc
      obtain ⟨hkm', hck, hst⟩ := keyOk_ok H hk hkm
      obtain ⟨es', hb, her, hobj⟩ := map_at (P := P) hg hc hl
      split
      · rename_i p v0 b hf
        obtain ⟨r', h1, h2⟩ := findKey_ok H hkm' hk w her hf
        obtain ⟨e, j, h3, h4, h5, h6, h7, h8⟩ := h2
        have hpj : p = j := by omega
        subst hpj
        rw [forceS_eq]
        simp only [S.set, T.put_eq]
        have hpos : es'[p]? = some e := by simpa using h4
        refine ⟨ρ, _, ?_, Post.setObj hg hc hl hb _ (fun w' hw' => ⟨es'.modify p fun e => { e with key := k', val := v' }, hw', ?_⟩)⟩
        · have hset := run_setObj (P := P) (o' := .map (es'.modify p fun e => { e with key := k', val := v' }) clock) hb (by simp)
          simp [Instr.mapUpdate, run_underlying hu', hobj, hck, h1, h5, hpos, h8, hst, hset]
        · rw [modify_toList h4, listPut_eq]
          have := EntRel.set (ρ := ρ) her p (k := k) (v := v) (e := { e with key := k', val := v' }) hk hv
          rw [← h7]
          exact this
      · rename_i hf
        obtain ⟨r', h1, h2⟩ := findKey_ok H hkm' hk w her hf
        simp only [FR] at h2
        subst h2
        rw [forceS_eq, forceN_eq]
        simp only [S.set, T.put_eq]
        refine ⟨ρ, _, ?_, Post.setObj hg hc hl hb _ (fun w' hw' => ⟨es'.push { key := k', val := v', born := clock }, hw', ?_⟩)⟩
        · have hset := run_setObj (P := P) (o' := .map (es'.push { key := k', val := v', born := clock }) (clock + 1)) hb (by simp)
          simp [Instr.mapUpdate, run_underlying hu', hobj, hck, h1, hset]
        · rw [Array.toList_push]
          exact EntRel.snoc her (e := { key := k', val := v', born := clock }) hk hv
      · trivial
    · trivial
  · trivial

theorem doMapEntry_ok (H : EnvOk2 P E) {ρ : Rho} {s : S} {w : World} (hg : Good ρ s w) {m k : V} {m' k' : Value} (hm : VRel ρ m m') (hk : VRel ρ k k') (t : Nat) :
    XV P (Instr.mapEntry t m' k') ρ s w (doMapEntry E t m k s) := by
  unfold doMapEntry
  split
  · rename_i kt et i hu
    have hu' := und_ok H.toEnvOk hu
    simp only [VRel] at hm
    obtain ⟨l, hl, rfl⟩ := hm
    split
    · rename_i km es clock hkm hc
      obtain ⟨hkm', hck, hst⟩ := keyOk_ok H hk hkm
      obtain ⟨es', hb, her, hobj⟩ := map_at (P := P) hg hc hl
      split
      · rename_i p v0 b hf
        obtain ⟨r', h1, h2⟩ := findKey_ok H hkm' hk w her hf
        obtain ⟨e, j, h3, h4, h5, h6, h7, h8⟩ := h2
        have hpj : p = j := by omega
        subst hpj
        rw [forceS_eq]
        simp only [S.set, T.put_eq]
        have hpos : es'[p]? = some e := by simpa using h4
        refine ⟨ρ, _, .tuple #[e.val, .int .i64 (b : Int)], ?_, ?_, Post.setObj hg hc hl hb _ (fun w' hw' => ⟨es'.modify p fun e => { e with key := k' }, hw', ?_⟩)⟩
        · have hset := run_setObj (P := P) (o' := .map (es'.modify p fun e => { e with key := k' }) clock) hb (by simp)
          simp [Instr.mapEntry, run_underlying hu', hobj, hck, h1, h5, hpos, h8, hst, hset, goInt, h7]
        · simp only [VRel]
          exact ⟨_, rfl, VRels.cons h6 (VRels.cons (by simp only [VRel]; rfl) VRels.nil)⟩
        · rw [modify_toList h4, listPut_eq]
          have := EntRel.set (ρ := ρ) her p (k := k) (v := v0) (e := { e with key := k' }) hk h6
          rw [← h7]
          exact this
      · rename_i hf
        obtain ⟨r', h1, h2⟩ := findKey_ok H hkm' hk w her hf
        simp only [FR] at h2
        subst h2
        split
        · rename_i z hz
          obtain ⟨z', hz', hzv⟩ := zeroV_ok (ρ := ρ) H.toEnvOk hz
          rw [forceS_eq, forceN_eq]
          simp only [S.set, T.put_eq]
          refine ⟨ρ, _, .tuple #[z', .int .i64 (clock : Int)], ?_, ?_, Post.setObj hg hc hl hb _ (fun w' hw' => ⟨es'.push { key := k', val := z', born := clock }, hw', ?_⟩)⟩
          · have hset := run_setObj (P := P) (o' := .map (es'.push { key := k', val := z', born := clock }) (clock + 1)) hb (by simp)
            simp [Instr.mapEntry, run_underlying hu', hobj, hck, h1, hset, hz', goInt]
          · simp only [VRel]
            exact ⟨_, rfl, VRels.cons hzv (VRels.cons (by simp only [VRel]; rfl) VRels.nil)⟩
          · rw [Array.toList_push]
            exact EntRel.snoc her (e := { key := k', val := z', born := clock }) hk hzv
        · trivial
      · trivial
    · trivial
  · trivial

theorem bornAt_ok {ρ : Rho} {b : Nat} : ∀ {l : List (V × V × Nat)} {es : List MapEntry}, EntRel ρ l es → ∀ {i p : Nat} {k : V}, bornAt b l i = some (p, k) →
    ∃ e j, p = i + j ∧ es[j]? = some e ∧ VRel ρ k e.key ∧ e.born = b ∧ es.findIdx? (fun e => (e.born : Int) == (b : Int)) = some j
  | [], _, _, i, p, k, h => by simp [bornAt] at h
  | (k0, v0, b0) :: l, _, ⟨e0, rest, h1, h2, h3, h4, h5⟩, i, p, k, h => by
    subst h1
    unfold bornAt at h
    split at h
    · rename_i hb
      have := Nat.eq_of_beq_eq_true hb
      simp only [Option.some.injEq, Prod.mk.injEq] at h
      obtain ⟨rfl, rfl⟩ := h
      refine ⟨e0, 0, by omega, by simp, h2, by omega, ?_⟩
      rw [List.findIdx?_cons, h4, this]
      simp
    · rename_i hb
      have hne := Nat.ne_of_beq_eq_false hb
      obtain ⟨e, j, g1, g2, g3, g4, g5⟩ := bornAt_ok h5 h
      refine ⟨e, j + 1, by omega, by simpa using g2, g3, g4, ?_⟩
      rw [List.findIdx?_cons, h4]
      have : ((b0 : Int) == (b : Int)) = false := by
        rw [beq_eq_false_iff_ne]; omega
      simp [this, g5]

theorem doEntryStore_ok {ρ : Rho} {s : S} {w : World} (hg : Good ρ s w) {m st v : V} {m' st' v' : Value} (hm : VRel ρ m m') (hst : VRel ρ st st') (hv : VRel ρ v v') (t : Nat) :
    XU P (Instr.entryStore t m' st' v') ρ s w (doEntryStore m st v s) := by
  unfold doEntryStore
  split
  · rename_i i b hb
    obtain ⟨kd, rfl⟩ := idxN_ok hst hb
    simp only [VRel] at hm
    obtain ⟨l, hl, rfl⟩ := hm
    split
    · rename_i es clock hc
      obtain ⟨es', hbk, her, hobj⟩ := map_at (P := P) hg hc hl
      split
      · rename_i p k hp
        obtain ⟨e, j, g1, g2, g3, g4, g5⟩ := bornAt_ok her hp
        have hpj : p = j := by omega
        subst hpj
        rw [forceS_eq]
        simp only [S.set, T.put_eq]
        refine ⟨ρ, _, ?_, Post.setObj hg hc hl hbk _ (fun w' hw' => ⟨es'.modify p fun e => { e with val := v' }, hw', ?_⟩)⟩
        · have hset := run_setObj (P := P) (o' := .map (es'.modify p fun e => { e with val := v' }) clock) hbk (by simp)
          have hfi : es'.findIdx? (fun e => (e.born : Int) == (b : Int)) = some p := by
            rw [← Array.toArray_toList (xs := es'), List.findIdx?_toArray]; exact g5
          simp [Instr.entryStore, hobj, asInt, asIntOf, hfi, hset]
        · rw [modify_toList g2, listPut_eq]
          have := EntRel.set (ρ := ρ) her p (k := k) (v := v) (e := { e with val := v' }) g3 hv
          rw [← g4]
          exact this
      · trivial
    · trivial
  · trivial

theorem doDelete_ok (H : EnvOk2 P E) {ρ : Rho} {s : S} {w : World} (hg : Good ρ s w) {m k : V} {m' k' : Value} (hm : VRel ρ m m') (hk : VRel ρ k k') (t : Nat) (tys : Array Nat) (ty : Nat) (ht : tys[0]? = some t) :
    XV P (Builtin.delete_ tys ty #[m', k']) ρ s w (doDelete E t m k s) := by
  unfold doDelete
  split
  · rename_i kt et hu
    have hu' := und_ok H.toEnvOk hu
    split
    · trivial
    · rename_i km hkm
      obtain ⟨hkm', hck, hst⟩ := keyOk_ok H hk hkm
      split
      · simp only [VRel] at hm
        subst hm
        exact XV_pure hg ⟨.tuple #[], by simp [Builtin.delete_, ht, run_underlying hu', hck], by simp only [VRel]; exact ⟨_, rfl, VRels.nil⟩⟩
      · rename_i i
        simp only [VRel] at hm
        obtain ⟨l, hl, rfl⟩ := hm
        split
        · rename_i es clock hc
          obtain ⟨es', hb, her, hobj⟩ := map_at (P := P) hg hc hl
          split
          · rename_i p v0 b hf
            obtain ⟨r', h1, h2⟩ := findKey_ok H hkm' hk w her hf
            obtain ⟨e, j, h3, h4, h5, h6, h7, h8⟩ := h2
            have hpj : p = j := by omega
            subst hpj
            rw [forceS_eq]
            simp only [S.set, T.put_eq]
            refine ⟨ρ, _, .tuple #[], ?_, by simp only [VRel]; exact ⟨_, rfl, VRels.nil⟩, Post.setObj hg hc hl hb _ (fun w' hw' => ⟨es'.eraseIdxIfInBounds p, hw', ?_⟩)⟩
            · have hset := run_setObj (P := P) (o' := .map (es'.eraseIdxIfInBounds p) clock) hb (by simp)
              simp [Builtin.delete_, ht, run_underlying hu', hobj, hck, h1, h5, hset]
            · have : (es'.eraseIdxIfInBounds p).toList = es'.toList.eraseIdx p := by
                have hlt : p < es'.size := by
                  have := (List.getElem?_eq_some_iff.1 h4).1
                  simpa using this
                simp [Array.eraseIdxIfInBounds, hlt]
              rw [this]
              exact her.eraseAt p
          · rename_i hf
            obtain ⟨r', h1, h2⟩ := findKey_ok H hkm' hk w her hf
            simp only [FR] at h2
            subst h2
            have hset := run_setObj (P := P) (o' := .map es' clock) hb (by simp)
            have hsame : ({ w with heap := w.heap.setIfInBounds l.blk (.map es' clock) } : World) = w := by
              have : w.heap.setIfInBounds l.blk (.map es' clock) = w.heap := by
                apply Array.ext_getElem?
                intro j
                rw [Array.getElem?_setIfInBounds]
                by_cases e : l.blk = j
                · subst e
                  rw [if_pos rfl, hb, if_pos (Array.getElem?_eq_some_iff.1 hb).1]
                · simp [e]
              rw [this]
            rw [hsame] at hset
            exact XV_pure hg ⟨.tuple #[], by simp [Builtin.delete_, ht, run_underlying hu', hobj, hck, h1, hset], by simp only [VRel]; exact ⟨_, rfl, VRels.nil⟩⟩
          · trivial
        · trivial
      · trivial
  · trivial
end
end Go.X
