/- A part of the proof that a law answers true for every input: an executor of the model over an abstract heap, proved sound, or the use of it. -/
import Derived.Test.YthpfaaocjmedhaaGreatDoorXOps9
namespace Go.X
open Go
section
variable {P : Program} {E : Env}

theorem newObj_ok {ρ : Rho} {s : S} {w : World} (hg : Good ρ s w) (o : Go.Obj) (tot : Nat) (x : Obj) (hx : ∀ ρ' : Rho, ρ.le ρ' → ∀ w' : World, w'.heap[w.heap.size]? = some o → ORel ρ' ⟨w.heap.size, 0, tot⟩ w' x) :
    (newObj o).run P w = .ok w.heap.size (w.alloc o) ∧ Post ρ s w (ρ.with s.next ⟨w.heap.size, 0, tot⟩) ⟨s.heap.set s.next (some x), s.next + 1⟩ (w.alloc o) :=
  ⟨rfl, Post.alloc hg o tot x (hx _ (Rho.le_with _ (hg.fresh _ (Nat.le_refl _))) _ (heap_at_alloc w o))⟩

theorem S.new_eq (s : S) (o : Obj) (c : Nat → S → XR) : s.new o c = c s.next ⟨s.heap.set s.next (some o), s.next + 1⟩ := by
  simp only [S.new, T.put_eq, forceN_eq, Nat.succ_eq_add_one]

theorem doRange_ok (H : EnvOk2 P E) {ρ : Rho} {s : S} {w : World} (hg : Good ρ s w) {x : V} {x' : Value} (hx : VRel ρ x x') (t : Nat) : XV P (Instr.range t x') ρ s w (doRange E t x s) := by
  unfold doRange
  have fin : ∀ (o : Go.Obj) (xo : Obj), (∀ ρ' : Rho, ρ.le ρ' → ∀ w' : World, w'.heap[w.heap.size]? = some o → ORel ρ' ⟨w.heap.size, 0, 0⟩ w' xo) →
      (Instr.range t x').run P w = .ok (.pointer (some ⟨w.heap.size, 0, none⟩)) (w.alloc o) → XV P (Instr.range t x') ρ s w (s.new xo fun i s' => .val (.ptr i 0) s') := fun o xo hx' hr => by
    obtain ⟨h1, h2⟩ := newObj_ok (P := P) hg o 0 xo hx'
    rw [S.new_eq]
    refine ⟨_, _, .pointer (some ⟨w.heap.size, 0, none⟩), hr, ?_, h2⟩
    simp only [VRel]; exact ⟨_, with_self _ _ _, by simp [Loc.addr]⟩
  split
  · rename_i l hu
    simp only [VRel] at hx
    obtain ⟨b, rfl, rfl⟩ := hx
    refine fin (.stringIter b 0) _ (fun ρ' _ w' hw' => ⟨b, hw', rfl, rfl⟩) ?_
    simp [Instr.range, run_underlying (und_ok H.toEnvOk hu), newObj, Sem.run]
  · rename_i k e hu
    simp only [VRel] at hx
    subst hx
    refine fin (.mapIter none 0 #[] 0) _ (fun ρ' _ w' hw' => ⟨none, hw', rfl, rfl⟩) ?_
    simp [Instr.range, run_underlying (und_ok H.toEnvOk hu), newObj, Sem.run]
  · rename_i k e m hu
    simp only [VRel] at hx
    obtain ⟨l, hl, rfl⟩ := hx
    split
    · rename_i es clock hc
      obtain ⟨es', hb, her, hobj⟩ := map_at (P := P) hg hc hl
      refine fin (.mapIter (some l.blk) clock #[] clock) _ (fun ρ' hle w' hw' => ⟨some l.blk, hw', ⟨l, hle _ _ hl, rfl⟩, rfl⟩) ?_
      simp [Instr.range, run_underlying (und_ok H.toEnvOk hu), newObj, Sem.run, hobj]
    · trivial
  · trivial

/-! ## Going on in an iteration -/
theorem bytes_length (s : ByteArray) : (bytesOf s).length = s.size := by unfold bytesOf; simp

theorem decode_ascii {s : ByteArray} {pos b : Nat} (h : (bytesOf s)[pos]? = some b) (hb : b < 128) : Utf8.decode s pos = (b, 1) := by
  obtain ⟨c, h1, h2, h3, h4⟩ := bytes_get h
  have : s.get! pos = c := by
    rw [getElem?_pos s pos h4] at h1
    simp only [Option.some.injEq] at h1
    rw [← h1]
    cases s with
    | mk d => simp [ByteArray.get!, getElem!_pos d pos h4]; rfl
  have hb' : (s.get! pos).toNat < 128 := by rw [this, h2]; exact hb
  simp only [Utf8.decode, Nat.add_zero]
  rw [if_pos hb', this, h2]

theorem seenB_iff {b : Nat} : ∀ {l : List Nat}, seenB b l = true ↔ b ∈ l
  | [] => by simp [seenB]
  | x :: l => by
    unfold seenB
    cases h : Nat.beq x b with
    | true => have := Nat.eq_of_beq_eq_true h; simp [this]
    | false => have := Nat.ne_of_beq_eq_false h; simp [seenB_iff (l := l), Ne.symm this]

theorem leftOf_ok {ρ : Rho} (seen : List Nat) : ∀ {l : List (V × V × Nat)} {es : List MapEntry}, EntRel ρ l es → EntRel ρ (leftOf seen l) (es.filter fun e => !seen.contains e.born)
  | [], _, h => by simp only [EntRel] at h; subst h; simp [leftOf, EntRel]
  | (k0, v0, b0) :: l, _, ⟨e0, rest, h1, h2, h3, h4, h5⟩ => by
    subst h1
    unfold leftOf
    cases hs : seenB b0 seen with
    | true =>
      have : (!seen.contains e0.born) = false := by rw [h4]; simp [seenB_iff.1 hs]
      simp only [List.filter_cons, this, Bool.false_eq_true, if_false]
      exact leftOf_ok seen h5
    | false =>
      have hn : ¬ b0 ∈ seen := fun hm => by rw [seenB_iff.2 hm] at hs; cases hs
      have : (!seen.contains e0.born) = true := by rw [h4]; simp [hn]
      simp only [List.filter_cons, this, if_true]
      exact ⟨e0, _, rfl, h2, h3, h4, leftOf_ok seen h5⟩

theorem allFrom_iff {ρ : Rho} {n : Nat} : ∀ {l : List (V × V × Nat)} {es : List MapEntry}, EntRel ρ l es → (es.all (fun e => decide (e.born ≥ n))) = allFrom n l
  | [], _, h => by simp only [EntRel] at h; subst h; rfl
  | (k0, v0, b0) :: l, _, ⟨e0, rest, h1, h2, h3, h4, h5⟩ => by
    subst h1
    unfold allFrom
    have ih := allFrom_iff (n := n) h5
    simp only [List.all_cons, ih, h4]
    cases hb : Nat.ble n b0 with
    | true => have := Nat.le_of_ble_eq_true hb; simp [this]
    | false =>
      have : ¬ n ≤ b0 := fun hle => by rw [Nat.ble_eq_true_of_le hle] at hb; cases hb
      simp [this]

theorem doNext_ok {ρ : Rho} {s : S} {w : World} (hg : Good ρ s w) {it : V} {it' : Value} (hit : VRel ρ it it') (isStr : Bool) (ty : Nat) : XV P (Instr.next it' isStr ty) ρ s w (doNext it isStr s) := by
  unfold doNext
  have hover : (Instr.next it' isStr ty).run P w = .ok (.tuple #[.bool false]) w → XV P (Instr.next it' isStr ty) ρ s w (.val (.tuple [.bool false]) s) := fun he =>
    XV_pure hg ⟨_, he, by simp only [VRel]; exact ⟨_, rfl, VRels.cons (by simp only [VRel]) VRels.nil⟩⟩
  split
  · rename_i i
    have hit0 := hit
    simp only [VRel] at hit
    obtain ⟨l0, hl0, hit⟩ := hit
    split
    · rename_i l pos hc
      obtain ⟨l', hl', b, hb, hbs, hz⟩ := hg.obj _ _ hc
      rw [hl0] at hl'
      injection hl' with hl'
      subst hl'
      have haddr : it' = .pointer (some ⟨l0.blk, 0, none⟩) := by rw [hit]; simp [Loc.addr, hz]
      have hobj : (getObj l0.blk).run P w = .ok (.stringIter b pos) w := by simp [getObj, Sem.run, hb]
      subst hbs
      subst haddr
      split
      · split
        · rename_i hle
          refine hover ?_
          have : ¬ pos < b.size := by have := Nat.le_of_ble_eq_true hle; rw [bytes_length] at this; omega
          simp [Instr.next, hobj, this]
        · trivial
      · rename_i c hcx
        split
        · rename_i h128
          have hlt : c < 128 := by simpa [Nat.blt_eq] using h128
          have hd := decode_ascii hcx hlt
          have hps : pos < b.size := by
            have := (List.getElem?_eq_some_iff.1 hcx).1
            rwa [bytes_length] at this
          rw [forceN_eq]
          simp only [S.set, T.put_eq]
          refine ⟨ρ, _, .tuple #[.bool true, .int .i64 (pos : Int), .int .i32 (c : Int)], ?_, ?_, Post.setObj hg hc hl0 hb _ (fun w' hw' => ⟨b, hw', rfl, hz⟩)⟩
          · have hset := run_setObj (P := P) (o' := .stringIter b (pos + 1)) hb (by simp)
            simp [Instr.next, hobj, hps, hd, hset, goInt]
          · simp only [VRel]
            exact ⟨_, rfl, VRels.cons (by simp only [VRel]) (VRels.cons (by simp only [VRel]; rfl) (VRels.cons (by simp only [VRel]; rfl) VRels.nil))⟩
        · trivial
    · rename_i since seen stepped hc
      obtain ⟨l', hl', m', hb, hm, hz⟩ := hg.obj _ _ hc
      rw [hl0] at hl'
      injection hl' with hl'
      subst hl'
      simp only at hm
      subst hm
      have haddr : it' = .pointer (some ⟨l0.blk, 0, none⟩) := by rw [hit]; simp [Loc.addr, hz]
      subst haddr
      exact hover (by simp [Instr.next, getObj, Sem.run, hb])
    · rename_i m since seen last hc
      obtain ⟨l', hl', m', hb, hm, hz⟩ := hg.obj _ _ hc
      rw [hl0] at hl'
      injection hl' with hl'
      subst hl'
      simp only at hm
      obtain ⟨lm, hlm, rfl⟩ := hm
      have haddr : it' = .pointer (some ⟨l0.blk, 0, none⟩) := by rw [hit]; simp [Loc.addr, hz]
      subst haddr
      split
      · rename_i es clock hcm
        obtain ⟨es', hbm, her, hobjm⟩ := map_at (P := P) hg hcm hlm
        have hobj : (getObj l0.blk).run P w = .ok (.mapIter (some lm.blk) since seen.toArray last) w := by simp [getObj, Sem.run, hb]
        simp only
        split
        · trivial
        · rename_i hbad
          have hguard : (!seen.toArray.isEmpty && !es'.isEmpty && es'.all (fun e => decide (e.born ≥ last))) = false := by
            cases seen with
            | nil => simp
            | cons x xs =>
              cases hes : es with
              | nil =>
                subst hes
                simp only [EntRel] at her
                have : es' = #[] := Array.toList_inj.1 (by simpa using her)
                simp [this]
              | cons y ys =>
                subst hes
                have h1 : allFrom last (y :: ys) = false := hbad
                have h2 := allFrom_iff (n := last) her
                rw [h1] at h2
                have h3 : (es'.all (fun e => decide (e.born ≥ last))) = false := by rw [← Array.all_toList]; exact h2
                simp [h3]
          have hleft := leftOf_ok seen her
          have hfl : (es'.filter fun e => !seen.toArray.contains e.born).toList = es'.toList.filter fun e => !seen.contains e.born := by simp
          rw [← hfl] at hleft
          split
          · rename_i hl
            rw [hl] at hleft
            simp only [EntRel] at hleft
            have hemp : (es'.filter fun e => !seen.toArray.contains e.born) = #[] := Array.toList_inj.1 (by simpa using hleft)
            refine hover ?_
            simp only [Instr.next, Sem.run_bind, hobj, hobjm, Result.andThen_ok, hguard, hemp, Bool.false_eq_true, if_false]
            simp [choose, Sem.run, Question.forced]
          · rename_i k v b hl
            rw [hl] at hleft
            obtain ⟨e, rest, h1, h2, h3, h4, h5⟩ := hleft
            simp only [EntRel] at h5
            subst h5
            have hone : (es'.filter fun e => !seen.toArray.contains e.born) = #[e] := Array.toList_inj.1 (by simpa using h1)
            split
            · rename_i hsince
              have hs : b < since := by simpa [Nat.blt_eq] using hsince
              have hs1 : e.born < since := by omega
              have hs2 : ¬ (since ≤ e.born) := by omega
              rw [forceS_eq]
              simp only [S.set, T.put_eq]
              refine ⟨ρ, _, .tuple #[.bool true, e.key, e.val], ?_, ?_, Post.setObj (new := .mapIter (some lm.blk) since (seen.toArray.push e.born) clock) hg hc hl0 hb _ (fun w' hw' => ⟨some lm.blk, ?_, ⟨lm, hlm, rfl⟩, hz⟩)⟩
              · have hset := run_setObj (P := P) (o' := .mapIter (some lm.blk) since (seen.toArray.push e.born) clock) hb (by simp)
                simp only [Instr.next, Sem.run_bind, hobj, hobjm, Result.andThen_ok, hguard, hone, Bool.false_eq_true, if_false]
                simp [choose, Sem.run, Question.forced, hs1, hs2]
                simp only [List.push_toArray] at hset
                simp [hset]
              · simp only [VRel]
                exact ⟨_, rfl, VRels.cons (by simp only [VRel]) (VRels.cons h2 (VRels.cons h3 VRels.nil))⟩
              · rw [hw', h4]; simp
            · trivial
          · trivial
      · trivial
    · trivial
  · trivial

theorem lastOf_eq : ∀ l : List Nat, lastOf l = l.getLast?
  | [] => rfl
  | [x] => rfl
  | x :: y :: l => by simp only [lastOf]; rw [lastOf_eq (y :: l)]; simp

theorem bornEntry_ok {ρ : Rho} {b : Nat} : ∀ {l : List (V × V × Nat)} {es : List MapEntry}, EntRel ρ l es → ∀ {k v : V}, bornEntry b l = some (k, v) →
    ∃ e, es.find? (fun e => e.born == b) = some e ∧ VRel ρ k e.key ∧ VRel ρ v e.val
  | [], _, _, _, _, h => by simp [bornEntry] at h
  | (k0, v0, b0) :: l, _, ⟨e0, rest, h1, h2, h3, h4, h5⟩, k, v, h => by
    subst h1
    unfold bornEntry at h
    split at h
    · rename_i hb
      have := Nat.eq_of_beq_eq_true hb
      simp only [Option.some.injEq, Prod.mk.injEq] at h
      obtain ⟨rfl, rfl⟩ := h
      refine ⟨e0, ?_, h2, h3⟩
      rw [List.find?_cons, h4, this]
      simp
    · rename_i hb
      have hne := Nat.ne_of_beq_eq_false hb
      obtain ⟨e, g1, g2, g3⟩ := bornEntry_ok h5 h
      refine ⟨e, ?_, g2, g3⟩
      rw [List.find?_cons, h4]
      have : (b0 == b) = false := by simp [hne]
      simp [this, g1]

theorem doEntry_ok {ρ : Rho} {s : S} {w : World} (hg : Good ρ s w) {it : V} {it' : Value} (hit : VRel ρ it it') : XV P (Instr.entry it') ρ s w (doEntry it s) := by
  unfold doEntry
  split
  · rename_i i
    simp only [VRel] at hit
    obtain ⟨l0, hl0, hit⟩ := hit
    split
    · rename_i m since seen stepped hc
      obtain ⟨l', hl', m', hb, hm, hz⟩ := hg.obj _ _ hc
      rw [hl0] at hl'
      injection hl' with hl'
      subst hl'
      simp only at hm
      obtain ⟨lm, hlm, rfl⟩ := hm
      have haddr : it' = .pointer (some ⟨l0.blk, 0, none⟩) := by rw [hit]; simp [Loc.addr, hz]
      subst haddr
      split
      · rename_i b es clock hlast hcm
        obtain ⟨es', hbm, her, hobjm⟩ := map_at (P := P) hg hcm hlm
        have hobj : (getObj l0.blk).run P w = .ok (.mapIter (some lm.blk) since seen.toArray stepped) w := by simp [getObj, Sem.run, hb]
        split
        · rename_i k v hck hbe
          have hclk : clock = stepped := Nat.eq_of_beq_eq_true hck
          subst hclk
          obtain ⟨e, g1, g2, g3⟩ := bornEntry_ok her hbe
          rw [lastOf_eq] at hlast
          have hback : seen.toArray.back? = some b := by simpa using hlast
          have hfind : es'.find? (fun e => e.born == b) = some e := by rw [← Array.find?_toList]; exact g1
          refine XV_pure hg ⟨.tuple #[e.key, e.val], ?_, by simp only [VRel]; exact ⟨_, rfl, VRels.cons g2 (VRels.cons g3 VRels.nil)⟩⟩
          simp [Instr.entry, hobj, hobjm, hback, hfind]
        · trivial
      · trivial
    · trivial
  · trivial
end
end Go.X
