/- A part of the proof that a law answers true for every input: an executor of the model over an abstract heap, proved sound, or the use of it. -/
import Derived.Test.YthpfaaocjmedhaaGreatDoorXOps7
namespace Go.X
open Go
section
variable {P : Program} {E : Env}

/-! ## Maps -/
def KeyRel (m : KM) (u v : Value) (b : Bool) : Prop := match m with
  | .int => ∃ k a c, u = .int k a ∧ v = .int k c ∧ b = (a == c)
  | .str => ∃ a c, u = .string a ∧ v = .string c ∧ b = (a == c)
  | .agg ks => ∃ us vs, u = .agg us ∧ v = .agg vs ∧ kindsOk ks us.toList ∧ kindsOk ks vs.toList ∧ cellsSame us.toList vs.toList = b

theorem keyEq_ok {ρ : Rho} {m : KM} {x y : V} {u v : Value} (hx : VRel ρ x u) (hy : VRel ρ y v) {b : Bool} (h : keyEq m x y = some b) :
    (b = true → u = v) ∧ KeyRel m u v b := by
  unfold keyEq at h
  split at h
  · rename_i k a j c
    split at h
    · rename_i hk
      have hk' := kindEq_iff.1 hk
      subst hk'
      simp only [VRel] at hx hy
      subst hx; subst hy
      simp only [Option.some.injEq] at h
      subst h
      rw [eqI_eq]
      exact ⟨fun hb => by rw [beq_iff_eq] at hb; rw [hb], _, _, _, rfl, rfl, rfl⟩
    · cases h
  · rename_i a c
    simp only [VRel] at hx hy
    obtain ⟨s1, rfl, rfl⟩ := hx
    obtain ⟨s2, rfl, rfl⟩ := hy
    simp only [Option.some.injEq] at h
    subst h
    refine ⟨fun hb => by rw [bytesOf_inj.1 (eqL_iff.1 hb)], _, _, rfl, rfl, ?_⟩
    rw [Bool.eq_iff_iff, byteArray_beq, eqL_iff, bytesOf_inj]
  · rename_i ks a c
    simp only [VRel] at hx hy
    obtain ⟨us, rfl, hx⟩ := hx
    obtain ⟨vs, rfl, hy⟩ := hy
    obtain ⟨k1, k2, k3, k4⟩ := eqCells_ok hx hy h
    exact ⟨fun hb => by rw [Array.toList_inj.1 (k4 hb)], us, vs, rfl, rfl, k1, k2, k3⟩
  · cases h

/-- What is found, against what the model finds. -/
def FR (ρ : Rho) (k' : Value) (es : List MapEntry) (i : Nat) : Option (Nat × V × Nat) → Option (Nat × Value) → Prop
  | none, r => r = none
  | some (p, v, b), r => ∃ e j, p = i + j ∧ es[j]? = some e ∧ r = some (p, e.val) ∧ VRel ρ v e.val ∧ e.born = b ∧ e.key = k'

theorem FR.cons {ρ : Rho} {k' : Value} {es : List MapEntry} {e : MapEntry} {i : Nat} {r : Option (Nat × V × Nat)} {r' : Option (Nat × Value)} (h : FR ρ k' es (i + 1) r r') : FR ρ k' (e :: es) i r r' := by
  cases r with
  | none => exact h
  | some x =>
    obtain ⟨p, v, b⟩ := x
    obtain ⟨e', j, h1, h2, h3⟩ := h
    exact ⟨e', j + 1, by omega, by simpa using h2, h3⟩

theorem findNow_ok {ρ : Rho} {m : KM} {d : TypeDesc} (hm : (m = .int ∧ ∃ k, d = .int k) ∨ (m = .str ∧ d = .string)) {k : V} {k' : Value} (hk : VRel ρ k k') :
    ∀ {es : List (V × V × Nat)} {es' : List MapEntry}, EntRel ρ es es' → ∀ {i : Nat} {r : Option (Nat × V × Nat)}, findX m k es i = some r → ∃ r', Instr.findNow d k' es' i = some r' ∧ FR ρ k' es' i r r'
  | [], _, he, i, r, h => by
    simp only [EntRel] at he
    subst he
    simp only [findX, Option.some.injEq] at h
    subst h
    exact ⟨none, rfl, rfl⟩
  | (q, v, b) :: es, _, ⟨e, rest, h1, h2, h3, h4, h5⟩, i, r, h => by
    subst h1
    unfold findX at h
    have step : ∀ {c : Bool}, keyEq m k q = some c → Instr.sameNow d k' e.key = some c ∧ (c = true → k' = e.key) := fun {c} hc => by
      obtain ⟨g1, g2⟩ := keyEq_ok hk h2 hc
      refine ⟨?_, g1⟩
      rcases hm with ⟨rfl, kd, rfl⟩ | ⟨rfl, rfl⟩
      · obtain ⟨kk, a, c', e1, e2, e3⟩ := g2
        rw [e1, e2, e3]
        simp [Instr.sameNow]
      · obtain ⟨a, c', e1, e2, e3⟩ := g2
        rw [e1, e2, e3]
        rfl
    split at h
    · rename_i hc
      obtain ⟨g1, g2⟩ := step hc
      simp only [Option.some.injEq] at h
      subst h
      refine ⟨some (i, e.val), by simp [Instr.findNow, g1], e, 0, by omega, by simp, rfl, h3, h4, (g2 rfl).symm⟩
    · rename_i hc
      obtain ⟨g1, _⟩ := step hc
      obtain ⟨r', k1, k2⟩ := findNow_ok hm hk h5 h
      exact ⟨r', by simp [Instr.findNow, g1, k1], k2.cons⟩
    · cases h

theorem findAsking_ok {ρ : Rho} {ks : List CK} {t : Nat} (hp : PlainOk P t ks) {k : V} {k' : Value} (hk : VRel ρ k k') (w : World) :
    ∀ {es : List (V × V × Nat)} {es' : List MapEntry}, EntRel ρ es es' → ∀ {i : Nat} {r : Option (Nat × V × Nat)}, findX (.agg ks) k es i = some r → ∃ r', (Instr.findAsking t k' es' i).run P w = .ok r' w ∧ FR ρ k' es' i r r'
  | [], _, he, i, r, h => by
    simp only [EntRel] at he
    subst he
    simp only [findX, Option.some.injEq] at h
    subst h
    exact ⟨none, rfl, rfl⟩
  | (q, v, b) :: es, _, ⟨e, rest, h1, h2, h3, h4, h5⟩, i, r, h => by
    subst h1
    unfold findX at h
    have step : ∀ {c : Bool}, keyEq (.agg ks) k q = some c → (Op.equal t k' e.key).run P w = .ok c w ∧ (c = true → k' = e.key) := fun {c} hc => by
      obtain ⟨g1, us, vs, e1, e2, e3, e4, e5⟩ := keyEq_ok hk h2 hc
      refine ⟨?_, g1⟩
      rw [e1, e2, hp.eq w us vs e3 e4, e5]
    split at h
    · rename_i hc
      obtain ⟨g1, g2⟩ := step hc
      simp only [Option.some.injEq] at h
      subst h
      refine ⟨some (i, e.val), by simp [Instr.findAsking, g1], e, 0, by omega, by simp, rfl, h3, h4, (g2 rfl).symm⟩
    · rename_i hc
      obtain ⟨g1, _⟩ := step hc
      obtain ⟨r', k1, k2⟩ := findAsking_ok hp hk w h5 h
      exact ⟨r', by simp [Instr.findAsking, g1, k1], k2.cons⟩
    · cases h

theorem keyMode_ok (H : EnvOk2 P E) {t : Nat} {m : KM} (h : keyMode E t = some m) :
    (m = .int ∧ ∃ k, P.underlying t = some (.int k)) ∨ (m = .str ∧ P.underlying t = some .string) ∨ (∃ ks fs, m = .agg ks ∧ P.underlying t = some (.struct fs) ∧ PlainOk P t ks) := by
  unfold keyMode at h
  split at h
  · rename_i k hu; simp only [Option.some.injEq] at h; exact .inl ⟨h.symm, k, und_ok H.toEnvOk hu⟩
  · rename_i hu; simp only [Option.some.injEq] at h; exact .inr (.inl ⟨h.symm, und_ok H.toEnvOk hu⟩)
  · rename_i fs hu
    split at h
    · rename_i ks hks
      simp only [Option.some.injEq] at h
      exact .inr (.inr ⟨ks, fs, h.symm, und_ok H.toEnvOk hu, H.plain _ _ hks⟩)
    · cases h
  · cases h

theorem findKey_ok (H : EnvOk2 P E) {ρ : Rho} {t : Nat} {m : KM} (hm : keyMode E t = some m) {k : V} {k' : Value} (hk : VRel ρ k k') (w : World)
    {es : List (V × V × Nat)} {es' : List MapEntry} (he : EntRel ρ es es') {r : Option (Nat × V × Nat)} (h : findX m k es 0 = some r) : ∃ r', (Instr.findKey t k' es').run P w = .ok r' w ∧ FR ρ k' es' 0 r r' := by
  rcases keyMode_ok H hm with ⟨rfl, kd, hu⟩ | ⟨rfl, hu⟩ | ⟨ks, fs, rfl, hu, hp⟩
  · obtain ⟨r', h1, h2⟩ := findNow_ok (d := .int kd) (.inl ⟨rfl, kd, rfl⟩) hk he h
    exact ⟨r', by simp [Instr.findKey, run_underlying hu, h1], h2⟩
  · obtain ⟨r', h1, h2⟩ := findNow_ok (d := .string) (.inr ⟨rfl, rfl⟩) hk he h
    exact ⟨r', by simp [Instr.findKey, run_underlying hu, h1], h2⟩
  · obtain ⟨r', h1, h2⟩ := findAsking_ok hp hk w he h
    refine ⟨r', ?_, h2⟩
    cases es' with
    | nil =>
      have : r' = none := by simpa [Instr.findAsking, Sem.run] using h1.symm
      subst this
      simp [Instr.findKey, run_underlying hu, Instr.findNow]
    | cons e rest =>
      have : Instr.findNow (.struct fs) k' (e :: rest) 0 = none := by simp [Instr.findNow, Instr.sameNow]
      simp [Instr.findKey, run_underlying hu, this, h1]

theorem keyOk_ok (H : EnvOk2 P E) {ρ : Rho} {t : Nat} {k : V} {k' : Value} (hk : VRel ρ k k') {m : KM} (h : keyOk E t k = some m) :
    keyMode E t = some m ∧ (∀ w b, (Instr.checkKey b 10000 t k').run P w = .ok () w) ∧ (∀ w, (Instr.keyThatStays k' k').run P w = .ok k' w) := by
  unfold keyOk at h
  split at h
  · rename_i m' hm
    split at h
    · rename_i c hc
      simp only [Option.some.injEq] at h
      subst h
      obtain ⟨_, g⟩ := keyEq_ok hk hk hc
      refine ⟨hm, ?_, ?_⟩
      · intro w b
        rcases keyMode_ok H hm with ⟨rfl, kd, hu⟩ | ⟨rfl, hu⟩ | ⟨ks, fs, rfl, hu, hp⟩
        · obtain ⟨kk, a, c', rfl, _, _⟩ := g
          have : ∀ n, (Instr.checkKey b (n + 1) t (.int kk a)).run P w = .ok () w := fun n => by simp [Instr.checkKey, run_underlying hu]
          exact this 9999
        · obtain ⟨a, c', rfl, _, _⟩ := g
          have : ∀ n, (Instr.checkKey b (n + 1) t (.string a)).run P w = .ok () w := fun n => by simp [Instr.checkKey, run_underlying hu]
          exact this 9999
        · obtain ⟨us, vs, rfl, _, e3, _⟩ := g
          exact hp.key w b us e3
      · intro w
        have hb : ∀ n, Instr.sameBits (n + 2) k' k' = true := fun n => by
          have cell : ∀ c v, kindOk c v → ∀ n, Instr.sameBits n v v = true := fun c v hv n => by
            cases c <;> obtain ⟨x, rfl⟩ := hv
            · cases n <;> simp [Instr.sameBits]
            · cases n <;> simp [Instr.sameBits, byteArray_beq]
            · cases n <;> simp [Instr.sameBits]
          cases m' with
          | int => obtain ⟨kk, a, c', rfl, _, _⟩ := g; exact cell (.int kk) _ ⟨a, rfl⟩ _
          | str => obtain ⟨a, c', rfl, _, _⟩ := g; exact cell .str _ ⟨a, rfl⟩ _
          | agg ks =>
            obtain ⟨us, vs, rfl, _, e3, _⟩ := g
            have all : ∀ (ks : List CK) (l : List Value), kindsOk ks l → ((l.zip l).all fun (x, y) => Instr.sameBits (n + 1) x y) = true := fun ks => by
              induction ks with
              | nil => intro l hl; cases l with
                | nil => rfl
                | cons _ _ => exact hl.elim
              | cons c ks ih => intro l hl; cases l with
                | nil => exact hl.elim
                | cons v l => simp only [List.zip_cons_cons, List.all_cons, cell c v hl.1, ih l hl.2, Bool.and_self]
            simp only [Instr.sameBits, BEq.rfl, Bool.true_and]
            exact all ks _ e3
        have := hb 9998
        simp [Instr.keyThatStays, this]
    · cases h
  · cases h

theorem lookFin_ok {e : Sem Value} {ok : Bool} {ρ : Rho} {s : S} {w : World} (hg : Good ρ s w) {v : V} {v' : Value} {b : Bool} (hv : VRel ρ v v')
    (he : e.run P w = .ok (if ok then .tuple #[v', .bool b] else v') w) : XV P e ρ s w (lookFin ok v b s) := by
  unfold lookFin
  split
  · refine XV_pure hg ⟨_, he, ?_⟩
    simp only [VRel, if_true]
    exact ⟨_, rfl, VRels.cons hv (VRels.cons (by simp only [VRel]) VRels.nil)⟩
  · exact XV_pure hg ⟨_, he, by simpa using hv⟩

theorem doLookup_ok (H : EnvOk2 P E) {ρ : Rho} {s : S} {w : World} (hg : Good ρ s w) {x ix : V} {x' ix' : Value} (hx : VRel ρ x x') (hix : VRel ρ ix ix') (t : Nat) (ok : Bool) :
    XV P (Instr.lookup t x' ix' ok) ρ s w (doLookup E t x ix ok s) := by
  unfold doLookup
  split
  · rename_i kt et hu
    have hu' := und_ok H.toEnvOk hu
    split
    · trivial
    · rename_i m hm
      obtain ⟨hm', hck, _⟩ := keyOk_ok H hix hm
      split
      · simp only [VRel] at hx
        subst hx
        unfold lookMiss
        split
        · rename_i z hz
          obtain ⟨z', hz', hzv⟩ := zeroV_ok (ρ := ρ) H.toEnvOk hz
          refine lookFin_ok hg hzv ?_
          have hfk : (Instr.findKey kt ix' []).run P w = .ok none w := by
            obtain ⟨r', h1, h2⟩ := findKey_ok H hm' hix w (es := []) (es' := []) rfl (r := none) rfl
            rw [h1]
            simp only [FR] at h2
            rw [h2]
          simp [Instr.lookup, run_underlying hu', hck, hfk, hz']
        · trivial
      · rename_i i
        simp only [VRel] at hx
        obtain ⟨l, hl, rfl⟩ := hx
        split
        · rename_i es clock hc
          obtain ⟨l', hl', es', hb, her⟩ := hg.obj _ _ hc
          rw [hl] at hl'
          injection hl' with hl'
          subst hl'
          have hobj : (getObj l.blk).run P w = .ok (.map es' clock) w := by simp [getObj, Sem.run, hb]
          split
          · rename_i p v b hf
            obtain ⟨r', h1, h2⟩ := findKey_ok H hm' hix w her hf
            obtain ⟨e, j, _, _, h3, h4, _⟩ := h2
            refine lookFin_ok hg h4 ?_
            simp [Instr.lookup, run_underlying hu', hobj, hck, h1, h3]
          · rename_i hf
            obtain ⟨r', h1, h2⟩ := findKey_ok H hm' hix w her hf
            simp only [FR] at h2
            unfold lookMiss
            split
            · rename_i z hz
              obtain ⟨z', hz', hzv⟩ := zeroV_ok (ρ := ρ) H.toEnvOk hz
              refine lookFin_ok hg hzv ?_
              simp [Instr.lookup, run_underlying hu', hobj, hck, h1, h2, hz']
            · trivial
          · trivial
        · trivial
      · trivial
  · trivial
end
end Go.X
