/- A part of the proof that a law answers true for every input: an executor of the model over an abstract heap, proved sound, or the use of it. -/
import Derived.Test.YthpfaaocjmedhaaGreatDoorXOps10
namespace Go.X
open Go
section
variable {P : Program} {E : Env}

theorem optV_ok {e : Sem Value} {ρ : Rho} {s : S} {w : World} (hg : Good ρ s w) {o : Option V} {why : Nat} (h : ∀ v, o = some v → ∃ v', e.run P w = .ok v' w ∧ VRel ρ v v') : XV P e ρ s w (optV o s why) := by
  unfold optV
  split
  · rw [forceV_eq]; exact XV_pure hg (h _ rfl)
  · trivial

theorem opMove_ok {ρ : Rho} {τ : T V} {a : Act} {s : S} {w : World} (hg : Good ρ s w) (ht : TRel ρ τ a.tmps) (x : Operand) : XV P (pure (a.eval x)) ρ s w (opMove τ s x) := by
  unfold opMove
  split
  · rename_i v hv; exact XV_pure hg ⟨_, rfl, ev_ok ht hv⟩
  · trivial

theorem opPick_ok {ρ : Rho} {τ : T V} {a : Act} {s : S} {w : World} (hg : Good ρ s w) (ht : TRel ρ τ a.tmps) (c x y : Operand) :
    XV P (do pure (if ← asBool (a.eval c) then a.eval x else a.eval y)) ρ s w (opPick τ s c x y) := by
  unfold opPick
  split
  · rename_i hc
    have := ev_ok ht hc
    simp only [VRel] at this
    have hm := opMove_ok (P := P) hg ht x
    cases hq : opMove τ s x with
    | val v s' => rw [hq] at hm; obtain ⟨ρ', w', v', h1, h2, h3⟩ := hm; exact ⟨ρ', w', v', by rw [this]; simpa [asBool] using h1, h2, h3⟩
    | no _ => trivial
    | skip _ => rw [hq] at hm; exact hm.elim
    | enter _ _ _ => rw [hq] at hm; exact hm.elim
    | round _ _ _ => rw [hq] at hm; exact hm.elim
  · rename_i hc
    have := ev_ok ht hc
    simp only [VRel] at this
    have hm := opMove_ok (P := P) hg ht y
    cases hq : opMove τ s y with
    | val v s' => rw [hq] at hm; obtain ⟨ρ', w', v', h1, h2, h3⟩ := hm; exact ⟨ρ', w', v', by rw [this]; simpa [asBool] using h1, h2, h3⟩
    | no _ => trivial
    | skip _ => rw [hq] at hm; exact hm.elim
    | enter _ _ _ => rw [hq] at hm; exact hm.elim
    | round _ _ _ => rw [hq] at hm; exact hm.elim
  · trivial

theorem opUn_ok {ρ : Rho} {τ : T V} {a : Act} {s : S} {w : World} (hg : Good ρ s w) (ht : TRel ρ τ a.tmps) (op : UnOp) (x : Operand) : XV P (Op.unary op (a.eval x)) ρ s w (opUn τ s op x) := by
  unfold opUn
  split
  · rename_i b hx
    have := ev_ok ht hx
    simp only [VRel] at this
    rw [forceB_eq]
    exact XV_pure hg ⟨.bool (!b), by rw [this]; rfl, by simp only [VRel]⟩
  · rename_i k n hx
    have := ev_ok ht hx
    simp only [VRel] at this
    rw [forceI_eq]
    exact XV_pure hg ⟨.int k (k.wrap (0 - n)), by rw [this]; rfl, by simp only [VRel]; rw [wrapX_eq]; rfl⟩
  · trivial

theorem doBin_ok (H : EnvOk2 P E) {ρ : Rho} {x y : V} {u v : Value} (hx : VRel ρ x u) (hy : VRel ρ y v) (op : BinOp) (t : Nat) {r : V} (h : doBin E op t x y = some r) (w : World) (i j : Operand) :
    ∃ r', (do eqGuard op t i j u v; binOp op t u v : Sem Value).run P w = .ok r' w ∧ VRel ρ r r' := by
  have ofBV : (eqGuard op t i j u v).run P w = .ok () w → BV P op t u v ρ r → ∃ r', (do eqGuard op t i j u v; binOp op t u v : Sem Value).run P w = .ok r' w ∧ VRel ρ r r' := fun hg hb => by
    obtain ⟨r', h1, h2⟩ := hb w
    exact ⟨r', by simp [hg, h1], h2⟩
  unfold doBin at h
  split at h
  · rename_i k a j' b
    simp only [VRel] at hx hy
    subst hx; subst hy
    exact ofBV rfl (shiftOp_ok .shl (.inl rfl) t k j' a b h)
  · rename_i k a j' b
    simp only [VRel] at hx hy
    subst hx; subst hy
    exact ofBV rfl (shiftOp_ok .shr (.inr rfl) t k j' a b h)
  · rename_i k a j' b _ _
    split at h
    · rename_i hk
      have hk' := kindEq_iff.1 hk
      subst hk'
      simp only [VRel] at hx hy
      subst hx; subst hy
      exact ofBV (by cases op <;> rfl) (intOp_ok op t k a b h)
    · cases h
  · rename_i a b
    simp only [VRel] at hx hy
    obtain ⟨s1, rfl, rfl⟩ := hx
    obtain ⟨s2, rfl, rfl⟩ := hy
    split at h
    · split at h
      · rename_i hle
        simp only [Option.some.injEq] at h
        subst h
        exact ofBV rfl (strAdd_ok t s1 s2 (Nat.le_of_ble_eq_true hle))
      · cases h
    · exact ofBV (by cases op <;> rfl) (strOp_ok op t s1 s2 h)
  · split at h
    · rename_i b hb
      simp only [Option.some.injEq] at h
      subst h
      obtain ⟨g1, g2⟩ := Eeq_ok H hx hy hb
      exact ⟨.bool b, by simp [g1, (g2 w).1], by simp only [VRel]⟩
    · cases h
  · split at h
    · rename_i b hb
      simp only [Option.some.injEq] at h
      subst h
      obtain ⟨g1, g2⟩ := Eeq_ok H hx hy hb
      exact ⟨.bool (!b), by simp [g1, (g2 w).2], by simp only [VRel]⟩
    · cases h
  · cases h

theorem opBin_ok (H : EnvOk2 P E) {ρ : Rho} {τ : T V} {a : Act} {s : S} {w : World} (hg : Good ρ s w) (ht : TRel ρ τ a.tmps) (op : BinOp) (t : Nat) (x y : Operand) :
    XV P (do eqGuard op t x y (a.eval x) (a.eval y); binOp op t (a.eval x) (a.eval y)) ρ s w (opBin E τ s op t x y) := by
  unfold opBin
  split
  · rename_i v u hv hu
    exact optV_ok hg fun r hr => doBin_ok H (ev_ok ht hv) (ev_ok ht hu) op t hr w x y
  · trivial

theorem doConvert_ok (H : EnvOk2 P E) {ρ : Rho} {s : S} {w : World} (hg : Good ρ s w) {x : V} {x' : Value} (hx : VRel ρ x x') (src dst : Nat) : XV P (convert src dst x') ρ s w (doConvert E src dst x s) := by
  unfold doConvert
  split
  · rename_i d k k' n hs hd
    simp only [VRel] at hx
    subst hx
    refine optV_ok hg fun v hv => ?_
    simp only [Option.some.injEq] at hv
    subst hv
    refine ⟨.int k (k.wrap n), ?_, by simp only [VRel]; rw [wrapX_eq]⟩
    simp only [convert, Sem.run_bind, run_underlying (und_ok H.toEnvOk hs), run_underlying (und_ok H.toEnvOk hd), Result.andThen_ok]
    rfl
  · rename_i d l hs hd
    simp only [VRel] at hx
    obtain ⟨b, rfl, rfl⟩ := hx
    refine XV_pure hg ⟨.string b, ?_, by simp only [VRel]; exact ⟨b, rfl, rfl⟩⟩
    simp only [convert, Sem.run_bind, run_underlying (und_ok H.toEnvOk hs), run_underlying (und_ok H.toEnvOk hd), Result.andThen_ok]
    rfl
  · trivial

theorem opMakeInterface_ok (H : EnvOk2 P E) {ρ : Rho} {τ : T V} {a : Act} {s : S} {w : World} (hg : Good ρ s w) (ht : TRel ρ τ a.tmps) (t : Nat) (x : Operand) :
    XV P (Instr.makeInterface t (a.eval x)) ρ s w (opMakeInterface E τ s t x) := by
  unfold opMakeInterface
  split
  · trivial
  · rename_i v d hn hv hd
    refine XV_pure hg ⟨.iface t (a.eval x), ?_, by simp only [VRel]; exact ⟨_, rfl, ev_ok ht hv⟩⟩
    have hu := und_ok H.toEnvOk hd
    simp only [Instr.makeInterface, Sem.run_bind, run_underlying hu, Result.andThen_ok]
    cases d <;> first | rfl | (exact absurd rfl (hn _))
  · trivial

theorem opMakeFunc_ok {ρ : Rho} {τ : T V} {a : Act} {s : S} {w : World} (hg : Good ρ s w) (ht : TRel ρ τ a.tmps) (fn : Fn) (first cap : Array Operand) :
    XV P (Instr.makeFunc fn (first.map a.eval) (cap.map a.eval)) ρ s w (opMakeFunc τ s fn first cap) := by
  unfold opMakeFunc
  split
  · rename_i f xs ys h1 h2
    refine XV_pure hg ⟨_, rfl, ?_⟩
    simp only [VRel]
    exact ⟨_, _, rfl, by simpa using evs_ok ht h1, by simpa using evs_ok ht h2⟩
  · trivial

theorem opMakeMap_ok (H : EnvOk2 P E) {ρ : Rho} {τ : T V} {a : Act} {s : S} {w : World} (hg : Good ρ s w) (ht : TRel ρ τ a.tmps) (t : Nat) (r : Option Operand) :
    XV P (Instr.makeMap t (r.map a.eval)) ρ s w (opMakeMap E τ s t r) := by
  unfold opMakeMap
  have fin : (Instr.makeMap t (r.map a.eval)).run P w = .ok (.map (some w.heap.size)) (w.alloc (.map #[] 0)) → XV P (Instr.makeMap t (r.map a.eval)) ρ s w (s.new (.map [] 0) fun i s' => .val (.map i) s') := fun hr => by
    obtain ⟨h1, h2⟩ := newObj_ok (P := P) hg (.map #[] 0) 0 (.map [] 0) (fun ρ' _ w' hw' => ⟨#[], hw', rfl⟩)
    rw [S.new_eq]
    refine ⟨_, _, _, hr, ?_, h2⟩
    simp only [VRel]; exact ⟨_, with_self _ _ _, rfl⟩
  split
  · rename_i k e hu hr
    have := optEv_ok ht hr
    simp only at this
    exact fin (by rw [this]; simp [Instr.makeMap, newObj, Sem.run])
  · rename_i k e kd n hu hr
    have := optEv_ok ht hr
    simp only [VRel] at this
    obtain ⟨u, h1, rfl⟩ := this
    exact fin (by rw [h1]; simp [Instr.makeMap, run_underlying (und_ok H.toEnvOk hu), asInt, asIntOf, newObj, Sem.run])
  · trivial

theorem opTypeAssert_ok (H : EnvOk2 P E) {ρ : Rho} {τ : T V} {a : Act} {s : S} {w : World} (hg : Good ρ s w) (ht : TRel ρ τ a.tmps) (x : Operand) (xT asserted : Nat) (ok : Bool) :
    XV P (Instr.typeAssert (a.eval x) xT asserted ok) ρ s w (opTypeAssert E τ s x asserted ok) := by
  unfold opTypeAssert
  split
  · trivial
  · rename_i t v d hn hv hd
    have hx := ev_ok ht hv
    simp only [VRel] at hx
    obtain ⟨y, hy, hvy⟩ := hx
    have hu := und_ok H.toEnvOk hd
    have hnot : ∀ ms, d ≠ .interface ms := fun ms e => hn ms e
    split
    · rename_i hb
      have heq : t = asserted := Nat.eq_of_beq_eq_true hb
      subst heq
      refine XV_pure hg ⟨.tuple #[y, .bool true], ?_, by simp only [VRel]; exact ⟨_, rfl, VRels.cons hvy (VRels.cons (by simp only [VRel]) VRels.nil)⟩⟩
      rw [hy]
      simp only [Instr.typeAssert, Sem.run_bind, run_underlying hu, Result.andThen_ok]
      cases d <;> first | (simp; done) | (exact absurd rfl (hnot _))
    · rename_i hb
      have heq : t = asserted := Nat.eq_of_beq_eq_true hb
      subst heq
      refine XV_pure hg ⟨y, ?_, hvy⟩
      rw [hy]
      simp only [Instr.typeAssert, Sem.run_bind, run_underlying hu, Result.andThen_ok]
      cases d <;> first | (simp; done) | (exact absurd rfl (hnot _))
    · trivial
  · trivial

theorem opExtract_ok {ρ : Rho} {τ : T V} {a : Act} {s : S} {w : World} (hg : Good ρ s w) (ht : TRel ρ τ a.tmps) (x : Operand) (i : Nat) : XV P (Instr.extract (a.eval x) i) ρ s w (opExtract τ s x i) := by
  unfold opExtract
  split
  · rename_i l hv
    have hx := ev_ok ht hv
    simp only [VRel] at hx
    obtain ⟨vs, hy, hvs⟩ := hx
    split
    · rename_i v hi
      obtain ⟨u, h1, h2⟩ := hvs.get hi
      have h1' : vs[i]? = some u := by simpa using h1
      exact XV_pure hg ⟨u, by rw [hy]; simp [Instr.extract, h1'], h2⟩
    · trivial
  · trivial

theorem doLen_ok (H : EnvOk2 P E) {ρ : Rho} {s : S} {w : World} (hg : Good ρ s w) {x : V} {x' : Value} (hx : VRel ρ x x') (t : Nat) (tys : Array Nat) (ty : Nat) (ht : tys[0]? = some t) (args : Array Value) (ha : args[0]? = some x') :
    XV P (Builtin.len_ tys ty args) ρ s w (doLen E t x s) := by
  unfold doLen
  have fin : ∀ n : Nat, (Builtin.len_ tys ty args).run P w = .ok (.int .i64 (n : Int)) w → XV P (Builtin.len_ tys ty args) ρ s w (.val (.int .i64 (.ofNat n)) s) := fun n hr =>
    XV_pure hg ⟨_, hr, by simp only [VRel]; rfl⟩
  split
  · rename_i l hu
    simp only [VRel] at hx
    obtain ⟨b, rfl, rfl⟩ := hx
    rw [forceN_eq]
    exact fin _ (by simp [Builtin.len_, ht, ha, run_underlying (und_ok H.toEnvOk hu), goInt, bytes_length])
  · rename_i n e hu
    exact fin _ (by simp [Builtin.len_, ht, ha, run_underlying (und_ok H.toEnvOk hu), goInt])
  · rename_i e hu
    simp only [VRel] at hx
    subst hx
    exact fin 0 (by simp [Builtin.len_, ht, ha, run_underlying (und_ok H.toEnvOk hu), goInt])
  · rename_i e hu
    simp only [VRel] at hx
    obtain ⟨a, c, rfl⟩ := hx
    exact fin 0 (by simp [Builtin.len_, ht, ha, run_underlying (und_ok H.toEnvOk hu), goInt])
  · rename_i e i o n c hu
    simp only [VRel] at hx
    obtain ⟨l, cap, _, rfl, _⟩ := hx
    exact fin n (by simp [Builtin.len_, ht, ha, run_underlying (und_ok H.toEnvOk hu), goInt])
  · rename_i k e hu
    simp only [VRel] at hx
    subst hx
    exact fin 0 (by simp [Builtin.len_, ht, ha, run_underlying (und_ok H.toEnvOk hu), goInt])
  · rename_i k e i hu
    simp only [VRel] at hx
    obtain ⟨l, hl, rfl⟩ := hx
    split
    · rename_i es clock hc
      obtain ⟨es', hb, her, hobj⟩ := map_at (P := P) hg hc hl
      rw [forceN_eq]
      refine fin _ ?_
      have := her.length
      simp only [Array.length_toList] at this
      simp [Builtin.len_, ht, ha, run_underlying (und_ok H.toEnvOk hu), goInt, hobj, this]
    · trivial
  · rename_i e hu
    split
    · rename_i n e' hu2
      exact fin n (by simp [Builtin.len_, ht, ha, run_underlying (und_ok H.toEnvOk hu), run_underlying (und_ok H.toEnvOk hu2), goInt])
    · trivial
  · trivial

theorem minX_ok {ρ : Rho} (mx : Bool) (f : Value → Value → Sem Value)
    (hf : ∀ k a b w, (f (.int k a) (.int k b)).run P w = .ok (.int k (if lessX mx a b = true then b else a)) w) :
    ∀ {rest : List V} {vs : List Value}, VRels ρ rest vs → ∀ {k : IntKind} {a : Int} {r : V}, minX mx k a rest = some r → ∀ w, ∃ r', (vs.foldlM f (.int k a)).run P w = .ok r' w ∧ VRel ρ r r'
  | [], _, h, k, a, r, hr, w => by
    rw [VRels.nil_iff] at h
    subst h
    simp only [minX, Option.some.injEq] at hr
    subst hr
    exact ⟨.int k a, rfl, by simp only [VRel]⟩
  | x :: rest, _, h, k, a, r, hr, w => by
    rw [VRels.cons_iff] at h
    obtain ⟨v, vs, rfl, h2, h3⟩ := h
    unfold minX at hr
    split at hr
    · rename_i heq; cases heq
    · rename_i j b rest' heq
      simp only [List.cons.injEq] at heq
      obtain ⟨rfl, rfl⟩ := heq
      simp only [VRel] at h2
      subst h2
      split at hr
      · rename_i hk
        have hk' := kindEq_iff.1 hk
        subst hk'
        split at hr
        · rename_i hc
          obtain ⟨r', g1, g2⟩ := minX_ok mx f hf h3 hr w
          refine ⟨r', ?_, g2⟩
          simp only [List.foldlM_cons, Sem.run_bind, hf, hc, if_true, Result.andThen_ok, g1]
        · rename_i hc
          obtain ⟨r', g1, g2⟩ := minX_ok mx f hf h3 hr w
          refine ⟨r', ?_, g2⟩
          simp only [List.foldlM_cons, Sem.run_bind, hf, hc, Bool.false_eq_true, if_false, Result.andThen_ok, g1]
      · cases hr
    · cases hr

theorem min2_ok (k : IntKind) (a b : Int) (w : World) : (Builtin.min2 (.int k a) (.int k b)).run P w = .ok (.int k (if lessX false a b = true then b else a)) w := by
  simp [Builtin.min2, lessX, ltI_eq]
theorem max2_ok (k : IntKind) (a b : Int) (w : World) : (Builtin.max2 (.int k a) (.int k b)).run P w = .ok (.int k (if lessX true a b = true then b else a)) w := by
  simp [Builtin.max2, lessX, ltI_eq]
end
end Go.X
