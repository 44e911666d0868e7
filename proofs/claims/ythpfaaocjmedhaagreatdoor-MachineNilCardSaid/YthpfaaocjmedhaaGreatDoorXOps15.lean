/- A part of the proof that a law answers true for every input: an executor of the model over an abstract heap, proved sound, or the use of it. -/
import Derived.Test.YthpfaaocjmedhaaGreatDoorXOps14
namespace Go.X
open Go
section
variable {P : Program} {E : Env}

theorem enterX_ok (H : EnvOk2 P E) {ρ : Rho} {s : S} {w : World} (hg : Good ρ s w) (f : Nat) {args : List V} {args' : Array Value} (ha : VRels ρ args args'.toList) {e : Sem Next} (he : e.run P w = (callFunc f args').run P w) :
    XN P e ρ s w (enterX E f args s) := by
  unfold enterX
  split
  · rename_i fn hf
    split
    · rename_i c hb
      refine ⟨ρ, w, args', ?_, ha, Post.refl hg⟩
      rw [he]
      have h1 := H.funcs _ _ hf
      have h2 := H.names _ _ hf
      have h3 : ¬ fn.name = "runtime.NumGoroutine" := by simpa using h2
      simp [callFunc, program, Sem.run, h1, h3, hb]
    · trivial
  · trivial

theorem doInvoke_ok (H : EnvOk2 P E) {ρ : Rho} {s : S} {w : World} (hg : Good ρ s w) {recv : V} {recv' : Value} (hr : VRel ρ recv recv') (name : String) {args : List V} {args' : Array Value} (ha : VRels ρ args args'.toList) {e : Sem Next} (he : e.run P w = (callMethod recv' name args').run P w) :
    XN P e ρ s w (doInvoke E recv name args s) := by
  unfold doInvoke
  split
  · rename_i t v
    simp only [VRel] at hr
    obtain ⟨y, rfl, hv⟩ := hr
    split
    · rename_i f p hm
      have hmeth : ∀ fuel (xt : TypeDesc), P.underlying t = some xt → ((∃ q, xt = .pointer q) ∧ p = true) ∨ ((∀ q, xt ≠ .pointer q) ∧ p = false) → (method (fuel + 1) t y name).run P w = .ok (f, y) w := by
        unfold methodX at hm
        split at hm
        · rename_i i hi
          split at hm
          · rename_i m hfm
            split at hm
            · rename_i f' p' hpe hfu
              simp only [Option.some.injEq, Prod.mk.injEq] at hm
              obtain ⟨rfl, rfl⟩ := hm
              intro fuel xt hu hcase
              have hi' := info_ok H.toEnvOk hi
              have hf1 : i.methods.find? (fun m => m.name == name) = some m := by rw [← Array.find?_toList]; exact hfm
              have hpe' : m.path.toList = [] := by simpa using hpe
              rcases hcase with ⟨⟨q, rfl⟩, rfl⟩ | ⟨hq, rfl⟩
              · simp [method, typeInfo, hi', hf1, hpe', follow, hfu, receiverAt, run_underlying hu, Place.get]
              · have : (receiverAt t (.val y) false (if m.path.isEmpty then some ((name.splitOn ".").getLastD name) else none)).run P w = .ok y w := by
                  simp only [receiverAt, Sem.run_bind, run_underlying hu, Result.andThen_ok]
                  cases xt <;> first | rfl | (exact absurd rfl (hq _))
                simp only [method, typeInfo, Sem.run_bind, program, Sem.run, Result.andThen_ok, hi', hf1, hpe', follow, hfu, Sem.run_pure, this]
            · cases hm
          · cases hm
        · cases hm
      have hcm : (∃ xt : TypeDesc, P.underlying t = some xt ∧ (((∃ q, xt = .pointer q) ∧ p = true) ∨ ((∀ q, xt ≠ .pointer q) ∧ p = false))) → e.run P w = (callFunc f (#[y] ++ args')).run P w := fun ⟨xt, h1, h2⟩ => by
        have h3 : (method (P.types.size + Made.depth) t y name).run P w = .ok (f, y) w := hmeth (P.types.size + 99) xt h1 h2
        rw [he]
        simp [callMethod, program, Sem.run, h3]
      have hargs : VRels ρ (v :: args) (#[y] ++ args').toList := by simpa using VRels.cons hv ha
      split
      · rename_i q hu
        exact enterX_ok H hg f hargs (hcm ⟨_, und_ok H.toEnvOk hu, .inl ⟨⟨q, rfl⟩, rfl⟩⟩)
      · trivial
      · rename_i d hn hu
        exact enterX_ok H hg f hargs (hcm ⟨d, und_ok H.toEnvOk hu, .inr ⟨fun q e => hn q (by rw [← e]), rfl⟩⟩)
      · trivial
    · trivial
  · trivial

theorem doApply_ok (H : EnvOk2 P E) {ρ : Rho} {s : S} {w : World} (hg : Good ρ s w) {fv : V} {fv' : Value} (hf : VRel ρ fv fv') {args : List V} {args' : Array Value} (ha : VRels ρ args args'.toList) {e : Sem Next}
    (he : e.run P w = ((Deferred.ofValue fv' args').run P w).andThen fun d w' => (invoke d.target d.args).run P w') : XN P e ρ s w (doApply E fv args s) := by
  unfold doApply
  split
  · rename_i f first cap
    simp only [VRel] at hf
    obtain ⟨fs, cs, rfl, h1, h2⟩ := hf
    rw [forceS_eq]
    refine enterX_ok H hg f (args' := fs ++ args' ++ cs) (by simpa using VRels.append (VRels.append h1 ha) h2) ?_
    rw [he]
    simp [Deferred.ofValue, invoke]
  · rename_i l
    simp only [VRel] at hf
    obtain ⟨lc, hl, rfl⟩ := hf
    refine ⟨rfl, lc, args', hl, ha, ?_⟩
    rw [he]
    simp [Deferred.ofValue, invoke]
  · trivial

theorem opCall_ok (H : EnvOk2 P E) {ρ : Rho} {τ : T V} {a : Act} {s : S} {w : World} (hg : Good ρ s w) (ht : TRel ρ τ a.tmps) (c : Call) (ty : Nat) :
    XN P (do let d ← resolve a.eval c ty; invoke d.target d.args) ρ s w (opCall E τ s c) := by
  unfold opCall
  split
  · rename_i l hl
    have ha : VRels ρ l (c.args.map a.eval).toList := by simpa using evs_ok ht hl
    unfold callTo
    split
    · rename_i b hc
      have hb := doBuiltin_ok H hg b c.argTypes ty (c.args.map fun | .const _ => true | _ => false) ha
      have he : (do let d ← resolve a.eval c ty; invoke d.target d.args : Sem Next).run P w = (builtin b c.argTypes ty (c.args.map fun | .const _ => true | _ => false) (c.args.map a.eval)).run P w := by
        simp only [resolve, hc, Sem.run_bind, Sem.run_pure, Result.andThen_ok, invoke]
        rfl
      cases hq : doBuiltin E b c.argTypes.toList l s with
      | val v s' => rw [hq] at hb; obtain ⟨ρ', w', v', k1, k2, k3⟩ := hb; exact ⟨ρ', w', v', he.trans k1, k2, k3⟩
      | skip s' => rw [hq] at hb; obtain ⟨ρ', w', k1, k3⟩ := hb; exact ⟨ρ', w', he.trans k1, k3⟩
      | no _ => trivial
      | enter _ _ _ => rw [hq] at hb; obtain ⟨ρ', w', v', k1, k2, k3⟩ := hb; exact ⟨ρ', w', v', he.trans k1, k2, k3⟩
      | round _ _ _ => rw [hq] at hb; obtain ⟨k0, lc, args', k1, k2, k3⟩ := hb; exact ⟨k0, lc, args', k1, k2, he.trans k3⟩
    · rename_i r name hc
      split
      · rename_i v hv
        refine doInvoke_ok H hg (ev_ok ht hv) name ha ?_
        have hz : ((#[a.eval r] ++ c.args.map a.eval)[0]? : Option Value) = some (a.eval r) := by
          rw [← Array.getElem?_toList]; simp
        have hx : (#[a.eval r] ++ c.args.map a.eval).extract 1 (#[a.eval r] ++ c.args.map a.eval).size = c.args.map a.eval := by
          apply Array.toList_inj.1
          simp
          exact List.take_of_length_le (by simp)
        simp only [resolve, hc, Sem.run_bind, Sem.run_pure, Result.andThen_ok, invoke, hz, hx]
      · trivial
    · rename_i f hc
      split
      · rename_i v hv
        refine doApply_ok H hg (ev_ok ht hv) ha ?_
        simp only [resolve, hc, Sem.run_bind]
      · trivial
  · trivial

theorem opNilCheck_ok {ρ : Rho} {τ : T V} {a : Act} {s : S} {w : World} (hg : Good ρ s w) (ht : TRel ρ τ a.tmps) (x : Operand) (o : Oper) (ho : o.op = .nilCheck x) : XN P (execOp a.eval o) ρ s w (opNilCheck τ s x) := by
  unfold opNilCheck
  split
  · rename_i i q hx
    have h := ev_ok ht hx
    have h' := h
    simp only [VRel] at h
    obtain ⟨l, hl, h⟩ := h
    exact ⟨ρ, w, a.eval x, by simp [execOp, ho, h], h', Post.refl hg⟩
  · rename_i i q hx
    have h := ev_ok ht hx
    have h' := h
    simp only [VRel] at h
    exact ⟨ρ, w, a.eval x, by simp [execOp, ho, h], h', Post.refl hg⟩
  · rename_i f p q hx
    have h := ev_ok ht hx
    have h' := h
    simp only [VRel] at h
    obtain ⟨fs, cs, h, _, _⟩ := h
    exact ⟨ρ, w, a.eval x, by simp [execOp, ho, h], h', Post.refl hg⟩
  · rename_i t v hx
    have h := ev_ok ht hx
    have h' := h
    simp only [VRel] at h
    obtain ⟨y, h, _⟩ := h
    exact ⟨ρ, w, a.eval x, by simp [execOp, ho, h], h', Post.refl hg⟩
  · trivial

/-- An operation, whole. -/
theorem doOp_ok (H : EnvOk2 P E) {ρ : Rho} {τ : T V} {a : Act} {s : S} {w : World} (hg : Good ρ s w) (ht : TRel ρ τ a.tmps) (o : Oper) : XN P (execOp a.eval o) ρ s w (doOp E τ s o.op) := by
  obtain ⟨dst, op, type, pos, after, guard⟩ := o
  cases op with
  | move x => exact XN_of_XV (e := pure (a.eval x)) (opMove_ok hg ht x)
  | assign x => exact XN_of_XV (e := pure (a.eval x)) (opMove_ok hg ht x)
  | pick c x y =>
    have h := XN_of_XV (opPick_ok (P := P) hg ht c x y)
    have he : (do pure (.value (← (do pure (if ← asBool (a.eval c) then a.eval x else a.eval y)))) : Sem Next) = execOp a.eval ⟨dst, .pick c x y, type, pos, after, guard⟩ := by
      simp [execOp]
    rw [he] at h
    exact h
  | alloc e => exact XN_of_XV (opAlloc_ok H.toEnvOk hg e)
  | box e x => exact XN_of_XV (opBox_ok hg ht e x)
  | build t parts => exact XN_of_XV (opBuild_ok H.toEnvOk hg ht t parts)
  | buildSlice t n parts => exact XN_of_XV (opBuildSlice_ok H.toEnvOk hg ht t n parts)
  | insert t m k v =>
    show XN P _ ρ s w (opMapUpdate E τ s t m k v)
    unfold opMapUpdate
    split
    · rename_i x y z hx hy hz; exact XN_of_XU (doMapUpdate_ok H hg (ev_ok ht hx) (ev_ok ht hy) (ev_ok ht hz) t)
    · trivial
  | load t x =>
    show XN P _ ρ s w (opLoad E τ s t x)
    unfold opLoad
    split
    · rename_i v hv; exact XN_of_XV (doLoad_ok H.toEnvOk hg (ev_ok ht hv) t)
    · trivial
  | store t x y =>
    show XN P _ ρ s w (opStore E τ s t x y)
    unfold opStore
    split
    · rename_i v u hv hu; exact XN_of_XU (doStore_ok H.toEnvOk hg (ev_ok ht hv) (ev_ok ht hu) t)
    · trivial
  | ready _ => trivial
  | waits _ => trivial
  | nilCheck x => exact opNilCheck_ok hg ht x _ rfl
  | binOp op t x y yt => exact XN_of_XV (opBin_ok H hg ht op t x y)
  | unOp op t x => exact XN_of_XV (opUn_ok hg ht op x)
  | convert src dst' x =>
    show XN P _ ρ s w (opConvert E τ s src dst' x)
    unfold opConvert
    split
    · rename_i v hv; exact XN_of_XV (doConvert_ok H hg (ev_ok ht hv) src dst')
    · trivial
  | sliceToArrayPointer _ _ => trivial
  | makeInterface t x => exact XN_of_XV (opMakeInterface_ok H hg ht t x)
  | makeFunc fn first cap => exact XN_of_XV (opMakeFunc_ok hg ht fn first cap)
  | makeMap t r => exact XN_of_XV (opMakeMap_ok H hg ht t r)
  | makeChan _ _ => trivial
  | makeSlice t l c => exact XN_of_XV (opMakeSlice_ok H.toEnvOk hg ht t l c)
  | slice t x lo hi mx =>
    show XN P _ ρ s w (opSlice E τ s t x lo hi mx)
    unfold opSlice
    split
    · rename_i v b c d hv hb hc hd
      exact XN_of_XV (doSlice_ok H hg (ev_ok ht hv) (optEv_rel ht hb) (optEv_rel ht hc) (optEv_rel ht hd) t)
    · trivial
  | fieldAddr t x f =>
    show XN P _ ρ s w (opFieldAddr E τ s t x f)
    unfold opFieldAddr
    split
    · rename_i v hv; exact XN_of_XV (doFieldAddr_ok H.toEnvOk hg (ev_ok ht hv) t f)
    · trivial
  | field t x f =>
    show XN P _ ρ s w (opField E τ s t x f)
    unfold opField
    split
    · rename_i v hv; exact XN_of_XV (doField_ok H.toEnvOk hg (ev_ok ht hv) t f)
    · trivial
  | indexAddr t x i =>
    show XN P _ ρ s w (opIndexAddr E τ s t x i)
    unfold opIndexAddr
    split
    · rename_i v u hv hu; exact XN_of_XV (doIndexAddr_ok H.toEnvOk hg (ev_ok ht hv) (ev_ok ht hu) t)
    · trivial
  | index t x i =>
    show XN P _ ρ s w (opIndex E τ s t x i)
    unfold opIndex
    split
    · rename_i v u hv hu; exact XN_of_XV (doIndex_ok H.toEnvOk hg (ev_ok ht hv) (ev_ok ht hu) t)
    · trivial
  | lookup t x i ok =>
    show XN P _ ρ s w (opLookup E τ s t x i ok)
    unfold opLookup
    split
    · rename_i v u hv hu; exact XN_of_XV (doLookup_ok H hg (ev_ok ht hv) (ev_ok ht hu) t ok)
    · trivial
  | mapUpdate t m k v =>
    show XN P _ ρ s w (opMapUpdate E τ s t m k v)
    unfold opMapUpdate
    split
    · rename_i x y z hx hy hz; exact XN_of_XU (doMapUpdate_ok H hg (ev_ok ht hx) (ev_ok ht hy) (ev_ok ht hz) t)
    · trivial
  | mapEntry t m k =>
    show XN P _ ρ s w (opMapEntry E τ s t m k)
    unfold opMapEntry
    split
    · rename_i x y hx hy; exact XN_of_XV (doMapEntry_ok H hg (ev_ok ht hx) (ev_ok ht hy) t)
    · trivial
  | entryStore t m st v =>
    show XN P _ ρ s w (opEntryStore τ s m st v)
    unfold opEntryStore
    split
    · rename_i x y z hx hy hz; exact XN_of_XU (doEntryStore_ok hg (ev_ok ht hx) (ev_ok ht hy) (ev_ok ht hz) t)
    · trivial
  | range t x =>
    show XN P _ ρ s w (opRange E τ s t x)
    unfold opRange
    split
    · rename_i v hv; exact XN_of_XV (doRange_ok H hg (ev_ok ht hv) t)
    · trivial
  | next it isStr =>
    show XN P _ ρ s w (opNext τ s it isStr)
    unfold opNext
    split
    · rename_i v hv; exact XN_of_XV (doNext_ok hg (ev_ok ht hv) isStr type)
    · trivial
  | entry it =>
    show XN P _ ρ s w (opEntry τ s it)
    unfold opEntry
    split
    · rename_i v hv; exact XN_of_XV (doEntry_ok hg (ev_ok ht hv))
    · trivial
  | typeAssert x xt as ok => exact XN_of_XV (opTypeAssert_ok H hg ht x xt as ok)
  | extract x i => exact XN_of_XV (opExtract_ok hg ht x i)
  | call c => exact opCall_ok H hg ht c type
  | go _ => trivial
  | defer _ => trivial
  | panic _ => trivial
  | send _ _ => trivial
  | recv _ _ _ => trivial
  | select _ _ => trivial
end
end Go.X
