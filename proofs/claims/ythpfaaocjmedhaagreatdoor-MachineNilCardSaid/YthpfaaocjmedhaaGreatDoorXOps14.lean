/- A part of the proof that a law answers true for every input: an executor of the model over an abstract heap, proved sound, or the use of it. -/
import Derived.Test.YthpfaaocjmedhaaGreatDoorXOps13
namespace Go.X
open Go
section
variable {P : Program} {E : Env}

theorem doAppend_ok (H : EnvOk2 P E) {ρ : Rho} {s : S} {w : World} (hg : Good ρ s w) {x y : V} {x' y' : Value} (hx : VRel ρ x x') (hy : VRel ρ y y') {tys : Array Nat} {t t2 ty : Nat} (h0 : tys[0]? = some t) (h1 : tys[1]? = some t2) :
    XV P (Builtin.append_ tys ty #[x', y']) ρ s w (doAppend E t t2 x y s) := by
  unfold doAppend
  split
  · rename_i e d hu hu2
    split
    · rename_i es m hd hes hm
      obtain ⟨ti, hti, htn⟩ := size_ok H.toEnvOk hes
      split
      · rename_i new hnew
        split
        · rename_i hb
          exact appendTo_ok H hg hx hy h0 h1 (und_ok H.toEnvOk hu) (und_ok H.toEnvOk hu2) hd hti htn hm hnew (Nat.eq_of_beq_eq_true hb)
        · trivial
      · trivial
    · trivial
  · trivial

theorem doCopy_ok (H : EnvOk2 P E) {ρ : Rho} {s : S} {w : World} (hg : Good ρ s w) {x y : V} {x' y' : Value} (hx : VRel ρ x x') (hy : VRel ρ y y') {tys : Array Nat} {t ty : Nat} (h0 : tys[0]? = some t) :
    XV P (Builtin.copy_ tys ty #[x', y']) ρ s w (doCopy E t x y s) := by
  unfold doCopy
  split
  · rename_i e n m hu hn hm
    split
    · rename_i es hes
      obtain ⟨ti, hti, htn⟩ := size_ok H.toEnvOk hes
      rw [forceN_eq]
      split
      · rename_i new hnew
        obtain ⟨vs, hv1, hv2⟩ := sliceCells_ok (P := P) hg hy hnew
        have hlen := lenX_ok (P := P) hy hm w
        have hv1' : (Builtin.firstCells ti.size (m.min n) y').run P w = .ok vs w := by rw [htn]; exact hv1
        unfold copyTo
        split
        · simp only [VRel] at hx
          subst hx
          simp only [lenX, Option.some.injEq] at hn
          subst hn
          have hz : Nat.min m 0 = 0 := Nat.min_eq_right (Nat.zero_le _)
          rw [hz] at hv1'
          refine XV_pure hg ⟨.int .i64 ((Nat.min m 0 : Nat) : Int), ?_, by simp only [VRel]; rfl⟩
          simp [Builtin.copy_, h0, run_underlying (und_ok H.toEnvOk hu), hlen, run_sizeOf hti, hv1', goInt]
        · rename_i i o n' c
          simp only [VRel] at hx
          obtain ⟨l, cap, hl, rfl, _⟩ := hx
          simp only [lenX, Option.some.injEq] at hn
          subst hn
          split
          · rename_i tot cs el hc
            split
            · rename_i hb1 hb2
              obtain ⟨g1, g2⟩ := write_ok (P := P) hg hc hl hv2 hb2 (o := o) (Nat.le_of_ble_eq_true hb1)
              rw [layCells_eq]
              simp only [S.set, T.put_eq]
              refine ⟨ρ, _, .int .i64 ((Nat.min m n' : Nat) : Int), ?_, by simp only [VRel]; rfl, g2⟩
              simp [Builtin.copy_, h0, run_underlying (und_ok H.toEnvOk hu), hlen, run_sizeOf hti, hv1', goInt, g1]
            · trivial
          · trivial
        · trivial
      · trivial
    · trivial
  · trivial

theorem doClear_ok (H : EnvOk2 P E) {ρ : Rho} {s : S} {w : World} (hg : Good ρ s w) {x : V} {x' : Value} (hx : VRel ρ x x') {tys : Array Nat} {t ty : Nat} (h0 : tys[0]? = some t) :
    XV P (Builtin.clear_ tys ty #[x']) ρ s w (doClear E t x s) := by
  unfold doClear
  have fin : (Builtin.clear_ tys ty #[x']).run P w = .ok (.tuple #[]) w → XV P (Builtin.clear_ tys ty #[x']) ρ s w (.val (.tuple []) s) := fun hr =>
    XV_pure hg ⟨_, hr, by simp only [VRel]; exact ⟨_, rfl, VRels.nil⟩⟩
  split
  · rename_i e hu
    simp only [VRel] at hx
    subst hx
    exact fin (by simp [Builtin.clear_, h0, run_underlying (und_ok H.toEnvOk hu)])
  · rename_i e hu
    simp only [VRel] at hx
    obtain ⟨a, c, rfl⟩ := hx
    exact fin (by simp [Builtin.clear_, h0, run_underlying (und_ok H.toEnvOk hu)])
  · rename_i e i o n c hu
    simp only [VRel] at hx
    obtain ⟨l, cap, hl, rfl, _⟩ := hx
    split
    · exact fin (by simp [Builtin.clear_, h0, run_underlying (und_ok H.toEnvOk hu)])
    · rename_i n
      split
      · rename_i es tot cs el hes hc
        split
        · rename_i z hz
          rcases zeroRow_ok (ρ := ρ) H.toEnvOk hz with ⟨hn0, _⟩ | ⟨_, ti, z', hti, hz', hzs, hv⟩
          · omega
          · split
            · rename_i hb1 hb2
              obtain ⟨g1, g2⟩ := write_ok (P := P) hg hc hl hv hb2 (o := o) (Nat.le_of_ble_eq_true hb1)
              rw [layCells_eq]
              simp only [S.set, T.put_eq]
              refine ⟨ρ, _, .tuple #[], ?_, by simp only [VRel]; exact ⟨_, rfl, VRels.nil⟩, g2⟩
              have hzc : (Builtin.zeroCells z'.cells (n + 1)) = (Array.range ((n + 1) * es)).map (z'.cells[· % z'.cells.size]!) := by
                unfold Builtin.zeroCells
                rw [hzs]
              have hzv : (zeroValue e).run P w = .ok z' w := by simp [zeroValue, typeInfo, hti, hz']
              simp only [Builtin.clear_, h0, List.getElem?_toArray, List.getElem?_cons_zero, Sem.run_bind, run_underlying (und_ok H.toEnvOk hu), Result.andThen_ok, hzv, hzc, g1]
              rfl
            · trivial
        · trivial
      · trivial
  · trivial

theorem doBuiltin_ok (H : EnvOk2 P E) {ρ : Rho} {s : S} {w : World} (hg : Good ρ s w) (b : Builtin) (tys : Array Nat) (ty : Nat) (cs : Array Bool) {args : List V} {args' : Array Value} (ha : VRels ρ args args'.toList) :
    XN P (builtin b tys ty cs args') ρ s w (doBuiltin E b tys.toList args s) := by
  unfold doBuiltin
  split
  · rename_i t ts x xs hts
    have h0 : tys[0]? = some t := by
      have : tys.toList[0]? = some t := by rw [hts]; rfl
      simpa using this
    rw [VRels.cons_iff] at ha
    obtain ⟨v, rest, hr, hv, _⟩ := ha
    have ha0 : args'[0]? = some v := by
      have : args'.toList[0]? = some v := by rw [hr]; rfl
      simpa using this
    exact XN_of_XV (doLen_ok H hg hv t tys ty h0 args' ha0)
  · rename_i t t2 x y hts
    have h0 : tys[0]? = some t := by
      have : tys.toList[0]? = some t := by rw [hts]; rfl
      simpa using this
    have h1 : tys[1]? = some t2 := by
      have : tys.toList[1]? = some t2 := by rw [hts]; rfl
      simpa using this
    rw [VRels.cons_iff] at ha
    obtain ⟨v, rest, hr, hv, ha⟩ := ha
    rw [VRels.cons_iff] at ha
    obtain ⟨u, rest', rfl, hu, ha⟩ := ha
    rw [VRels.nil_iff] at ha
    subst ha
    have : args' = #[v, u] := Array.toList_inj.1 (by rw [hr])
    subst this
    exact XN_of_XV (doAppend_ok H hg hv hu h0 h1)
  · rename_i t ts x y hts
    have h0 : tys[0]? = some t := by
      have : tys.toList[0]? = some t := by rw [hts]; rfl
      simpa using this
    rw [VRels.cons_iff] at ha
    obtain ⟨v, rest, hr, hv, ha⟩ := ha
    rw [VRels.cons_iff] at ha
    obtain ⟨u, rest', rfl, hu, ha⟩ := ha
    rw [VRels.nil_iff] at ha
    subst ha
    have : args' = #[v, u] := Array.toList_inj.1 (by rw [hr])
    subst this
    exact XN_of_XV (doCopy_ok H hg hv hu h0)
  · rename_i t ts x y hts
    have h0 : tys[0]? = some t := by
      have : tys.toList[0]? = some t := by rw [hts]; rfl
      simpa using this
    rw [VRels.cons_iff] at ha
    obtain ⟨v, rest, hr, hv, ha⟩ := ha
    rw [VRels.cons_iff] at ha
    obtain ⟨u, rest', rfl, hu, ha⟩ := ha
    rw [VRels.nil_iff] at ha
    subst ha
    have : args' = #[v, u] := Array.toList_inj.1 (by rw [hr])
    subst this
    exact XN_of_XV (doDelete_ok H hg hv hu t tys ty h0)
  · rename_i t ts x hts
    have h0 : tys[0]? = some t := by
      have : tys.toList[0]? = some t := by rw [hts]; rfl
      simpa using this
    rw [VRels.cons_iff] at ha
    obtain ⟨v, rest, hr, hv, ha⟩ := ha
    rw [VRels.nil_iff] at ha
    subst ha
    have : args' = #[v] := Array.toList_inj.1 (by rw [hr])
    subst this
    exact XN_of_XV (doClear_ok H hg hv h0)
  · rename_i k a rest
    rw [VRels.cons_iff] at ha
    obtain ⟨v, vs, hr, hv, ha⟩ := ha
    simp only [VRel] at hv
    subst hv
    refine XN_of_XV (optV_ok hg fun r hr' => ?_)
    obtain ⟨r', g1, g2⟩ := minX_ok (P := P) false Builtin.min2 (fun k a b w => min2_ok k a b w) ha hr' w
    exact ⟨r', by simp only [Builtin.min_, hr]; exact g1, g2⟩
  · rename_i k a rest
    rw [VRels.cons_iff] at ha
    obtain ⟨v, vs, hr, hv, ha⟩ := ha
    simp only [VRel] at hv
    subst hv
    refine XN_of_XV (optV_ok hg fun r hr' => ?_)
    obtain ⟨r', g1, g2⟩ := minX_ok (P := P) true Builtin.max2 (fun k a b w => max2_ok k a b w) ha hr' w
    exact ⟨r', by simp only [Builtin.max_, hr]; exact g1, g2⟩
  · rename_i t ts x hts
    have h0 : tys[0]? = some t := by
      have : tys.toList[0]? = some t := by rw [hts]; rfl
      simpa using this
    rw [VRels.cons_iff] at ha
    obtain ⟨v, rest, hr, hv, ha⟩ := ha
    rw [VRels.nil_iff] at ha
    subst ha
    have : args' = #[v] := Array.toList_inj.1 (by rw [hr])
    subst this
    refine XN_of_XV ?_
    split
    · rename_i e hu
      simp only [VRel] at hv
      subst hv
      exact XV_pure hg ⟨.int .i64 (0 : Int), by simp [Builtin.cap_, h0, run_underlying (und_ok H.toEnvOk hu), goInt], by simp only [VRel]; rfl⟩
    · rename_i e i o n c hu
      simp only [VRel] at hv
      obtain ⟨l, cap, _, rfl, hc⟩ := hv
      have hc' : cap = c := hc
      subst hc'
      exact XV_pure hg ⟨.int .i64 (cap : Int), by simp [Builtin.cap_, h0, run_underlying (und_ok H.toEnvOk hu), goInt], by simp only [VRel]; rfl⟩
    · trivial
  · trivial
end
end Go.X
