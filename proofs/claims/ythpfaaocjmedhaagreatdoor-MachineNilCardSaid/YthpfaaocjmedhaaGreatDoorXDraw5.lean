/- A part of the proof that a law answers true for every input: an executor of the model over an abstract heap, proved sound, or the use of it. -/
import Derived.Test.YthpfaaocjmedhaaGreatDoorXDraw4
namespace Go.X
open Go

def unl (listed : Array Bool) : Nat → Nat
  | 0 => 0
  | n + 1 => unl listed n + if listed.getD n false = true then 0 else 1

theorem unl_set {listed : Array Bool} {i : Nat} (hi : i < listed.size) (hn : ¬ Lst listed i) : ∀ n, (i < n → unl (listed.setIfInBounds i true) n + 1 = unl listed n) ∧ (n ≤ i → unl (listed.setIfInBounds i true) n = unl listed n)
  | 0 => ⟨fun h => absurd h (by omega), fun _ => rfl⟩
  | n + 1 => by
    obtain ⟨h1, h2⟩ := unl_set hi hn n
    have hs : ∀ j, j ≠ i → ((listed.setIfInBounds i true).getD j false = true ↔ listed.getD j false = true) := fun j hj => by
      have := lst_set (listed := listed) (j := j) hi
      unfold Lst at this
      rw [this]
      exact ⟨fun h => h.resolve_left hj, .inr⟩
    refine ⟨fun h => ?_, fun h => ?_⟩
    · by_cases e : n = i
      · subst e
        have h3 : (listed.setIfInBounds n true).getD n false = true := (lst_set hi).2 (.inl rfl)
        have h4 : ¬ listed.getD n false = true := hn
        simp only [unl]
        rw [if_pos h3, if_neg h4, h2 (Nat.le_refl _)]
      · have := h1 (by omega)
        simp only [unl, hs n e]
        omega
    · simp only [unl, hs n (by omega), h2 (by omega)]

theorem unl_zero {listed : Array Bool} : ∀ n, unl listed n = 0 → ∀ i, i < n → Lst listed i
  | 0, _, i, hi => absurd hi (by omega)
  | n + 1, h, i, hi => by
    simp only [unl] at h
    by_cases e : i = n
    · subst e
      unfold Lst
      by_cases hh : listed.getD i false = true
      · exact hh
      · rw [if_neg hh] at h; omega
    · exact unl_zero n (by omega) i (by omega)

theorem unl_new (n m : Nat) : unl (Array.replicate m false) n = n := by
  induction n with
  | zero => rfl
  | succ n ih =>
    simp only [unl, ih]
    rw [if_neg]
    simp [Array.getD_eq_getD_getElem?, Array.getElem?_replicate]
    split <;> simp

theorem good_leaf {ρ : Rho} {n : Nat} {w : World} (h : ∀ i, n ≤ i → ρ i = none) : Good ρ ⟨.leaf, n⟩ w :=
  ⟨fun i o hi => (by rw [T.get_leaf] at hi; cases hi), fun i j oi oj li lj hi => (by rw [T.get_leaf] at hi; cases hi), h⟩

theorem clsOf_load {E : Env} {op : Op} (h : clsOf E op = .load) : ∃ t x, op = .load t x := by
  cases op <;> simp only [clsOf] at h <;> first | (cases h; done) | exact ⟨_, _, rfl⟩ | skip
  all_goals
    first
      | (unfold clsSlice at h; split at h <;> cases h)
      | (unfold clsCall at h; split at h <;> first | (cases h; done) | (unfold clsLen at h; split at h <;> first | (cases h; done) | (split at h <;> cases h)))

section
variable {P : Program} {E : Env} {nt : Nat} {ops : Array Oper} {recs : List Rec} {Tt : Nat → T V} {St : Nat → S}

theorem ready_nil {listed : Array Bool} (st : Static E ops.toList) (hsz : listed.size = ops.toList.length) (h : Region.ready .any ops listed = []) : ∀ i, i < ops.toList.length → Lst listed i := by
  intro i
  induction i using Nat.strongRecOn with
  | _ i ih =>
    intro hi
    have hi' : i < ops.size := by simpa using hi
    by_cases hl : Lst listed i
    · exact hl
    · have : i ∈ Region.ready .any ops listed := by
        refine mem_ready.2 ⟨?_, ops[i], by simp [hi'], fun e he hb => ?_⟩
        · unfold Lst at hl
          have hi2 : i < listed.size := by omega
          simp only [Array.getD_eq_getD_getElem?, Array.getElem?_eq_getElem hi2, Option.getD_some] at hl ⊢
          simpa using hl
        · have hlt := st.back i ops[i] (by simp [hi']) e (by simpa using he) hb
          exact ih e.on hlt (by omega)
      rw [h] at this
      cases this

theorem final_ok (tr : Trace P E nt ops.toList recs ops.toList Tt St) {ρ₀ : Rho} {w₀ : World} {p : Nat} {listed : Array Bool} {ρ : Rho} {a : Act} {w : World} (iT : InvT ops.toList recs nt (Tt 0) listed ρ a)
    (iH : InvH E ops.toList St ρ₀ w₀ p listed ρ w) (hall : ∀ i, i < ops.toList.length → Lst listed i) :
    Post ρ₀ (St 0) w₀ ρ (St ops.toList.length) w ∧ TRel ρ (Tt ops.toList.length) a.tmps := by
  have hch : ∀ (k : Nat) (o : Oper), p ≤ k → k < ops.toList.length → ops.toList[k]? = some o → clsOf E o.op ≠ .chain := fun k o hk hk' ho hc => by
    have := (iH.chain k o ho hc).1 (hall k hk'); omega
  have hal : ∀ (k : Nat) (o : Oper), p ≤ k → k < ops.toList.length → ops.toList[k]? = some o → clsOf E o.op = .alloc → Lst listed k := fun k o _ hk' _ _ => hall k hk'
  have hg := iH.good tr iH.ple (Nat.le_refl _) hch hal
  have hcut : ρ.cut (St ops.toList.length).next = ρ := funext fun i => by
    by_cases h : i < (St ops.toList.length).next
    · exact Rho.cut_eq h
    · rw [Rho.cut_none (by omega), iH.fresh i (by omega)]
  rw [hcut] at hg
  have hlex := lex_has (listed := listed) tr iH.ple (Nat.le_refl _) hch hal
  refine ⟨⟨hg, iH.le, iH.keep, St_mono tr (Nat.zero_le _) (Nat.le_refl _), iH.size, iH.old, fun i o l hi hl => ?_, iH.os, iH.tape, iH.output, iH.froz⟩, fun t x hx => ?_⟩
  · obtain ⟨m, _, h⟩ := hlex i o hi
    exact iH.new i o m l h hl
  · rcases Tt_get tr _ (Nat.le_refl _) t x hx with ⟨j, o, r, h1, h2, h3, h4, rfl⟩ | ⟨h1, h2⟩
    · exact iT.here j o r t h2 h3 (hall j h1) h4
    · exact iT.rest t x h2 fun j o hj _ => h1 j o ((List.getElem?_eq_some_iff.1 hj).1) hj

theorem any_ok (H : EnvOk2 P E) (tr : Trace P E nt ops.toList recs ops.toList Tt St) (st : Static E ops.toList) (r : Option Nat)
    (hload : ∀ (i : Nat) (q : Rec), recs[i]? = some q → q.c = .load → q.idle = false → loadAtB E (masks ops.toList) recs q i 0 (St 0).heap = true ∧ loadPlaces E (masks ops.toList) recs q i recs 0 = true)
    (hhuge : (St ops.toList.length).next ≤ huge) {ρ₀ : Rho} {w₀ : World} {ds : List Deferred} {Q : Exit → Act → World → Prop}
    (hQ : ∀ ρ a w, Post ρ₀ (St 0) w₀ ρ (St ops.toList.length) w → TRel ρ (Tt ops.toList.length) a.tmps → a.tmps.size = nt → a.defers = ds → Q .normal a w) :
    ∀ (fuel : Nat) (listed : Array Bool) (p : Nat) (ρ : Rho) (a : Act) (w : World), listed.size = ops.toList.length → unl listed ops.toList.length ≤ fuel → Closed ops.toList listed → InvT ops.toList recs nt (Tt 0) listed ρ a →
      InvH E ops.toList St ρ₀ w₀ p listed ρ w → a.defers = ds → wpAnyIn (fen r) 0 P .any ops Q fuel listed a w := by
  intro fuel
  induction fuel with
  | zero =>
    intro listed p ρ a w hsz hu hcl iT iH hd
    have hall := unl_zero _ (by omega : unl listed ops.toList.length = 0)
    obtain ⟨h1, h2⟩ := final_ok tr iT iH hall
    refine ⟨?_, hQ ρ a w h1 h2 iT.size hd⟩
    cases hr : Region.ready .any ops listed with
    | nil => rfl
    | cons i l =>
      exfalso
      have hi : i ∈ Region.ready .any ops listed := by rw [hr]; simp
      obtain ⟨h3, o, h4, _⟩ := mem_ready.1 hi
      have hlt := (Array.getElem?_eq_some_iff.1 h4).1
      have h5 := hall i (by simpa using hlt)
      have hi2 : i < listed.size := by rw [hsz]; simpa using hlt
      unfold Lst at h5
      simp only [Array.getD_eq_getD_getElem?, Array.getElem?_eq_getElem hi2, Option.getD_some] at h3 h5
      rw [h3] at h5; cases h5
  | succ fuel ih =>
    intro listed p ρ a w hsz hu hcl iT iH hd
    refine ⟨fun hr => ?_, fun i hi => ?_⟩
    · obtain ⟨h1, h2⟩ := final_ok tr iT iH (ready_nil st hsz hr)
      exact hQ ρ a w h1 h2 iT.size hd
    obtain ⟨h3, o, h4, h5⟩ := mem_ready.1 hi
    have hlt := (Array.getElem?_eq_some_iff.1 h4).1
    have hil : i < ops.toList.length := by simpa using hlt
    have hi2 : i < listed.size := by omega
    have ho : ops.toList[i]? = some o := by simpa using h4
    have hun : ¬ Lst listed i := by
      unfold Lst
      simp only [Array.getD_eq_getD_getElem?, Array.getElem?_eq_getElem hi2, Option.getD_some] at h3 ⊢
      rw [h3]; simp
    have hrd : ∀ e ∈ o.after.toList, Region.binds .any e = true → Lst listed e.on := fun e he hb => h5 e (by simpa using he) hb
    have hbi : ∀ j, bef (masks ops.toList) i j = true → Lst listed j := closed_bef st hcl i fun o' ho' => by rw [ho] at ho'; cases ho'; exact hrd
    have hbj : ∀ j, Lst listed j → bef (masks ops.toList) j i = true → False := fun j hl hb => hun (closed_bef st hcl j (fun o' ho' => hcl _ o' ho' hl) i hb)
    obtain ⟨q, hq, hok, hSt, hTt⟩ := tr.step i o ho
    have ht := ready_rel tr st hcl iT ho hun hrd hok
    have hw : Region.wanted o (yielded ops a.tmps) = !q.idle := by
      have := wantedX_ok ht hok.want
      simpa using this
    have hcl' : Closed ops.toList (listed.setIfInBounds i true) := fun j oj hj hl e he hb => by
      refine (lst_set hi2).2 (.inr ?_)
      rcases (lst_set hi2).1 hl with rfl | hl
      · rw [ho] at hj; cases hj; exact hrd e he hb
      · exact hcl j oj hj hl e he hb
    have hu' : unl (listed.setIfInBounds i true) ops.toList.length ≤ fuel := by
      have := (unl_set hi2 hun ops.toList.length).1 hil; omega
    have hab : ∀ f, o.about P w a.eval = some f → (fen r).fn f := fun f _ => fen_fn r f
    -- what is left, once the heap's part is seen to
    have go : ∀ (p' : Nat) (ρ' : Rho) (w' : World) (v' : Value), ρ.le ρ' → VRel ρ' q.v v' → InvH E ops.toList St ρ₀ w₀ p' (listed.setIfInBounds i true) ρ' w' →
        wpAnyIn (fen r) 0 P .any ops Q fuel (listed.setIfInBounds i true) (a.put o.dst v') w' := fun p' ρ' w' v' hle hv iH' =>
      ih _ p' ρ' _ w' (by simpa using hsz) hu' hcl' (iT.step st hle hi2 ho hq hok.dst hv) iH' ((put_defers ..).trans hd)
    have hcq : q.c = clsOf E o.op := hok.cls
    have hsame : q.s' = St i → St (i + 1) = St i := fun h => by rw [hSt, h]
    have hpc : clsOf E o.op = .chain → p ≤ i := fun hc => by
      rcases Nat.lt_or_ge i p with h | h
      · exact absurd ((iH.chain i o ho hc).2 h) hun
      · exact h
    have hch : clsOf E o.op = .chain → ∀ (k : Nat) (ok : Oper), p ≤ k → k < i → ops.toList[k]? = some ok → clsOf E ok.op ≠ .chain := fun hc k ok hk hki hok' hck => by
      have := (iH.chain k ok hok' hck).1 (hbi k (st.chain i o k ok ho hok' hc hki (.inl hck)))
      omega
    have hal : clsOf E o.op = .chain → ∀ (k : Nat) (ok : Oper), p ≤ k → k < i → ops.toList[k]? = some ok → clsOf E ok.op = .alloc → Lst listed k := fun hc k ok _ hki hok' hck =>
      hbi k (st.chain i o k ok ho hok' hc hki (.inr hck))
    have hgl : Good (ρ.cut (St i).next) ⟨.leaf, (St i).next⟩ w := good_leaf fun j hj => Rho.cut_none hj
    have hfresh : ∀ j, huge ≤ j → ρ j = none := fun j hj => iH.fresh j (by omega)
    unfold wpOpIn
    simp only [h4]
    cases hidle : q.idle with
    | true =>
      rw [hw, hidle]
      simp only [Bool.not_true, Bool.false_eq_true, if_false]
      refine ⟨hab, ?_⟩
      obtain ⟨hv, hs'⟩ := hok.idle hidle
      have hun' : ∀ ρ' : Rho, VRel ρ' q.v undef := fun ρ' => by rw [hv]; exact undef_rel
      have hs := hsame hs'
      cases hc : clsOf E o.op with
      | chain =>
        have hp : Post (ρ.cut (St i).next) (St i) w (ρ.cut (St i).next) (St (i + 1)) w := by rw [hs]; exact Post.refl (iH.good tr (hpc hc) (by omega) (hch hc) (hal hc))
        obtain ⟨ρ'', k1, _, k3⟩ := iH.chainGo tr hi2 hil ho hun hc (hpc hc) (hch hc) (hal hc) hp
        exact go _ ρ'' w undef k1 (hun' _) k3
      | alloc =>
        obtain ⟨ρ'', k1, _, k3⟩ := iH.alloc tr st hcl hi2 hil ho hun hc (Post.refl hgl) (by rw [hs]) (fun id => by rw [hs]; simp only; rw [if_neg (by omega)])
        exact go _ ρ'' w undef k1 (hun' _) k3
      | load => exact go p ρ w undef (Rho.le_refl _) (hun' _) (iH.still hi2 ho (by rw [hc]; simp) hs (Nat.le_refl _) (fun _ _ => rfl) rfl rfl rfl (fun _ => rfl))
      | pure => exact go p ρ w undef (Rho.le_refl _) (hun' _) (iH.still hi2 ho (by rw [hc]; simp) hs (Nat.le_refl _) (fun _ _ => rfl) rfl rfl rfl (fun _ => rfl))
    | false =>
      rw [hw, hidle]
      simp only [Bool.not_false, if_true]
      cases hc : clsOf E o.op with
      | chain =>
        obtain ⟨hb, hsem⟩ := hok.chain hidle (hcq.trans hc)
        refine hsem _ w a r _ Q (iH.good tr (hpc hc) (by omega) (hch hc) (hal hc)) (ht.cut hb) fun ρ' w' v' hp hv => ?_
        obtain ⟨ρ'', k1, k2, k3⟩ := iH.chainGo tr hi2 hil ho hun hc (hpc hc) (hch hc) (hal hc) (hSt ▸ hp)
        exact go _ ρ'' w' v' k1 (hv.mono k2) k3
      | alloc =>
        obtain ⟨hb, s₁, hsem, hn, hget⟩ := hok.alloc hidle (hcq.trans hc)
        refine hsem _ w a r _ Q hgl (ht.cut hb) fun ρ' w' v' hp hv => ?_
        obtain ⟨ρ'', k1, k2, k3⟩ := iH.alloc tr st hcl hi2 hil ho hun hc hp (by rw [hSt]; exact hn) (fun id => by rw [hSt]; exact hget id)
        exact go _ ρ'' w' v' k1 (hv.mono k2) k3
      | pure =>
        obtain ⟨hs', s₁, hn, hsem⟩ := hok.pure hidle (hcq.trans hc)
        refine hsem ρ w a r _ Q (good_leaf hfresh) ht fun ρ' w' v' hp hv => ?_
        have hle : ρ'.le ρ := fun j l hj => by
          rcases Nat.lt_or_ge j huge with h | h
          · rw [← hp.keep j h]; exact hj
          · rw [hp.good.fresh j (by omega)] at hj; cases hj
        exact go p ρ w' v' (Rho.le_refl _) (hv.mono hle) (iH.still hi2 ho (by rw [hc]; simp) (hsame hs') hp.size
          (fun b hb => hp.old b hb fun j o' l hj _ => by rw [show (⟨.leaf, huge⟩ : S).heap = .leaf from rfl, T.get_leaf] at hj; cases hj) hp.os hp.tape hp.output hp.froz)
      | load =>
        obtain ⟨t, x, hop⟩ := clsOf_load hc
        have hs := hsame (hok.load hidle (hcq.trans hc))
        obtain ⟨hl0, hlp⟩ := hload i q hq (hcq.trans hc) hidle
        have hrec : ∀ j qj, recs[j]? = some qj → ∃ oj, ops.toList[j]? = some oj ∧ qj.c = clsOf E oj.op ∧ qj.s = St j ∧ qj.s' = St (j + 1) := fun j qj hj => by
          have hjl : j < ops.toList.length := by have := (List.getElem?_eq_some_iff.1 hj).1; rw [tr.len] at this; exact this
          obtain ⟨q', k1, k2, k3, _⟩ := tr.step j ops.toList[j] (by simp)
          rw [hj] at k1; cases k1
          exact ⟨_, by simp, k2.cls, k2.state, k3.symm⟩
        have hfit : fitsB (masks ops.toList) i p recs 0 = true := fitsB_ok fun j qj hj hcj => by
          rw [Nat.zero_add]
          obtain ⟨oj, k1, k2, _, _⟩ := hrec j qj hj
          have hck := k2.symm.trans hcj
          refine ⟨fun hlt => ?_, fun hge => ?_⟩
          · cases hb : bef (masks ops.toList) j i with
            | false => rfl
            | true => exact (hbj j ((iH.chain j oj k1 hck).2 hlt) hb).elim
          · cases hb : bef (masks ops.toList) i j with
            | false => rfl
            | true => have := (iH.chain j oj k1 hck).1 (hbi j hb); omega
        have hat : loadAtB E (masks ops.toList) recs q i p (St p).heap = true := by
          rcases iH.place with rfl | ⟨c, oc, rfl, k1, k2⟩
          · exact hl0
          · obtain ⟨qc, j1, j2, j3, _⟩ := tr.step c oc k1
            have := loadPlaces_ok hlp c qc j1 (j2.cls.trans k2)
            rw [Nat.zero_add, ← j3] at this
            exact this
        obtain ⟨h', hsub, s', hop'⟩ := loadAtB_ok hat hfit
        have hhas : ∀ id ob, h'.get id = some ob → ∃ m, Has E ops.toList St p listed id ob m := fun id ob hob => by
          rcases hsub id ob hob with k | ⟨j, qj, k1, k2, k3, k4, k5, k6, k7⟩
          · exact ⟨_, .inl ⟨k, rfl⟩⟩
          · obtain ⟨oj, j1, j2, j3, j4⟩ := hrec j qj k1
            rw [j3] at k5 k6
            rw [j4] at k6 k7
            have := St_mono tr (Nat.le_succ j) (by have := (List.getElem?_eq_some_iff.1 j1).1; omega)
            exact ⟨_, .inr ⟨j, oj, k3, j1, j2.symm.trans k2, hbi j k4, k5, by omega, k7, rfl⟩⟩
        have hg : Good ρ ⟨h', huge⟩ w := by
          refine ⟨fun id ob hob => ?_, fun i1 j1 oi oj li lj hi1 hj1 hri hrj hij => ?_, hfresh⟩
          · obtain ⟨m, hm⟩ := hhas id ob hob
            obtain ⟨_, l, k1, k2⟩ := iH.obj _ _ _ hm
            exact ⟨l, k1, k2.mono (Rho.cut_le _ _) rfl⟩
          · obtain ⟨m, hm⟩ := hhas i1 oi hi1
            obtain ⟨m', hm'⟩ := hhas j1 oj hj1
            exact iH.inj _ _ _ _ _ _ _ _ hm hm' hri hrj hij
        rw [hok.oper] at hop'
        exact load_ok H hop hop' hg ht fun v' hv => go p ρ w v' (Rho.le_refl _) hv (iH.still hi2 ho (by rw [hc]; simp) hs (Nat.le_refl _) (fun _ _ => rfl) rfl rfl rfl (fun _ => rfl))
end
end Go.X
