/- A part of the proof: the abstract machine and what it shows of the program. -/
import Derived.Test.YtollmmiifppfnaaGreatDoorMachD
import Derived.Laws.Sem

/- Calls: from the body to what a call gives. -/
set_option linter.unusedVariables false
set_option linter.unusedSimpArgs false
namespace Go.Am
variable {P : Program} {T : Tab} {X : Nat → Prop} {ρ : Rho} {σ : St} {w : World}

def res1 (T : Tab) (fr : Fr) (σ : St) : ResultVar → Option AV
  | .tmp t => some (fr.getD t .undef)
  | .cell a t => (T.ty t).bind fun i => (deref σ (fr.getD a .undef) i.size).bind (chunkLoad i)

def resL (T : Tab) (fr : Fr) (σ : St) : List ResultVar → Option (List AV)
  | [] => some []
  | r :: l => (res1 T fr σ r).bind fun v => (resL T fr σ l).map fun vs => v :: vs

def wrap1 : List AV → AV
  | [v] => v
  | vs => .tup vs

def resA (T : Tab) (rs : List ResultVar) (fr : Fr) (σ : St) : Option AV := (resL T fr σ rs).map wrap1

def resOne (tmps : Array Value) : ResultVar → Sem Value
  | .tmp t => pure (tmps.getD t undef)
  | .cell b t => do loadVar t (← asAddr (tmps.getD b undef))

theorem results_eq (fn : Func) (tmps : Array Value) : results fn tmps = fn.results.mapM (resOne tmps) >>= fun vs => pure (if h : vs.size = 1 then vs[0] else .tuple vs) := rfl

theorem res1_sound (hT : TabOK P T) (hR : Rel X ρ σ w) {fr : Fr} {a : Act} (hF : FR X ρ σ w fr a) {r : ResultVar} {c : AV} (h : res1 T fr σ r = some c) :
    ∃ v, (resOne a.tmps r).run P w = .ok v w ∧ VR w (Mu X ρ σ) ρ σ c v := by
  cases r with
  | tmp t =>
    simp only [res1, Option.some.injEq] at h
    subst h
    exact ⟨a.tmps.getD t undef, by simp [resOne], hF.ev (.tmp t)⟩
  | cell b t =>
    simp only [res1, Option.bind_eq_some_iff] at h
    obtain ⟨i, hi, cs, hcs, hc⟩ := h
    have hty := hT.ty t i hi
    obtain ⟨hl, ad, vs, hv, hcell, hvr⟩ := deref_sound hR (hF.ev (.tmp b)) hcs
    obtain ⟨v, hrun, hvv⟩ := chunk_sound hty hc hl hcell hvr
    refine ⟨v, ?_, hvv⟩
    simp only [Act.eval] at hv
    simp only [resOne, hv, asAddr, pure_bind, hrun]

theorem resL_sound (hT : TabOK P T) (hR : Rel X ρ σ w) {fr : Fr} {a : Act} (hF : FR X ρ σ w fr a) : ∀ {rs : List ResultVar} {cs : List AV}, resL T fr σ rs = some cs →
    ∃ vs : List Value, (rs.mapM (resOne a.tmps)).run P w = .ok vs w ∧ VRs w (Mu X ρ σ) ρ σ cs vs.toArray
  | [], cs, h => by
    simp only [resL, Option.some.injEq] at h
    subst h
    exact ⟨[], by simp, rfl, fun i c v hc => by simp at hc⟩
  | r :: rs, cs, h => by
    simp only [resL, Option.bind_eq_some_iff, Option.map_eq_some_iff] at h
    obtain ⟨c, hc, cs', hcs', rfl⟩ := h
    obtain ⟨v, hv, hvr⟩ := res1_sound hT hR hF hc
    obtain ⟨vs, hvs, hl, hvrs⟩ := resL_sound hT hR hF hcs'
    refine ⟨v :: vs, ?_, by simpa using hl, ?_⟩
    · rw [List.mapM_cons]
      simp only [Sem.run_bind, hv, Result.andThen_ok, hvs, Sem.run_pure]
    · intro i c' v' hc' hv'
      cases i with
      | zero =>
        simp at hc' hv'
        subst hc' hv'
        exact hvr
      | succ i => exact hvrs i c' v' (by simpa using hc') (by simpa using hv')

theorem resA_sound (hT : TabOK P T) (hR : Rel X ρ σ w) {fr : Fr} {a : Act} (hF : FR X ρ σ w fr a) {fn : Func} {c : AV} (h : resA T fn.results.toList fr σ = some c) :
    ∃ v, (results fn a.tmps).run P w = .ok v w ∧ VR w (Mu X ρ σ) ρ σ c v := by
  simp only [resA, Option.map_eq_some_iff] at h
  obtain ⟨cs, hcs, rfl⟩ := h
  obtain ⟨vs, hvs, hl, hvr⟩ := resL_sound hT hR hF hcs
  have hrun : (results fn a.tmps).run P w = .ok (if h : vs.toArray.size = 1 then vs.toArray[0] else .tuple vs.toArray) w := by
    rw [results_eq, Array.mapM_eq_mapM_toList]
    simp only [map_eq_pure_bind, bind_assoc, pure_bind, Sem.run_bind]
    rw [hvs]
    simp
  refine ⟨_, hrun, ?_⟩
  match cs, hl, hvr with
  | [], hl, hvr =>
    have : vs.toArray.size ≠ 1 := by rw [hl]; simp
    rw [dif_neg this]
    exact .tup _ _ hl hvr
  | [c], hl, hvr =>
    have h1 : vs.toArray.size = 1 := by rw [hl]; rfl
    rw [dif_pos h1]
    exact hvr 0 c _ rfl (Array.getElem?_eq_getElem _)
  | c :: d :: cs, hl, hvr =>
    have : vs.toArray.size ≠ 1 := by rw [hl]; simp
    rw [dif_neg this]
    exact .tup _ _ hl hvr

/-- A frame at the begin. -/
def fr0 (fn : Func) (args : List AV) : Fr := args ++ List.replicate (fn.ntmps - args.length) (.tup [])

/-- What a body's end gives. -/
def endA (T : Tab) (fn : Func) (Q : AV → St → Prop) : Post
  | .norm, s | .ret, s => ∃ v, resA T fn.results.toList s.1 s.2 = some v ∧ Q v s.2
  | .exit _, _ => False

theorem fr0_rel {X : Nat → Prop} {ρ : Rho} {σ : St} {w : World} {fn : Func} {args : List AV} {cargs : Array Value} (h : VRs w (Mu X ρ σ) ρ σ args cargs) :
    FR X ρ σ w (fr0 fn args) { tmps := cargs ++ Array.replicate (fn.ntmps - cargs.size) undef, defers := [] } := by
  refine ⟨⟨by simp [fr0, h.1], ?_⟩, rfl⟩
  intro i c v hc hv
  unfold fr0 at hc
  simp only at hv
  rcases Nat.lt_or_ge i args.length with hi | hi
  · rw [List.getElem?_append_left hi] at hc
    rw [Array.getElem?_append_left (by rw [h.1]; exact hi)] at hv
    exact h.2 i c v hc hv
  · rw [List.getElem?_append_right hi, List.getElem?_replicate] at hc
    split at hc
    · cases hc
      rw [Array.getElem?_append_right (by rw [h.1]; exact hi), Array.getElem?_replicate] at hv
      split at hv
      · cases hv; exact vr_tup0 ..
      · cases hv
    · cases hc

/-- A call, for every result that the body may give. -/
def CallsQ (P : Program) (f : FuncId) (args : List AV) (σ : St) (Q : AV → St → Prop) : Prop :=
  ∀ (X : Nat → Prop) (ρ : Rho) (w : World) (cargs : Array Value), Rel X ρ σ w → VRs w (Mu X ρ σ) ρ σ args cargs →
    Calls P f cargs w fun e w' => ∃ cv ρ' res σ', e = .returned cv ∧ Q res σ' ∧ Rel X ρ' σ' w' ∧ Tr ρ σ w ρ' σ' w' ∧ VR w' (Mu X ρ' σ') ρ' σ' res cv

theorem callsQ_of_JC (hT : TabOK P T) {f : FuncId} {fn : Func} {c : Code} (hf : P.funcs[f]? = some fn) (hb : fn.body = some c) {args : List AV} {σ : St} {Q : AV → St → Prop}
    (h : JC P c (fr0 fn args, σ) (endA T fn Q)) : CallsQ P f args σ Q := by
  intro X ρ w cargs hR ha
  refine calls_of_wp hf hb (wp_mono (h X ρ w _ hR (fr0_rel ha)) ?_)
  rintro e a' w' ⟨x, s', ρ', rfl, h2, h3, h4, h5⟩
  cases x with
  | exit id => exact h2.elim
  | norm =>
    obtain ⟨v, hv, hq⟩ := h2
    obtain ⟨cv, hrun, hvr⟩ := resA_sound hT h3 h4 hv
    exact ⟨h4.dfr, cv, hrun, cv, ρ', v, s'.2, rfl, hq, h3, h5, hvr⟩
  | ret =>
    obtain ⟨v, hv, hq⟩ := h2
    obtain ⟨cv, hrun, hvr⟩ := resA_sound hT h3 h4 hv
    exact ⟨h4.dfr, cv, hrun, cv, ρ', v, s'.2, rfl, hq, h3, h5, hvr⟩

theorem CallsQ.toA {f : FuncId} {args : List AV} {σ : St} {v : AV} {σ' : St} (h : CallsQ P f args σ fun v1 σ1 => v1 = v ∧ σ1 = σ') : CallsA P f args σ v σ' := by
  intro X ρ w cargs hR ha
  refine (h X ρ w cargs hR ha).mono ?_
  rintro e w' ⟨cv, ρ', res, σ1, rfl, ⟨rfl, rfl⟩, h3, h4, h5⟩
  exact ⟨cv, ρ', rfl, h3, h4, h5⟩

theorem CallsA.toQ {f : FuncId} {args : List AV} {σ : St} {v : AV} {σ' : St} (h : CallsA P f args σ v σ') {Q : AV → St → Prop} (hq : Q v σ') : CallsQ P f args σ Q := by
  intro X ρ w cargs hR ha
  refine (h X ρ w cargs hR ha).mono ?_
  rintro e w' ⟨cv, ρ', rfl, h3, h4, h5⟩
  exact ⟨cv, ρ', v, σ', rfl, hq, h3, h4, h5⟩

theorem CallsQ.mono {f : FuncId} {args : List AV} {σ : St} {Q Q' : AV → St → Prop} (h : CallsQ P f args σ Q) (hq : ∀ v σ, Q v σ → Q' v σ) : CallsQ P f args σ Q' := by
  intro X ρ w cargs hR ha
  refine (h X ρ w cargs hR ha).mono ?_
  rintro e w' ⟨cv, ρ', res, σ1, h1, h2, h3⟩
  exact ⟨cv, ρ', res, σ1, h1, hq _ _ h2, h3⟩

end Go.Am

/- Values are frozen: what they refer to is never written again, and they carry it along. -/
set_option linter.unusedVariables false
set_option linter.unusedSimpArgs false
namespace Go.Am
variable {P : Program} {T : Tab} {X : Nat → Prop} {ρ : Rho} {w : World}

/-- Lists, with the objects handed on. -/
def frzL (g : St → AV → Option (AV × St)) : St → List AV → Option (List AV × St)
  | σ, [] => some ([], σ)
  | σ, v :: l => (g σ v).bind fun r => (frzL g r.2 l).map fun q => (r.1 :: q.1, q.2)

def frz : Nat → St → AV → Option (AV × St)
  | 0, _, _ => none
  | d + 1, σ, v => match v with
    | .agg cs => (frzL (frz d) σ cs).map fun r => (.agg r.1, r.2)
    | .tup cs => (frzL (frz d) σ cs).map fun r => (.tup r.1, r.2)
    | .clo f a b => (frzL (frz d) σ a).bind fun r => (frzL (frz d) r.2 b).map fun q => (.clo f r.1 q.1, q.2)
    | .iface t v => (frz d σ v).map fun r => (.iface t r.1, r.2)
    | .ref id ver off n k => if n = 0 then some (.snap 0 [], σ) else match σ[id]? with
      | some ⟨v, .cells cs _⟩ => if v = ver ∧ off + n * k ≤ cs.length then
          (frzL (frz d) (σ.set id ⟨v, .cells cs false⟩) ((cs.drop off).take (n * k))).map fun r => (.snap n r.1, r.2) else none
      | _ => none
    | .ptr id ver off => match σ[id]? with
      | some ⟨v, .cells cs _⟩ => if v = ver then
          (frzL (frz d) (σ.set id ⟨v, .cells cs false⟩) (cs.drop off)).map fun r => (.fptr r.1, r.2) else none
      | _ => none
    | .mref _ => none
    | v => some (v, σ)

/-- Fewer objects can be written; all else stays. -/
structure Less (σ σ' : St) : Prop where
  to : ∀ (id : Nat) o, σ[id]? = some o → ∃ o', σ'[id]? = some o' ∧ o'.ver = o.ver ∧ sameOB o.ob o'.ob ∧ (o'.ob.own = true → o.ob.own = true)
  of : ∀ (id : Nat) o', σ'[id]? = some o' → ∃ o, σ[id]? = some o ∧ o'.ver = o.ver ∧ sameOB o.ob o'.ob ∧ (o'.ob.own = true → o.ob.own = true)

theorem Less.refl (σ : St) : Less σ σ := ⟨fun id o h => ⟨o, h, rfl, sameOB.refl _, fun h => h⟩, fun id o h => ⟨o, h, rfl, sameOB.refl _, fun h => h⟩⟩

theorem sameOB.trans {a b c : OB} (h : sameOB a b) (k : sameOB b c) : sameOB a c := by
  cases a <;> cases b <;> simp only [sameOB] at h <;> cases c <;> simp only [sameOB] at k ⊢ <;> simp_all

theorem Less.trans {σ σ1 σ2 : St} (h : Less σ σ1) (k : Less σ1 σ2) : Less σ σ2 := by
  refine ⟨fun id o ho => ?_, fun id o ho => ?_⟩
  · obtain ⟨o1, h1, h2, h3, h4⟩ := h.to id o ho
    obtain ⟨o2, k1, k2, k3, k4⟩ := k.to id o1 h1
    exact ⟨o2, k1, k2.trans h2, h3.trans k3, fun x => h4 (k4 x)⟩
  · obtain ⟨o1, k1, k2, k3, k4⟩ := k.of id o ho
    obtain ⟨o0, h1, h2, h3, h4⟩ := h.of id o1 k1
    exact ⟨o0, h1, k2.trans h2, h3.trans k3, fun x => h4 (k4 x)⟩

theorem Less.ext {σ σ' : St} (h : Less σ σ') : Ext σ σ' := fun id o ho => let ⟨o', h1, h2, h3, _⟩ := h.to id o ho; ⟨o', h1, h2, h3⟩

theorem Less.own {σ σ' : St} (h : Less σ σ') {b : Nat} (ho : Own ρ σ' b) : Own ρ σ b := by
  obtain ⟨id, o', h1, h2, h3⟩ := ho
  obtain ⟨o, k1, _, _, k4⟩ := h.of id o' h1
  exact ⟨id, o, k1, k4 h2, h3⟩

theorem sameOB.cells {a b : OB} (h : sameOB a b) (hc : b.isCells = true) : a.isCells = true := by cases a <;> cases b <;> simp_all [sameOB, OB.isCells]
theorem sameOB.map {a b : OB} (h : sameOB a b) (hc : b.isMap = true) : a.isMap = true := by cases a <;> cases b <;> simp_all [sameOB, OB.isMap]
theorem sameOB.live {a b : OB} (h : sameOB a b) (hc : b.live = true) : a.live = true := by cases a <;> cases b <;> simp_all [sameOB, OB.live]

theorem Less.tr {σ σ' : St} (h : Less σ σ') (ρ : Rho) (w : World) : Tr ρ σ w ρ σ' w :=
  ⟨rfl, rfl, ⟨rfl, Nat.le_refl _⟩, Nat.le_refl _, fun _ _ _ => rfl, fun _ _ ho => h.own ho, fun id o ho => by
    obtain ⟨o', h1, h2, h3, h4⟩ := h.to id o ho
    exact ⟨o', h1, Nat.le_of_eq h2.symm, fun _ hc => ⟨h3.cells hc, rfl⟩, fun hm => ⟨h3.map hm, rfl⟩⟩⟩

theorem OR.same {M : Nat → Prop} {σ : St} {p : Pl} {a b : OB} (hs : sameOB a b) (h : OR w M ρ σ p a) : OR w M ρ σ p b := by
  cases a <;> cases b <;> simp only [sameOB] at hs
  · trivial
  · subst hs; exact h
  · subst hs; exact h

theorem Less.rel {σ σ' : St} (h : Less σ σ') (hR : Rel X ρ σ w) : Rel X ρ σ' w := by
  refine ⟨fun id o' ho' => ?_, fun i j oi oj hi hj hown hlive hne => ?_, fun id o' ho' hlive => ?_, hR.lt⟩
  · obtain ⟨o, ho, _, hs, _⟩ := h.of id o' ho'
    exact OR.same hs (OR.tr (h.tr ρ w) rfl (hR.obj id o ho))
  · obtain ⟨o, ho, _, hs, hw⟩ := h.of i oi hi
    obtain ⟨o2, ho2, _, hs2, _⟩ := h.of j oj hj
    exact hR.inj i j o o2 ho ho2 (hw hown) (hs2.live hlive) hne
  · obtain ⟨o, ho, _, hs, _⟩ := h.of id o' ho'
    exact hR.amb id o ho (hs.live hlive)

theorem Less.set {σ : St} {id ver : Nat} {cs : List AV} {b : Bool} (h : σ[id]? = some ⟨ver, .cells cs b⟩) : Less σ (σ.set id ⟨ver, .cells cs false⟩) := by
  have hl := (List.getElem?_eq_some_iff.1 h).1
  refine ⟨fun i o ho => ?_, fun i o ho => ?_⟩
  · by_cases hi : i = id
    · subst hi
      rw [h] at ho; cases ho
      exact ⟨⟨ver, .cells cs false⟩, List.getElem?_set_self hl, rfl, rfl, fun h => by simp [OB.own] at h⟩
    · exact ⟨o, by rw [List.getElem?_set_ne (Ne.symm hi)]; exact ho, rfl, sameOB.refl _, fun h => h⟩
  · rcases get_set ho with ⟨rfl, rfl⟩ | ⟨hne, ho⟩
    · exact ⟨_, h, rfl, rfl, fun h => by simp [OB.own] at h⟩
    · exact ⟨o, ho, rfl, sameOB.refl _, fun h => h⟩

abbrev VCs (w : World) (M : Nat → Prop) (cs : List AV) (vs : Array Value) : Prop := vs.size = cs.length ∧ ∀ (i : Nat) c v, cs[i]? = some c → vs[i]? = some v → VC w M c v

theorem VC.less {σ σ' : St} (h : Less σ σ') {c : AV} {v : Value} (hv : VC w (Mu X ρ σ) c v) : VC w (Mu X ρ σ') c v :=
  hv.keep (Nat.le_refl _) (fun b _ hn hm => hn (hm.imp id h.own)) (fun _ _ _ => rfl)

theorem VR.less {σ σ' : St} (h : Less σ σ') {c : AV} {v : Value} (hv : VR w (Mu X ρ σ) ρ σ c v) : VR w (Mu X ρ σ') ρ σ' c v := hv.tr (h.tr ρ w)

theorem frzL_sound {g : St → AV → Option (AV × St)} (hg : ∀ σ v v' σ', g σ v = some (v', σ') → Less σ σ' ∧ ∀ cv, Rel X ρ σ w → VR w (Mu X ρ σ) ρ σ v cv → VC w (Mu X ρ σ') v' cv) :
    ∀ (l : List AV) (σ : St) (l' : List AV) (σ' : St), frzL g σ l = some (l', σ') → Less σ σ' ∧ l'.length = l.length ∧ ∀ (cvs : Nat → Value), Rel X ρ σ w → (∀ (j : Nat) c, l[j]? = some c → VR w (Mu X ρ σ) ρ σ c (cvs j)) →
      ∀ (j : Nat) c, l'[j]? = some c → VC w (Mu X ρ σ') c (cvs j)
  | [], σ, l', σ', h => by
    simp only [frzL, Option.some.injEq, Prod.mk.injEq] at h
    obtain ⟨rfl, rfl⟩ := h
    exact ⟨Less.refl _, rfl, fun _ _ _ j c hc => by simp at hc⟩
  | v :: l, σ, l', σ', h => by
    simp only [frzL, Option.bind_eq_some_iff, Option.map_eq_some_iff] at h
    obtain ⟨⟨v1, σ1⟩, h1, ⟨l1, σ2⟩, h2, h3⟩ := h
    simp only [Prod.mk.injEq] at h3
    obtain ⟨rfl, rfl⟩ := h3
    obtain ⟨hl1, hv1⟩ := hg _ _ _ _ h1
    obtain ⟨hl2, hlen, hv2⟩ := frzL_sound hg l σ1 l1 σ2 h2
    refine ⟨hl1.trans hl2, by simp [hlen], fun cvs hR hvr j c hc => ?_⟩
    cases j with
    | zero =>
      simp at hc
      subst hc
      exact (hv1 _ hR (hvr 0 v rfl)).less hl2
    | succ j =>
      exact hv2 (fun j => cvs (j + 1)) (hl1.rel hR) (fun j c hc => (hvr (j + 1) c (by simpa using hc)).less hl1) j c (by simpa using hc)

theorem vcs_of {M : Nat → Prop} {l l' : List AV} {vs : Array Value} (hlen : l'.length = l.length) (hs : vs.size = l.length) (h : ∀ (j : Nat) c, l'[j]? = some c → VC w M c (vs.getD j undef)) :
    vs.size = l'.length ∧ ∀ (i : Nat) c v, l'[i]? = some c → vs[i]? = some v → VC w M c v := by
  refine ⟨by omega, fun i c v hc hv => ?_⟩
  have := h i c hc
  rw [Array.getD_eq_getD_getElem?, hv] at this
  exact this

theorem vrs_fn {M : Nat → Prop} {σ : St} {l : List AV} {vs : Array Value} (hs : vs.size = l.length) (h : ∀ (i : Nat) c v, l[i]? = some c → vs[i]? = some v → VR w M ρ σ c v) :
    ∀ (j : Nat) c, l[j]? = some c → VR w M ρ σ c (vs.getD j undef) := by
  intro j c hc
  have hj : j < vs.size := by rw [hs]; exact (List.getElem?_eq_some_iff.1 hc).1
  refine h j c _ hc ?_
  rw [Array.getD_eq_getD_getElem?, Array.getElem?_eq_getElem hj]; rfl

theorem not_mu {σ : St} (hR : Rel X ρ σ w) {id ver : Nat} {cs : List AV} {b : Bool} (h : σ[id]? = some ⟨ver, .cells cs b⟩) {σ' : St} (hl : Less (σ.set id ⟨ver, .cells cs false⟩) σ') : ¬ Mu X ρ σ' (ρ id).block := by
  have hlen := (List.getElem?_eq_some_iff.1 h).1
  rintro (hx | ho)
  · exact hR.amb id _ h rfl hx
  · obtain ⟨j, o, hj, hown, hblk⟩ := hl.own ho
    rcases get_set hj with ⟨rfl, rfl⟩ | ⟨hne, hj⟩
    · simp [OB.own] at hown
    · exact hR.inj j id o _ hj h hown rfl hne hblk

theorem frz_sound : ∀ (d : Nat) (σ : St) (v v' : AV) (σ' : St), frz d σ v = some (v', σ') → Less σ σ' ∧ ∀ cv, Rel X ρ σ w → VR w (Mu X ρ σ) ρ σ v cv → VC w (Mu X ρ σ') v' cv
  | 0, σ, v, v', σ', h => by simp [frz] at h
  | d + 1, σ, v, v', σ', h => by
    have ih := frzL_sound (X := X) (ρ := ρ) (w := w) (g := frz d) (fun σ v v' σ' h => frz_sound d σ v v' σ' h)
    cases v with
    | agg cs =>
      simp only [frz, Option.map_eq_some_iff] at h
      obtain ⟨⟨l, σ1⟩, h1, h2⟩ := h
      simp only [Prod.mk.injEq] at h2
      obtain ⟨rfl, rfl⟩ := h2
      obtain ⟨hl, hlen, hv⟩ := ih _ _ _ _ h1
      refine ⟨hl, fun cv hR hvr => ?_⟩
      cases hvr with
      | agg cs vs hs hh =>
        have := vcs_of hlen hs (hv (fun j => vs.getD j undef) hR (vrs_fn hs hh))
        exact .agg _ _ this.1 this.2
    | tup cs =>
      simp only [frz, Option.map_eq_some_iff] at h
      obtain ⟨⟨l, σ1⟩, h1, h2⟩ := h
      simp only [Prod.mk.injEq] at h2
      obtain ⟨rfl, rfl⟩ := h2
      obtain ⟨hl, hlen, hv⟩ := ih _ _ _ _ h1
      refine ⟨hl, fun cv hR hvr => ?_⟩
      cases hvr with
      | tup cs vs hs hh =>
        have := vcs_of hlen hs (hv (fun j => vs.getD j undef) hR (vrs_fn hs hh))
        exact .tup _ _ this.1 this.2
    | clo f a b =>
      simp only [frz, Option.bind_eq_some_iff, Option.map_eq_some_iff] at h
      obtain ⟨⟨l, σ1⟩, h1, ⟨m, σ2⟩, h2, h3⟩ := h
      simp only [Prod.mk.injEq] at h3
      obtain ⟨rfl, rfl⟩ := h3
      obtain ⟨hl, hlen, hv⟩ := ih _ _ _ _ h1
      obtain ⟨hl2, hlen2, hv2⟩ := ih _ _ _ _ h2
      refine ⟨hl.trans hl2, fun cv hR hvr => ?_⟩
      cases hvr with
      | clo f a b a' b' ha hb hha hhb =>
        have t1 := vcs_of hlen ha (hv (fun j => a'.getD j undef) hR (vrs_fn ha hha))
        have t2 := vcs_of hlen2 hb (hv2 (fun j => b'.getD j undef) (hl.rel hR) (vrs_fn hb fun i c v hc hv => (hhb i c v hc hv).less hl))
        exact .clo _ _ _ _ _ t1.1 t2.1 (fun i c v hc hv => (t1.2 i c v hc hv).less hl2) t2.2
    | iface t x =>
      simp only [frz, Option.map_eq_some_iff] at h
      obtain ⟨⟨x1, σ1⟩, h1, h2⟩ := h
      simp only [Prod.mk.injEq] at h2
      obtain ⟨rfl, rfl⟩ := h2
      obtain ⟨hl, hv⟩ := frz_sound d _ _ _ _ h1
      refine ⟨hl, fun cv hR hvr => ?_⟩
      cases hvr with
      | iface t c v hh => exact .iface _ _ _ (hv _ hR hh)
    | ref id ver off n k =>
      simp only [frz] at h
      split at h
      · rename_i hn
        simp only [Option.some.injEq, Prod.mk.injEq] at h
        obtain ⟨rfl, rfl⟩ := h
        refine ⟨Less.refl _, fun cv hR hvr => ?_⟩
        cases hvr with
        | ref id ver off n k v h0 h1 h2 =>
          obtain ⟨ad, cap, rfl, hle⟩ := h0
          subst hn
          exact .snap0 _ _
      · rename_i hn
        split at h
        · rename_i v cs b ho
          split at h
          · rename_i hc
            obtain ⟨rfl, hle⟩ := hc
            simp only [Option.map_eq_some_iff] at h
            obtain ⟨⟨l, σ1⟩, h1, h2⟩ := h
            simp only [Prod.mk.injEq] at h2
            obtain ⟨rfl, rfl⟩ := h2
            obtain ⟨hl, hlen, hv⟩ := ih _ _ _ _ h1
            have hset := Less.set ho
            refine ⟨hset.trans hl, fun cv hR hvr => ?_⟩
            cases hvr with
            | ref id ver off n k v h0 h3 h4 =>
              obtain ⟨cap, rfl, hcap, _⟩ := h4 _ ho rfl rfl
              have hnm := not_mu hR ho hl
              obtain ⟨cur, e, fz, hheap, hsz, hbase, hfz, hcell⟩ := hR.obj id _ ho
              have hlt : (ρ id).block < w.heap.size := (Array.getElem?_eq_some_iff.1 hheap).1
              have hlen' : l.length = n * k := by rw [hlen]; simp; omega
              have hread : ∀ j, j < n * k → w.cell? ((⟨(ρ id).block, (ρ id).base + off, none⟩ : Addr).add j) = some (cur.getD ((ρ id).base + off + j) undef) := by
                intro j hj
                rw [add_lit]
                have : (ρ id).base + off + j < cur.size := by omega
                simp [World.cell?, hheap, this, Array.getD_eq_getD_getElem?]
              refine .snap n l _ cap (fun j => cur.getD ((ρ id).base + off + j) undef) rfl hlt hnm hcap hn (fun j hj => hread j (by omega)) ?_
              refine hv (fun j => cur.getD ((ρ id).base + off + j) undef) (hset.rel hR) ?_
              intro j c hc
              have hj : j < n * k := by
                have := (List.getElem?_eq_some_iff.1 hc).1
                simp at this; omega
              rw [List.getElem?_take_of_lt hj, List.getElem?_drop] at hc
              obtain ⟨v, hv1, hv2⟩ := hcell (off + j) c hc
              rw [← Nat.add_assoc] at hv1
              have : cur.getD ((ρ id).base + off + j) undef = v := by rw [Array.getD_eq_getD_getElem?, hv1]; rfl
              rw [this]
              exact hv2.less hset
          · cases h
        · cases h
    | ptr id ver off =>
      simp only [frz] at h
      split at h
      · rename_i v cs b ho
        split at h
        · rename_i hc
          subst hc
          simp only [Option.map_eq_some_iff] at h
          obtain ⟨⟨l, σ1⟩, h1, h2⟩ := h
          simp only [Prod.mk.injEq] at h2
          obtain ⟨rfl, rfl⟩ := h2
          obtain ⟨hl, hlen, hv⟩ := ih _ _ _ _ h1
          have hset := Less.set ho
          refine ⟨hset.trans hl, fun cv hR hvr => ?_⟩
          cases hvr with
          | ptr id ver off v h0 h3 h4 =>
            have := h4 _ ho rfl rfl
            subst this
            have hnm := not_mu hR ho hl
            obtain ⟨cur, e, fz, hheap, hsz, hbase, hfz, hcell⟩ := hR.obj id _ ho
            have hlt : (ρ id).block < w.heap.size := (Array.getElem?_eq_some_iff.1 hheap).1
            refine .fptr l _ (fun j => cur.getD ((ρ id).base + off + j) undef) rfl hlt hnm (fun j hj => ?_) ?_
            · rw [add_lit]
              have : (ρ id).base + off + j < cur.size := by rw [hlen] at hj; simp at hj; omega
              simp [World.cell?, hheap, this, Array.getD_eq_getD_getElem?]
            · refine hv (fun j => cur.getD ((ρ id).base + off + j) undef) (hset.rel hR) ?_
              intro j c hc
              rw [List.getElem?_drop] at hc
              obtain ⟨v, hv1, hv2⟩ := hcell (off + j) c hc
              rw [← Nat.add_assoc] at hv1
              have : cur.getD ((ρ id).base + off + j) undef = v := by rw [Array.getD_eq_getD_getElem?, hv1]; rfl
              rw [this]
              exact hv2.less hset
        · cases h
      · cases h
    | mref id => simp [frz] at h
    | undef => simp only [frz, Option.some.injEq, Prod.mk.injEq] at h; obtain ⟨rfl, rfl⟩ := h; exact ⟨Less.refl _, fun cv hR hvr => .undef _⟩
    | bool b => simp only [frz, Option.some.injEq, Prod.mk.injEq] at h; obtain ⟨rfl, rfl⟩ := h; exact ⟨Less.refl _, fun cv hR hvr => by cases hvr; exact .bool _⟩
    | int k n => simp only [frz, Option.some.injEq, Prod.mk.injEq] at h; obtain ⟨rfl, rfl⟩ := h; exact ⟨Less.refl _, fun cv hR hvr => by cases hvr; exact .int _ _⟩
    | str s => simp only [frz, Option.some.injEq, Prod.mk.injEq] at h; obtain ⟨rfl, rfl⟩ := h; exact ⟨Less.refl _, fun cv hR hvr => by cases hvr; rename_i h; exact .str _ _ h⟩
    | snap n cs =>
      simp only [frz, Option.some.injEq, Prod.mk.injEq] at h; obtain ⟨rfl, rfl⟩ := h
      refine ⟨Less.refl _, fun cv hR hvr => ?_⟩
      cases hvr with
      | snap0 => exact .snap0 _ _
      | snap n cs a cap vs h1 h2 h3 h4 h5 h6 h7 => exact .snap _ _ _ _ _ h1 h2 h3 h4 h5 h6 h7
    | fptr cs =>
      simp only [frz, Option.some.injEq, Prod.mk.injEq] at h; obtain ⟨rfl, rfl⟩ := h
      refine ⟨Less.refl _, fun cv hR hvr => ?_⟩
      cases hvr with
      | fptr cs a vs h1 h2 h3 h4 h5 => exact .fptr _ _ _ h1 h2 h3 h4 h5
    | nil0 => simp only [frz, Option.some.injEq, Prod.mk.injEq] at h; obtain ⟨rfl, rfl⟩ := h; exact ⟨Less.refl _, fun cv hR hvr => by cases hvr; exact .nil0 _⟩
    | nilptr => simp only [frz, Option.some.injEq, Prod.mk.injEq] at h; obtain ⟨rfl, rfl⟩ := h; exact ⟨Less.refl _, fun cv hR hvr => by cases hvr; exact .nilptr⟩
    | nilmap => simp only [frz, Option.some.injEq, Prod.mk.injEq] at h; obtain ⟨rfl, rfl⟩ := h; exact ⟨Less.refl _, fun cv hR hvr => by cases hvr; exact .nilmap⟩
    | nilfn => simp only [frz, Option.some.injEq, Prod.mk.injEq] at h; obtain ⟨rfl, rfl⟩ := h; exact ⟨Less.refl _, fun cv hR hvr => by cases hvr; exact .nilfn⟩
    | nilif => simp only [frz, Option.some.injEq, Prod.mk.injEq] at h; obtain ⟨rfl, rfl⟩ := h; exact ⟨Less.refl _, fun cv hR hvr => by cases hvr; exact .nilif⟩
    | lit v => simp only [frz, Option.some.injEq, Prod.mk.injEq] at h; obtain ⟨rfl, rfl⟩ := h; exact ⟨Less.refl _, fun cv hR hvr => by cases hvr; exact .lit _⟩

end Go.Am

/- Calls whose arguments and results are frozen; the machine that runs functions. -/
set_option linter.unusedVariables false
set_option linter.unusedSimpArgs false
namespace Go.Am
variable {P : Program} {T : Tab}

/-- A call with frozen arguments, and the frozen result. -/
def CallsF (P : Program) (f : FuncId) (args : List AV) (v : AV) : Prop := CallsQ P f args [] fun r σ1 => ∃ d σ2, frz d σ1 r = some (v, σ2)

theorem callsF_call {f : FuncId} {args args' : List AV} {σ σ' : St} {v : AV} {d : Nat} (hz : frzL (frz d) σ args = some (args', σ')) (h : CallsF P f args' v) : CallsA P f args σ v σ' := by
  intro X ρ w cargs hR ha
  obtain ⟨hl, hlen, hv⟩ := frzL_sound (X := X) (ρ := ρ) (w := w) (g := frz d) (fun σ v v' σ' h => frz_sound d σ v v' σ' h) _ _ _ _ hz
  have hR' := hl.rel hR
  have hown : ∀ b, Mu X ρ σ' b → b < w.heap.size := by
    rintro b (hx | ⟨id, o, ho, hw, rfl⟩)
    · exact hR.lt b hx
    · exact (hR'.obj id o ho).lt (OB.live_own hw)
  have hnil : ∀ (ρ : Rho) b, Mu (Mu X ρ σ') ρ [] b → Mu X ρ σ' b := by
    rintro ρ b (hx | ⟨id, o, ho, _⟩)
    · exact hx
    · simp at ho
  have hR0 : Rel (Mu X ρ σ') ρ [] w := ⟨fun id o ho => by simp at ho, fun i j oi oj hi => by simp at hi, fun id o ho => by simp at ho, hown⟩
  have hvc : ∀ (j : Nat) c, args'[j]? = some c → VC w (Mu X ρ σ') c (cargs.getD j undef) := hv (fun j => cargs.getD j undef) hR (vrs_fn ha.1 ha.2)
  have ha0 : VRs w (Mu (Mu X ρ σ') ρ []) ρ [] args' cargs := by
    have := vcs_of hlen ha.1 hvc
    exact ⟨this.1, fun i c v hc hv => ((this.2 i c v hc hv).keep (Nat.le_refl _) (fun b _ hn hm => hn (hnil ρ b hm)) (fun _ _ _ => rfl)).lift ρ []⟩
  refine (h (Mu X ρ σ') ρ w cargs hR0 ha0).mono ?_
  rintro e w' ⟨cv, ρ1, r, σ1, rfl, ⟨d2, σ2, hf⟩, h3, h4, h5⟩
  obtain ⟨hl2, hv2⟩ := frz_sound (X := Mu X ρ σ') (ρ := ρ1) (w := w') d2 σ1 r v σ2 hf
  have hres := hv2 cv h3 h5
  have hkeep : ∀ b, b < w.heap.size → w'.heap[b]? = w.heap[b]? := fun b hb => h4.keep b hb (by rintro ⟨id, o, ho, _⟩; simp at ho)
  have t2 : Tr ρ σ' w ρ σ' w' := ⟨h4.os, h4.tape, h4.output, h4.size, fun b hb _ => hkeep b hb, fun _ _ h => h, fun id o h => ⟨o, h, Nat.le_refl _, fun _ h => ⟨h, rfl⟩, fun h => ⟨h, rfl⟩⟩⟩
  refine ⟨cv, ρ, rfl, ⟨fun id o ho => ?_, hR'.inj, hR'.amb, fun b hb => Nat.lt_of_lt_of_le (hR.lt b hb) h4.size⟩, (hl.tr ρ w).trans t2, ?_⟩
  · by_cases hlive : o.ob.live = true
    · exact OR.tr t2 (hkeep _ ((hR'.obj id o ho).lt hlive)) (hR'.obj id o ho)
    · obtain ⟨ver, ob⟩ := o
      cases ob with
      | dead => trivial
      | cells => simp [OB.live] at hlive
      | map => simp [OB.live] at hlive
  · exact (hres.keep (Nat.le_refl _) (fun b _ hn hm => hn (.inl hm)) (fun _ _ _ => rfl)).lift ρ σ'

/-! The machine -/
structure Env where
  T : Tab
  sch : FuncId → Nat → Option (List Nat)
  pure : FuncId → Bool
  ovr : FuncId → Option (List AV → Option AV)
  fuel : Nat
  depth : Nat
  ovs : FuncId → Option (CallF → List AV → St → Option (AV × St)) := fun _ => none

def Env.pol (E : Env) (f : FuncId) : Bool := (E.ovs f).isNone && (E.pure f || (E.ovr f).isSome)

def Env.evc (E : Env) (cf : CallF) (f : FuncId) : EvC := ⟨E.T, cf, E.pol, E.sch f, E.fuel⟩

def bodyA (E : Env) (cf : CallF) : CallF := fun f args σ =>
  (E.T.fn f).bind fun fn => fn.body.bind fun c => match evCode (E.evc cf f) c (fr0 fn args, σ) with
    | some (.norm, s) => (resA E.T fn.results.toList s.1 s.2).map fun v => (v, s.2)
    | some (.ret, s) => (resA E.T fn.results.toList s.1 s.2).map fun v => (v, s.2)
    | _ => none

def callE (E : Env) (run : CallF) : CallF := fun f args σ =>
  match E.ovs f with
  | some g => g run args σ
  | none => match E.ovr f with
  | some g => (frzL (frz E.depth) σ args).bind fun r => (g r.1).map fun v => (v, r.2)
  | none => if E.pure f then (frzL (frz E.depth) σ args).bind fun r => (run f r.1 []).bind fun q => (frz E.depth q.2 q.1).map fun z => (z.1, r.2) else run f args σ

def runE (E : Env) : Nat → CallF
  | 0 => fun _ _ _ => none
  | n + 1 => bodyA E (callE E (runE E n))

structure EnvOK (P : Program) (E : Env) : Prop where
  tab : TabOK P E.T
  mixed : P.follows .mixedOrders = true
  schs : ∀ f fn c, E.T.fn f = some fn → fn.body = some c → schsOK E.T.lits E.pol (E.sch f) c = true
  ovr : ∀ f g, E.ovr f = some g → ∀ args v, g args = some v → CallsF P f args v
  ovs : ∀ f g, E.ovs f = some g → ∀ run, CfOK P run → ∀ args σ v σ', g run args σ = some (v, σ') → CallsA P f args σ v σ'

theorem callE_pol {E : Env} {run : CallF} : PolOK E.pol (callE E run) := by
  intro f args σ v σ' hp h
  unfold callE at h
  split at h
  · rename_i g hg
    simp [Env.pol, hg] at hp
  split at h
  · rename_i g hg
    simp only [Option.bind_eq_some_iff, Option.map_eq_some_iff] at h
    obtain ⟨⟨a, σ1⟩, h1, v', h2, h3⟩ := h
    simp only [Prod.mk.injEq] at h3
    obtain ⟨rfl, rfl⟩ := h3
    exact (frzL_sound (X := fun _ => False) (ρ := fun _ => ⟨0, 0, 0⟩) (w := default) (g := frz E.depth) (fun σ v v' σ' h => frz_sound _ σ v v' σ' h) _ _ _ _ h1).1.ext
  · rename_i hg
    simp only [Env.pol, hg, Option.isSome_none, Bool.or_false, Bool.and_eq_true] at hp
    rw [if_pos hp.2] at h
    simp only [Option.bind_eq_some_iff, Option.map_eq_some_iff] at h
    obtain ⟨⟨a, σ1⟩, h1, q, h2, z, h4, h3⟩ := h
    simp only [Prod.mk.injEq] at h3
    obtain ⟨rfl, rfl⟩ := h3
    exact (frzL_sound (X := fun _ => False) (ρ := fun _ => ⟨0, 0, 0⟩) (w := default) (g := frz E.depth) (fun σ v v' σ' h => frz_sound _ σ v v' σ' h) _ _ _ _ h1).1.ext

theorem callE_ok {E : Env} (hE : EnvOK P E) {run : CallF} (hrun : CfOK P run) : CfOK P (callE E run) := by
  intro f args σ v σ' h
  unfold callE at h
  split at h
  · rename_i g hg
    exact hE.ovs f g hg run hrun args σ v σ' h
  split at h
  · rename_i g hg
    simp only [Option.bind_eq_some_iff, Option.map_eq_some_iff] at h
    obtain ⟨⟨a, σ1⟩, h1, v', h2, h3⟩ := h
    simp only [Prod.mk.injEq] at h3
    obtain ⟨rfl, rfl⟩ := h3
    exact callsF_call h1 (hE.ovr f g hg _ _ h2)
  · split at h
    · simp only [Option.bind_eq_some_iff, Option.map_eq_some_iff] at h
      obtain ⟨⟨a, σ1⟩, h1, ⟨r, σ2⟩, h2, ⟨z, σ3⟩, h4, h3⟩ := h
      simp only [Prod.mk.injEq] at h3
      obtain ⟨rfl, rfl⟩ := h3
      exact callsF_call h1 ((hrun f a [] r σ2 h2).toQ ⟨_, _, h4⟩)
    · exact hrun f args σ v σ' h

theorem bodyA_ok {E : Env} (hE : EnvOK P E) {cf : CallF} (hcf : CfOK P cf) (hpol : PolOK E.pol cf) : CfOK P (bodyA E cf) := by
  intro f args σ v σ' h
  unfold bodyA at h
  simp only [Option.bind_eq_some_iff] at h
  obtain ⟨fn, hfn, c, hc, h⟩ := h
  have hok : EvOK P (E.evc cf f) := ⟨hE.tab, hcf, hpol, hE.mixed⟩
  have hs := hE.schs f fn c hfn hc
  refine CallsQ.toA (callsQ_of_JC hE.tab (hE.tab.fn f fn hfn).1 hc ?_)
  split at h
  · rename_i s he
    simp only [Option.map_eq_some_iff, Prod.mk.injEq] at h
    obtain ⟨v', hv, rfl, rfl⟩ := h
    refine (evCode_sound hok c hs he).mono ?_
    rintro x t ⟨rfl, rfl⟩
    exact ⟨v', hv, rfl, rfl⟩
  · rename_i s he
    simp only [Option.map_eq_some_iff, Prod.mk.injEq] at h
    obtain ⟨v', hv, rfl, rfl⟩ := h
    refine (evCode_sound hok c hs he).mono ?_
    rintro x t ⟨rfl, rfl⟩
    exact ⟨v', hv, rfl, rfl⟩
  · cases h

theorem runE_ok {E : Env} (hE : EnvOK P E) : ∀ n, CfOK P (runE E n)
  | 0 => fun f args σ v σ' h => by cases h
  | n + 1 => bodyA_ok hE (callE_ok hE (runE_ok hE n)) callE_pol

/-- A call with frozen arguments, run. -/
theorem callsF_run {E : Env} (hE : EnvOK P E) {n d : Nat} {f : FuncId} {args : List AV} {r v : AV} {σ1 σ2 : St} (h : runE E n f args [] = some (r, σ1)) (hz : frz d σ1 r = some (v, σ2)) : CallsF P f args v :=
  (runE_ok hE n f args [] r σ1 h).toQ ⟨d, σ2, hz⟩

end Go.Am

/- The tables, out of the program's own facts. -/
set_option linter.unusedVariables false
set_option linter.unusedSimpArgs false
namespace Go.Am
variable {P : Program}

def look {α : Type} : List (Nat × α) → Nat → Option α
  | [], _ => none
  | (k, v) :: l, n => if Nat.beq k n then some v else look l n

theorem look_mem {α : Type} : ∀ {l : List (Nat × α)} {n : Nat} {v : α}, look l n = some v → (n, v) ∈ l
  | [], n, v, h => by cases h
  | (k, x) :: l, n, v, h => by
    simp only [look] at h
    split at h
    · rename_i hk
      have := Nat.eq_of_beq_eq_true hk
      subst this
      cases h
      exact List.mem_cons_self
    · exact List.mem_cons_of_mem _ (look_mem h)

theorem info_of {t : TypeId} {i : TypeInfo} (h : P.types[t]? = some i) : P.info? t = some i := by
  unfold Tables.info?
  rw [if_pos (Array.getElem?_eq_some_iff.1 h).1]
  exact h

theorem nil_ok {α : Type} {p : α → Prop} : ∀ x ∈ ([] : List α), p x := fun x h => by cases h

theorem cons_ok {α : Type} {p : α → Prop} {a : α} {l : List α} (h : p a) (t : ∀ x ∈ l, p x) : ∀ x ∈ a :: l, p x := fun x hx => by
  rcases List.mem_cons.1 hx with rfl | hx
  · exact h
  · exact t x hx

def isAggV : Value → Bool
  | .agg _ => true
  | _ => false

def tyCheck (i : TI) (info : TypeInfo) (z : Value) : Bool :=
  info.size == i.size && info.bytes == i.bytes && AV.sames i.zero (z.cells.toList.map ofConst) && i.zero.all AV.one && i.zero.length == i.size && (if i.agg then isAggV z else z.oneCell')

theorem tyOK_of {t : TypeId} {i : TI} {info : TypeInfo} {z : Value} (hu : P.underlying t = some i.desc) (ht : P.types[t]? = some info) (hz : info.zero = some z) (h : tyCheck i info z = true) (hf : i.flat = true → FlatOK P t i.size i.zero) : TyOK P t i := by
  simp only [tyCheck, Bool.and_eq_true, beq_iff_eq] at h
  obtain ⟨⟨⟨⟨⟨h1, h2⟩, h3⟩, h4⟩, h5⟩, h6⟩ := h
  refine ⟨hu, ⟨info, z, info_of ht, h1, h2, hz, AV.sames_eq h3, h4, h5, fun ha => ?_, fun ha => ?_⟩, hf⟩
  · rw [if_pos ha] at h6
    cases z <;> simp [isAggV] at h6
    exact ⟨_, rfl⟩
  · rw [if_neg (by simp [ha])] at h6
    exact h6

theorem noFlat {t : TypeId} {i : TI} (h : i.flat = false) : i.flat = true → FlatOK P t i.size i.zero := fun h' => by rw [h] at h'; cases h'

theorem tys_ok {l : List (Nat × TI)} (h : ∀ p ∈ l, TyOK P p.1 p.2) (t : TypeId) (i : TI) (hi : look l t = some i) : TyOK P t i := h (t, i) (look_mem hi)

end Go.Am

/- The evaluator once more, with frames as lists of what was put: quick for the kernel. -/
set_option linter.unusedVariables false
set_option linter.unusedSimpArgs false
namespace Go.Am
variable {P : Program} {T : Tab}
noncomputable section

abbrev FrA := List (Nat × AV)

def lk (l : FrA) (t : Nat) : AV := List.rec (.tup []) (fun h _ ih => bif Nat.beq h.1 t then h.2 else ih) l

theorem lk_nil (t : Nat) : lk [] t = .tup [] := rfl
theorem lk_cons (d : Nat) (v : AV) (l : FrA) (t : Nat) : lk ((d, v) :: l) t = bif Nat.beq d t then v else lk l t := rfl

/-- The frame that it stands for. -/
def toFr (n : Nat) (l : FrA) : Fr := (List.range n).map (lk l)

def evA (n : Nat) (l : FrA) : Operand → AV
  | .tmp t => bif Nat.blt t n then lk l t else .undef
  | .const v => ofConst v
  | .global _ => .undef
  | .func f => .clo f [] []

def putA (l : FrA) (dst : Option Tmp) (v : AV) : FrA :=
  match dst with
  | some d => (d, v) :: l
  | none => l

theorem toFr_getD (n : Nat) (l : FrA) (t : Nat) : (toFr n l).getD t .undef = bif Nat.blt t n then lk l t else .undef := by
  unfold toFr
  rw [List.getD_eq_getElem?_getD, List.getElem?_map]
  cases h : Nat.blt t n with
  | true =>
    have : t < n := by simp [Nat.blt, Nat.ble_eq] at h; omega
    simp [this]
  | false =>
    have : ¬ t < n := by
      intro h'
      have : Nat.blt t n = true := by simp [Nat.blt, Nat.ble_eq]; omega
      rw [this] at h; cases h
    simp [List.getElem?_eq_none (l := List.range n) (i := t) (by simpa using this)]

theorem ev_toFr (n : Nat) (l : FrA) (x : Operand) : ev (toFr n l) x = evA n l x := by
  cases x with
  | tmp t => exact toFr_getD n l t
  | _ => rfl

theorem ev_toFr' (n : Nat) (l : FrA) : ev (toFr n l) = evA n l := funext (ev_toFr n l)

theorem put_toFr (n : Nat) (l : FrA) (dst : Option Tmp) (v : AV) : (toFr n l).put dst v = toFr n (putA l dst v) := by
  cases dst with
  | none => rfl
  | some d =>
    apply List.ext_getElem?
    intro i
    simp only [Fr.put, putA, toFr, List.getElem?_set, List.length_map, List.length_range, List.getElem?_map]
    by_cases hi : i < n
    · by_cases hd : d = i
      · subst hd
        simp [hi, lk_cons]
      · have : Nat.beq d i = false := by
          cases h : Nat.beq d i with
          | true => exact absurd (Nat.eq_of_beq_eq_true h) hd
          | false => rfl
        simp [hd, hi, lk_cons, this]
    · have h1 : (List.range n)[i]? = none := List.getElem?_eq_none (by simpa using hi)
      rw [h1]
      by_cases hd : d = i
      · subst hd; simp [hi]
      · simp [hd]

def astepG (T : Tab) (o : Oper) (g : Operand → AV) (σ : St) : Option AStep :=
  match o.op with
  | .move x | .assign x => some (.val (g x) σ)
  | .pick c a b => (match g c with | .bool c => some (.val (if c then g a else g b) σ) | _ => none)
  | .alloc t => (T.ty t).bind fun i => if i.zero.length = i.size then some (.val (.ptr σ.length 0 0) (σ ++ [⟨0, .cells i.zero true⟩])) else none
  | .box t x => (T.ty t).bind fun i => (g x).cells.bind fun cs => if cs.length = i.size ∧ cs.all AV.one then some (.val (.ptr σ.length 0 0) (σ ++ [⟨0, .cells cs true⟩])) else none
  | .build t ps => (T.ty t).bind fun i => match i.desc with
    | .struct fs => (fs.toList.mapM fun fd => (T.ty fd.type).map fun fi => (fd.offset, fi.size)).bind fun pl => (fillA (fun j => pl[j]?) i.zero (ps.toList.map fun p => (p.1, g p.2))).map fun cs => .val (.agg cs) σ
    | .array _ e => (T.ty e).bind fun ei => (fillA (fun j => some (j * ei.size, ei.size)) i.zero (ps.toList.map fun p => (p.1, g p.2))).map fun cs => .val (.agg cs) σ
    | _ => none
  | .buildSlice t len ps => (elemTI T t).bind fun i => if len * i.size ≤ 16777216 ∧ i.zero.length = i.size ∧ len ≤ 9223372036854775807 then
      (fillA (fun j => some (j * i.size, i.size)) (repl len i.zero) (ps.toList.map fun p => (p.1, g p.2))).bind fun cs => litA (T.lits t) len i.size cs σ else none
  | .load t a => (T.ty t).bind fun i => (deref σ (g a) i.size).bind fun cs => val σ (chunkLoad i cs)
  | .store t a x => (T.ty t).bind fun i => match g a with
    | .ptr id ver off => (g x).cells.bind fun cs => if cs.length = i.size then (wr σ id ver off cs).map .skip else none
    | _ => none
  | .nilCheck x => (match g x with
    | .ptr id ver off => some (.val (.ptr id ver off) σ)
    | .fptr cs => some (.val (.fptr cs) σ)
    | .clo f a b => some (.val (.clo f a b) σ)
    | _ => none)
  | .binOp op t x y _ => val σ (binopO T op t y (g x) (g y))
  | .makeInterface t x => (T.ty t).bind fun i => mkIf t i.desc (g x) σ
  | .unOp op _ x => val σ (unop op (g x))
  | .convert s d x => (convertA T s d σ (g x)).map fun r => .val r.1 r.2
  | .makeFunc (.func f) a b => some (.val (.clo f (a.toList.map g) (b.toList.map g)) σ)
  | .makeMap t r => (match T.ty t, r.map g with
    | some ⟨.map _ _, _, _, _, _⟩, none => some (.val (.mref σ.length) (σ ++ [⟨0, .map []⟩]))
    | some ⟨.map _ _, _, _, _, _⟩, some (.int _ _) => some (.val (.mref σ.length) (σ ++ [⟨0, .map []⟩]))
    | _, _ => none)
  | .makeSlice t l c => (elemTI T t).bind fun i => match g l, g c with
    | .int _ n, .int _ m => if 0 ≤ n ∧ n ≤ m ∧ i.zero.length = i.size ∧ room47 m.toNat i.bytes then some (.val (.ref σ.length 0 0 n.toNat i.size) (σ ++ [⟨0, .cells (repl n.toNat i.zero) true⟩])) else none
    | _, _ => none
  | .slice t x lo hi mx => val σ (sliceOp T t (g x) (lo.map g) (hi.map g) (mx.map g))
  | .fieldAddr s x f => (field? T s f).bind fun r => if r.2.size = 0 then none else match g x with
    | .ptr id ver off => some (.val (.ptr id ver (off + r.1)) σ)
    | .fptr cs => some (.val (.fptr (cs.drop r.1)) σ)
    | _ => none
  | .field s x f => (field? T s f).bind fun r => match g x with
    | .agg cs => if r.1 + r.2.size ≤ cs.length then val σ (chunkLoad r.2 ((cs.drop r.1).take r.2.size)) else none
    | _ => none
  | .indexAddr t x ix => val σ (indexA T t (g x) (g ix))
  | .index t x ix => val σ (index1 T t (g x) (g ix))
  | .lookup t x ix ok => val σ (lookupA T t σ (g x) (g ix) ok)
  | .mapUpdate t m k x | .insert t m k x => (updA T t σ (g m) (g k) (g x)).map .skip
  | .extract x i => (match g x with | .tup vs => val σ vs[i]? | _ => none)
  | .call c => match c.callee with
    | .builtin b => builtinA T b c.argTypes.toList σ (c.args.toList.map g)
    | .value f => callA T (g f) σ (c.args.toList.map g)
    | .invoke _ _ => none
  | _ => none


theorem astepG_eq {o : Oper} {fr : Fr} {σ : St} : astepG T o (ev fr) σ = astep T o fr σ := by
  unfold astepG astep
  cases o.op <;> rfl


def nthL : List Oper → Nat → Option Oper
  | [], _ => none
  | o :: _, 0 => some o
  | _ :: l, i + 1 => nthL l i

theorem nthL_eq : ∀ (l : List Oper) (i : Nat), nthL l i = l[i]?
  | [], i => by simp [nthL]
  | o :: l, 0 => rfl
  | o :: l, i + 1 => by simp [nthL, nthL_eq l i]

def wantedF (os : List Oper) (n : Nat) (o : Oper) (l : FrA) : Option Bool :=
  match o.guard with
  | none => some true
  | some (j, want) => match nthL os j with
    | some oj => match oj.dst with
      | some d => match evA n l (.tmp d) with
        | .bool b => some (b == want)
        | .tup _ => some false
        | _ => none
      | none => none
    | none => none

theorem wantedF_eq {ops : Array Oper} {n : Nat} {o : Oper} {l : FrA} : wantedA ops o (toFr n l) = wantedF ops.toList n o l := by
  unfold wantedA wantedF
  cases o.guard with
  | none => rfl
  | some q =>
    obtain ⟨j, want⟩ := q
    simp only
    rw [nthL_eq, Array.getElem?_toList]
    cases ops[j]? with
    | none => rfl
    | some oj =>
      simp only [Option.bind_some]
      cases oj.dst with
      | none => rfl
      | some d =>
        simp only [Option.bind_some]
        have := ev_toFr n l (.tmp d)
        simp only [ev] at this
        rw [this]
        rfl

def stepF (T : Tab) (cf : CallF) (os : List Oper) (n : Nat) (o : Oper) (l : FrA) (σ : St) : Option (FrA × St) :=
  match wantedF os n o l with
  | none => none
  | some false => some (putA l o.dst (.tup []), σ)
  | some true => match astepG T o (evA n l) σ with
    | none => none
    | some (.val v σ') => some (putA l o.dst v, σ')
    | some (.skip σ') => some (putA l o.dst (.tup []), σ')
    | some (.call f args) => match cf f args σ with
      | some (v, σ') => some (putA l o.dst v, σ')
      | none => none

theorem stepF_ok {cf : CallF} {ops : Array Oper} {n : Nat} {o : Oper} {l l' : FrA} {σ σ' : St} (h : stepF T cf ops.toList n o l σ = some (l', σ')) : stepO T cf ops o (toFr n l, σ) = some (toFr n l', σ') := by
  unfold stepF at h
  unfold stepO stepV
  simp only
  rw [wantedF_eq, ← astepG_eq, ev_toFr']
  split at h
  · cases h
  · rename_i hw
    rw [hw]
    simp only [Option.some.injEq, Prod.mk.injEq] at h
    obtain ⟨rfl, rfl⟩ := h
    simp [put_toFr]
  · rename_i hw
    rw [hw]
    split at h
    · cases h
    · rename_i v σ1 hs
      simp only [Option.some.injEq, Prod.mk.injEq] at h
      obtain ⟨rfl, rfl⟩ := h
      simp [hs, put_toFr]
    · rename_i σ1 hs
      simp only [Option.some.injEq, Prod.mk.injEq] at h
      obtain ⟨rfl, rfl⟩ := h
      simp [hs, put_toFr]
    · rename_i f args hs
      split at h
      · rename_i v σ1 hc
        simp only [Option.some.injEq, Prod.mk.injEq] at h
        obtain ⟨rfl, rfl⟩ := h
        simp [hs, hc, put_toFr]
      · cases h

def opsF (T : Tab) (cf : CallF) (os : List Oper) (n : Nat) : List Oper → FrA → St → Option (FrA × St)
  | [], l, σ => some (l, σ)
  | o :: rest, l, σ => match stepF T cf os n o l σ with
    | some (l', σ') => opsF T cf os n rest l' σ'
    | none => none

theorem opsF_ok {cf : CallF} {ops : Array Oper} {n : Nat} : ∀ {os : List Oper} {l l' : FrA} {σ σ' : St}, opsF T cf ops.toList n os l σ = some (l', σ') → evOps T cf ops os (toFr n l, σ) = some (toFr n l', σ')
  | [], l, l', σ, σ', h => by
    simp only [opsF, Option.some.injEq, Prod.mk.injEq] at h
    obtain ⟨rfl, rfl⟩ := h
    rfl
  | o :: os, l, l', σ, σ', h => by
    simp only [opsF] at h
    split at h
    · rename_i l1 σ1 h1
      simp only [evOps, stepF_ok h1, Option.bind_some]
      exact opsF_ok h
    · cases h

def schF (T : Tab) (cf : CallF) (os : List Oper) (n : Nat) : List Nat → FrA → St → Option (FrA × St)
  | [], l, σ => some (l, σ)
  | i :: rest, l, σ => match nthL os i with
    | some o => match stepF T cf os n o l σ with
      | some (l', σ') => schF T cf os n rest l' σ'
      | none => none
    | none => none

theorem stepI_of {cf : CallF} {ops : Array Oper} {n i : Nat} {o : Oper} {l l' : FrA} {σ σ' : St} (ho : nthL ops.toList i = some o) (h : stepF T cf ops.toList n o l σ = some (l', σ')) : stepI T cf ops i (toFr n l, σ) = some (toFr n l', σ') := by
  rw [nthL_eq, Array.getElem?_toList] at ho
  unfold stepI
  rw [ho]
  exact stepF_ok h

theorem schF_ok {cf : CallF} {ops : Array Oper} {n : Nat} : ∀ {is : List Nat} {l l' : FrA} {σ σ' : St}, schF T cf ops.toList n is l σ = some (l', σ') → evList (stepI T cf ops) is (toFr n l, σ) = some (toFr n l', σ')
  | [], l, l', σ, σ', h => by
    simp only [schF, Option.some.injEq, Prod.mk.injEq] at h
    obtain ⟨rfl, rfl⟩ := h
    rfl
  | i :: is, l, l', σ, σ', h => by
    simp only [schF] at h
    split at h
    · rename_i o ho
      split at h
      · rename_i l1 σ1 h1
        simp only [evList, stepI_of ho h1, Option.bind_some]
        exact schF_ok h
      · cases h
    · cases h

def stepIF (T : Tab) (cf : CallF) (os : List Oper) (n : Nat) (i : Nat) (l : FrA) (σ : St) : Option (FrA × St) :=
  match nthL os i with
  | some o => stepF T cf os n o l σ
  | none => none

theorem stepIF_ok {cf : CallF} {ops : Array Oper} {n i : Nat} {l l' : FrA} {σ σ' : St} (h : stepIF T cf ops.toList n i l σ = some (l', σ')) : stepI T cf ops i (toFr n l, σ) = some (toFr n l', σ') := by
  unfold stepIF at h
  split at h
  · rename_i o ho; exact stepI_of ho h
  · cases h

/-- All orders, light operations first. -/
def anyF (lits : TypeId → Bool) (pol : FuncId → Bool) (step : Nat → FrA → St → Option (FrA × St)) (ops : Array Oper) (n : Nat) : Nat → Array Bool → FrA → St → Option (FrA × St)
  | 0, listed, l, σ => if (Region.ready .any ops listed).isEmpty then some (l, σ) else none
  | k + 1, listed, l, σ =>
    match (Region.ready .any ops listed).find? (lightAt lits pol ops listed) with
    | some i => (step i l σ).bind fun r => anyF lits pol step ops n k (listed.setIfInBounds i true) r.1 r.2
    | none => match Region.ready .any ops listed with
      | [] => some (l, σ)
      | i :: rest => (step i l σ).bind fun r => (anyF lits pol step ops n k (listed.setIfInBounds i true) r.1 r.2).bind fun e =>
        if rest.all fun j => match step j l σ with
          | some q => (match anyF lits pol step ops n k (listed.setIfInBounds j true) q.1 q.2 with | some e' => frstSame (toFr n e'.1, e'.2) (toFr n e.1, e.2) | none => false)
          | none => false
        then some e else none

theorem anyF_ok {pol : FuncId → Bool} {cf : CallF} (hpol : PolOK pol cf) {ops : Array Oper} {n : Nat} : ∀ (k : Nat) (listed : Array Bool) (l : FrA) (σ : St) (e : FrA × St), anyF T.lits pol (stepIF T cf ops.toList n) ops n k listed l σ = some e →
    AAny (stepI T cf ops) ops k listed (toFr n l, σ) (toFr n e.1, e.2)
  | 0, listed, l, σ, e, h => by
    simp only [anyF] at h
    split at h
    · rename_i hr
      cases h
      exact ⟨by simpa using hr, rfl⟩
    · cases h
  | k + 1, listed, l, σ, e, h => by
    simp only [anyF] at h
    split at h
    · rename_i i hi
      simp only [Option.bind_eq_some_iff] at h
      obtain ⟨⟨l1, σ1⟩, h1, h⟩ := h
      have hA := anyF_ok hpol k _ l1 σ1 e h
      obtain ⟨oi, hoi, S, hS, k1, k2, k3⟩ := lightAt_spec (List.find?_some hi)
      exact AAny_first hpol hoi S hS k1 k listed _ _ k2 k3 (List.mem_of_find?_eq_some hi) (stepIF_ok h1) hA
    · split at h
      · rename_i hr
        cases h
        exact AAny_done hr _ _
      · rename_i i rest hr
        simp only [Option.bind_eq_some_iff] at h
        obtain ⟨⟨l1, σ1⟩, h1, e1, he1, h⟩ := h
        split at h
        · rename_i hall
          cases h
          refine ⟨fun h0 => (by rw [hr] at h0; cases h0), fun j hj => ?_⟩
          rw [hr] at hj
          rcases List.mem_cons.1 hj with rfl | hj
          · exact ⟨_, stepIF_ok h1, anyF_ok hpol k _ _ _ _ he1⟩
          · have := List.all_eq_true.1 hall j hj
            split at this
            · rename_i q h2
              obtain ⟨l2, σ2⟩ := q
              split at this
              · rename_i e2 he2
                have := frstSame_eq this
                refine ⟨_, stepIF_ok h2, ?_⟩
                rw [← this]
                exact anyF_ok hpol k _ _ _ _ he2
              · cases this
            · cases this
        · cases h

end

end Go.Am

/- Code and functions, evaluated with quick frames. -/
set_option linter.unusedVariables false
set_option linter.unusedSimpArgs false
namespace Go.Am
variable {P : Program} {T : Tab}
noncomputable section

def loopF (g : FrA → St → Option (AX × FrA × St)) : Nat → FrA → St → Option (AX × FrA × St)
  | 0, _, _ => none
  | n + 1, l, σ => match g l σ with
    | some (.norm, l', σ') => loopF g n l' σ'
    | r => r

def evCodeF (C : EvC) (n : Nat) : Code → FrA → St → Option (AX × FrA × St)
  | .skip, l, σ => some (.norm, l, σ)
  | .label _, l, σ => some (.norm, l, σ)
  | .exit id, l, σ => some (.exit id, l, σ)
  | .ret, l, σ => some (.ret, l, σ)
  | .seq a b, l, σ => match evCodeF C n a l σ with
    | some (.norm, l', σ') => evCodeF C n b l' σ'
    | r => r
  | .cond c a b, l, σ => match evA n l c with
    | .bool true => evCodeF C n a l σ
    | .bool false => evCodeF C n b l σ
    | _ => none
  | .block id a, l, σ => match evCodeF C n a l σ with
    | some (.exit id', l', σ') => bif Nat.beq id' id then some (.norm, l', σ') else some (.exit id', l', σ')
    | r => r
  | .scope a, l, σ => evCodeF C n a l σ
  | .loop a, l, σ => loopF (evCodeF C n a) C.fuel l σ
  | .region _ ops false, l, σ => match opsF C.T C.cf ops.toList n ops.toList l σ with
    | some (l', σ') => some (.norm, l', σ')
    | none => none
  | .region id ops true, l, σ => match C.sch id with
    | some is => (match schF C.T C.cf ops.toList n is l σ with
      | some (l', σ') => some (.norm, l', σ')
      | none => none)
    | none => match anyF C.T.lits C.pol (stepIF C.T C.cf ops.toList n) ops n ops.size (Array.replicate ops.size false) l σ with
      | some (l', σ') => some (.norm, l', σ')
      | none => none
  | _, _, _ => none

theorem JO.ops {cf : CallF} (hT : TabOK P T) (hcf : CfOK P cf) {ops : Array Oper} {s s1 : Fr × St} {Q : Fr × St → Prop} (h1 : evOps T cf ops ops.toList s = some s1) (h : Q s1) : JO P ops (List.range ops.size) s Q := by
  intro X ρ w a hR hF E hE
  refine evOps_sound hT hcf (List.range ops.size) ops.toList s.1 s.2 s1 ρ w a ?_ h1 hR hF (fun a' w' ρ' hR' hF' t => hE s1 ρ' w' a' h hR' hF' t)
  apply List.ext_getElem?
  intro i
  simp only [List.getElem?_map, Array.getElem?_toList]
  rcases Nat.lt_or_ge i ops.size with hi | hi
  · simp [hi]
  · simp [Array.getElem?_eq_none hi, List.getElem?_eq_none (l := List.range ops.size) (i := i) (by simpa using hi)]

def isX (x : AX) (t : Fr × St) : Post := fun y u => y = x ∧ u = t

theorem loopF_sound {c : Code} {n : Nat} {g : FrA → St → Option (AX × FrA × St)} (hg : ∀ l σ x l' σ', g l σ = some (x, l', σ') → JC P c (toFr n l, σ) (isX x (toFr n l', σ'))) {l l' : FrA} {σ σ' : St} {x : AX} {k : Nat}
    (h : loopF g k l σ = some (x, l', σ')) : JC P (.loop c) (toFr n l, σ) (isX x (toFr n l', σ')) := by
  intro X ρ0 w0 a0 hR0 hF0
  have key : ∀ k (l1 : FrA) (σ1 : St) (ρ : Rho) (w : World) (a : Act), loopF g k l1 σ1 = some (x, l', σ') → Rel X ρ σ1 w → FR X ρ σ1 w (toFr n l1) a → Tr ρ0 σ w0 ρ σ1 w →
      Code.rounds P c (Outs X ρ0 σ w0 (isX x (toFr n l', σ'))) k a w := by
    intro k
    induction k with
    | zero => intro l1 σ1 ρ w a h; simp [loopF] at h
    | succ k ih =>
      intro l1 σ1 ρ w a h hR hF t
      rw [rounds_succ]
      simp only [loopF] at h
      cases hs : g l1 σ1 with
      | none => rw [hs] at h; cases h
      | some r =>
        obtain ⟨y, l2, σ2⟩ := r
        refine wp_mono (hg l1 σ1 y l2 σ2 hs X ρ w a hR hF) ?_
        rintro e a' w' ⟨z, s3, ρ', rfl, ⟨rfl, rfl⟩, h3, h4, h5⟩
        rw [hs] at h
        cases z with
        | norm => exact ih l2 σ2 ρ' w' a' h h3 h4 (t.trans h5)
        | exit id =>
          simp only [Option.some.injEq, Prod.mk.injEq] at h
          obtain ⟨h1, rfl, rfl⟩ := h
          exact ⟨.exit id, _, ρ', rfl, ⟨h1, rfl⟩, h3, h4, t.trans h5⟩
        | ret =>
          simp only [Option.some.injEq, Prod.mk.injEq] at h
          obtain ⟨h1, rfl, rfl⟩ := h
          exact ⟨.ret, _, ρ', rfl, ⟨h1, rfl⟩, h3, h4, t.trans h5⟩
  exact wp_loop_rounds k (key k l σ ρ0 w0 a0 h hR0 hF0 (Tr.refl ..))

theorem evCodeF_sound {C : EvC} (hC : EvOK P C) {n : Nat} : ∀ (c : Code) {l l' : FrA} {σ σ' : St} {x : AX}, schsOK C.T.lits C.pol C.sch c = true → evCodeF C n c l σ = some (x, l', σ') → JC P c (toFr n l, σ) (isX x (toFr n l', σ'))
  | .skip, l, l', σ, σ', x, _, h => by simp only [evCodeF, Option.some.injEq, Prod.mk.injEq] at h; obtain ⟨rfl, rfl, rfl⟩ := h; exact .skip ⟨rfl, rfl⟩
  | .label _, l, l', σ, σ', x, _, h => by simp only [evCodeF, Option.some.injEq, Prod.mk.injEq] at h; obtain ⟨rfl, rfl, rfl⟩ := h; exact .label ⟨rfl, rfl⟩
  | .exit _, l, l', σ, σ', x, _, h => by simp only [evCodeF, Option.some.injEq, Prod.mk.injEq] at h; obtain ⟨rfl, rfl, rfl⟩ := h; exact .exit ⟨rfl, rfl⟩
  | .ret, l, l', σ, σ', x, _, h => by simp only [evCodeF, Option.some.injEq, Prod.mk.injEq] at h; obtain ⟨rfl, rfl, rfl⟩ := h; exact .ret ⟨rfl, rfl⟩
  | .seq a b, l, l', σ, σ', x, hs, h => by
    simp only [schsOK, Bool.and_eq_true] at hs
    simp only [evCodeF] at h
    refine .seq ?_
    cases ha : evCodeF C n a l σ with
    | none => rw [ha] at h; cases h
    | some r =>
      obtain ⟨y, l1, σ1⟩ := r
      rw [ha] at h
      refine (evCodeF_sound hC a hs.1 ha).mono ?_
      rintro z t ⟨rfl, rfl⟩
      cases z with
      | norm => exact evCodeF_sound hC b hs.2 h
      | exit id => simp only [Option.some.injEq, Prod.mk.injEq] at h; obtain ⟨rfl, rfl, rfl⟩ := h; exact ⟨rfl, rfl⟩
      | ret => simp only [Option.some.injEq, Prod.mk.injEq] at h; obtain ⟨rfl, rfl, rfl⟩ := h; exact ⟨rfl, rfl⟩
  | .cond c a b, l, l', σ, σ', x, hs, h => by
    simp only [schsOK, Bool.and_eq_true] at hs
    simp only [evCodeF] at h
    split at h
    · rename_i hc; exact .cond (t := true) (by rw [ev_toFr]; exact hc) (evCodeF_sound hC a hs.1 h)
    · rename_i hc; exact .cond (t := false) (by rw [ev_toFr]; exact hc) (evCodeF_sound hC b hs.2 h)
    · cases h
  | .block id a, l, l', σ, σ', x, hs, h => by
    simp only [evCodeF] at h
    refine .block ?_
    cases ha : evCodeF C n a l σ with
    | none => rw [ha] at h; cases h
    | some r =>
      obtain ⟨y, l1, σ1⟩ := r
      rw [ha] at h
      refine (evCodeF_sound hC a hs ha).mono ?_
      rintro z t ⟨rfl, rfl⟩
      cases z with
      | norm => simp only [Option.some.injEq, Prod.mk.injEq] at h; obtain ⟨rfl, rfl, rfl⟩ := h; exact ⟨rfl, rfl⟩
      | exit id' =>
        simp only at h
        simp only [Post.block]
        cases hb : Nat.beq id' id with
        | true =>
          rw [hb] at h
          simp only [cond_true, Option.some.injEq, Prod.mk.injEq] at h
          obtain ⟨rfl, rfl, rfl⟩ := h
          rw [if_pos (Nat.eq_of_beq_eq_true hb)]; exact ⟨rfl, rfl⟩
        | false =>
          rw [hb] at h
          simp only [cond_false, Option.some.injEq, Prod.mk.injEq] at h
          obtain ⟨rfl, rfl, rfl⟩ := h
          rw [if_neg (fun he => by subst he; simp [Nat.beq_refl] at hb)]; exact ⟨rfl, rfl⟩
      | ret => simp only [Option.some.injEq, Prod.mk.injEq] at h; obtain ⟨rfl, rfl, rfl⟩ := h; exact ⟨rfl, rfl⟩
  | .scope a, l, l', σ, σ', x, hs, h => .scope (evCodeF_sound hC a hs h)
  | .loop a, l, l', σ, σ', x, hs, h => loopF_sound (fun l σ y l' σ' ht => evCodeF_sound hC a hs ht) h
  | .region id ops false, l, l', σ, σ', x, hs, h => by
    simp only [evCodeF] at h
    split at h
    · rename_i l1 σ1 h1
      simp only [Option.some.injEq, Prod.mk.injEq] at h
      obtain ⟨rfl, rfl, rfl⟩ := h
      exact .region (JO.ops hC.tab hC.cf (opsF_ok h1) ⟨rfl, rfl⟩)
    · cases h
  | .region id ops true, l, l', σ, σ', x, hs, h => by
    simp only [schsOK] at hs
    simp only [evCodeF] at h
    split at h
    · rename_i is hl
      rw [hl] at hs
      split at h
      · rename_i l1 σ1 h1
        simp only [Option.some.injEq, Prod.mk.injEq] at h
        obtain ⟨rfl, rfl, rfl⟩ := h
        exact .draw hC.tab hC.cf hC.mixed (schOK_sound hC.pol is _ _ _ _ hs (schF_ok h1)) ⟨rfl, rfl⟩
      · cases h
    · split at h
      · rename_i l1 σ1 h1
        simp only [Option.some.injEq, Prod.mk.injEq] at h
        obtain ⟨rfl, rfl, rfl⟩ := h
        exact .draw hC.tab hC.cf hC.mixed (anyF_ok hC.pol _ _ _ _ _ h1) ⟨rfl, rfl⟩
      · cases h
  | .rangeFunc .., l, l', σ, σ', x, _, h => by simp [evCodeF] at h
  | .goto _, l, l', σ, σ', x, _, h => by simp [evCodeF] at h
  | .refuse _, l, l', σ, σ', x, _, h => by simp [evCodeF] at h

/-- Arguments, by number. -/
def argsA : Nat → List AV → FrA
  | _, [] => []
  | i, v :: l => (i, v) :: argsA (i + 1) l

theorem argsA_lk : ∀ (args : List AV) (i t : Nat), lk (argsA i args) (i + t) = (args[t]?).getD (.tup [])
  | [], i, t => by simp [argsA, lk_nil]
  | v :: l, i, 0 => by simp [argsA, lk_cons]
  | v :: l, i, t + 1 => by
    have hb : Nat.beq i (i + (t + 1)) = false := by
      cases h : Nat.beq i (i + (t + 1)) with
      | true => have := Nat.eq_of_beq_eq_true h; omega
      | false => rfl
    have := argsA_lk l (i + 1) t
    rw [Nat.add_right_comm, Nat.add_assoc] at this
    simp only [argsA, lk_cons, hb, cond_false, List.getElem?_cons_succ]
    exact this

theorem toFr_args {fn : Func} {args : List AV} (h : args.length ≤ fn.ntmps) : toFr fn.ntmps (argsA 0 args) = fr0 fn args := by
  apply List.ext_getElem?
  intro i
  unfold toFr fr0
  rw [List.getElem?_map]
  rcases Nat.lt_or_ge i fn.ntmps with hi | hi
  · have := argsA_lk args 0 i
    rw [Nat.zero_add] at this
    simp only [hi, List.getElem?_range, Option.map_some, this]
    rcases Nat.lt_or_ge i args.length with hl | hl
    · simp [List.getElem?_append_left hl, hl]
    · rw [List.getElem?_append_right hl, List.getElem?_eq_none hl, List.getElem?_replicate, if_pos (by omega)]
      rfl
  · rw [List.getElem?_eq_none (l := List.range fn.ntmps) (by simpa using hi), List.getElem?_eq_none (by simp; omega)]
    rfl

def res1F (T : Tab) (n : Nat) (l : FrA) (σ : St) : ResultVar → Option AV
  | .tmp t => some (evA n l (.tmp t))
  | .cell a t => (T.ty t).bind fun i => (deref σ (evA n l (.tmp a)) i.size).bind (chunkLoad i)

def resLF (T : Tab) (n : Nat) (l : FrA) (σ : St) : List ResultVar → Option (List AV)
  | [] => some []
  | r :: rs => (res1F T n l σ r).bind fun v => (resLF T n l σ rs).map fun vs => v :: vs

theorem res1F_eq {n : Nat} {l : FrA} {σ : St} (r : ResultVar) : res1 T (toFr n l) σ r = res1F T n l σ r := by
  cases r with
  | tmp t => simp only [res1, res1F]; rw [← ev_toFr]; rfl
  | cell a t => simp only [res1, res1F]; rw [← ev_toFr]; rfl

theorem resLF_eq {n : Nat} {l : FrA} {σ : St} : ∀ rs : List ResultVar, resL T (toFr n l) σ rs = resLF T n l σ rs
  | [] => rfl
  | r :: rs => by simp only [resL, resLF, res1F_eq, resLF_eq rs]

def endF (T : Tab) (fn : Func) (l : FrA) (σ : St) : Option (AV × St) :=
  match resLF T fn.ntmps l σ fn.results.toList with
  | some vs => some (wrap1 vs, σ)
  | none => none

def bodyF (E : Env) (cf : CallF) : CallF := fun f args σ =>
  match E.T.fn f with
  | none => none
  | some fn => match fn.body with
    | none => none
    | some c => bif Nat.ble args.length fn.ntmps then
        match evCodeF (E.evc cf f) fn.ntmps c (argsA 0 args) σ with
        | some (.norm, l, σ') => endF E.T fn l σ'
        | some (.ret, l, σ') => endF E.T fn l σ'
        | _ => none
      else none

def runF (E : Env) : Nat → CallF
  | 0 => fun _ _ _ => none
  | n + 1 => bodyF E (callE E (runF E n))

theorem endF_ok {fn : Func} {l : FrA} {σ : St} {v : AV} {σ' : St} (h : endF T fn l σ = some (v, σ')) : resA T fn.results.toList (toFr fn.ntmps l) σ = some v ∧ σ' = σ := by
  unfold endF at h
  split at h
  · rename_i vs hv
    simp only [Option.some.injEq, Prod.mk.injEq] at h
    obtain ⟨rfl, rfl⟩ := h
    exact ⟨by unfold resA; rw [resLF_eq, hv]; rfl, rfl⟩
  · cases h

theorem bodyF_ok {E : Env} (hE : EnvOK P E) {cf : CallF} (hcf : CfOK P cf) (hpol : PolOK E.pol cf) : CfOK P (bodyF E cf) := by
  intro f args σ v σ' h
  unfold bodyF at h
  split at h
  · cases h
  · rename_i fn hfn
    split at h
    · cases h
    · rename_i c hc
      have hok : EvOK P (E.evc cf f) := ⟨hE.tab, hcf, hpol, hE.mixed⟩
      have hs := hE.schs f fn c hfn hc
      cases hb : Nat.ble args.length fn.ntmps with
      | false => rw [hb] at h; cases h
      | true =>
        rw [hb] at h
        simp only [cond_true] at h
        refine CallsQ.toA (callsQ_of_JC hE.tab (hE.tab.fn f fn hfn).1 hc ?_)
        rw [← toFr_args (Nat.le_of_ble_eq_true hb)]
        split at h
        · rename_i l σ1 he
          obtain ⟨h1, rfl⟩ := endF_ok h
          refine (evCodeF_sound hok c hs he).mono ?_
          rintro x t ⟨rfl, rfl⟩
          exact ⟨v, h1, rfl, rfl⟩
        · rename_i l σ1 he
          obtain ⟨h1, rfl⟩ := endF_ok h
          refine (evCodeF_sound hok c hs he).mono ?_
          rintro x t ⟨rfl, rfl⟩
          exact ⟨v, h1, rfl, rfl⟩
        · cases h

theorem runF_ok {E : Env} (hE : EnvOK P E) : ∀ n, CfOK P (runF E n)
  | 0 => fun f args σ v σ' h => by cases h
  | n + 1 => bodyF_ok hE (callE_ok hE (runF_ok hE n)) callE_pol

/-- A call with frozen arguments, run. -/
theorem callsF_runF {E : Env} (hE : EnvOK P E) {n d : Nat} {f : FuncId} {args : List AV} {r v : AV} {σ1 σ2 : St} (h : runF E n f args [] = some (r, σ1)) (hz : frz d σ1 r = some (v, σ2)) : CallsF P f args v :=
  (runF_ok hE n f args [] r σ1 h).toQ ⟨d, σ2, hz⟩

end

end Go.Am

/- Structs of plain fields are compared cell by cell. -/
set_option linter.unusedVariables false
set_option linter.unusedSimpArgs false
namespace Go.Am
variable {P : Program} {M : Nat → Prop} {ρ : Rho} {σ : St} {w : World}

def basic : Option TypeDesc → Nat → Bool
  | some .bool, 1 => true
  | some (.int _), 2 => true
  | some .string, 3 => true
  | _, _ => false

def flatFields (P : Program) : List Field → Nat → List AV → Bool
  | [], _, [] => true
  | f :: fs, k, z :: zs => f.name != "_" && f.offset == k && basic (P.underlying f.type) z.tag && flatFields P fs (k + 1) zs
  | _, _, _ => false

theorem isAgg_basic {t : TypeId} {n : Nat} (h : basic (P.underlying t) n = true) (w : World) : (isAgg t).run P w = .ok false w := by
  unfold basic at h
  split at h <;> first | (rename_i hu; simp [isAgg, run_underlying hu]; done) | (rename_i _ hu; simp [isAgg, run_underlying hu]; done) | cases h

/-- Two lists of cells, from some place on. -/
def At (w : World) (M : Nat → Prop) (ρ : Rho) (σ : St) (k : Nat) (as : List AV) (xs : Array Value) : Prop := ∀ (j : Nat) c, as[j]? = some c → ∃ v, xs[k + j]? = some v ∧ VR w M ρ σ c v

theorem At.tail {k : Nat} {a : AV} {as : List AV} {xs : Array Value} (h : At w M ρ σ k (a :: as) xs) : At w M ρ σ (k + 1) as xs := fun j c hc => by
  have := h (j + 1) c (by simpa using hc)
  rwa [show k + (j + 1) = k + 1 + j by omega] at this

theorem part_basic {t : TypeId} {n : Nat} (h : basic (P.underlying t) n = true) {xs : Array Value} {k : Nat} {v : Value} (hv : xs[k]? = some v) (w : World) : (part t xs k).run P w = .ok v w := by
  unfold part
  simp [isAgg_basic h, hv]

theorem basic1 {d : Option TypeDesc} (h : basic d 1 = true) : d = some .bool := by unfold basic at h; split at h <;> simp_all
theorem basic2 {d : Option TypeDesc} (h : basic d 2 = true) : ∃ k, d = some (.int k) := by unfold basic at h; split at h <;> simp_all
theorem basic3 {d : Option TypeDesc} (h : basic d 3 = true) : d = some .string := by unfold basic at h; split at h <;> simp_all

theorem eq_basic {t : TypeId} {z : AV} (h : basic (P.underlying t) z.tag = true) {a b : AV} (ht : a.tag = z.tag) {u v : Value} (hu : VR w M ρ σ a u) (hv : VR w M ρ σ b v) {e : Bool} (he : eqCell a b = some e) (d : Nat) (w' : World) :
    (Op.equalIn (d + 1) t u v).run P w' = .ok e w' := by
  rw [← ht] at h
  cases a <;> cases b <;> simp only [eqCell] at he <;> try (cases he; done)
  · have e1 := hu.bool_inv; have e2 := hv.bool_inv; subst e1 e2
    have hd := basic1 h
    simp only [Option.some.injEq] at he
    simp [Op.equalIn, run_underlying hd, he]
  · have e1 := hu.int_inv; have e2 := hv.int_inv; subst e1 e2
    obtain ⟨k, hd⟩ := basic2 h
    split at he
    · rename_i hk
      simp only [Option.some.injEq] at he
      simp [Op.equalIn, run_underlying hd, hk, he]
    · cases he
  · have e1 := hu.str_inv; have e2 := hv.str_inv; subst e1 e2
    have hd := basic3 h
    simp only [Option.some.injEq] at he
    simp only [Op.equalIn, run_underlying hd, Sem.run_bind, Result.andThen_ok, Sem.run_pure]
    rw [← he, beq_toListBytes, ByteArray.toList_eq, ByteArray.toList_eq]

theorem run_eqFields_flat (d : Nat) : ∀ (fs : List Field) (k : Nat) (zs as bs : List AV) (xs ys : Array Value) (e : Bool), flatFields P fs k zs = true → tags as zs = true → At w M ρ σ k as xs → At w M ρ σ k bs ys → eqCells as bs = some e →
    (Op.eqFields (d + 1) xs ys fs).run P w = .ok e w
  | [], k, zs, as, bs, xs, ys, e, hf, ht, hx, hy, he => by
    cases zs with
    | cons => simp [flatFields] at hf
    | nil =>
      cases as with
      | cons => simp [tags] at ht
      | nil =>
        cases bs with
        | cons => simp [eqCells] at he
        | nil => simp only [eqCells, Option.some.injEq] at he; subst he; simp [Op.eqFields]
  | f :: fs, k, zs, as, bs, xs, ys, e, hf, ht, hx, hy, he => by
    cases zs with
    | nil => simp [flatFields] at hf
    | cons z zs =>
      cases as with
      | nil => simp [tags] at ht
      | cons a as =>
        cases bs with
        | nil => simp [eqCells] at he
        | cons b bs =>
          simp only [flatFields, Bool.and_eq_true, bne_iff_ne, beq_iff_eq] at hf
          obtain ⟨⟨⟨hn, ho⟩, hb⟩, hf⟩ := hf
          simp only [tags, Bool.and_eq_true] at ht
          have htag := Nat.eq_of_beq_eq_true ht.1
          simp only [eqCells, Option.bind_eq_some_iff, Option.map_eq_some_iff] at he
          obtain ⟨e1, he1, e2, he2, rfl⟩ := he
          obtain ⟨u, hu, hur⟩ := hx 0 a rfl
          obtain ⟨v, hv, hvr⟩ := hy 0 b rfl
          rw [Nat.add_zero] at hu hv
          have ih := run_eqFields_flat d fs (k + 1) zs as bs xs ys e2 hf ht.2 hx.tail hy.tail he2
          simp only [Op.eqFields, ho, if_pos hn, Sem.run_bind, part_basic hb hu, part_basic hb hv, Result.andThen_ok, eq_basic hb htag hur hvr he1, Sem.run_ite]
          cases e1 with
          | true => simpa using ih
          | false => simp


theorem checkKey_basic {t : TypeId} {z a : AV} (h : basic (P.underlying t) z.tag = true) (ht : a.tag = z.tag) {u : Value} (hu : VR w M ρ σ a u) (b : Bool) (n : Nat) : (Instr.checkKey b (n + 1) t u).run P w = .ok () w := by
  rw [← ht] at h
  have h0 : a.tag ≠ 0 := by intro h0; rw [h0] at h; simp [basic] at h
  cases a <;> simp only [AV.tag, ne_eq, not_true_eq_false] at h0
  · have e1 := hu.bool_inv; subst e1
    have hd := basic1 h
    simp [Instr.checkKey, run_underlying hd]
  · have e1 := hu.int_inv; subst e1
    obtain ⟨k, hd⟩ := basic2 h
    simp [Instr.checkKey, run_underlying hd]
  · have e1 := hu.str_inv; subst e1
    have hd := basic3 h
    simp [Instr.checkKey, run_underlying hd]

theorem run_checkKey_flat {t : TypeId} {fs : Array Field} (hu : P.underlying t = some (.struct fs)) {zs as : List AV} {xs : Array Value} (hf : flatFields P fs.toList 0 zs = true) (ht : tags as zs = true) (hx : At w M ρ σ 0 as xs) (b : Bool) (n : Nat) :
    (Instr.checkKey b (n + 2) t (.agg xs)).run P w = .ok () w := by
  obtain ⟨m, hm⟩ : ∃ m, m = n + 1 := ⟨_, rfl⟩
  obtain ⟨k, hk⟩ : ∃ k, k = 0 := ⟨0, rfl⟩
  rw [show n + 2 = m + 1 by omega]
  rw [← hk] at hf hx
  clear hk
  simp only [Instr.checkKey, Sem.run_bind, run_underlying hu, Result.andThen_ok]
  rw [← Array.forIn_toList]
  clear hu
  generalize fs.toList = l at hf
  clear fs
  induction l generalizing k zs as with
  | nil => simp
  | cons f l ih =>
    cases zs with
    | nil => simp [flatFields] at hf
    | cons z zs =>
      cases as with
      | nil => simp [tags] at ht
      | cons a as =>
        simp only [flatFields, Bool.and_eq_true, bne_iff_ne, beq_iff_eq] at hf
        obtain ⟨⟨⟨hn, ho⟩, hb⟩, hf⟩ := hf
        simp only [tags, Bool.and_eq_true] at ht
        obtain ⟨u, hu, hur⟩ := hx 0 a rfl
        rw [Nat.add_zero] at hu
        have ih := ih ht.2 (k + 1) hx.tail hf
        simp only [List.forIn_cons, ho, if_pos hn, Sem.run_bind, part_basic hb hu, Result.andThen_ok, hm, checkKey_basic hb (Nat.eq_of_beq_eq_true ht.1) hur b n, Sem.run_pure]
        rw [hm] at ih
        exact ih

theorem at_of {as : List AV} {xs : Array Value} (h : VRs w M ρ σ as xs) : At w M ρ σ 0 as xs := fun j c hc => by
  have hj : j < xs.size := by rw [h.1]; exact (List.getElem?_eq_some_iff.1 hc).1
  exact ⟨xs[j], by rw [Nat.zero_add]; exact Array.getElem?_eq_getElem hj, h.2 j c _ hc (Array.getElem?_eq_getElem hj)⟩

/-- A struct of plain fields is flat. -/
theorem flatOK_of {t : TypeId} {n : Nat} {fs : Array Field} {zs : List AV} (hu : P.underlying t = some (.struct fs)) (hg : P.eqGuardType P.depth t = false) (hp : P.stoodInHeld t = false) (hf : flatFields P fs.toList 0 zs = true) : FlatOK P t n zs := by
  refine ⟨hg, fun w M ρ σ as bs xs ys e ha hb ht hx hy he => ?_, fun w M ρ σ as xs b ha ht hx => run_checkKey_flat hu hf ht (at_of hx) b 9998⟩
  have hfo : P.fieldsOf t = fs := by simp [Program.fieldsOf, hu]
  rw [show (10000 : Nat) = 9999 + 1 from rfl, run_equalIn_struct w 9999 t xs ys (by rw [hfo]; exact hu) hp, hfo]
  exact run_eqFields_flat 9998 fs.toList 0 zs as bs xs ys e hf ht (at_of hx) (at_of hy) he

end Go.Am
