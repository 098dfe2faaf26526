/- A part of the proof: the abstract machine and what it shows of the program. -/
import Derived.Test.YtollmmiifppfnaaGreatDoorMachC
import Derived.Scope
import Derived.LoopN

/- Regions: operations one after the other, and in whatever order their edges allow. -/
set_option linter.unusedVariables false
set_option linter.unusedSimpArgs false
namespace Go.Am
variable {P : Program} {T : Tab} {X : Nat → Prop} {ρ : Rho} {σ : St} {w : World}

abbrev CallF := FuncId → List AV → St → Option (AV × St)

/-- What a call comes to. -/
def CallsA (P : Program) (f : FuncId) (args : List AV) (σ : St) (res : AV) (σ' : St) : Prop :=
  ∀ (X : Nat → Prop) (ρ : Rho) (w : World) (cargs : Array Value), Rel X ρ σ w → VRs w (Mu X ρ σ) ρ σ args cargs →
    Calls P f cargs w fun e w' => ∃ cv ρ', e = .returned cv ∧ Rel X ρ' σ' w' ∧ Tr ρ σ w ρ' σ' w' ∧ VR w' (Mu X ρ' σ') ρ' σ' res cv

/-- Is the operation wanted? (A guard.) -/
def wantedA (ops : Array Oper) (o : Oper) (fr : Fr) : Option Bool :=
  match o.guard with
  | none => some true
  | some (j, want) => ((ops[j]?).bind (·.dst)).bind fun d => match fr.getD d .undef with | .bool b => some (b == want) | .tup _ => some false | _ => none

theorem vr_tup0 (w : World) (M : Nat → Prop) (ρ : Rho) (σ : St) : VR w M ρ σ (.tup []) undef := .tup [] #[] rfl (fun i c v hc => by simp at hc)

/-- What one operation gives, calls and all. -/
def stepV (T : Tab) (cf : CallF) (ops : Array Oper) (o : Oper) (fr : Fr) (σ : St) : Option (AV × St) :=
  (wantedA ops o fr).bind fun b =>
    if b then (astep T o fr σ).bind fun r => match r with
      | .val v σ' => some (v, σ')
      | .skip σ' => some (.tup [], σ')
      | .call f args => cf f args σ
    else some (.tup [], σ)

/-- One operation. -/
def stepO (T : Tab) (cf : CallF) (ops : Array Oper) (o : Oper) (s : Fr × St) : Option (Fr × St) :=
  (stepV T cf ops o s.1 s.2).map fun q => (s.1.put o.dst q.1, q.2)

theorem wantedA_sound {ops : Array Oper} {o : Oper} {fr : Fr} {a : Act} (hF : FR X ρ σ w fr a) {b : Bool} (h : wantedA ops o fr = some b) : Region.wanted o (yielded ops a.tmps) = b := by
  unfold wantedA at h
  unfold Region.wanted
  split at h
  · rename_i hg; rw [hg]; simpa using h
  · rename_i j want hg
    rw [hg]
    simp only [Option.bind_eq_some_iff] at h
    obtain ⟨d, ⟨oj, hoj, hd⟩, h⟩ := h
    have key : ∀ c, fr.getD d .undef = c → c ≠ .undef → ∃ hs : d < a.tmps.size, VR w (Mu X ρ σ) ρ σ c a.tmps[d] := by
      intro c hc hne
      have hd' : d < fr.length := by
        rcases Nat.lt_or_ge d fr.length with h' | h'
        · exact h'
        · rw [List.getD_eq_getElem?_getD, List.getElem?_eq_none h'] at hc; exact absurd hc.symm hne
      have hs : d < a.tmps.size := by rw [hF.all.1]; exact hd'
      exact ⟨hs, hF.all.2 d c a.tmps[d] (by rw [List.getD_eq_getElem?_getD, List.getElem?_eq_getElem hd'] at hc; rw [List.getElem?_eq_getElem hd']; simpa using hc) (Array.getElem?_eq_getElem hs)⟩
    split at h
    · rename_i c hc
      cases h
      obtain ⟨hs, hv⟩ := key _ hc (by simp)
      have e := hv.bool_inv
      simp [yielded, hoj, hd, Array.getElem?_eq_getElem hs, e]
    · rename_i c hc
      cases h
      obtain ⟨hs, hv⟩ := key _ hc (by simp)
      have e : ∃ vs, a.tmps[d] = .tuple vs := by
        generalize a.tmps[d] = v at hv
        cases hv with
        | tup cs vs h1 h2 => exact ⟨vs, rfl⟩
      obtain ⟨vs, e⟩ := e
      simp [yielded, hoj, hd, Array.getElem?_eq_getElem hs, e]
    · cases h

theorem stepO_sound {cf : CallF} (hT : TabOK P T) (hcf : ∀ f args σ v σ', cf f args σ = some (v, σ') → CallsA P f args σ v σ') {ops : Array Oper} {o : Oper} {fr : Fr} {a : Act} (hR : Rel X ρ σ w) (hF : FR X ρ σ w fr a) {s' : Fr × St}
    (h : stepO T cf ops o (fr, σ) = some s') {K : Act → World → Prop} {Q : Exit → Act → World → Prop}
    (hK : ∀ a' w' ρ', Rel X ρ' s'.2 w' → FR X ρ' s'.2 w' s'.1 a' → Tr ρ σ w ρ' s'.2 w' → K a' w') :
    (if Region.wanted o (yielded ops a.tmps) then o.wp P a w K Q ∨ (o.asks P a w ∧ LetsOut Q) else K (a.put o.dst undef) w) := by
  simp only [stepO, stepV, Option.map_eq_some_iff, Option.bind_eq_some_iff] at h
  obtain ⟨⟨c, σ'⟩, ⟨b, hb, h⟩, rfl⟩ := h
  rw [wantedA_sound hF hb]
  cases b with
  | false =>
    simp only [Bool.false_eq_true, if_false, Option.some.injEq, Prod.mk.injEq] at h ⊢
    obtain ⟨rfl, rfl⟩ := h
    exact hK _ _ ρ hR (hF.put _ (vr_tup0 ..)) (Tr.refl ..)
  | true =>
    simp only [if_true, Option.bind_eq_some_iff] at h ⊢
    obtain ⟨r, hr, h⟩ := h
    have good := op_sound hT hR hF hr
    refine .inl ?_
    unfold Oper.wp
    cases r with
    | val c' σ'' =>
      obtain ⟨v, w', ρ', h1, h2, h3, h4⟩ := good
      simp only [Option.some.injEq, Prod.mk.injEq] at h
      obtain ⟨rfl, rfl⟩ := h
      rw [h1]
      exact hK _ _ ρ' h2 ((hF.tr h3).put _ h4) h3
    | skip σ'' =>
      obtain ⟨w', ρ', h1, h2, h3⟩ := good
      simp only [Option.some.injEq, Prod.mk.injEq] at h
      obtain ⟨rfl, rfl⟩ := h
      rw [h1]
      exact hK _ _ ρ' h2 ((hF.tr h3).put _ (vr_tup0 ..)) h3
    | call f args =>
      obtain ⟨cargs, h1, h2⟩ := good
      rw [h1]
      refine (hcf f args σ c σ' h X ρ w cargs hR h2).mono ?_
      rintro e w' ⟨cv, ρ', rfl, h3, h4, h5⟩
      exact hK _ _ ρ' h3 ((hF.tr h4).put _ h5) h4

/-! A region in the order of the text -/
def evOps (T : Tab) (cf : CallF) (ops : Array Oper) : List Oper → Fr × St → Option (Fr × St)
  | [], s => some s
  | o :: rest, s => (stepO T cf ops o s).bind (evOps T cf ops rest)

theorem evOps_sound {cf : CallF} (hT : TabOK P T) (hcf : ∀ f args σ v σ', cf f args σ = some (v, σ') → CallsA P f args σ v σ') {ops : Array Oper} {Q : Exit → Act → World → Prop} :
    ∀ (l : List Nat) (os : List Oper) (fr : Fr) (σ : St) (s' : Fr × St) (ρ : Rho) (w : World) (a : Act), l.map (fun i => ops[i]?) = os.map some → evOps T cf ops os (fr, σ) = some s' → Rel X ρ σ w → FR X ρ σ w fr a →
      (∀ a' w' ρ', Rel X ρ' s'.2 w' → FR X ρ' s'.2 w' s'.1 a' → Tr ρ σ w ρ' s'.2 w' → Q .normal a' w') → wpOps P ops Q l a w
  | [], os, fr, σ, s', ρ, w, a, hl, h, hR, hF, hQ => by
    cases os with
    | nil => simp only [evOps, Option.some.injEq] at h; subst h; exact hQ a w ρ hR hF (Tr.refl ..)
    | cons => simp at hl
  | i :: l, os, fr, σ, s', ρ, w, a, hl, h, hR, hF, hQ => by
    cases os with
    | nil => simp at hl
    | cons o os =>
      simp only [List.map_cons, List.cons.injEq] at hl
      obtain ⟨hi, hl⟩ := hl
      simp only [evOps, Option.bind_eq_some_iff] at h
      obtain ⟨s1, h1, h2⟩ := h
      simp only [wpOps, hi]
      exact stepO_sound (Q := Q) hT hcf hR hF h1 (fun a' w' ρ' hR' hF' t => evOps_sound hT hcf l os s1.1 s1.2 s' ρ' w' a' hl h2 hR' hF' (fun a'' w'' ρ'' hR'' hF'' t' => hQ a'' w'' ρ'' hR'' hF'' (t.trans t')))

/-! A region in whatever order -/

/-- In whatever order the operations are taken, the machine comes to 'e'. -/
def AAny (step : Nat → Fr × St → Option (Fr × St)) (ops : Array Oper) : Nat → Array Bool → Fr × St → Fr × St → Prop
  | 0, listed, s, e => Region.ready .any ops listed = [] ∧ s = e
  | n + 1, listed, s, e => (Region.ready .any ops listed = [] → s = e) ∧
    ∀ i ∈ Region.ready .any ops listed, ∃ s', step i s = some s' ∧ AAny step ops n (listed.setIfInBounds i true) s' e

def stepI (T : Tab) (cf : CallF) (ops : Array Oper) (i : Nat) (s : Fr × St) : Option (Fr × St) :=
  match ops[i]? with
  | some o => stepO T cf ops o s
  | none => none

theorem AAny_sound {cf : CallF} (hT : TabOK P T) (hcf : ∀ f args σ v σ', cf f args σ = some (v, σ') → CallsA P f args σ v σ') {ops : Array Oper} {Q : Exit → Act → World → Prop} :
    ∀ (n : Nat) (listed : Array Bool) (s e : Fr × St) (ρ : Rho) (w : World) (a : Act), AAny (stepI T cf ops) ops n listed s e → Rel X ρ s.2 w → FR X ρ s.2 w s.1 a →
      (∀ a' w' ρ', Rel X ρ' e.2 w' → FR X ρ' e.2 w' e.1 a' → Tr ρ s.2 w ρ' e.2 w' → Q .normal a' w') → wpAny P .any ops Q n listed a w
  | 0, listed, s, e, ρ, w, a, h, hR, hF, hQ => by
    obtain ⟨h1, rfl⟩ := h
    exact ⟨h1, hQ a w ρ hR hF (Tr.refl ..)⟩
  | n + 1, listed, s, e, ρ, w, a, h, hR, hF, hQ => by
    obtain ⟨h1, h2⟩ := h
    refine ⟨fun hr => ?_, fun i hi => ?_⟩
    · have := h1 hr; subst this
      exact hQ a w ρ hR hF (Tr.refl ..)
    · obtain ⟨s', hs, hA⟩ := h2 i hi
      unfold stepI at hs
      unfold wpOp
      split at hs
      · rename_i o ho
        rw [ho]
        exact stepO_sound (Q := Q) hT hcf hR hF hs (fun a' w' ρ' hR' hF' t => AAny_sound hT hcf n _ s' e ρ' w' a' hA hR' hF' (fun a'' w'' ρ'' hR'' hF'' t' => hQ a'' w'' ρ'' hR'' hF'' (t.trans t')))
      · cases hs

end Go.Am

/- Operations that can be taken first. -/
set_option linter.unusedVariables false
set_option linter.unusedSimpArgs false
namespace Go.Am
variable {T : Tab} {σ : St}

theorem ev_congr {fr fr' : Fr} {ps : List Operand} (h : ∀ x ∈ ps, ev fr x = ev fr' x) : ps.map (ev fr) = ps.map (ev fr') := List.map_congr_left h

theorem parts_congr {fr fr' : Fr} {ps : List (Nat × Operand)} (h : ∀ x ∈ ps.map (·.2), ev fr x = ev fr' x) : (ps.map fun p => (p.1, ev fr p.2)) = ps.map fun p => (p.1, ev fr' p.2) :=
  List.map_congr_left fun p hp => by rw [h p.2 (List.mem_map.2 ⟨p, hp, rfl⟩)]

theorem opt_congr {fr fr' : Fr} {x : Option Operand} (h : ∀ y ∈ x.toArray, ev fr y = ev fr' y) : x.map (ev fr) = x.map (ev fr') := by
  cases x with
  | none => rfl
  | some x => simp only [Option.map_some]; rw [h x (by simp)]

/-- A step looks at its operands alone. -/
theorem astep_congr {o : Oper} {fr fr' : Fr} (h : ∀ x ∈ o.op.operands, ev fr x = ev fr' x) : astep T o fr σ = astep T o fr' σ := by
  unfold astep
  cases ho : o.op with
  | move x => rw [ho] at h; simp only; rw [h x (by simp [Op.operands])]
  | assign x => rw [ho] at h; simp only; rw [h x (by simp [Op.operands])]
  | pick c x y => rw [ho] at h; simp only; rw [h c (by simp [Op.operands]), h x (by simp [Op.operands]), h y (by simp [Op.operands])]
  | box t x => rw [ho] at h; simp only; rw [h x (by simp [Op.operands])]
  | build t ps => rw [ho] at h; simp only; rw [parts_congr (fr := fr) (fr' := fr') (by simpa [Op.operands] using h)]
  | buildSlice t n ps => rw [ho] at h; simp only; rw [parts_congr (fr := fr) (fr' := fr') (by simpa [Op.operands] using h)]
  | load t x => rw [ho] at h; simp only; rw [h x (by simp [Op.operands])]
  | store t p x => rw [ho] at h; simp only; rw [h p (by simp [Op.operands]), h x (by simp [Op.operands])]
  | nilCheck x => rw [ho] at h; simp only; rw [h x (by simp [Op.operands])]
  | binOp op t x y t' => rw [ho] at h; simp only; rw [h x (by simp [Op.operands]), h y (by simp [Op.operands])]
  | unOp op t x => rw [ho] at h; simp only; rw [h x (by simp [Op.operands])]
  | makeInterface t x => rw [ho] at h; simp only; rw [h x (by simp [Op.operands])]
  | convert s d x => rw [ho] at h; simp only; rw [h x (by simp [Op.operands])]
  | makeFunc f xs ys =>
    rw [ho] at h
    cases f <;> try rfl
    simp only
    rw [ev_congr (fr := fr) (fr' := fr') (ps := xs.toList) (fun x hx => h x (by simp [Op.operands]; exact .inl (by simpa using hx))), ev_congr (fr := fr) (fr' := fr') (ps := ys.toList) (fun x hx => h x (by simp [Op.operands]; exact .inr (by simpa using hx)))]
  | makeMap t x => rw [ho] at h; simp only; rw [opt_congr (fr := fr) (fr' := fr') (by simpa [Op.operands] using h)]
  | makeSlice t l c => rw [ho] at h; simp only; rw [h l (by simp [Op.operands]), h c (by simp [Op.operands])]
  | slice t x lo hi mx =>
    rw [ho] at h; simp only
    simp only [Op.operands, Array.mem_append] at h
    rw [h x (.inl (.inl (.inl (by simp)))), opt_congr (x := lo) (fr := fr) (fr' := fr') (fun y hy => h y (.inl (.inl (.inr hy)))), opt_congr (x := hi) (fr := fr) (fr' := fr') (fun y hy => h y (.inl (.inr hy))), opt_congr (x := mx) (fr := fr) (fr' := fr') (fun y hy => h y (.inr hy))]
  | fieldAddr s x f => rw [ho] at h; simp only; rw [h x (by simp [Op.operands])]
  | field s x f => rw [ho] at h; simp only; rw [h x (by simp [Op.operands])]
  | indexAddr t x ix => rw [ho] at h; simp only; rw [h x (by simp [Op.operands]), h ix (by simp [Op.operands])]
  | index t x ix => rw [ho] at h; simp only; rw [h x (by simp [Op.operands]), h ix (by simp [Op.operands])]
  | lookup t x ix ok => rw [ho] at h; simp only; rw [h x (by simp [Op.operands]), h ix (by simp [Op.operands])]
  | mapUpdate t m k x => rw [ho] at h; simp only; rw [h m (by simp [Op.operands]), h k (by simp [Op.operands]), h x (by simp [Op.operands])]
  | insert t m k x => rw [ho] at h; simp only; rw [h m (by simp [Op.operands]), h k (by simp [Op.operands]), h x (by simp [Op.operands])]
  | extract x i => rw [ho] at h; simp only; rw [h x (by simp [Op.operands])]
  | call c =>
    rw [ho] at h
    obtain ⟨callee, args, ats⟩ := c
    simp only [Op.operands, Call.operands, Array.mem_append] at h
    simp only
    rw [ev_congr (fr := fr) (fr' := fr') (ps := args.toList) (fun x hx => h x (.inr (by simpa using hx)))]
    cases callee with
    | value f => simp only; rw [h f (.inl (by simp))]
    | _ => rfl
  | _ => rfl

/-! Kinds of operations -/
inductive K where
  | P | L | A | C | E

def kindOf (lits : TypeId → Bool) (pol : FuncId → Bool) (op : Op) : K :=
  match op with
  | .move _ | .assign _ | .pick .. | .nilCheck _ | .binOp .. | .unOp .. | .makeFunc .. | .makeInterface .. | .extract .. | .slice .. | .fieldAddr .. | .field .. | .indexAddr .. | .index .. | .build .. => .P
  | .load .. | .lookup .. => .L
  | .buildSlice t .. => if lits t then .P else .A
  | .convert s d _ => if lits s && lits d then .P else .E
  | .alloc _ | .box .. | .makeSlice .. | .makeMap .. => .A
  | .call { callee := .builtin .len, .. } => .L
  | .call { callee := .builtin .max, .. } | .call { callee := .builtin .min, .. } => .P
  | .call { callee := .value (.func f), .. } => if pol f then .C else .E
  | _ => .E

def K.isP : K → Bool | .P => true | _ => false
def K.isL : K → Bool | .L => true | _ => false
def K.isE : K → Bool | .E => true | _ => false

def sameOB : OB → OB → Prop
  | .dead, .dead => True
  | .cells cs _, .cells cs' _ => cs = cs'
  | .map es, .map es' => es = es'
  | _, _ => False

/-- What was there is there, with the same contents. -/
def Ext (σ σ' : St) : Prop := ∀ (id : Nat) (o : AObj), σ[id]? = some o → ∃ o', σ'[id]? = some o' ∧ o'.ver = o.ver ∧ sameOB o.ob o'.ob

theorem sameOB.refl (o : OB) : sameOB o o := by cases o <;> simp [sameOB]
theorem Ext.refl (σ : St) : Ext σ σ := fun id o h => ⟨o, h, rfl, sameOB.refl _⟩
theorem Ext.snoc (σ : St) (x : AObj) : Ext σ (σ ++ [x]) := fun id o h => ⟨o, by rw [List.getElem?_append_left (List.getElem?_eq_some_iff.1 h).1]; exact h, rfl, sameOB.refl _⟩

theorem rd_ext {σ σ' : St} (hx : Ext σ σ') {id ver off cnt : Nat} {cs : List AV} (h : rd σ id ver off cnt = some cs) : rd σ' id ver off cnt = some cs := by
  obtain ⟨o, cs0, b, ho, hver, hob, hle, rfl⟩ := rd_some h
  obtain ⟨o', ho', hv', hs⟩ := hx id o ho
  rw [hob] at hs
  unfold rd
  rw [ho']
  obtain ⟨v', ob'⟩ := o'
  cases ob' <;> simp [sameOB] at hs
  subst hs
  simp only at hv'
  simp [hv', hver, hle]

theorem deref_ext {σ σ' : St} (hx : Ext σ σ') {p : AV} {n : Nat} {cs : List AV} (h : deref σ p n = some cs) : deref σ' p n = some cs := by
  cases p <;> simp only [deref] at h ⊢ <;> first | exact rd_ext hx h | exact h | cases h

theorem mapEs_ext {σ σ' : St} (hx : Ext σ σ') {m : AV} {es : List (AV × AV)} (h : mapEs σ m = some es) : mapEs σ' m = some es := by
  unfold mapEs at h ⊢
  split at h
  · exact h
  · split at h
    · rename_i id v es' ho
      obtain ⟨o', ho', hv', hs⟩ := hx _ _ ho
      obtain ⟨v', ob'⟩ := o'
      cases ob' <;> simp [sameOB] at hs
      subst hs
      rw [ho']; exact h
    · cases h
  · cases h

theorem kind_P {pol : FuncId → Bool} {o : Oper} (hk : (kindOf T.lits pol o.op).isP = true) {fr : Fr} {r : AStep} (h : astep T o fr σ = some r) : ∃ v, r = .val v σ ∧ ∀ σ', astep T o fr σ' = some (.val v σ') := by
  unfold astep at h ⊢
  have hv : ∀ (x : Option AV), val σ x = some r → ∃ v, r = .val v σ ∧ ∀ σ', val σ' x = some (.val v σ') := by
    intro x hx
    obtain ⟨c, rfl, rfl⟩ := val_some hx
    exact ⟨c, rfl, fun σ' => rfl⟩
  cases ho : o.op with
  | move x => rw [ho] at h; simp only [Option.some.injEq] at h ⊢; subst h; exact ⟨_, rfl, fun _ => rfl⟩
  | assign x => rw [ho] at h; simp only [Option.some.injEq] at h ⊢; subst h; exact ⟨_, rfl, fun _ => rfl⟩
  | pick c x y =>
    rw [ho] at h; simp only at h ⊢
    split at h
    · cases h; exact ⟨_, rfl, fun _ => rfl⟩
    · cases h
  | nilCheck x =>
    rw [ho] at h; simp only at h ⊢
    split at h <;> first | (cases h; exact ⟨_, rfl, fun _ => rfl⟩) | cases h
  | binOp op t x y t' => rw [ho] at h; exact hv _ h
  | unOp op t x => rw [ho] at h; exact hv _ h
  | convert s d x =>
    rw [ho] at h hk; simp only [Option.map_eq_some_iff] at h
    obtain ⟨⟨c, σ'⟩, hc, rfl⟩ := h
    have hl : (T.lits s && T.lits d) = true := by
      cases hl : (T.lits s && T.lits d) with
      | true => rfl
      | false => simp [kindOf, hl, K.isP] at hk
    simp only [convertA, Option.bind_eq_some_iff] at hc
    obtain ⟨si, hsi, di, hdi, hc⟩ := hc
    have key : ∀ σ'', σ' = σ ∧ convertA T s d σ'' (ev fr x) = some (c, σ'') := by
      intro σ''
      simp only [convertA, hsi, hdi, Option.bind_some]
      split at hc
      · rename_i h1 h2 h3; cases hc; simp only [h1, h2, h3]; exact ⟨trivial, trivial⟩
      · rename_i h1 h2 h3; cases hc; simp only [h1, h2, h3]; exact ⟨trivial, trivial⟩
      · rw [hl] at hc; simp at hc
      · rw [hl] at hc; simp at hc
      · cases hc
    refine ⟨c, by rw [(key σ).1], fun σ'' => ?_⟩
    simp only [(key σ'').2, Option.map_some]
  | makeInterface t x =>
    rw [ho] at h; simp only [Option.bind_eq_some_iff] at h
    obtain ⟨i, hi, h⟩ := h
    simp only [hi, Option.bind_some]
    unfold mkIf at h ⊢
    split at h
    · cases h
    · rename_i hd
      cases h
      refine ⟨_, rfl, fun σ' => ?_⟩
      cases hdd : i.desc <;> first | rfl | exact absurd hdd (hd _)
  | makeFunc f xs ys =>
    rw [ho] at h
    cases f <;> simp only at h ⊢ <;> first | (simp only [Option.some.injEq] at h; subst h; exact ⟨_, rfl, fun _ => rfl⟩) | cases h
  | extract x i =>
    rw [ho] at h; simp only at h ⊢
    split at h
    · exact hv _ h
    · cases h
  | slice t x lo hi mx => rw [ho] at h; exact hv _ h
  | fieldAddr s x f =>
    rw [ho] at h; simp only [Option.bind_eq_some_iff] at h
    obtain ⟨q, hq, h⟩ := h
    simp only [hq, Option.bind_some]
    split at h
    · cases h
    · rename_i hz
      simp only [if_neg hz]
      split at h <;> first | (cases h; exact ⟨_, rfl, fun _ => rfl⟩) | cases h
  | field s x f =>
    rw [ho] at h; simp only [Option.bind_eq_some_iff] at h
    obtain ⟨q, hq, h⟩ := h
    simp only [hq, Option.bind_some]
    split at h
    · rename_i cs _
      by_cases hc : q.1 + q.2.size ≤ cs.length
      · simp only [hc, if_true] at h ⊢; exact hv _ h
      · simp only [hc, if_false] at h; cases h
    · cases h
  | indexAddr t x ix => rw [ho] at h; exact hv _ h
  | index t x ix => rw [ho] at h; exact hv _ h
  | build t ps =>
    rw [ho] at h; simp only [Option.bind_eq_some_iff] at h
    obtain ⟨i, hi, h⟩ := h
    simp only [hi, Option.bind_some]
    split at h
    · simp only [Option.bind_eq_some_iff, Option.map_eq_some_iff] at h
      obtain ⟨pl, hpl, cs, hcs, rfl⟩ := h
      simp only [hpl, Option.bind_some, hcs, Option.map_some]
      exact ⟨_, rfl, fun _ => rfl⟩
    · simp only [Option.bind_eq_some_iff, Option.map_eq_some_iff] at h
      obtain ⟨pl, hpl, cs, hcs, rfl⟩ := h
      simp only [hpl, Option.bind_some, hcs, Option.map_some]
      exact ⟨_, rfl, fun _ => rfl⟩
    · cases h
  | buildSlice t n ps =>
    rw [ho] at h hk; simp only [Option.bind_eq_some_iff] at h
    obtain ⟨i, hi, h⟩ := h
    simp only [hi, Option.bind_some]
    have hl : T.lits t = true := by
      cases hl : T.lits t with
      | true => rfl
      | false => simp [kindOf, hl, K.isP] at hk
    split at h
    · rename_i hc
      simp only [if_pos hc]
      simp only [Option.bind_eq_some_iff] at h
      obtain ⟨cs, hcs, h⟩ := h
      simp only [hcs, Option.bind_some]
      simp only [litA, hl, if_true] at h ⊢
      split at h
      · rename_i ha; cases h; simp only [ha, if_true]; exact ⟨_, rfl, fun _ => rfl⟩
      · cases h
    · cases h
  | call c =>
    obtain ⟨callee, args, ats⟩ := c
    rw [ho] at h hk
    cases callee with
    | builtin b =>
      cases b <;> simp [kindOf, K.isP] at hk
      all_goals
        simp only at h ⊢
        unfold builtinA at h ⊢
        split at h <;> first | (rename_i h1 _ _; cases h1; done) | (cases h; done) | (cases h; exact ⟨_, rfl, fun _ => rfl⟩) | (rename_i h1 _; cases h1; done) | skip
    | value f =>
      cases f <;> simp [kindOf, K.isP] at hk
      split at hk <;> rename_i he <;> split at he <;> simp at he hk
    | invoke => simp [kindOf, K.isP] at hk
  | _ => rw [ho] at hk; simp [kindOf, K.isP] at hk

end Go.Am

/- Operations that can be taken first: the law, and schedules. -/
set_option linter.unusedVariables false
set_option linter.unusedSimpArgs false
namespace Go.Am
variable {T : Tab} {σ : St}

theorem lookupA_ext {t : TypeId} {m k : AV} {ok : Bool} {σ σ' : St} (hx : Ext σ σ') {v : AV} (h : lookupA T t σ m k ok = some v) : lookupA T t σ' m k ok = some v := by
  unfold lookupA at h ⊢
  simp only [Option.bind_eq_some_iff] at h
  obtain ⟨p, hp, h⟩ := h
  simp only [hp, Option.bind_some]
  split at h
  · rename_i hk
    simp only [Option.bind_eq_some_iff] at h
    obtain ⟨es, hes, h⟩ := h
    rw [if_pos hk, mapEs_ext hx hes]
    simpa [Option.bind_eq_some_iff] using h
  · cases h

theorem lenB_ext {t : TypeId} {x : AV} {r : AStep} (h : lenB T t σ x = some r) : ∃ v, r = .val v σ ∧ ∀ σ', Ext σ σ' → lenB T t σ' x = some (.val v σ') := by
  unfold lenB at h ⊢
  split at h <;> first | (cases h; exact ⟨_, rfl, fun _ _ => rfl⟩) | (cases h; done) | skip
  split at h
  · rename_i id _ ver es ho
    cases h
    refine ⟨_, rfl, fun σ' hx => ?_⟩
    obtain ⟨o', ho', hv', hs⟩ := hx _ _ ho
    obtain ⟨v', ob'⟩ := o'
    cases ob' <;> simp [sameOB] at hs
    subst hs
    simp only [ho']
  · cases h

theorem kind_L {pol : FuncId → Bool} {o : Oper} (hk : (kindOf T.lits pol o.op).isL = true) {fr : Fr} {r : AStep} (h : astep T o fr σ = some r) : ∃ v, r = .val v σ ∧ ∀ σ', Ext σ σ' → astep T o fr σ' = some (.val v σ') := by
  unfold astep at h ⊢
  cases ho : o.op with
  | load t x =>
    rw [ho] at h; simp only [Option.bind_eq_some_iff] at h ⊢
    obtain ⟨i, hi, cs, hcs, h⟩ := h
    obtain ⟨c, hc, rfl⟩ := val_some h
    refine ⟨c, rfl, fun σ' hx => ?_⟩
    exact ⟨i, hi, cs, deref_ext hx hcs, by simp [val, hc]⟩
  | lookup t x ix ok =>
    rw [ho] at h; simp only at h ⊢
    obtain ⟨c, hc, rfl⟩ := val_some h
    refine ⟨c, rfl, fun σ' hx => ?_⟩
    rw [lookupA_ext hx hc]; rfl
  | call c =>
    obtain ⟨callee, args, ats⟩ := c
    rw [ho] at h hk
    cases callee with
    | builtin b =>
      cases b <;> simp [kindOf, K.isL] at hk
      simp only at h ⊢
      unfold builtinA at h ⊢
      split at h <;> (try (rename_i h1 _; cases h1; done)) <;> (try (rename_i h1 _ _; cases h1; done)) <;> (try (cases h; done))
      exact lenB_ext h
    | value f =>
      cases f <;> simp [kindOf, K.isL] at hk
      split at hk <;> rename_i he <;> split at he <;> simp at he hk
    | invoke => simp [kindOf, K.isL] at hk
  | buildSlice t n ps => rw [ho] at hk; simp only [kindOf] at hk; split at hk <;> simp [K.isL] at hk
  | convert s d x => rw [ho] at hk; simp only [kindOf] at hk; split at hk <;> simp [K.isL] at hk
  | _ => rw [ho] at hk; simp [kindOf, K.isL] at hk


theorem Fr.put_comm (fr : Fr) {x y : Option Tmp} (v u : AV) (h : ∀ d, x = some d → y ≠ some d) : (fr.put x v).put y u = (fr.put y u).put x v := by
  cases x with
  | none => rfl
  | some d =>
    cases y with
    | none => rfl
    | some e =>
      have hne : d ≠ e := fun he => h d rfl (he ▸ rfl)
      simp only [Fr.put]
      exact List.set_comm _ _ hne

theorem Fr.getD_put {fr : Fr} {x : Option Tmp} {v : AV} {t : Nat} (h : ∀ d, x = some d → d ≠ t) : (fr.put x v).getD t .undef = fr.getD t .undef := by
  cases x with
  | none => rfl
  | some d => simp [Fr.put, List.getD_eq_getElem?_getD, List.getElem?_set_ne (h d rfl)]

/-- A step looks at its operands and at its guard's. -/
theorem stepV_put {cf : CallF} {ops : Array Oper} {o : Oper} {fr : Fr} {x : Option Tmp} {v : AV} (h : ∀ d, x = some d → d ∉ o.looksAt ops) : stepV T cf ops o (fr.put x v) σ = stepV T cf ops o fr σ := by
  have h1 : wantedA ops o (fr.put x v) = wantedA ops o fr := by
    unfold wantedA
    cases hg : o.guard with
    | none => rfl
    | some q =>
      obtain ⟨j, want⟩ := q
      simp only
      cases hd : (ops[j]?).bind (·.dst) with
      | none => rfl
      | some d =>
        simp only [Option.bind_some]
        rw [Fr.getD_put (fun d' hx he => h d' hx (by subst he; simp [Oper.looksAt, hg, hd]))]
  have h2 : astep T o (fr.put x v) σ = astep T o fr σ := by
    refine astep_congr fun y hy => ?_
    cases y <;> try rfl
    rename_i t
    exact Fr.getD_put (fun d' hx he => h d' hx (by subst he; simp only [Oper.looksAt, List.mem_append, List.mem_filterMap]; exact .inl ⟨.tmp d', by simpa using hy, rfl⟩))
  unfold stepV
  rw [h1, h2]

/-- Calls by policy leave what was there. -/
def PolOK (pol : FuncId → Bool) (cf : CallF) : Prop := ∀ f args σ v σ', pol f = true → cf f args σ = some (v, σ') → Ext σ σ'

theorem kind_ext {pol : FuncId → Bool} {cf : CallF} (hpol : PolOK pol cf) {ops : Array Oper} {o : Oper} (hk : (kindOf T.lits pol o.op).isE = false) {fr : Fr} {v : AV} {σ' : St} (h : stepV T cf ops o fr σ = some (v, σ')) : Ext σ σ' := by
  unfold stepV at h
  simp only [Option.bind_eq_some_iff] at h
  obtain ⟨b, hb, h⟩ := h
  cases b with
  | false => simp only [Bool.false_eq_true, if_false, Option.some.injEq, Prod.mk.injEq] at h; rw [← h.2]; exact Ext.refl _
  | true =>
    simp only [if_true, Option.bind_eq_some_iff] at h
    obtain ⟨r, hr, h⟩ := h
    cases hkind : kindOf T.lits pol o.op with
    | E => rw [hkind] at hk; cases hk
    | P =>
      obtain ⟨c, rfl, _⟩ := kind_P (pol := pol) (by rw [hkind]; rfl) hr
      simp only [Option.some.injEq, Prod.mk.injEq] at h
      rw [← h.2]; exact Ext.refl _
    | L =>
      obtain ⟨c, rfl, _⟩ := kind_L (pol := pol) (by rw [hkind]; rfl) hr
      simp only [Option.some.injEq, Prod.mk.injEq] at h
      rw [← h.2]; exact Ext.refl _
    | A =>
      unfold astep at hr
      cases ho : o.op with
      | alloc t =>
        rw [ho] at hr; simp only [Option.bind_eq_some_iff] at hr
        obtain ⟨i, hi, hr⟩ := hr
        split at hr
        · cases hr; simp only [Option.some.injEq, Prod.mk.injEq] at h; rw [← h.2]; exact Ext.snoc _ _
        · cases hr
      | box t x =>
        rw [ho] at hr; simp only [Option.bind_eq_some_iff] at hr
        obtain ⟨i, hi, cs, hcs, hr⟩ := hr
        split at hr
        · cases hr; simp only [Option.some.injEq, Prod.mk.injEq] at h; rw [← h.2]; exact Ext.snoc _ _
        · cases hr
      | buildSlice t n ps =>
        rw [ho] at hr; simp only [Option.bind_eq_some_iff] at hr
        obtain ⟨i, hi, hr⟩ := hr
        split at hr
        · simp only [Option.bind_eq_some_iff, litA] at hr
          obtain ⟨cs, hcs, hr⟩ := hr
          split at hr
          · split at hr
            · cases hr; simp only [Option.some.injEq, Prod.mk.injEq] at h; rw [← h.2]; exact Ext.refl _
            · cases hr
          · cases hr; simp only [Option.some.injEq, Prod.mk.injEq] at h; rw [← h.2]; exact Ext.snoc _ _
        · cases hr
      | makeSlice t l c =>
        rw [ho] at hr; simp only [Option.bind_eq_some_iff] at hr
        obtain ⟨i, hi, hr⟩ := hr
        split at hr
        · split at hr
          · cases hr; simp only [Option.some.injEq, Prod.mk.injEq] at h; rw [← h.2]; exact Ext.snoc _ _
          · cases hr
        · cases hr
      | makeMap t x =>
        rw [ho] at hr; simp only at hr
        split at hr <;> first | (cases hr; simp only [Option.some.injEq, Prod.mk.injEq] at h; rw [← h.2]; exact Ext.snoc _ _) | cases hr
      | call c =>
        obtain ⟨callee, args, ats⟩ := c
        rw [ho] at hkind
        cases callee with
        | builtin b => cases b <;> simp [kindOf] at hkind
        | value f =>
          cases f <;> simp [kindOf] at hkind
          split at hkind <;> cases hkind
        | invoke => simp [kindOf] at hkind
      | convert s d x => rw [ho] at hkind; simp only [kindOf] at hkind; split at hkind <;> cases hkind
      | _ => rw [ho] at hkind; simp [kindOf] at hkind
    | C =>
      unfold astep at hr
      cases ho : o.op with
      | call c =>
        obtain ⟨callee, args, ats⟩ := c
        rw [ho] at hkind hr
        cases callee with
        | builtin b => cases b <;> simp [kindOf] at hkind
        | value f =>
          cases f with
          | func g =>
            simp only [kindOf] at hkind
            split at hkind
            · rename_i hp
              simp only [ev, callA] at hr
              split at hr
              · cases hr
                exact hpol _ _ _ _ _ hp h
              · simp only [Option.bind_eq_some_iff, Option.map_eq_some_iff] at hr
                obtain ⟨q, hq, c, hc, rfl⟩ := hr
                simp only [Option.some.injEq, Prod.mk.injEq] at h
                rw [← h.2]; exact Ext.refl _
            · cases hkind
          | _ => simp [kindOf] at hkind
        | invoke => simp [kindOf] at hkind
      | buildSlice t n ps => rw [ho] at hkind; simp only [kindOf] at hkind; split at hkind <;> cases hkind
      | convert s d x => rw [ho] at hkind; simp only [kindOf] at hkind; split at hkind <;> cases hkind
      | _ => rw [ho] at hkind; simp [kindOf] at hkind

/-- Light: what it gives does not hang on what is done beside it. -/
theorem kind_light {pol : FuncId → Bool} {cf : CallF} {ops : Array Oper} {o : Oper} {fr : Fr} {v : AV} {σ' : St} (h : stepV T cf ops o fr σ = some (v, σ'))
    (hk : (kindOf T.lits pol o.op).isP = true ∨ (kindOf T.lits pol o.op).isL = true) : σ' = σ ∧ ∀ σ'', ((kindOf T.lits pol o.op).isP = true ∨ Ext σ σ'') → stepV T cf ops o fr σ'' = some (v, σ'') := by
  unfold stepV at h ⊢
  simp only [Option.bind_eq_some_iff] at h
  obtain ⟨b, hb, h⟩ := h
  simp only [hb, Option.bind_some]
  cases b with
  | false =>
    simp only [Bool.false_eq_true, if_false, Option.some.injEq, Prod.mk.injEq] at h ⊢
    exact ⟨h.2.symm, fun σ'' _ => ⟨h.1, trivial⟩⟩
  | true =>
    simp only [if_true, Option.bind_eq_some_iff] at h ⊢
    obtain ⟨r, hr, h⟩ := h
    rcases hk with hk | hk
    · obtain ⟨c, rfl, hc⟩ := kind_P hk hr
      simp only [Option.some.injEq, Prod.mk.injEq] at h
      obtain ⟨rfl, rfl⟩ := h
      exact ⟨rfl, fun σ'' _ => ⟨_, hc σ'', rfl⟩⟩
    · obtain ⟨c, rfl, hc⟩ := kind_L hk hr
      simp only [Option.some.injEq, Prod.mk.injEq] at h
      obtain ⟨rfl, rfl⟩ := h
      refine ⟨rfl, fun σ'' hx => ?_⟩
      rcases hx with hx | hx
      · obtain ⟨c', hc', hh⟩ := kind_P hx hr
        cases hc'
        exact ⟨_, hh σ'', rfl⟩
      · exact ⟨_, hc σ'' hx, rfl⟩

def LightBy (lits : TypeId → Bool) (pol : FuncId → Bool) (oi oj : Oper) : Prop := (kindOf lits pol oi.op).isP = true ∨ ((kindOf lits pol oi.op).isL = true ∧ (kindOf lits pol oj.op).isE = false)

theorem step_swap {pol : FuncId → Bool} {cf : CallF} (hpol : PolOK pol cf) {ops : Array Oper} {oi oj : Oper} (hap : oi.apart ops oj = true) (hl : LightBy T.lits pol oi oj) {s s1 s2 : Fr × St}
    (h1 : stepO T cf ops oi s = some s1) (h2 : stepO T cf ops oj s1 = some s2) : ∃ sj, stepO T cf ops oj s = some sj ∧ stepO T cf ops oi sj = some s2 := by
  obtain ⟨ha, hb, hc⟩ := Oper.apart_spec hap
  obtain ⟨fr, σ⟩ := s
  unfold stepO at h1 h2 ⊢
  simp only [Option.map_eq_some_iff] at h1 h2 ⊢
  obtain ⟨⟨v, σ1⟩, h1, rfl⟩ := h1
  obtain ⟨⟨u, σ2⟩, h2, rfl⟩ := h2
  simp only at h1 h2 ⊢
  obtain ⟨rfl, hlight⟩ := kind_light (pol := pol) h1 (by rcases hl with h | h; exact .inl h; exact .inr h.1)
  rw [stepV_put ha] at h2
  refine ⟨_, ⟨_, h2, rfl⟩, ⟨(v, σ2), ?_, ?_⟩⟩
  · rw [stepV_put hc]
    refine hlight σ2 ?_
    rcases hl with h | ⟨_, h⟩
    · exact .inl h
    · exact .inr (kind_ext hpol h h2)
  · simp only [Prod.mk.injEq, and_true]
    exact (Fr.put_comm fr v u hb).symm

/-- An operation that is light and ready can be taken first. ('S': what waits for it.) -/
theorem AAny_first {pol : FuncId → Bool} {cf : CallF} (hpol : PolOK pol cf) {ops : Array Oper} {i : Nat} {oi : Oper} (hi : ops[i]? = some oi) (S : Nat → Bool) (hS : S i = true)
    (hdep : ∀ j oj, ops[j]? = some oj → S j = true → j ≠ i → ∃ e ∈ oj.after, Region.binds .any e = true ∧ S e.on = true ∧ e.on < ops.size) {e : Fr × St} :
    ∀ (n : Nat) (listed : Array Bool) (s s1 : Fr × St), (∀ j oj, ops[j]? = some oj → S j = true → j ≠ i → listed.getD j true = false) →
      (∀ j oj, ops[j]? = some oj → S j = false → listed.getD j true = false → oi.apart ops oj = true ∧ LightBy T.lits pol oi oj) →
      i ∈ Region.ready .any ops listed → stepI T cf ops i s = some s1 → AAny (stepI T cf ops) ops n (listed.setIfInBounds i true) s1 e → AAny (stepI T cf ops) ops (n + 1) listed s e := by
  intro n
  induction n with
  | zero =>
    intro listed s s1 hun0 hfree hr h1 H
    refine ⟨fun h => (by rw [h] at hr; cases hr), fun j hj => ?_⟩
    by_cases hji : j = i
    · subst hji; exact ⟨s1, h1, H⟩
    · have := ready_mono hj hji
      rw [H.1] at this
      cases this
  | succ n ih =>
    intro listed s s1 hun0 hfree hr h1 H
    refine ⟨fun h => (by rw [h] at hr; cases hr), fun j hj => ?_⟩
    by_cases hji : j = i
    · subst hji; exact ⟨s1, h1, H⟩
    · obtain ⟨s2, h2, H2⟩ := H.2 j (ready_mono hj hji)
      obtain ⟨hjun, oj, hoj, hall⟩ := mem_ready.1 hj
      have hSj : S j = false := by
        cases hc : S j with
        | false => rfl
        | true =>
          obtain ⟨e', he', hb, hSe, hlt⟩ := hdep j oj hoj hc hji
          have h1 := hall e' he' hb
          exfalso
          by_cases hei : e'.on = i
          · have h0 := (mem_ready.1 hr).1
            rw [hei] at h1
            rcases Nat.lt_or_ge i listed.size with h' | h'
            · simp [h'] at h0 h1; rw [h0] at h1; cases h1
            · simp [Array.getElem?_eq_none h'] at h1
          · cases hoe : ops[e'.on]? with
            | none =>
              rw [Array.getElem?_eq_getElem hlt] at hoe; cases hoe
            | some oe =>
              have h2 := hun0 e'.on oe hoe hSe hei
              rcases Nat.lt_or_ge e'.on listed.size with h' | h'
              · simp [h'] at h2 h1; rw [h2] at h1; cases h1
              · simp [Array.getElem?_eq_none h'] at h1
      obtain ⟨hap, hl⟩ := hfree j oj hoj hSj hjun
      have h1' := h1
      unfold stepI at h1' h2
      rw [hi] at h1'; rw [hoj] at h2
      simp only at h1' h2
      obtain ⟨sj, h3, h4⟩ := step_swap hpol hap hl h1' h2
      refine ⟨sj, by unfold stepI; rw [hoj]; exact h3, ?_⟩
      refine ih (listed.setIfInBounds j true) sj s2 (fun k ok hk hSk hki => ?_) (fun k ok hk hSk hun => ?_) (ready_mono hr (Ne.symm hji)) (by unfold stepI; rw [hi]; exact h4) ?_
      · have hjk : j ≠ k := fun e => by subst e; rw [hSj] at hSk; cases hSk
        rw [getD_set_ne true hjk]
        exact hun0 k ok hk hSk hki
      · refine hfree k ok hk hSk ?_
        by_cases hjk : j = k
        · subst hjk; exact hjun
        · rw [getD_set_ne true hjk] at hun; exact hun
      · rw [Array.setIfInBounds_comm _ _ hji]
        exact H2

end Go.Am

/- Schedules of regions whose operations have no fixed order. -/
set_option linter.unusedVariables false
set_option linter.unusedSimpArgs false
namespace Go.Am
variable {P : Program} {T : Tab}

/-- Operations that wait for 'i', straight or through others. -/
def depSet (ops : Array Oper) (i : Nat) : List Nat :=
  (List.range ops.size).foldl (fun S j => match ops[j]? with
    | some oj => if oj.after.any (fun e => Region.binds .any e && S.contains e.on) then j :: S else S
    | none => S) [i]

/-- Every operation that is not yet listed and does not wait for 'i' leaves i's value alone. -/
def lightAt (lits : TypeId → Bool) (pol : FuncId → Bool) (ops : Array Oper) (listed : Array Bool) (i : Nat) : Bool :=
  match ops[i]? with
  | none => false
  | some oi => ((kindOf lits pol oi.op).isP || (kindOf lits pol oi.op).isL) && (depSet ops i).contains i && (List.range ops.size).all fun j => match ops[j]? with
    | some oj => j == i || if (depSet ops i).contains j then oj.after.any (fun e => Region.binds .any e && (depSet ops i).contains e.on && Nat.blt e.on ops.size) && !listed.getD j true
        else listed.getD j true || (oi.apart ops oj && ((kindOf lits pol oi.op).isP || !(kindOf lits pol oj.op).isE))
    | none => true

theorem lightAt_spec {pol : FuncId → Bool} {ops : Array Oper} {listed : Array Bool} {i : Nat} (h : lightAt T.lits pol ops listed i = true) : ∃ oi, ops[i]? = some oi ∧ ∃ S : Nat → Bool, S i = true ∧
    (∀ j oj, ops[j]? = some oj → S j = true → j ≠ i → ∃ e ∈ oj.after, Region.binds .any e = true ∧ S e.on = true ∧ e.on < ops.size) ∧ (∀ j oj, ops[j]? = some oj → S j = true → j ≠ i → listed.getD j true = false) ∧
    ∀ j oj, ops[j]? = some oj → S j = false → listed.getD j true = false → oi.apart ops oj = true ∧ LightBy T.lits pol oi oj := by
  unfold lightAt at h
  split at h
  · cases h
  · rename_i oi hi
    simp only [Bool.and_eq_true, Bool.or_eq_true, List.all_eq_true, List.mem_range] at h
    obtain ⟨⟨hk, hS⟩, hall⟩ := h
    have get : ∀ j oj, ops[j]? = some oj → j ≠ i → (if (depSet ops i).contains j then oj.after.any (fun e => Region.binds .any e && (depSet ops i).contains e.on && Nat.blt e.on ops.size) && !listed.getD j true
        else listed.getD j true || (oi.apart ops oj && ((kindOf T.lits pol oi.op).isP || !(kindOf T.lits pol oj.op).isE))) = true := by
      intro j oj hoj hne
      have h1 := hall j (Array.getElem?_eq_some_iff.1 hoj).1
      simp only [hoj, Bool.or_eq_true, beq_iff_eq, hne, false_or] at h1
      exact h1
    refine ⟨oi, hi, fun j => (depSet ops i).contains j, hS, fun j oj hoj hj hne => ?_, fun j oj hoj hj hne => ?_, fun j oj hoj hj hun => ?_⟩
    · have := get j oj hoj hne
      simp only at hj
      rw [if_pos hj, Bool.and_eq_true] at this
      obtain ⟨e, he, hb⟩ := Array.any_eq_true'.1 this.1
      simp only [Bool.and_eq_true] at hb
      exact ⟨e, he, hb.1.1, hb.1.2, Nat.le_of_ble_eq_true hb.2⟩
    · have := get j oj hoj hne
      simp only at hj
      rw [if_pos hj, Bool.and_eq_true] at this
      simpa using this.2
    · have hne : j ≠ i := fun e => by subst e; simp only at hj; rw [hj] at hS; cases hS
      have := get j oj hoj hne
      simp only at hj
      rw [if_neg (by rw [hj]; simp)] at this
      rw [hun] at this
      simp only [Bool.false_or, Bool.and_eq_true, Bool.or_eq_true, Bool.not_eq_true'] at this
      refine ⟨this.1, ?_⟩
      rcases this.2 with h1 | h1
      · exact .inl h1
      · rcases hk with hk | hk
        · exact .inl hk
        · exact .inr ⟨hk, h1⟩

/-- Is the list an order that stands for all orders? -/
def schOK (lits : TypeId → Bool) (pol : FuncId → Bool) (ops : Array Oper) : Nat → Array Bool → List Nat → Bool
  | _, listed, [] => (Region.ready .any ops listed).isEmpty
  | 0, _, _ :: _ => false
  | n + 1, listed, i :: l => (Region.ready .any ops listed == [i] || (lightAt lits pol ops listed i && (Region.ready .any ops listed).contains i)) && schOK lits pol ops n (listed.setIfInBounds i true) l

/-- The operations of a list, one after the other. -/
def evList (step : Nat → Fr × St → Option (Fr × St)) : List Nat → Fr × St → Option (Fr × St)
  | [], s => some s
  | i :: l, s => (step i s).bind (evList step l)

theorem AAny_done {step : Nat → Fr × St → Option (Fr × St)} {ops : Array Oper} {listed : Array Bool} (h : Region.ready .any ops listed = []) (s : Fr × St) : ∀ n, AAny step ops n listed s s
  | 0 => ⟨h, rfl⟩
  | n + 1 => ⟨fun _ => rfl, by rw [h]; simp⟩

theorem AAny_one {step : Nat → Fr × St → Option (Fr × St)} {ops : Array Oper} {listed : Array Bool} {i : Nat} (h : Region.ready .any ops listed = [i]) {s s' e : Fr × St} {n : Nat} (hs : step i s = some s')
    (hA : AAny step ops n (listed.setIfInBounds i true) s' e) : AAny step ops (n + 1) listed s e := by
  refine ⟨fun h0 => (by rw [h] at h0; cases h0), fun j hj => ?_⟩
  rw [h] at hj
  simp only [List.mem_singleton] at hj
  subst hj
  exact ⟨s', hs, hA⟩

theorem schOK_sound {pol : FuncId → Bool} {cf : CallF} (hpol : PolOK pol cf) {ops : Array Oper} : ∀ (l : List Nat) (n : Nat) (listed : Array Bool) (s e : Fr × St), schOK T.lits pol ops n listed l = true → evList (stepI T cf ops) l s = some e →
    AAny (stepI T cf ops) ops n listed s e
  | [], n, listed, s, e, h, he => by
    simp only [evList, Option.some.injEq] at he
    subst he
    cases n <;> exact AAny_done (by simpa [schOK] using h) s _
  | i :: l, 0, listed, s, e, h, he => by simp [schOK] at h
  | i :: l, n + 1, listed, s, e, h, he => by
    simp only [schOK, Bool.and_eq_true, Bool.or_eq_true] at h
    simp only [evList, Option.bind_eq_some_iff] at he
    obtain ⟨s1, h1, he⟩ := he
    have hA := schOK_sound hpol l n _ s1 e h.2 he
    rcases h.1 with h' | ⟨h', hr⟩
    · exact AAny_one (by simpa using h') h1 hA
    · obtain ⟨oi, hi, S, hS, k1, k2, k3⟩ := lightAt_spec h'
      exact AAny_first hpol hi S hS k1 n listed s s1 k2 k3 (by simpa using hr) h1 hA

/-! Where no order stands for all: all are tried. -/
mutual
def AV.same : AV → AV → Bool
  | .undef, .undef | .nil0, .nil0 | .nilptr, .nilptr | .nilmap, .nilmap | .nilfn, .nilfn | .nilif, .nilif => true
  | .bool a, .bool b => a == b
  | .int k n, .int l m => k == l && n == m
  | .str a, .str b => a == b
  | .agg a, .agg b => AV.sames a b
  | .tup a, .tup b => AV.sames a b
  | .snap n a, .snap m b => n == m && AV.sames a b
  | .fptr a, .fptr b => AV.sames a b
  | .ref a b c d e, .ref a' b' c' d' e' => a == a' && b == b' && c == c' && d == d' && e == e'
  | .ptr a b c, .ptr a' b' c' => a == a' && b == b' && c == c'
  | .mref a, .mref b => a == b
  | .clo f a b, .clo g a' b' => f == g && AV.sames a a' && AV.sames b b'
  | .iface t v, .iface t' v' => t == t' && AV.same v v'
  | _, _ => false
def AV.sames : List AV → List AV → Bool
  | [], [] => true
  | a :: l, b :: m => AV.same a b && AV.sames l m
  | _, _ => false
end

mutual
theorem AV.same_eq : ∀ {a b : AV}, AV.same a b = true → a = b
  | .undef, b, h => by cases b <;> simp_all [AV.same]
  | .nil0, b, h => by cases b <;> simp_all [AV.same]
  | .nilptr, b, h => by cases b <;> simp_all [AV.same]
  | .nilmap, b, h => by cases b <;> simp_all [AV.same]
  | .nilfn, b, h => by cases b <;> simp_all [AV.same]
  | .nilif, b, h => by cases b <;> simp_all [AV.same]
  | .lit v, b, h => by cases b <;> simp_all [AV.same]
  | .bool a, b, h => by cases b <;> simp_all [AV.same]
  | .int k n, b, h => by cases b <;> simp_all [AV.same]
  | .str a, b, h => by cases b <;> simp_all [AV.same]
  | .agg a, b, h => by cases b <;> simp only [AV.same, Bool.false_eq_true] at h; rw [AV.sames_eq h]
  | .tup a, b, h => by cases b <;> simp only [AV.same, Bool.false_eq_true] at h; rw [AV.sames_eq h]
  | .snap n a, b, h => by
    cases b <;> simp only [AV.same, Bool.false_eq_true, Bool.and_eq_true, beq_iff_eq] at h
    rw [AV.sames_eq h.2, h.1]
  | .fptr a, b, h => by cases b <;> simp only [AV.same, Bool.false_eq_true] at h; rw [AV.sames_eq h]
  | .ref a b c d e, x, h => by cases x <;> simp_all [AV.same]
  | .ptr a b c, x, h => by cases x <;> simp_all [AV.same]
  | .mref a, x, h => by cases x <;> simp_all [AV.same]
  | .clo f a b, x, h => by
    cases x <;> simp only [AV.same, Bool.false_eq_true, Bool.and_eq_true, beq_iff_eq] at h
    rw [AV.sames_eq h.1.2, AV.sames_eq h.2, h.1.1]
  | .iface t v, x, h => by
    cases x <;> simp only [AV.same, Bool.false_eq_true, Bool.and_eq_true, beq_iff_eq] at h
    rw [AV.same_eq h.2, h.1]
theorem AV.sames_eq : ∀ {a b : List AV}, AV.sames a b = true → a = b
  | [], b, h => by cases b <;> simp_all [AV.sames]
  | a :: l, b, h => by
    cases b <;> simp only [AV.sames, Bool.false_eq_true, Bool.and_eq_true] at h
    rw [AV.same_eq h.1, AV.sames_eq h.2]
end

def pairsSame : List (AV × AV) → List (AV × AV) → Bool
  | [], [] => true
  | a :: l, b :: m => AV.same a.1 b.1 && AV.same a.2 b.2 && pairsSame l m
  | _, _ => false

theorem pairsSame_eq : ∀ {a b : List (AV × AV)}, pairsSame a b = true → a = b
  | [], b, h => by cases b <;> simp_all [pairsSame]
  | (a1, a2) :: l, b, h => by
    cases b with
    | nil => simp [pairsSame] at h
    | cons y m =>
      simp only [pairsSame, Bool.and_eq_true] at h
      obtain ⟨b1, b2⟩ := y
      have h1 := AV.same_eq h.1.1
      have h2 := AV.same_eq h.1.2
      simp only at h1 h2
      rw [h1, h2, pairsSame_eq h.2]

def OB.same : OB → OB → Bool
  | .dead, .dead => true
  | .cells a w, .cells b w' => AV.sames a b && w == w'
  | .map a, .map b => pairsSame a b
  | _, _ => false

theorem OB.same_eq {a b : OB} (h : OB.same a b = true) : a = b := by
  cases a <;> cases b <;> simp only [OB.same, Bool.false_eq_true, Bool.and_eq_true, beq_iff_eq] at h
  · rfl
  · rw [AV.sames_eq h.1, h.2]
  · rw [pairsSame_eq h]

def stSame : St → St → Bool
  | [], [] => true
  | a :: l, b :: m => a.ver == b.ver && OB.same a.ob b.ob && stSame l m
  | _, _ => false

theorem stSame_eq : ∀ {a b : St}, stSame a b = true → a = b
  | [], b, h => by cases b <;> simp_all [stSame]
  | ⟨v, o⟩ :: l, b, h => by
    cases b with
    | nil => simp [stSame] at h
    | cons y m =>
      simp only [stSame, Bool.and_eq_true, beq_iff_eq] at h
      obtain ⟨v', o'⟩ := y
      have h1 := h.1.1
      have h2 := OB.same_eq h.1.2
      simp only at h1 h2
      rw [h1, h2, stSame_eq h.2]

def frstSame (a b : Fr × St) : Bool := AV.sames a.1 b.1 && stSame a.2 b.2

theorem frstSame_eq {a b : Fr × St} (h : frstSame a b = true) : a = b := by
  simp only [frstSame, Bool.and_eq_true] at h
  obtain ⟨a1, a2⟩ := a
  obtain ⟨b1, b2⟩ := b
  have h1 := AV.sames_eq h.1
  have h2 := stSame_eq h.2
  simp only at h1 h2
  rw [h1, h2]

/-- All orders, light operations first. -/
def evAny (lits : TypeId → Bool) (pol : FuncId → Bool) (step : Nat → Fr × St → Option (Fr × St)) (ops : Array Oper) : Nat → Array Bool → Fr × St → Option (Fr × St)
  | 0, listed, s => if (Region.ready .any ops listed).isEmpty then some s else none
  | n + 1, listed, s =>
    match (Region.ready .any ops listed).find? (lightAt lits pol ops listed) with
    | some i => (step i s).bind (evAny lits pol step ops n (listed.setIfInBounds i true))
    | none => match Region.ready .any ops listed with
      | [] => some s
      | i :: rest => (step i s).bind fun s' => (evAny lits pol step ops n (listed.setIfInBounds i true) s').bind fun e =>
        if rest.all fun j => match step j s with
          | some s'' => (match evAny lits pol step ops n (listed.setIfInBounds j true) s'' with | some e' => frstSame e' e | none => false)
          | none => false
        then some e else none

theorem evAny_sound {pol : FuncId → Bool} {cf : CallF} (hpol : PolOK pol cf) {ops : Array Oper} : ∀ (n : Nat) (listed : Array Bool) (s e : Fr × St), evAny T.lits pol (stepI T cf ops) ops n listed s = some e → AAny (stepI T cf ops) ops n listed s e
  | 0, listed, s, e, h => by
    simp only [evAny] at h
    split at h
    · rename_i hr
      cases h
      exact ⟨by simpa using hr, rfl⟩
    · cases h
  | n + 1, listed, s, e, h => by
    simp only [evAny] at h
    split at h
    · rename_i i hi
      simp only [Option.bind_eq_some_iff] at h
      obtain ⟨s1, h1, h⟩ := h
      have hA := evAny_sound hpol n _ s1 e h
      obtain ⟨oi, hoi, S, hS, k1, k2, k3⟩ := lightAt_spec (List.find?_some hi)
      exact AAny_first hpol hoi S hS k1 n listed s s1 k2 k3 (List.mem_of_find?_eq_some hi) h1 hA
    · split at h
      · rename_i hr
        cases h
        exact AAny_done hr s _
      · rename_i i rest hr
        simp only [Option.bind_eq_some_iff] at h
        obtain ⟨s1, h1, e1, he1, h⟩ := h
        split at h
        · rename_i hall
          cases h
          refine ⟨fun h0 => (by rw [hr] at h0; cases h0), fun j hj => ?_⟩
          rw [hr] at hj
          rcases List.mem_cons.1 hj with rfl | hj
          · exact ⟨s1, h1, evAny_sound hpol n _ _ _ he1⟩
          · have := List.all_eq_true.1 hall j hj
            split at this
            · rename_i s2 h2
              split at this
              · rename_i e2 he2
                have := frstSame_eq this
                subst this
                exact ⟨s2, h2, evAny_sound hpol n _ _ _ he2⟩
              · cases this
            · cases this
        · cases h

end Go.Am

/- Code: what it comes to, as a judgement, and its rules. -/
set_option linter.unusedVariables false
set_option linter.unusedSimpArgs false
namespace Go.Am
variable {P : Program} {T : Tab}

inductive AX where
  | norm
  | exit (id : Nat)
  | ret

def AX.ex : AX → Exit
  | .norm => .normal
  | .exit id => .exit id
  | .ret => .ret

abbrev Post := AX → Fr × St → Prop

def Outs (X : Nat → Prop) (ρ : Rho) (σ : St) (w : World) (Q : Post) (e : Exit) (a' : Act) (w' : World) : Prop :=
  ∃ x s' ρ', e = AX.ex x ∧ Q x s' ∧ Rel X ρ' s'.2 w' ∧ FR X ρ' s'.2 w' s'.1 a' ∧ Tr ρ σ w ρ' s'.2 w'

/-- From this frame and these objects the code comes to an end that satisfies Q. -/
def JC (P : Program) (c : Code) (s : Fr × St) (Q : Post) : Prop :=
  ∀ (X : Nat → Prop) (ρ : Rho) (w : World) (a : Act), Rel X ρ s.2 w → FR X ρ s.2 w s.1 a → c.wp P (Outs X ρ s.2 w Q) a w

/-- The same of operations that are listed. -/
def JO (P : Program) (ops : Array Oper) (l : List Nat) (s : Fr × St) (Q : Fr × St → Prop) : Prop :=
  ∀ (X : Nat → Prop) (ρ : Rho) (w : World) (a : Act), Rel X ρ s.2 w → FR X ρ s.2 w s.1 a → ∀ (E : Exit → Act → World → Prop),
    (∀ s' ρ' w' a', Q s' → Rel X ρ' s'.2 w' → FR X ρ' s'.2 w' s'.1 a' → Tr ρ s.2 w ρ' s'.2 w' → E .normal a' w') → wpOps P ops E l a w

theorem Outs.mono {X : Nat → Prop} {ρ : Rho} {σ : St} {w : World} {Q Q' : Post} (h : ∀ x s, Q x s → Q' x s) {e : Exit} {a' : Act} {w' : World} (ho : Outs X ρ σ w Q e a' w') : Outs X ρ σ w Q' e a' w' := by
  obtain ⟨x, s', ρ', h1, h2, h3⟩ := ho
  exact ⟨x, s', ρ', h1, h _ _ h2, h3⟩

theorem Outs.after {X : Nat → Prop} {ρ ρ1 : Rho} {σ σ1 : St} {w w1 : World} (t : Tr ρ σ w ρ1 σ1 w1) {Q : Post} {e : Exit} {a' : Act} {w' : World} (ho : Outs X ρ1 σ1 w1 Q e a' w') : Outs X ρ σ w Q e a' w' := by
  obtain ⟨x, s', ρ', h1, h2, h3, h4, h5⟩ := ho
  exact ⟨x, s', ρ', h1, h2, h3, h4, t.trans h5⟩

theorem JC.mono {c : Code} {s : Fr × St} {Q Q' : Post} (h : JC P c s Q) (hq : ∀ x s, Q x s → Q' x s) : JC P c s Q' :=
  fun X ρ w a hR hF => wp_mono (h X ρ w a hR hF) fun _ _ _ ho => ho.mono hq

theorem JC.skip {s : Fr × St} {Q : Post} (h : Q .norm s) : JC P .skip s Q := fun X ρ w a hR hF => wp_skip ⟨.norm, s, ρ, rfl, h, hR, hF, Tr.refl ..⟩
theorem JC.label {l : Nat} {s : Fr × St} {Q : Post} (h : Q .norm s) : JC P (.label l) s Q := fun X ρ w a hR hF => wp_label ⟨.norm, s, ρ, rfl, h, hR, hF, Tr.refl ..⟩
theorem JC.exit {id : Nat} {s : Fr × St} {Q : Post} (h : Q (.exit id) s) : JC P (.exit id) s Q := fun X ρ w a hR hF => wp_exit ⟨.exit id, s, ρ, rfl, h, hR, hF, Tr.refl ..⟩
theorem JC.ret {s : Fr × St} {Q : Post} (h : Q .ret s) : JC P .ret s Q := fun X ρ w a hR hF => wp_ret ⟨.ret, s, ρ, rfl, h, hR, hF, Tr.refl ..⟩

/-- What comes after. -/
def Post.then (K : Fr × St → Prop) (Q : Post) : Post
  | .norm, s => K s
  | x, s => Q x s

theorem JC.seq {x y : Code} {s : Fr × St} {Q : Post} (h : JC P x s (Post.then (fun s' => JC P y s' Q) Q)) : JC P (.seq x y) s Q := by
  intro X ρ w a hR hF
  refine wp_seq (wp_mono (h X ρ w a hR hF) ?_)
  rintro e a' w' ⟨x, s', ρ', rfl, h2, h3, h4, h5⟩
  cases x with
  | norm => exact wp_mono (h2 X ρ' w' a' h3 h4) fun _ _ _ ho => ho.after h5
  | exit id => exact ⟨.exit id, s', ρ', rfl, h2, h3, h4, h5⟩
  | ret => exact ⟨.ret, s', ρ', rfl, h2, h3, h4, h5⟩

theorem JC.cond {c : Operand} {x y : Code} {s : Fr × St} {Q : Post} {t : Bool} (hc : ev s.1 c = .bool t) (h : JC P (if t then x else y) s Q) : JC P (.cond c x y) s Q := by
  intro X ρ w a hR hF
  have := hF.ev c
  rw [hc] at this
  exact wp_cond this.bool_inv (h X ρ w a hR hF)

/-- The end of a block. -/
def Post.block (id : Nat) (Q : Post) : Post
  | .exit id', s => if id' = id then Q .norm s else Q (.exit id') s
  | x, s => Q x s

theorem JC.block {id : Nat} {c : Code} {s : Fr × St} {Q : Post} (h : JC P c s (Post.block id Q)) : JC P (.block id c) s Q := by
  intro X ρ w a hR hF
  refine wp_block (wp_mono (h X ρ w a hR hF) ?_)
  rintro e a' w' ⟨x, s', ρ', rfl, h2, h3, h4, h5⟩
  cases x with
  | norm => exact ⟨.norm, s', ρ', rfl, h2, h3, h4, h5⟩
  | exit id' =>
    simp only [Post.block] at h2
    simp only [Exit.inBlock, AX.ex]
    split
    · rename_i he; rw [if_pos he] at h2; exact ⟨.norm, s', ρ', rfl, h2, h3, h4, h5⟩
    · rename_i he; rw [if_neg he] at h2; exact ⟨.exit id', s', ρ', rfl, h2, h3, h4, h5⟩
  | ret => exact ⟨.ret, s', ρ', rfl, h2, h3, h4, h5⟩

theorem JC.scope {c : Code} {s : Fr × St} {Q : Post} (h : JC P c s Q) : JC P (.scope c) s Q := by
  intro X ρ w a hR hF
  refine wp_scope_straight (wp_mono (h X ρ w a hR hF) ?_)
  rintro e a' w' ⟨x, s', ρ', rfl, h2, h3, h4, h5⟩
  cases x <;> exact ⟨_, s', ρ', rfl, h2, h3, h4, h5⟩

/-- A loop, by rounds. -/
theorem JC.loop {c : Code} {Q : Post} (I : Fr × St → Prop) (μ : Fr × St → Nat) (hI : ∀ s, I s → JC P c s (Post.then (fun s' => I s' ∧ μ s' < μ s) Q)) {s : Fr × St} (h : I s) : JC P (.loop c) s Q := by
  intro X ρ0 w0 a0 hR0 hF0
  have key : ∀ n (s1 : Fr × St) (ρ : Rho) (w : World) (a : Act), I s1 → μ s1 < n → Rel X ρ s1.2 w → FR X ρ s1.2 w s1.1 a → Tr ρ0 s.2 w0 ρ s1.2 w → Code.rounds P c (Outs X ρ0 s.2 w0 Q) n a w := by
    intro n
    induction n with
    | zero => intro s1 ρ w a _ h; omega
    | succ n ih =>
      intro s1 ρ w a hi hn hR hF t
      rw [rounds_succ]
      refine wp_mono (hI s1 hi X ρ w a hR hF) ?_
      rintro e a' w' ⟨x, s', ρ', rfl, h2, h3, h4, h5⟩
      cases x with
      | norm => exact ih s' ρ' w' a' h2.1 (by have := h2.2; omega) h3 h4 (t.trans h5)
      | exit id => exact ⟨.exit id, s', ρ', rfl, h2, h3, h4, t.trans h5⟩
      | ret => exact ⟨.ret, s', ρ', rfl, h2, h3, h4, t.trans h5⟩
  exact wp_loop_rounds (μ s + 1) (key _ s ρ0 w0 a0 h (Nat.lt_succ_self _) hR0 hF0 (Tr.refl ..))

theorem JO.nil {ops : Array Oper} {s : Fr × St} {Q : Fr × St → Prop} (h : Q s) : JO P ops [] s Q := fun X ρ w a hR hF E hE => hE s ρ w a h hR hF (Tr.refl ..)

def CfOK (P : Program) (cf : CallF) : Prop := ∀ f args σ v σ', cf f args σ = some (v, σ') → CallsA P f args σ v σ'

theorem JO.step {cf : CallF} (hT : TabOK P T) (hcf : CfOK P cf) {ops : Array Oper} {i : Nat} {l : List Nat} {s s1 : Fr × St} {Q : Fr × St → Prop} (h1 : stepI T cf ops i s = some s1) (h : JO P ops l s1 Q) : JO P ops (i :: l) s Q := by
  intro X ρ w a hR hF E hE
  unfold stepI at h1
  split at h1
  · rename_i o ho
    simp only [wpOps, ho]
    exact stepO_sound (Q := E) hT hcf hR hF h1 (fun a' w' ρ' hR' hF' t => h X ρ' w' a' hR' hF' E (fun s' ρ'' w'' a'' hq hR'' hF'' t' => hE s' ρ'' w'' a'' hq hR'' hF'' (t.trans t')))
  · cases h1

theorem JO.mono {ops : Array Oper} {l : List Nat} {s : Fr × St} {Q Q' : Fr × St → Prop} (h : JO P ops l s Q) (hq : ∀ s, Q s → Q' s) : JO P ops l s Q' :=
  fun X ρ w a hR hF E hE => h X ρ w a hR hF E (fun s' ρ' w' a' hQ => hE s' ρ' w' a' (hq _ hQ))

theorem JO.list {cf : CallF} (hT : TabOK P T) (hcf : CfOK P cf) {ops : Array Oper} : ∀ (l : List Nat) {s s1 : Fr × St} {Q : Fr × St → Prop}, evList (stepI T cf ops) l s = some s1 → Q s1 → JO P ops l s Q
  | [], s, s1, Q, h1, h => by simp only [evList, Option.some.injEq] at h1; subst h1; exact JO.nil h
  | i :: l, s, s1, Q, h1, h => by
    simp only [evList, Option.bind_eq_some_iff] at h1
    obtain ⟨s2, h2, h1⟩ := h1
    exact JO.step hT hcf h2 (JO.list hT hcf l h1 h)

theorem JC.region {id : Nat} {ops : Array Oper} {s : Fr × St} {Q : Post} (h : JO P ops (List.range ops.size) s (Q .norm)) : JC P (.region id ops false) s Q :=
  fun X ρ w a hR hF => wp_region (h X ρ w a hR hF _ fun s' ρ' w' a' hq hR' hF' t => ⟨.norm, s', ρ', rfl, hq, hR', hF', t⟩)

theorem Tr.drawn (ρ : Rho) (σ : St) (w : World) (n : Nat) (hn : w.drawn ≤ n) : Tr ρ σ w ρ σ { w with drawn := n } :=
  ⟨rfl, rfl, ⟨rfl, hn⟩, Nat.le_refl _, fun _ _ _ => rfl, fun _ _ h => h, fun id o h => ⟨o, h, Nat.le_refl _, fun _ h => ⟨h, rfl⟩, fun h => ⟨h, rfl⟩⟩⟩

theorem Rel.drawn {X : Nat → Prop} {ρ : Rho} {σ : St} {w : World} (h : Rel X ρ σ w) (n : Nat) (hn : w.drawn ≤ n) : Rel X ρ σ { w with drawn := n } :=
  ⟨fun id o ho => OR.tr (Tr.drawn ρ σ w n hn) rfl (h.obj id o ho), h.inj, h.amb, h.lt⟩

theorem JC.draw {cf : CallF} (hT : TabOK P T) (hcf : CfOK P cf) (hm : P.follows .mixedOrders = true) {id : Nat} {ops : Array Oper} {s e : Fr × St} {Q : Post} (h : AAny (stepI T cf ops) ops ops.size (Array.replicate ops.size false) s e)
    (hq : Q .norm e) : JC P (.region id ops true) s Q := by
  intro X ρ w a hR hF
  refine wp_region_any hm ?_
  exact AAny_sound (X := X) hT hcf _ _ s e ρ _ a h (hR.drawn _ (Nat.le_succ _)) (hF.tr (Tr.drawn _ _ _ _ (Nat.le_succ _))) (fun a' w' ρ' hR' hF' t => ⟨.norm, e, ρ', rfl, hq, hR', hF', (Tr.drawn _ _ _ _ (Nat.le_succ _)).trans t⟩)

/-! Code, evaluated -/
structure EvC where
  T : Tab
  cf : CallF
  pol : FuncId → Bool
  sch : Nat → Option (List Nat)
  fuel : Nat

def loopN (g : Fr × St → Option (AX × Fr × St)) : Nat → Fr × St → Option (AX × Fr × St)
  | 0, _ => none
  | n + 1, s => match g s with
    | some (.norm, s') => loopN g n s'
    | r => r

def evCode (C : EvC) : Code → Fr × St → Option (AX × Fr × St)
  | .skip, s => some (.norm, s)
  | .label _, s => some (.norm, s)
  | .exit id, s => some (.exit id, s)
  | .ret, s => some (.ret, s)
  | .seq a b, s => match evCode C a s with
    | some (.norm, s') => evCode C b s'
    | r => r
  | .cond c a b, s => match ev s.1 c with
    | .bool true => evCode C a s
    | .bool false => evCode C b s
    | _ => none
  | .block id a, s => match evCode C a s with
    | some (.exit id', s') => if id' = id then some (.norm, s') else some (.exit id', s')
    | r => r
  | .scope a, s => evCode C a s
  | .loop a, s => loopN (evCode C a) C.fuel s
  | .region _ ops false, s => (evList (stepI C.T C.cf ops) (List.range ops.size) s).map fun s' => (.norm, s')
  | .region id ops true, s => match C.sch id with
    | some l => (evList (stepI C.T C.cf ops) l s).map fun s' => (.norm, s')
    | none => (evAny C.T.lits C.pol (stepI C.T C.cf ops) ops ops.size (Array.replicate ops.size false) s).map fun s' => (.norm, s')
  | _, _ => none

/-- The schedules of a body are right. -/
def schsOK (lits : TypeId → Bool) (pol : FuncId → Bool) (sch : Nat → Option (List Nat)) : Code → Bool
  | .seq a b | .cond _ a b => schsOK lits pol sch a && schsOK lits pol sch b
  | .block _ a | .scope a | .loop a => schsOK lits pol sch a
  | .region id ops true => match sch id with
    | some l => schOK lits pol ops ops.size (Array.replicate ops.size false) l
    | none => true
  | _ => true

structure EvOK (P : Program) (C : EvC) : Prop where
  tab : TabOK P C.T
  cf : CfOK P C.cf
  pol : PolOK C.pol C.cf
  mixed : P.follows .mixedOrders = true

theorem loopN_sound {c : Code} {g : Fr × St → Option (AX × Fr × St)} (hg : ∀ s x s', g s = some (x, s') → JC P c s fun y t => y = x ∧ t = s') {s s' : Fr × St} {x : AX} :
    ∀ n, loopN g n s = some (x, s') → JC P (.loop c) s fun y t => y = x ∧ t = s' := by
  intro n h X ρ0 w0 a0 hR0 hF0
  have key : ∀ n (s1 : Fr × St) (ρ : Rho) (w : World) (a : Act), loopN g n s1 = some (x, s') → Rel X ρ s1.2 w → FR X ρ s1.2 w s1.1 a → Tr ρ0 s.2 w0 ρ s1.2 w →
      Code.rounds P c (Outs X ρ0 s.2 w0 fun y t => y = x ∧ t = s') n a w := by
    intro n
    induction n with
    | zero => intro s1 ρ w a h; simp [loopN] at h
    | succ n ih =>
      intro s1 ρ w a h hR hF t
      rw [rounds_succ]
      simp only [loopN] at h
      cases hs : g s1 with
      | none => rw [hs] at h; cases h
      | some r =>
        obtain ⟨y, s2⟩ := r
        refine wp_mono (hg s1 y s2 hs X ρ w a hR hF) ?_
        rintro e a' w' ⟨z, s3, ρ', rfl, ⟨rfl, rfl⟩, h3, h4, h5⟩
        rw [hs] at h
        cases z with
        | norm => exact ih s3 ρ' w' a' h h3 h4 (t.trans h5)
        | exit id =>
          simp only [Option.some.injEq, Prod.mk.injEq] at h
          exact ⟨.exit id, s3, ρ', rfl, h, h3, h4, t.trans h5⟩
        | ret =>
          simp only [Option.some.injEq, Prod.mk.injEq] at h
          exact ⟨.ret, s3, ρ', rfl, h, h3, h4, t.trans h5⟩
  exact wp_loop_rounds n (key n s ρ0 w0 a0 h hR0 hF0 (Tr.refl ..))

theorem evCode_sound {C : EvC} (hC : EvOK P C) : ∀ (c : Code) {s s' : Fr × St} {x : AX}, schsOK C.T.lits C.pol C.sch c = true → evCode C c s = some (x, s') → JC P c s fun y t => y = x ∧ t = s'
  | .skip, s, s', x, _, h => by simp only [evCode, Option.some.injEq, Prod.mk.injEq] at h; obtain ⟨rfl, rfl⟩ := h; exact .skip ⟨rfl, rfl⟩
  | .label _, s, s', x, _, h => by simp only [evCode, Option.some.injEq, Prod.mk.injEq] at h; obtain ⟨rfl, rfl⟩ := h; exact .label ⟨rfl, rfl⟩
  | .exit _, s, s', x, _, h => by simp only [evCode, Option.some.injEq, Prod.mk.injEq] at h; obtain ⟨rfl, rfl⟩ := h; exact .exit ⟨rfl, rfl⟩
  | .ret, s, s', x, _, h => by simp only [evCode, Option.some.injEq, Prod.mk.injEq] at h; obtain ⟨rfl, rfl⟩ := h; exact .ret ⟨rfl, rfl⟩
  | .seq a b, s, s', x, hs, h => by
    simp only [schsOK, Bool.and_eq_true] at hs
    simp only [evCode] at h
    refine .seq ?_
    cases ha : evCode C a s with
    | none => rw [ha] at h; cases h
    | some r =>
      obtain ⟨y, s1⟩ := r
      rw [ha] at h
      refine (evCode_sound hC a hs.1 ha).mono ?_
      rintro z t ⟨rfl, rfl⟩
      cases z with
      | norm => exact evCode_sound hC b hs.2 h
      | exit id => simp only [Option.some.injEq, Prod.mk.injEq] at h; exact h
      | ret => simp only [Option.some.injEq, Prod.mk.injEq] at h; exact h
  | .cond c a b, s, s', x, hs, h => by
    simp only [schsOK, Bool.and_eq_true] at hs
    simp only [evCode] at h
    split at h
    · rename_i hc; exact .cond hc (evCode_sound hC a hs.1 h)
    · rename_i hc; exact .cond hc (evCode_sound hC b hs.2 h)
    · cases h
  | .block id a, s, s', x, hs, h => by
    simp only [evCode] at h
    refine .block ?_
    cases ha : evCode C a s with
    | none => rw [ha] at h; cases h
    | some r =>
      obtain ⟨y, s1⟩ := r
      rw [ha] at h
      refine (evCode_sound hC a hs ha).mono ?_
      rintro z t ⟨rfl, rfl⟩
      cases z with
      | norm => simp only [Option.some.injEq, Prod.mk.injEq] at h; exact h
      | exit id' =>
        simp only at h
        simp only [Post.block]
        split at h
        · rename_i he; simp only [Option.some.injEq, Prod.mk.injEq] at h; rw [if_pos he]; exact h
        · rename_i he; simp only [Option.some.injEq, Prod.mk.injEq] at h; rw [if_neg he]; exact h
      | ret => simp only [Option.some.injEq, Prod.mk.injEq] at h; exact h
  | .scope a, s, s', x, hs, h => .scope (evCode_sound hC a hs h)
  | .loop a, s, s', x, hs, h => loopN_sound (fun s y t ht => evCode_sound hC a hs ht) C.fuel h
  | .region id ops false, s, s', x, hs, h => by
    simp only [evCode, Option.map_eq_some_iff] at h
    obtain ⟨s1, h1, h2⟩ := h
    simp only [Prod.mk.injEq] at h2
    obtain ⟨rfl, rfl⟩ := h2
    exact .region (JO.list hC.tab hC.cf _ h1 ⟨rfl, rfl⟩)
  | .region id ops true, s, s', x, hs, h => by
    simp only [schsOK] at hs
    simp only [evCode] at h
    split at h
    · rename_i l hl
      rw [hl] at hs
      simp only [Option.map_eq_some_iff] at h
      obtain ⟨s1, h1, h2⟩ := h
      simp only [Prod.mk.injEq] at h2
      obtain ⟨rfl, rfl⟩ := h2
      exact .draw hC.tab hC.cf hC.mixed (schOK_sound hC.pol l _ _ _ _ hs h1) ⟨rfl, rfl⟩
    · simp only [Option.map_eq_some_iff] at h
      obtain ⟨s1, h1, h2⟩ := h
      simp only [Prod.mk.injEq] at h2
      obtain ⟨rfl, rfl⟩ := h2
      exact .draw hC.tab hC.cf hC.mixed (evAny_sound hC.pol _ _ _ _ h1) ⟨rfl, rfl⟩
  | .rangeFunc .., s, s', x, _, h => by simp [evCode] at h
  | .goto _, s, s', x, _, h => by simp [evCode] at h
  | .refuse _, s, s', x, _, h => by simp [evCode] at h

end Go.Am
