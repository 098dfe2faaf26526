/- A part of the proof: the abstract machine and what it shows of the program. -/
import Derived.Test.YtollmmiifppfnaaGreatDoorMachF
import Derived.Maps.RangeRun
import Derived.Shelf.SlSortFuncK.WholeK

/- A range over a map: in whatever order the entries come. -/
set_option linter.unusedVariables false
set_option linter.unusedSimpArgs false
namespace Go.Am
open Go.ChangeMaps (setBlock)
variable {P : Program} {T : Tab}

/-! From one set of foreign blocks to another -/
theorem VC.keepM {w w' : World} {M M' : Nat → Prop} (hsize : w.heap.size ≤ w'.heap.size) (hM : ∀ b, b < w.heap.size → ¬ M b → ¬ M' b) (hk : ∀ b, b < w.heap.size → ¬ M b → w'.heap[b]? = w.heap[b]?)
    {c : AV} {v : Value} (h : VC w M c v) : VC w' M' c v := h.keep hsize hM hk

theorem VR.trX {X X' : Nat → Prop} {ρ ρ' : Rho} {σ σ' : St} {w w' : World} (t : Tr ρ σ w ρ' σ' w') (hX : ∀ b, b < w.heap.size → X' b → Mu X ρ σ b) {c : AV} {v : Value} (h : VR w (Mu X ρ σ) ρ σ c v) :
    VR w' (Mu X' ρ' σ') ρ' σ' c v := by
  have hM : ∀ b, b < w.heap.size → ¬ Mu X ρ σ b → ¬ Mu X' ρ' σ' b := fun b hb hn hm => hn (by
    rcases hm with hm | hm
    · exact hX b hb hm
    · exact .inr (t.new b hb hm))
  have hkk : ∀ b, b < w.heap.size → ¬ Mu X ρ σ b → w'.heap[b]? = w.heap[b]? := fun b hb hn => t.keep b hb (fun ho => hn (.inr ho))
  have hcell : ∀ (a : Addr) (j : Nat), a.spot = none → a.block < w.heap.size → ¬ Mu X ρ σ a.block → w'.cell? (a.add j) = w.cell? (a.add j) := by
    intro a j hs hb hn
    refine World.cell?_of_block ?_
    have : (a.add j).block = a.block := by unfold Addr.add; split <;> rfl
    rw [this]
    exact t.keep _ hb (fun ho => hn (.inr ho))
  induction h with
  | undef v => exact .undef v
  | bool b => exact .bool b
  | int k n => exact .int k n
  | str s bs h => exact .str s bs h
  | agg cs vs h _ ih => exact .agg cs vs h ih
  | tup cs vs h _ ih => exact .tup cs vs h ih
  | snap0 a cap => exact .snap0 a cap
  | snap n cs a cap vs hs hb hm hc hn hcl hv =>
    exact .snap n cs a cap vs hs (Nat.lt_of_lt_of_le hb t.size) (hM _ hb hm) hc hn (fun j hj => (hcell a j hs hb hm).trans (hcl j hj)) (fun j c hc => (hv j c hc).keep t.size hM hkk)
  | fptr cs a vs hs hb hm hcl hv =>
    exact .fptr cs a vs hs (Nat.lt_of_lt_of_le hb t.size) (hM _ hb hm) (fun j hj => (hcell a j hs hb hm).trans (hcl j hj)) (fun j c hc => (hv j c hc).keep t.size hM hkk)
  | nil0 a => exact .nil0 a
  | ref id ver off n k v h0 h1 h2 =>
    obtain ⟨o, ho, hv⟩ := h1
    obtain ⟨o', ho', hv', hk, _⟩ := t.ids id o ho
    refine .ref id ver off n k v h0 ⟨o', ho', Nat.le_trans hv hv'⟩ ?_
    intro o'' ho'' hver hc
    rw [ho'] at ho''
    cases ho''
    have e : o.ver = o'.ver := by omega
    obtain ⟨hc', hr⟩ := hk e hc
    rw [hr]
    exact h2 o ho (e.trans hver) hc'
  | ptr id ver off v h0 h1 h2 =>
    obtain ⟨o, ho, hv⟩ := h1
    obtain ⟨o', ho', hv', hk, _⟩ := t.ids id o ho
    refine .ptr id ver off v h0 ⟨o', ho', Nat.le_trans hv hv'⟩ ?_
    intro o'' ho'' hver hc
    rw [ho'] at ho''
    cases ho''
    have e : o.ver = o'.ver := by omega
    obtain ⟨hc', hr⟩ := hk e hc
    rw [hr]
    exact h2 o ho (e.trans hver) hc'
  | nilptr => exact .nilptr
  | mref id v h0 h1 h2 =>
    obtain ⟨o, ho⟩ := h1
    obtain ⟨o', ho', hv', _, hk⟩ := t.ids id o ho
    refine .mref id v h0 ⟨o', ho'⟩ ?_
    intro o'' ho'' hm
    rw [ho'] at ho''
    cases ho''
    obtain ⟨hm', hr⟩ := hk hm
    rw [hr]
    exact h2 o ho hm'
  | nilmap => exact .nilmap
  | clo f a b a' b' ha hb _ _ ih1 ih2 => exact .clo f a b a' b' ha hb ih1 ih2
  | nilfn => exact .nilfn
  | iface t c v _ ih => exact .iface t c v ih
  | nilif => exact .nilif
  | lit v => exact .lit v

theorem OR.trX {X X' : Nat → Prop} {ρ ρ' : Rho} {σ σ' : St} {w w' : World} (t : Tr ρ σ w ρ' σ' w') (hX : ∀ b, b < w.heap.size → X' b → Mu X ρ σ b) {p : Pl} {ob : OB} (hb : w'.heap[p.block]? = w.heap[p.block]?)
    (h : OR w (Mu X ρ σ) ρ σ p ob) : OR w' (Mu X' ρ' σ') ρ' σ' p ob := by
  cases ob with
  | dead => trivial
  | cells cs b =>
    obtain ⟨cur, e, fz, hh, h1, h2, h3, h4⟩ := h
    exact ⟨cur, e, fz, hb.trans hh, h1, h2, h3, fun j c hc => let ⟨v, hv, hr⟩ := h4 j c hc; ⟨v, hv, hr.trX t hX⟩⟩
  | map es =>
    obtain ⟨ces, clock, hh, h1, h2, h3, h4⟩ := h
    exact ⟨ces, clock, hb.trans hh, h1, fun j e he => let ⟨ce, hce, ha, hb⟩ := h2 j e he; ⟨ce, hce, ha.trX t hX, hb.trX t hX⟩, h3, h4⟩

theorem Rel.sub {X X' : Nat → Prop} {ρ : Rho} {σ : St} {w : World} (h : Rel X' ρ σ w) (hX : ∀ b, X b → X' b) : Rel X ρ σ w :=
  ⟨fun id o ho => OR.trX (Tr.refl ρ σ w) (fun b _ hx => .inl (hX b hx)) rfl (h.obj id o ho), h.inj, fun id o ho hl hx => h.amb id o ho hl (hX _ hx), fun b hb => h.lt b (hX b hb)⟩

theorem FR.trX {X X' : Nat → Prop} {ρ ρ' : Rho} {σ σ' : St} {w w' : World} {fr : Fr} {a : Act} (h : FR X ρ σ w fr a) (t : Tr ρ σ w ρ' σ' w') (hX : ∀ b, b < w.heap.size → X' b → Mu X ρ σ b) : FR X' ρ' σ' w' fr a :=
  ⟨⟨h.all.1, fun i c v hc hv => (h.all.2 i c v hc hv).trX t hX⟩, h.dfr⟩

/-! A foreign block turns -/
theorem VR.keepW {w w' : World} {M : Nat → Prop} {ρ : Rho} {σ : St} (hsize : w.heap.size ≤ w'.heap.size) (hk : ∀ b, b < w.heap.size → ¬ M b → w'.heap[b]? = w.heap[b]?) {c : AV} {v : Value} (h : VR w M ρ σ c v) : VR w' M ρ σ c v := by
  have hcell : ∀ (a : Addr) (j : Nat), a.block < w.heap.size → ¬ M a.block → w'.cell? (a.add j) = w.cell? (a.add j) := by
    intro a j hb hn
    refine World.cell?_of_block ?_
    have : (a.add j).block = a.block := by unfold Addr.add; split <;> rfl
    rw [this]
    exact hk _ hb hn
  induction h with
  | undef v => exact .undef v
  | bool b => exact .bool b
  | int k n => exact .int k n
  | str s bs h => exact .str s bs h
  | agg cs vs h _ ih => exact .agg cs vs h ih
  | tup cs vs h _ ih => exact .tup cs vs h ih
  | snap0 a cap => exact .snap0 a cap
  | snap n cs a cap vs hs hb hm hc hn hcl hv =>
    exact .snap n cs a cap vs hs (Nat.lt_of_lt_of_le hb hsize) hm hc hn (fun j hj => (hcell a j hb hm).trans (hcl j hj)) (fun j c hc => (hv j c hc).keep hsize (fun _ _ h => h) hk)
  | fptr cs a vs hs hb hm hcl hv =>
    exact .fptr cs a vs hs (Nat.lt_of_lt_of_le hb hsize) hm (fun j hj => (hcell a j hb hm).trans (hcl j hj)) (fun j c hc => (hv j c hc).keep hsize (fun _ _ h => h) hk)
  | nil0 a => exact .nil0 a
  | ref id ver off n k v h0 h1 h2 => exact .ref id ver off n k v h0 h1 h2
  | ptr id ver off v h0 h1 h2 => exact .ptr id ver off v h0 h1 h2
  | nilptr => exact .nilptr
  | mref id v h0 h1 h2 => exact .mref id v h0 h1 h2
  | nilmap => exact .nilmap
  | clo f a b a' b' ha hb _ _ ih1 ih2 => exact .clo f a b a' b' ha hb ih1 ih2
  | nilfn => exact .nilfn
  | iface t c v _ ih => exact .iface t c v ih
  | nilif => exact .nilif
  | lit v => exact .lit v

theorem Rel.keepW {X : Nat → Prop} {ρ : Rho} {σ : St} {w w' : World} (h : Rel X ρ σ w) (hsize : w.heap.size ≤ w'.heap.size) (hk : ∀ b, b < w.heap.size → ¬ X b → w'.heap[b]? = w.heap[b]?) : Rel X ρ σ w' := by
  have hk' : ∀ b, b < w.heap.size → ¬ Mu X ρ σ b → w'.heap[b]? = w.heap[b]? := fun b hb hn => hk b hb (fun hx => hn (.inl hx))
  refine ⟨fun id o ho => ?_, h.inj, h.amb, fun b hb => Nat.lt_of_lt_of_le (h.lt b hb) hsize⟩
  have hor := h.obj id o ho
  have hheap : o.ob.live = true → w'.heap[(ρ id).block]? = w.heap[(ρ id).block]? := fun hl => hk _ (hor.lt hl) (h.amb id o ho hl)
  cases hob : o.ob with
  | dead => trivial
  | cells cs b =>
    rw [hob] at hor hheap
    obtain ⟨cur, e, fz, hh, h1, h2, h3, h4⟩ := hor
    exact ⟨cur, e, fz, (hheap rfl).trans hh, h1, h2, h3, fun j c hc => let ⟨v, hv, hr⟩ := h4 j c hc; ⟨v, hv, hr.keepW hsize hk'⟩⟩
  | map es =>
    rw [hob] at hor hheap
    obtain ⟨ces, clock, hh, h1, h2, h3, h4⟩ := hor
    exact ⟨ces, clock, (hheap rfl).trans hh, h1, fun j e he => let ⟨ce, hce, ha, hb⟩ := h2 j e he; ⟨ce, hce, ha.keepW hsize hk', hb.keepW hsize hk'⟩, h3, h4⟩

theorem FR.keepW {X : Nat → Prop} {ρ : Rho} {σ : St} {w w' : World} {fr : Fr} {a : Act} (h : FR X ρ σ w fr a) (hsize : w.heap.size ≤ w'.heap.size) (hk : ∀ b, b < w.heap.size → ¬ X b → w'.heap[b]? = w.heap[b]?) : FR X ρ σ w' fr a :=
  ⟨⟨h.all.1, fun i c v hc hv => (h.all.2 i c v hc hv).keepW hsize (fun b hb hn => hk b hb (fun hx => hn (.inl hx)))⟩, h.dfr⟩

theorem Tr.keepW {ρ ρ' : Rho} {σ σ' : St} {w w1 w2 : World} (t : Tr ρ σ w ρ' σ' w1) (hos : w2.os = w1.os) (htape : w2.tape = w1.tape) (hout : w2.output = w1.output ∧ w1.drawn ≤ w2.drawn) (hsize : w1.heap.size ≤ w2.heap.size)
    (hk : ∀ b, b < w.heap.size → w2.heap[b]? = w1.heap[b]?) : Tr ρ σ w ρ' σ' w2 :=
  ⟨hos.trans t.os, htape.trans t.tape, ⟨hout.1.trans t.output.1, Nat.le_trans t.output.2 hout.2⟩, Nat.le_trans t.size hsize, fun b hb hn => (hk b hb).trans (t.keep b hb hn), t.new, t.ids⟩

/-- Operations that come ahead of others. -/
theorem evOps_app {cf : CallF} (hT : TabOK P T) (hcf : CfOK P cf) {X : Nat → Prop} {ops : Array Oper} {Q : Exit → Act → World → Prop} {l2 : List Nat} :
    ∀ (l : List Nat) (os : List Oper) (fr : Fr) (σ : St) (s' : Fr × St) (ρ : Rho) (w : World) (a : Act), l.map (fun i => ops[i]?) = os.map some → evOps T cf ops os (fr, σ) = some s' → Rel X ρ σ w → FR X ρ σ w fr a →
      (∀ a' w' ρ', Rel X ρ' s'.2 w' → FR X ρ' s'.2 w' s'.1 a' → Tr ρ σ w ρ' s'.2 w' → wpOps P ops Q l2 a' w') → wpOps P ops Q (l ++ l2) a w
  | [], os, fr, σ, s', ρ, w, a, hl, h, hR, hF, hQ => by
    cases os with
    | nil => simp only [evOps, Option.some.injEq] at h; subst h; exact hQ a w ρ hR hF (Tr.refl ..)
    | cons => simp at hl
  | i :: l, os, fr, σ, s', ρ, w, a, hl, h, hR, hF, hQ => by
    cases os with
    | nil => simp at hl
    | cons o os =>
      simp only [List.map_cons, List.cons.injEq] at hl
      obtain ⟨hi, hl⟩ := hl
      simp only [evOps, Option.bind_eq_some_iff] at h
      obtain ⟨s1, h1, h2⟩ := h
      simp only [List.cons_append, wpOps, hi]
      exact stepO_sound (Q := Q) hT hcf hR hF h1 (fun a' w' ρ' hR' hF' t => evOps_app hT hcf l os s1.1 s1.2 s' ρ' w' a' hl h2 hR' hF' (fun a'' w'' ρ'' hR'' hF'' t' => hQ a'' w'' ρ'' hR'' hF'' (t.trans t')))

theorem wpOps_value {ops : Array Oper} {Q : Exit → Act → World → Prop} {i : Nat} {l : List Nat} {a : Act} {w w' : World} {o : Oper} {v : Value} (hi : ops[i]? = some o) (hg : o.guard = none) (hrun : (execOp a.eval o).run P w = .ok (.value v) w')
    (h : wpOps P ops Q l (a.put o.dst v) w') : wpOps P ops Q (i :: l) a w := by
  simp only [wpOps, hi]
  rw [if_pos (by simp [Region.wanted, hg])]
  left
  unfold Oper.wp
  rw [hrun]
  exact h

end Go.Am

/- A range over a map: the rule. -/
set_option linter.unusedVariables false
set_option linter.unusedSimpArgs false
namespace Go.Am
open Go.ChangeMaps (setBlock)
variable {P : Program} {T : Tab}

def bornAt (ces : Array MapEntry) (i : Nat) : Nat := match ces[i]? with | some e => e.born | none => 0

theorem ev_put_ne (fr : Fr) {d t : Nat} (h : d ≠ t) (c : AV) : ev (fr.put (some d) c) (.tmp t) = ev fr (.tmp t) := by
  simp only [ev, Fr.put, List.getD_eq_getElem?_getD]
  rw [List.getElem?_set_ne h]

theorem range_tail {ops : Array Oper} {o : Oper} {l : List Oper} (h : ops.toList = o :: l) : List.range ops.size = 0 :: (List.range l.length).map Nat.succ ∧ ops[0]? = some o ∧ ((List.range l.length).map Nat.succ).map (fun i => ops[i]?) = l.map some := by
  have hs : ops.size = l.length + 1 := by rw [← Array.length_toList, h]; rfl
  refine ⟨by rw [hs, List.range_succ_eq_map], by rw [← Array.getElem?_toList, h]; rfl, ?_⟩
  apply List.ext_getElem?
  intro i
  simp only [List.getElem?_map, ← Array.getElem?_toList, h]
  rcases Nat.lt_or_ge i l.length with hi | hi
  · simp [hi]
  · simp [List.getElem?_eq_none hi, List.getElem?_eq_none (l := List.range l.length) (i := i) (by simpa using hi)]

theorem range_init {ops : Array Oper} {o : Oper} {l : List Oper} (h : ops.toList = l ++ [o]) : List.range ops.size = List.range l.length ++ [l.length] ∧ ops[l.length]? = some o ∧ (List.range l.length).map (fun i => ops[i]?) = l.map some := by
  have hs : ops.size = l.length + 1 := by rw [← Array.length_toList, h]; simp
  refine ⟨by rw [hs, List.range_succ], by rw [← Array.getElem?_toList, h]; simp, ?_⟩
  apply List.ext_getElem?
  intro i
  simp only [List.getElem?_map, ← Array.getElem?_toList, h]
  rcases Nat.lt_or_ge i l.length with hi | hi
  · simp [hi, List.getElem?_append_left hi]
  · simp [List.getElem?_eq_none hi, List.getElem?_eq_none (l := List.range l.length) (i := i) (by simpa using hi)]

theorem nodup_le : ∀ (n : Nat) (l : List Nat), l.Nodup → (∀ i ∈ l, i < n) → l.length ≤ n
  | 0, l, hn, h => by
    cases l with
    | nil => simp
    | cons a l => have := h a (by simp); omega
  | n + 1, l, hn, h => by
    by_cases hm : n ∈ l
    · have := nodup_le n (l.erase n) (hn.erase n) (fun i hi => by
        have h1 := (hn.mem_erase_iff).1 hi
        have := h i h1.2
        omega)
      rw [List.length_erase_of_mem hm] at this
      omega
    · have := nodup_le n l hn (fun i hi => by
        have h1 := h i hi
        have : i ≠ n := fun e => hm (e ▸ hi)
        omega)
      omega

theorem vr_tup1 {w : World} {M : Nat → Prop} {ρ : Rho} {σ : St} {c : AV} {v : Value} (h : VR w M ρ σ c v) : VR w M ρ σ (.tup [c]) (.tuple #[v]) := by
  refine .tup _ _ rfl fun i c' v' hc hv => ?_
  match i, hc, hv with
  | 0, hc, hv => simp at hc hv; subst hc hv; exact h
  | i + 1, hc, hv => simp at hc

theorem vr_tup2 {w : World} {M : Nat → Prop} {ρ : Rho} {σ : St} {c d : AV} {u v : Value} (h : VR w M ρ σ c u) (k : VR w M ρ σ d v) : VR w M ρ σ (.tup [c, d]) (.tuple #[u, v]) := by
  refine .tup _ _ rfl fun i c' v' hc hv => ?_
  match i, hc, hv with
  | 0, hc, hv => simp at hc hv; subst hc hv; exact h
  | 1, hc, hv => simp at hc hv; subst hc hv; exact k
  | i + 2, hc, hv => simp at hc

theorem vr_tup3 {w : World} {M : Nat → Prop} {ρ : Rho} {σ : St} {b c d : AV} {x u v : Value} (g : VR w M ρ σ b x) (h : VR w M ρ σ c u) (k : VR w M ρ σ d v) : VR w M ρ σ (.tup [b, c, d]) (.tuple #[x, u, v]) := by
  refine .tup _ _ rfl fun i c' v' hc hv => ?_
  match i, hc, hv with
  | 0, hc, hv => simp at hc hv; subst hc hv; exact g
  | 1, hc, hv => simp at hc hv; subst hc hv; exact h
  | 2, hc, hv => simp at hc hv; subst hc hv; exact k
  | i + 3, hc, hv => simp at hc

theorem own_live {X : Nat → Prop} {ρ : Rho} {σ : St} {w : World} (hR : Rel X ρ σ w) {b : Nat} (hX : X b) : ¬ Own ρ σ b := by
  rintro ⟨id, o, ho, hown, rfl⟩
  exact hR.amb id o ho (OB.live_own hown) hX

/-- Entries with their values frozen. -/
def zipV : List (AV × AV) → List AV → List (AV × AV)
  | (k, _) :: es, v :: vs => (k, v) :: zipV es vs
  | _, _ => []

theorem get_zipV : ∀ (es : List (AV × AV)) (vs : List AV) (j : Nat) (e : AV × AV), (zipV es vs)[j]? = some e → ∃ v0, es[j]? = some (e.1, v0) ∧ vs[j]? = some e.2
  | [], vs, j, e, h => by simp [zipV] at h
  | (k, v0) :: es, [], j, e, h => by simp [zipV] at h
  | (k, v0) :: es, v :: vs, 0, e, h => by simp [zipV] at h; subst h; exact ⟨v0, rfl, rfl⟩
  | (k, v0) :: es, v :: vs, j + 1, e, h => by simp [zipV] at h; simpa using get_zipV es vs j e h

theorem len_zipV : ∀ (es : List (AV × AV)) (vs : List AV), vs.length = es.length → (zipV es vs).length = es.length
  | [], vs, h => by simp [zipV]
  | (k, v0) :: es, [], h => by simp at h
  | (k, v0) :: es, v :: vs, h => by simp [zipV, len_zipV es vs (by simpa using h)]

set_option maxHeartbeats 1000000 in
theorem JC.mapRange {cf : CallF} (hT : TabOK P T) (hcf : CfOK P cf) {id0 id1 id2 b0 b1 : Nat} {ops0 ops1 ops2 : Array Oper} {l0 l1 l2 : List Oper} {o0 o1 o2 : Oper} {tm : TypeId} {xm c : Operand} {dr d1 d3 : Nat} {BODY : Code}
    (h0 : ops0.toList = l0 ++ [o0]) (ho0 : o0.op = .range tm xm) (hg0 : o0.guard = none) (hd0 : o0.dst = some dr)
    (h1 : ops1.toList = o1 :: l1) (ho1 : o1.op = .next (.tmp dr) false) (hg1 : o1.guard = none) (hd1 : o1.dst = some d1)
    (h2 : ops2.toList = o2 :: l2) (ho2 : o2.op = .entry (.tmp dr)) (hg2 : o2.guard = none) (hd2 : o2.dst = some d3)
    (hne : d1 ≠ dr) {tk te : TypeId} {n0 n1 : Nat} {z : List AV} {fl : Bool} (htm : T.ty tm = some ⟨.map tk te, n0, n1, z, fl⟩)
    {s s1 : Fr × St} {Q : Post} (hl0 : evOps T cf ops0 l0 s = some s1) {mid ver d : Nat} {es0 es : List (AV × AV)} (hxm : ev s1.1 xm = .mref mid) (hes0 : s1.2[mid]? = some ⟨ver, .map es0⟩)
    {vs : List AV} {σz : St} (hz : frzL (frz d) s1.2 (es0.map (·.2)) = some (vs, σz)) (hzip : es = zipV es0 vs)
    (I : Value → List Nat → Fr × St → Prop) (hIdr : ∀ v l s, I v l s → ev s.1 (.tmp dr) = .lit v) (hI0 : ∀ v, I v [] (s1.1.put (some dr) (.lit v), σz.set mid ⟨ver, .dead⟩))
    (hstep : ∀ v l s i kv, I v l s → es[i]? = some kv → i ∉ l → ∃ s2 s3, evOps T cf ops1 l1 (s.1.put (some d1) (.tup [.bool true, kv.1, kv.2]), s.2) = some s2 ∧ ev s2.1 c = .bool true ∧ ev s2.1 (.tmp dr) = .lit v ∧
      evOps T cf ops2 l2 (s2.1.put (some d3) (.tup [kv.1, kv.2]), s2.2) = some s3 ∧ JC P BODY s3 (fun x s' => (x = .norm ∨ x = .exit b1) ∧ I v (l ++ [i]) s'))
    (hend : ∀ v l s, I v l s → l.Perm (List.range es.length) → ∃ s2, evOps T cf ops1 l1 (s.1.put (some d1) (.tup [.bool false]), s.2) = some s2 ∧ ev s2.1 c = .bool false ∧ Q .norm s2) :
    JC P (.seq (.region id0 ops0 false) (.block b0 (.loop (.seq (.region id1 ops1 false) (.seq (.cond c .skip (.exit b0)) (.block b1 (.seq (.region id2 ops2 false) BODY))))))) s Q := by
  intro X ρ w a hR hF
  refine wp_seq (wp_region ?_)
  obtain ⟨r1, r2, r3⟩ := range_init h0
  rw [r1]
  refine evOps_app hT hcf _ l0 s.1 s.2 s1 ρ w a r3 hl0 hR hF ?_
  intro a1 w1 ρ1 hR1 hF1 t1
  obtain ⟨hlz, hlenz, hvz⟩ := frzL_sound (X := X) (ρ := ρ1) (w := w1) (g := frz d) (fun σ v v' σ' h => frz_sound d σ v v' σ' h) _ _ _ _ hz
  obtain ⟨ces, clock, hb, hcs0, hcv0, hold, hinj⟩ := hR1.obj mid _ hes0
  have hvz' := hvz (fun j => (ces.getD j default).val) hR1 (fun j c hc => by
    rw [List.getElem?_map, Option.map_eq_some_iff] at hc
    obtain ⟨e, he, rfl⟩ := hc
    obtain ⟨ce, hce, _, h2⟩ := hcv0 j e he
    simpa [Array.getD_eq_getD_getElem?, hce] using h2)
  have hRz := hlz.rel hR1
  have hFz := hF1.tr (hlz.tr ρ1 w1)
  have tz := t1.trans (hlz.tr ρ1 w1)
  have hes : σz[mid]? = some ⟨ver, .map es0⟩ := by
    obtain ⟨o', h1, h2, h3, _⟩ := hlz.to mid _ hes0
    obtain ⟨v', ob'⟩ := o'
    cases ob' <;> simp only [sameOB] at h3
    simp only at h2
    subst h3 h2
    exact h1
  have hcs : ces.size = es.length := by rw [hcs0, hzip, len_zipV _ _ (by rw [hlenz]; simp)]
  have hcv : ∀ (j : Nat) e, es[j]? = some e → ∃ ce, ces[j]? = some ce ∧ VR w1 (Mu X ρ1 σz) ρ1 σz e.1 ce.key ∧ VR w1 (Mu X ρ1 σz) ρ1 σz e.2 ce.val := by
    intro j e he
    rw [hzip] at he
    obtain ⟨v0, g1, g2⟩ := get_zipV _ _ _ _ he
    obtain ⟨ce, hce, h1, _⟩ := hcv0 j _ g1
    refine ⟨ce, hce, h1.less hlz, ?_⟩
    have := hvz' j _ g2
    rw [Array.getD_eq_getD_getElem?, hce] at this
    exact this.lift ρ1 σz
  have hvm : a1.eval xm = .map (some (ρ1 mid).block) := by
    have := hF1.ev xm
    rw [hxm] at this
    cases this with
    | mref _ _ _ _ h => exact h _ hes0 rfl
  generalize hbm : (ρ1 mid).block = bm at *
  generalize hr : w1.heap.size = r at *
  have hbr : bm < r := by rw [← hr]; exact (Array.getElem?_eq_some_iff.1 hb).1
  have hty := (hT.ty tm _ htm).und
  refine wpOps_value r2 hg0 (v := .pointer (some ⟨r, 0, none⟩)) (w' := w1.alloc (.mapIter (some bm) clock #[] clock)) (by simp only [execOp, ho0, hvm, Sem.run_bind, run_range_map w1 tm tk te bm ces clock hty hb, Result.andThen_ok, Sem.run_pure, hr]) ?_
  rw [hd0]
  simp only [wpOps, Exit.then]
  generalize hv : Value.pointer (some ⟨r, 0, none⟩) = v
  let Xm : Nat → Prop := fun b => X b ∨ b = bm ∨ b = r
  have hOwn : Own ρ1 σz bm := ⟨mid, _, hes, rfl, hbm⟩
  have hX : ∀ b, b < w1.heap.size → Xm b → Mu X ρ1 σz b := by
    rintro b hb (hx | rfl | rfl)
    · exact .inl hx
    · exact .inr hOwn
    · omega
  have tB0 : Tr ρ1 σz w1 ρ1 (σz.set mid ⟨ver, .dead⟩) (w1.alloc (.mapIter (some bm) clock #[] clock)) := by
    refine ⟨rfl, rfl, ⟨rfl, Nat.le_refl _⟩, by rw [heap_alloc]; simp, fun b hb _ => heap_alloc_old w1 _ hb, ?_, ?_⟩
    · rintro b _ ⟨i, o, ho, hw, rfl⟩
      rcases get_set ho with ⟨rfl, rfl⟩ | ⟨_, ho⟩
      · simp [OB.own] at hw
      · exact ⟨i, o, ho, hw, rfl⟩
    · intro i o ho
      by_cases hi : i = mid
      · subst hi
        rw [hes] at ho; cases ho
        exact ⟨⟨ver, .dead⟩, by simp [lt_of_get hes], Nat.le_refl _, fun _ h => by simp [OB.isCells] at h, fun h => by simp [OB.isMap] at h⟩
      · exact ⟨o, by rw [List.getElem?_set_ne (Ne.symm hi)]; exact ho, Nat.le_refl _, fun _ h => ⟨h, rfl⟩, fun h => ⟨h, rfl⟩⟩
  have hRm : Rel Xm ρ1 (σz.set mid ⟨ver, .dead⟩) (w1.alloc (.mapIter (some bm) clock #[] clock)) := by
    refine ⟨fun i o ho => ?_, fun i j oi oj hi hj h1 h2 hne => ?_, fun i o ho hl => ?_, ?_⟩
    · rcases get_set ho with ⟨rfl, rfl⟩ | ⟨_, ho⟩
      · trivial
      · by_cases hl : o.ob.live = true
        · exact OR.trX tB0 hX (heap_alloc_old w1 _ ((hRz.obj i o ho).lt hl)) (hRz.obj i o ho)
        · cases hob : o.ob <;> simp_all [OB.live, OR]
    · rcases get_set hi with ⟨rfl, rfl⟩ | ⟨_, hi⟩
      · simp [OB.own] at h1
      · rcases get_set hj with ⟨rfl, rfl⟩ | ⟨_, hj⟩
        · simp [OB.live] at h2
        · exact hRz.inj i j oi oj hi hj h1 h2 hne
    · rcases get_set ho with ⟨rfl, rfl⟩ | ⟨hne, ho⟩
      · simp [OB.live] at hl
      · rintro (hx | hx | hx)
        · exact hRz.amb i o ho hl hx
        · exact hRz.inj mid i _ o hes ho rfl hl (Ne.symm hne) (by rw [hbm, hx])
        · have := (hRz.obj i o ho).lt hl; omega
    · rintro b (hx | rfl | rfl)
      · have := hRz.lt b hx; rw [heap_alloc]; simp; omega
      · rw [heap_alloc]; simp; omega
      · rw [heap_alloc]; simp; omega
  have hFm : FR Xm ρ1 (σz.set mid ⟨ver, .dead⟩) (w1.alloc (.mapIter (some bm) clock #[] clock)) (s1.1.put (some dr) (.lit v)) (a1.put (some dr) v) := (hFz.trX tB0 hX).put (some dr) (.lit v)
  have hborn : ∀ i e, ces[i]? = some e → bornAt ces i = e.born := fun i e h => by simp [bornAt, h]
  have hold' : ∀ x ∈ ces.toList, x.born < clock := fun x hx => by
    obtain ⟨i, hi⟩ := List.getElem?_of_mem hx
    exact hold i x (by simpa using hi)
  have hnd : (ces.toList.map (·.born)).Nodup := by
    unfold List.Nodup
    rw [List.pairwise_iff_getElem]
    intro i j hi hj hij heq
    simp only [List.length_map, Array.length_toList] at hi hj
    simp only [List.getElem_map, Array.getElem_toList] at heq
    have := hinj i j _ _ (Array.getElem?_eq_getElem hi) (Array.getElem?_eq_getElem hj) heq
    omega
  refine wp_block (wp_loop_rounds (es.length + 1) ?_)
  have key : ∀ m l (sx : Fr × St) ρx W ax seen, I v l sx → l.Nodup → (∀ i ∈ l, i < es.length) → es.length < m + l.length → Rel Xm ρx sx.2 W → FR Xm ρx sx.2 W sx.1 ax → Tr ρ1 σz w1 ρx sx.2 W →
      W.heap[r]? = some (.mapIter (some bm) clock seen clock) → seen.toList = l.map (bornAt ces) → W.heap[bm]? = some (.map ces clock) →
      Code.rounds P (.seq (.region id1 ops1 false) (.seq (.cond c .skip (.exit b0)) (.block b1 (.seq (.region id2 ops2 false) BODY)))) (Exit.inBlock b0 (Outs X ρ s.2 w Q)) m ax W := by
    intro m
    induction m with
    | zero =>
      intro l sx ρx W ax seen hi hnodup hlt hm
      have hle := nodup_le _ l hnodup hlt
      omega
    | succ m ih =>
      intro l sx ρx W ax seen hi hnodup hlt hm hRx hFx tx hrW hseen hbW
      rw [rounds_succ]
      refine wp_seq (wp_region ?_)
      obtain ⟨q1, q2, q3⟩ := range_tail h1
      rw [q1]
      have hval : ax.eval (.tmp dr) = v := by
        have := hFx.ev (.tmp dr)
        rw [hIdr v l sx hi] at this
        cases this; rfl
      have hmemseen : ∀ i e, ces[i]? = some e → (seen.contains e.born = true ↔ i ∈ l) := by
        intro i e he
        rw [Array.contains_iff_mem, ← Array.mem_toList_iff, hseen, List.mem_map]
        constructor
        · rintro ⟨j, hj, hje⟩
          have hjlt := hlt j hj
          have hjc : j < ces.size := by omega
          rw [hborn j _ (Array.getElem?_eq_getElem hjc)] at hje
          have := hinj j i _ _ (Array.getElem?_eq_getElem hjc) he hje
          rwa [← this]
        · intro hil
          exact ⟨i, hil, hborn i e he⟩
      rcases run_next_at (P := P) W o1.type r bm clock clock seen ces clock hrW hbW hold' (Nat.le_refl _) with ⟨hz, hrun⟩ | ⟨e, he, W1, hW1, hrun⟩
      · -- nothing is left
        have hperm : l.Perm (List.range es.length) := by
          rw [List.perm_ext_iff_of_nodup hnodup List.nodup_range]
          intro i
          simp only [List.mem_range]
          refine ⟨hlt i, fun hil => ?_⟩
          have hic : i < ces.size := by omega
          have h0 : leftOf ces seen = #[] := Array.eq_empty_of_size_eq_zero hz
          rw [← hmemseen i _ (Array.getElem?_eq_getElem hic)]
          cases hcon : seen.contains ces[i].born with
          | true => rfl
          | false =>
            have : ces[i] ∈ leftOf ces seen := by
              unfold leftOf
              rw [Array.mem_filter]
              exact ⟨Array.getElem_mem hic, by simp [hcon] at *; exact hcon⟩
            rw [h0] at this
            simp at this
        obtain ⟨s2, hs2, hc2, hq⟩ := hend v l sx hi hperm
        refine wpOps_value q2 hg1 (v := .tuple #[.bool false]) (w' := W) (by simp only [execOp, ho1, hval, ← hv, Sem.run_bind, hrun, Result.andThen_ok, Sem.run_pure]) ?_
        rw [hd1, ← List.append_nil ((List.range l1.length).map Nat.succ)]
        refine evOps_app hT hcf _ l1 _ _ s2 ρx W _ q3 hs2 hRx (hFx.put (some d1) (vr_tup1 (.bool false))) ?_
        · intro a2 w2 ρ2 hR2 hF2 t2
          simp only [wpOps, Exit.then]
          have hc := hF2.ev c
          rw [hc2] at hc
          refine wp_seq (wp_cond (t := false) hc.bool_inv (wp_exit ?_))
          simp only [Exit.then, Exit.inBlock, if_true]
          exact ⟨.norm, s2, ρ2, rfl, hq, hR2.sub (fun b hb => .inl hb), hF2.trX (Tr.refl ..) (fun b _ hb => .inl (.inl hb)), (tz.trans tx).trans t2⟩
      · -- an entry
        have he' : e ∈ ces ∧ seen.contains e.born = false := by
          unfold leftOf at he
          have := (Array.mem_filter.1 (Array.mem_toList_iff.1 he))
          exact ⟨this.1, by simpa using this.2⟩
        obtain ⟨i, hic⟩ : ∃ i, ces[i]? = some e := by
          obtain ⟨i, hi, rfl⟩ := Array.getElem_of_mem he'.1
          exact ⟨i, Array.getElem?_eq_getElem hi⟩
        have hil : i < es.length := by rw [← hcs]; exact (Array.getElem?_eq_some_iff.1 hic).1
        have hni : i ∉ l := fun h => by
          have := (hmemseen i e hic).2 h
          rw [he'.2] at this; cases this
        obtain ⟨s2, s3, hs2, hc2, hdr2, hs3, hbody⟩ := hstep v l sx i es[i] hi (List.getElem?_eq_getElem hil) hni
        obtain ⟨ce, hce, hk1, hk2⟩ := hcv i es[i] (List.getElem?_eq_getElem hil)
        rw [hic] at hce; cases hce
        generalize hW2 : setBlock W1 r (.mapIter (some bm) clock (seen.push e.born) clock) = W2 at hrun
        have hrlt : r < W.heap.size := (Array.getElem?_eq_some_iff.1 hrW).1
        have hblt : bm < W.heap.size := (Array.getElem?_eq_some_iff.1 hbW).1
        have hW1h : W1.heap = W.heap := by rcases hW1 with rfl | rfl <;> rfl
        have g1 : W2.heap.size = W.heap.size := by rw [← hW2]; simp [setBlock, hW1h]
        have g2 : ∀ b, b ≠ r → W2.heap[b]? = W.heap[b]? := fun b hb => by
          rw [← hW2]; simp only [setBlock, hW1h]; rw [Array.getElem?_setIfInBounds_ne (Ne.symm hb)]
        have g3 : W2.heap[r]? = some (.mapIter (some bm) clock (seen.push e.born) clock) := by
          rw [← hW2]; simp only [setBlock, hW1h]; rw [Array.getElem?_setIfInBounds_self_of_lt hrlt]
        have g4 : W2.os = W.os ∧ W2.tape = W.tape ∧ W2.output = W.output ∧ W.drawn ≤ W2.drawn := by
          rw [← hW2]
          rcases hW1 with rfl | rfl
          · exact ⟨rfl, rfl, rfl, Nat.le_refl _⟩
          · exact ⟨rfl, rfl, rfl, Nat.le_succ _⟩
        have hkx : ∀ b, b < W.heap.size → ¬ Xm b → W2.heap[b]? = W.heap[b]? := fun b _ hn => g2 b (fun e => hn (.inr (.inr e)))
        have hR2 := hRx.keepW (w' := W2) (by omega) hkx
        have hF2 := hFx.keepW (w' := W2) (by omega) hkx
        have t2 := tx.keepW g4.1 g4.2.1 ⟨g4.2.2.1, g4.2.2.2⟩ (by omega) (fun b hb => g2 b (by omega))
        have hkv1 := hk1.trX (X' := Xm) t2 hX
        have hkv2 := hk2.trX (X' := Xm) t2 hX
        refine wpOps_value q2 hg1 (v := .tuple #[.bool true, e.key, e.val]) (w' := W2) (by simp only [execOp, ho1, hval, ← hv, Sem.run_bind, hrun, Result.andThen_ok, Sem.run_pure]) ?_
        rw [hd1, ← List.append_nil ((List.range l1.length).map Nat.succ)]
        refine evOps_app hT hcf _ l1 _ _ s2 ρx W2 _ q3 hs2 hR2 (hF2.put (some d1) (vr_tup3 (.bool true) hkv1 hkv2)) ?_
        · intro a3 W3 ρ3 hR3 hF3 t3
          simp only [wpOps, Exit.then]
          have hc := hF3.ev c
          rw [hc2] at hc
          refine wp_seq (wp_cond (t := true) hc.bool_inv (wp_skip ?_))
          simp only [Exit.then]
          refine wp_block (wp_seq (wp_region ?_))
          obtain ⟨p1, p2, p3⟩ := range_tail h2
          rw [p1]
          have hval3 : a3.eval (.tmp dr) = v := by
            have := hF3.ev (.tmp dr)
            rw [hdr2] at this
            cases this; rfl
          have hr3 : W3.heap[r]? = some (.mapIter (some bm) clock (seen.push e.born) clock) := by rw [t3.keep r (by omega) (own_live hR2 (.inr (.inr rfl)))]; exact g3
          have hb3 : W3.heap[bm]? = some (.map ces clock) := by rw [t3.keep bm (by omega) (own_live hR2 (.inr (.inl rfl))), g2 bm (by omega)]; exact hbW
          have hent := run_entry_at (P := P) W3 r bm clock seen ces clock e hr3 hb3 (by simpa using he'.1) hnd
          refine wpOps_value p2 hg2 (v := .tuple #[e.key, e.val]) (w' := W3) (by simp only [execOp, ho2, hval3, ← hv, Sem.run_bind, hent, Result.andThen_ok, Sem.run_pure]) ?_
          have hkv1' := hkv1.tr t3
          have hkv2' := hkv2.tr t3
          rw [hd2, ← List.append_nil ((List.range l2.length).map Nat.succ)]
          refine evOps_app hT hcf _ l2 _ _ s3 ρ3 W3 _ p3 hs3 hR3 (hF3.put (some d3) (vr_tup2 hkv1' hkv2')) ?_
          · intro a4 W4 ρ4 hR4 hF4 t4
            simp only [wpOps, Exit.then]
            refine wp_mono (hbody Xm ρ4 W4 a4 hR4 hF4) ?_
            rintro ex a5 W5 ⟨x, s5, ρ5, rfl, ⟨hx, hi5⟩, hR5, hF5, t5⟩
            have hr5 : W5.heap[r]? = some (.mapIter (some bm) clock (seen.push e.born) clock) := by
              rw [t5.keep r (by have := t3.size; have := t4.size; omega) (own_live hR4 (.inr (.inr rfl))), t4.keep r (by have := t3.size; omega) (own_live hR3 (.inr (.inr rfl)))]; exact hr3
            have hb5 : W5.heap[bm]? = some (.map ces clock) := by
              rw [t5.keep bm (by have := t3.size; have := t4.size; omega) (own_live hR4 (.inr (.inl rfl))), t4.keep bm (by have := t3.size; omega) (own_live hR3 (.inr (.inl rfl)))]; exact hb3
            have hgo := ih (l ++ [i]) s5 ρ5 W5 a5 (seen.push e.born) hi5 (by rw [List.nodup_append]; exact ⟨hnodup, by simp, fun a ha b hb => by simp at hb; subst hb; exact fun e => hni (e ▸ ha)⟩)
              (fun j hj => by rcases List.mem_append.1 hj with hj | hj; exact hlt j hj; simp at hj; subst hj; exact hil) (by simp; omega) hR5 hF5 (((t2.trans t3).trans t4).trans t5) hr5 (by simp [hseen, hborn i e hic]) hb5
            rcases hx with rfl | rfl
            · simp only [AX.ex, Exit.inBlock]; exact hgo
            · simp only [AX.ex, Exit.inBlock, if_true]; exact hgo
  exact key _ [] _ ρ1 _ _ #[] (hI0 v) List.nodup_nil (fun i h => by simp at h) (by simp) hRm hFm tB0 (by rw [← hr]; exact heap_alloc_new w1 _) rfl (by rw [heap_alloc_old w1 _ (by omega)]; exact hb)

end Go.Am

/- The judgement on quick frames, with rules: for proofs at inputs that are not written out. -/
set_option linter.unusedVariables false
set_option linter.unusedSimpArgs false
namespace Go.Am
variable {P : Program} {T : Tab}

abbrev PostF := AX → FrA → St → Prop

/-- From this frame and these objects the code comes to an end that satisfies Q. -/
def JF (P : Program) (n : Nat) (c : Code) (l : FrA) (σ : St) (Q : PostF) : Prop := JC P c (toFr n l, σ) fun x s => ∃ l', s.1 = toFr n l' ∧ Q x l' s.2

def PostF.then (K : FrA → St → Prop) (Q : PostF) : PostF
  | .norm, l, σ => K l σ
  | x, l, σ => Q x l σ

def PostF.block (id : Nat) (Q : PostF) : PostF
  | .exit id', l, σ => if id' = id then Q .norm l σ else Q (.exit id') l σ
  | x, l, σ => Q x l σ

theorem JF.mono {n : Nat} {c : Code} {l : FrA} {σ : St} {Q Q' : PostF} (h : JF P n c l σ Q) (hq : ∀ x l σ, Q x l σ → Q' x l σ) : JF P n c l σ Q' :=
  JC.mono h fun x s ⟨l', h1, h2⟩ => ⟨l', h1, hq _ _ _ h2⟩

theorem JF.skip {n : Nat} {l : FrA} {σ : St} {Q : PostF} (h : Q .norm l σ) : JF P n .skip l σ Q := JC.skip ⟨l, rfl, h⟩
theorem JF.exit {n id : Nat} {l : FrA} {σ : St} {Q : PostF} (h : Q (.exit id) l σ) : JF P n (.exit id) l σ Q := JC.exit ⟨l, rfl, h⟩
theorem JF.ret {n : Nat} {l : FrA} {σ : St} {Q : PostF} (h : Q .ret l σ) : JF P n .ret l σ Q := JC.ret ⟨l, rfl, h⟩
theorem JF.label {n id : Nat} {l : FrA} {σ : St} {Q : PostF} (h : Q .norm l σ) : JF P n (.label id) l σ Q := JC.label ⟨l, rfl, h⟩

theorem JF.seq {n : Nat} {x y : Code} {l : FrA} {σ : St} {Q : PostF} (h : JF P n x l σ (Q.then fun l' σ' => JF P n y l' σ' Q)) : JF P n (.seq x y) l σ Q := by
  refine JC.seq (JC.mono h ?_)
  rintro a ⟨fr, σ'⟩ ⟨l', rfl, h2⟩
  cases a with
  | norm => exact h2
  | exit id => exact ⟨l', rfl, h2⟩
  | ret => exact ⟨l', rfl, h2⟩

theorem JF.cond {n : Nat} {c : Operand} {x y : Code} {l : FrA} {σ : St} {Q : PostF} {t : Bool} (hc : evA n l c = .bool t) (h : JF P n (if t then x else y) l σ Q) : JF P n (.cond c x y) l σ Q :=
  JC.cond (t := t) (by rw [ev_toFr]; exact hc) h

theorem JF.block {n id : Nat} {c : Code} {l : FrA} {σ : St} {Q : PostF} (h : JF P n c l σ (Q.block id)) : JF P n (.block id c) l σ Q := by
  refine JC.block (JC.mono h ?_)
  rintro a ⟨fr, σ'⟩ ⟨l', rfl, h2⟩
  cases a with
  | norm => exact ⟨l', rfl, h2⟩
  | exit id' =>
    simp only [PostF.block] at h2
    simp only [Post.block]
    split at h2
    · rename_i he; rw [if_pos he]; exact ⟨l', rfl, h2⟩
    · rename_i he; rw [if_neg he]; exact ⟨l', rfl, h2⟩
  | ret => exact ⟨l', rfl, h2⟩

theorem JF.scope {n : Nat} {c : Code} {l : FrA} {σ : St} {Q : PostF} (h : JF P n c l σ Q) : JF P n (.scope c) l σ Q := JC.scope h

theorem JF.loop {n : Nat} {c : Code} {Q : PostF} (I : FrA → St → Prop) (μ : FrA → St → Nat) {l : FrA} {σ : St} (h : I l σ) (hI : ∀ l σ, I l σ → JF P n c l σ (Q.then fun l' σ' => I l' σ' ∧ μ l' σ' < μ l σ)) : JF P n (.loop c) l σ Q := by
  have key : ∀ m l1 σ1, I l1 σ1 → μ l1 σ1 < m → ∀ (X : Nat → Prop) (ρ0 : Rho) (w0 : World) (σ0 : St) ρ w a, Rel X ρ σ1 w → FR X ρ σ1 w (toFr n l1) a → Tr ρ0 σ0 w0 ρ σ1 w →
      Code.rounds P c (Outs X ρ0 σ0 w0 fun x s => ∃ l', s.1 = toFr n l' ∧ Q x l' s.2) m a w := by
    intro m
    induction m with
    | zero => intro l1 σ1 _ h; omega
    | succ m ih =>
      intro l1 σ1 hi hm X ρ0 w0 σ0 ρ w a hR hF t
      rw [rounds_succ]
      refine wp_mono (hI l1 σ1 hi X ρ w a hR hF) ?_
      rintro e a' w' ⟨x, ⟨fr, σ2⟩, ρ', rfl, ⟨l', h1, h2⟩, h3, h4, h5⟩
      simp only at h1
      subst h1
      cases x with
      | norm => exact ih l' σ2 h2.1 (by have := h2.2; simp only at this; omega) X ρ0 w0 σ0 ρ' w' a' h3 h4 (t.trans h5)
      | exit id => exact ⟨.exit id, _, ρ', rfl, ⟨l', rfl, h2⟩, h3, h4, t.trans h5⟩
      | ret => exact ⟨.ret, _, ρ', rfl, ⟨l', rfl, h2⟩, h3, h4, t.trans h5⟩
  intro X ρ w a hR hF
  exact wp_loop_rounds (μ l σ + 1) (key _ l σ h (Nat.lt_succ_self _) X ρ w σ ρ w a hR hF (Tr.refl ..))

theorem JF.region {cf : CallF} (hT : TabOK P T) (hcf : CfOK P cf) {n id : Nat} {ops : Array Oper} {l l' : FrA} {σ σ' : St} {Q : PostF} (h : opsF T cf ops.toList n ops.toList l σ = some (l', σ')) (hq : Q .norm l' σ') : JF P n (.region id ops false) l σ Q :=
  JC.region (JO.ops hT hcf (opsF_ok h) ⟨l', rfl, hq⟩)

theorem JF.draw {cf : CallF} {pol : FuncId → Bool} (hT : TabOK P T) (hcf : CfOK P cf) (hpol : PolOK pol cf) (hm : P.follows .mixedOrders = true) {n id : Nat} {ops : Array Oper} {l l' : FrA} {σ σ' : St} {Q : PostF} (is : List Nat)
    (hs : schOK T.lits pol ops ops.size (Array.replicate ops.size false) is = true) (h : schF T cf ops.toList n is l σ = some (l', σ')) (hq : Q .norm l' σ') : JF P n (.region id ops true) l σ Q :=
  JC.draw hT hcf hm (schOK_sound hpol is _ _ _ _ hs (schF_ok h)) ⟨l', rfl, hq⟩

/-- A function's body. -/
def endQ (T : Tab) (fn : Func) (Q : AV → St → Prop) : PostF
  | .norm, l, σ | .ret, l, σ => ∃ v, endF T fn l σ = some (v, σ) ∧ Q v σ
  | .exit _, _, _ => False

theorem callsQ_of_JF (hT : TabOK P T) {f : FuncId} {fn : Func} {c : Code} (hf : P.funcs[f]? = some fn) (hb : fn.body = some c) {args : List AV} {σ : St} {Q : AV → St → Prop} (ha : args.length ≤ fn.ntmps)
    (h : JF P fn.ntmps c (argsA 0 args) σ (endQ T fn Q)) : CallsQ P f args σ Q := by
  refine callsQ_of_JC hT hf hb ?_
  rw [← toFr_args ha]
  refine JC.mono h ?_
  rintro x ⟨fr, σ'⟩ ⟨l', rfl, h2⟩
  cases x with
  | norm => obtain ⟨v, hv, hq⟩ := h2; exact ⟨v, (endF_ok hv).1, hq⟩
  | ret => obtain ⟨v, hv, hq⟩ := h2; exact ⟨v, (endF_ok hv).1, hq⟩
  | exit id => exact h2

end Go.Am

/- slices.Clone at no element; sort.Slice by its own pdqsort_func: as calls that the machine runs. -/
set_option linter.unusedVariables false
set_option linter.unusedSimpArgs false
namespace Go.Am
open Go.Sort Go.Shelf Go.RowKit Go.Lib Go.Proofs
variable {P : Program} {T : Tab}
noncomputable section

/-- Does a slice have no elements? -/
def isNone0 : AV → Bool
  | .nil0 => true
  | .snap 0 _ => true
  | .ref _ _ _ 0 _ => true
  | _ => false

theorem none0_inv {w : World} {M : Nat → Prop} {ρ : Rho} {σ : St} {x : AV} {v : Value} (h : isNone0 x = true) (hv : VR w M ρ σ x v) : ∃ p c, v = .slice p 0 c := by
  unfold isNone0 at h
  split at h
  · cases hv; exact ⟨_, _, rfl⟩
  · cases hv with
    | snap0 a c => exact ⟨_, _, rfl⟩
    | snap _ _ _ _ _ _ _ _ _ hn => exact absurd rfl hn
  · cases hv with
    | ref _ _ _ _ _ _ h0 => obtain ⟨ad, c, rfl, _⟩ := h0; exact ⟨_, _, rfl⟩
  · cases h

def cloneO (f : FuncId) : CallF → List AV → St → Option (AV × St) := fun run args σ =>
  match args with
  | [x] => if isNone0 x then some (.snap 0 [], σ) else run f [x] σ
  | _ => none

theorem cloneO_ok {f : FuncId} {k : Nat} {run0 : CallF} (hrun0 : CfOK P run0) (h1 : ∀ c, run0 f [.lit (.slice none 0 c)] [] = some (.nil0, []))
    {r : AV} {σ1 σ2 : St} {d : Nat} (h2 : run0 f [.ref 0 0 0 0 k] [⟨0, .dead⟩] = some (r, σ1)) (h3 : frz d σ1 r = some (.nil0, σ2))
    {run : CallF} (hrun : CfOK P run) {args : List AV} {σ : St} {v : AV} {σ' : St} (h : cloneO f run args σ = some (v, σ')) : CallsA P f args σ v σ' := by
  unfold cloneO at h
  split at h
  · rename_i x
    split at h
    · rename_i hx
      simp only [Option.some.injEq, Prod.mk.injEq] at h
      obtain ⟨rfl, rfl⟩ := h
      intro X ρ w cargs hR ha
      obtain ⟨hasz, hav⟩ := ha
      simp at hasz
      obtain ⟨v1, hcargs⟩ : ∃ v1, cargs = #[v1] := by
        match cargs, hasz with
        | ⟨[v1]⟩, _ => exact ⟨v1, rfl⟩
      subst hcargs
      obtain ⟨p, c, rfl⟩ := none0_inv hx (hav 0 _ v1 rfl rfl)
      have hX : ∀ b, Mu X ρ σ b → b < w.heap.size := by
        rintro b (hx | ⟨id, o, ho, hw, rfl⟩)
        · exact hR.lt b hx
        · exact (hR.obj id o ho).lt (OB.live_own hw)
      -- what a call without objects of its own gives, over ours
      have back : ∀ (σ0 σ3 : St) (ρ3 ρ4 : Rho) (w' : World), (∀ b, ¬ Own ρ3 σ0 b) → Tr ρ3 σ0 w ρ4 σ3 w' → Rel X ρ σ w' ∧ Tr ρ σ w ρ σ w' := by
        intro σ0 σ3 ρ3 ρ4 w' hno t
        exact rel_grow hR t.os t.tape t.output t.size (fun b hb => t.keep b hb (hno b))
      cases p with
      | none =>
        have hR0 : Rel (Mu X ρ σ) ρ [] w := ⟨fun id o ho => by simp at ho, fun i j oi oj hi => by simp at hi, fun id o ho => by simp at ho, hX⟩
        refine (hrun0 f _ _ _ _ (h1 c) (Mu X ρ σ) ρ w #[.slice none 0 c] hR0 ⟨rfl, fun i c' v hc hv => ?_⟩).mono ?_
        · match i, hc, hv with
          | 0, hc, hv => simp at hc hv; subst hc hv; exact .lit _
          | i + 1, hc, hv => simp at hc
        · rintro e w' ⟨cv, ρ4, rfl, h5, h6, h7⟩
          obtain ⟨g1, g2⟩ := back [] [] ρ ρ4 w' (by rintro b ⟨id, o, ho, _⟩; simp at ho) h6
          refine ⟨cv, ρ, rfl, g1, g2, ?_⟩
          cases h7; exact .snap0 _ _
      | some ad =>
        have hR0 : Rel (Mu X ρ σ) ρ [⟨0, .dead⟩] w := by
          refine ⟨fun id o ho => ?_, fun i j oi oj hi hj h1 h2 hne => ?_, fun id o ho hl => ?_, hX⟩
          · match id, ho with
            | 0, ho => simp at ho; subst ho; trivial
            | id + 1, ho => simp at ho
          · match i, hi with
            | 0, hi => simp at hi; subst hi; simp [OB.own] at h1
            | i + 1, hi => simp at hi
          · match id, ho with
            | 0, ho => simp at ho; subst ho; simp [OB.live] at hl
            | id + 1, ho => simp at ho
        refine (hrun0 f _ _ _ _ h2 (Mu X ρ σ) ρ w #[.slice (some ad) 0 c] hR0 ⟨rfl, fun i c' v hc hv => ?_⟩).mono ?_
        · match i, hc, hv with
          | 0, hc, hv =>
            simp at hc hv; subst hc hv
            exact .ref _ _ _ _ _ _ ⟨ad, c, rfl, Nat.zero_le _⟩ ⟨_, rfl, Nat.le_refl _⟩ (fun o ho _ hcl => by simp at ho; subst ho; simp [OB.isCells] at hcl)
          | i + 1, hc, hv => simp at hc
        · rintro e w' ⟨cv, ρ4, rfl, h5, h6, h7⟩
          obtain ⟨g1, g2⟩ := back [⟨0, .dead⟩] _ ρ ρ4 w' (by
            rintro b ⟨id, o, ho, hown, _⟩
            match id, ho with
            | 0, ho => simp at ho; subst ho; simp [OB.own] at hown
            | id + 1, ho => simp at ho) h6
          refine ⟨cv, ρ, rfl, g1, g2, ?_⟩
          have := (frz_sound (X := Mu X ρ σ) (ρ := ρ4) (w := w') d _ _ _ _ h3).2 cv h5 h7
          cases this; exact .snap0 _ _
    · exact hrun f _ _ _ _ h
  · cases h

/-- How many elements? -/
def nOf : AV → Option Nat
  | .nil0 => some 0
  | .snap n _ => some n
  | .ref _ _ _ n _ => some n
  | _ => none

theorem nOf_inv {w : World} {M : Nat → Prop} {ρ : Rho} {σ : St} {x : AV} {v : Value} {n : Nat} (h : nOf x = some n) (hv : VR w M ρ σ x v) : ∃ p c, v = .slice p n c := by
  unfold nOf at h
  split at h <;> first | cases h | skip
  · cases hv; exact ⟨_, _, rfl⟩
  · cases hv with
    | snap0 a c => exact ⟨_, _, rfl⟩
    | snap _ _ _ _ _ _ _ _ _ hn => exact ⟨_, _, rfl⟩
  · cases hv with
    | ref _ _ _ _ _ _ h0 => obtain ⟨ad, c, rfl, _⟩ := h0; exact ⟨_, _, rfl⟩

def sliceO (t : TypeId) (pdq : FuncId) (fsw nb : Nat → Nat) : CallF → List AV → St → Option (AV × St) := fun run args σ =>
  match args with
  | [.iface t' x, .clo g la lb] => if t' = t then match nOf x with
    | some n => if n < 4611686018427387904 then
        match run pdq [.agg [.clo g la lb, .clo (fsw n) [] (List.replicate (nb n) .undef)], .int .i64 0, .int .i64 n, .int .i64 (Lib.bitLen n)] σ with
        | some (.tup [], σ') => some (.tup [], σ')
        | _ => none
      else none
    | none => none
    else none
  | _ => none

theorem sliceO_ok {ρg : Ren} (L : LaysGg.n6 P ρg) (t e : TypeId) (i ie : TypeInfo) (hi : P.info? t = some i) (hd : i.desc = .slice e) (hpk : P.packed t = false) (hie : P.info? e = some ie) (ke : Nat) (hke : ∀ w, (Extern.Rtype.kind e).run P w = .ok ke w)
    {fsw nb : Nat → Nat} (hf : ∀ n, P.funcs.findIdx? (·.name == "internal/reflectlite" ++ ".Swapper$" ++ toString (swapperK n ie ke)) = some (fsw n)) (hnb : ∀ n, nb n = if swapperK n ie ke ≤ 2 then 0 else 2)
    {run : CallF} (hrun : CfOK P run) {args : List AV} {σ : St} {v : AV} {σ' : St} (h : sliceO t (ρg.f 14) fsw nb run args σ = some (v, σ')) : CallsA P (ρg.f 6) args σ v σ' := by
  unfold sliceO at h
  split at h
  · rename_i t' x g la lb
    split at h
    · rename_i ht
      subst ht
      split at h
      · rename_i n hn
        split at h
        · rename_i hn62
          split at h
          · rename_i σ1 hr
            simp only [Option.some.injEq, Prod.mk.injEq] at h
            obtain ⟨rfl, rfl⟩ := h
            intro X ρ w cargs hR ha
            obtain ⟨hasz, hav⟩ := ha
            simp at hasz
            obtain ⟨v1, v2, hcargs⟩ : ∃ v1 v2, cargs = #[v1, v2] := by
              match cargs, hasz with
              | ⟨[v1, v2]⟩, _ => exact ⟨v1, v2, rfl⟩
            subst hcargs
            have hv1 := hav 0 _ v1 rfl rfl
            have hv2 := hav 1 _ v2 rfl rfl
            have h1 : ∃ p c, v1 = .iface t' (.slice p n c) := by
              cases hv1 with
              | iface _ _ u hu => obtain ⟨p, c, rfl⟩ := nOf_inv hn hu; exact ⟨p, c, rfl⟩
            obtain ⟨p, c, rfl⟩ := h1
            have h2 : ∃ la' lb', v2 = .func (.func g) la' lb' := by
              cases hv2 with
              | clo _ _ _ a' b' => exact ⟨_, _, rfl⟩
            obtain ⟨la', lb', rfl⟩ := h2
            obtain ⟨g1, g2⟩ := rel_grow hR (w' := sliceWorld P ρg t' p n c w) rfl rfl ⟨rfl, Nat.le_refl _⟩ (by simp [sliceWorld, heap_alloc]; omega) (fun b hb => by
              unfold sliceWorld
              rw [heap_alloc_old _ _ (by rw [heap_alloc]; simp; omega), heap_alloc_old _ _ hb])
            refine (Any.sort_Slice_of_pdq L t' e i ie hi hd hpk hie ke hke p n c hn62 (fsw n) (hf n) (.func g) la' lb' w (fun w' => ∃ ρ', Rel X ρ' σ1 w' ∧ Tr ρ σ w ρ' σ1 w') ?_).mono ?_
            · refine (hrun _ _ _ _ _ hr X ρ _ _ g1 ⟨rfl, fun j c' u hc hu => ?_⟩).mono ?_
              · match j, hc, hu with
                | 0, hc, hu =>
                  simp at hc hu; subst hc hu
                  refine .agg _ _ rfl fun j c' u hc hu => ?_
                  match j, hc, hu with
                  | 0, hc, hu => simp at hc hu; subst hc hu; exact hv2.tr g2
                  | 1, hc, hu =>
                    simp at hc hu; subst hc hu
                    refine .clo _ _ _ _ _ rfl ?_ (fun i c v hc => by simp at hc) (fun j c' u hc hu => ?_)
                    · rw [hnb, List.length_replicate]
                      unfold sliceBound
                      split <;> rfl
                    · have := List.mem_of_getElem? hc
                      rw [List.mem_replicate] at this
                      rw [this.2]; exact .undef _
                  | j + 2, hc, hu => simp at hc
                | 1, hc, hu => simp at hc hu; subst hc hu; exact .int _ _
                | 2, hc, hu => simp at hc hu; subst hc hu; exact .int _ _
                | 3, hc, hu => simp at hc hu; subst hc hu; exact .int _ _
                | j + 4, hc, hu => simp at hc
              · rintro e' w' ⟨cv, ρ', rfl, k1, k2, k3⟩
                refine ⟨?_, ρ', k1, g2.trans k2⟩
                cases k3 with
                | tup _ vs hs _ =>
                  have : vs = #[] := Array.eq_empty_of_size_eq_zero (by simpa using hs)
                  rw [this]
            · rintro e' w' ⟨rfl, ρ', k1, k2⟩
              exact ⟨_, ρ', rfl, k1, k2, .tup [] #[] rfl (fun i c v hc => by simp at hc)⟩
          · cases h
        · cases h
      · cases h
    · cases h
  · cases h

end
end Go.Am

/- The rule of ranges over maps, on quick frames; steps of lists of operations. -/
set_option linter.unusedVariables false
set_option linter.unusedSimpArgs false
namespace Go.Am
variable {P : Program} {T : Tab}

theorem JF.mapRange {cf : CallF} (hT : TabOK P T) (hcf : CfOK P cf) {n id0 id1 id2 b0 b1 : Nat} {ops0 ops1 ops2 : Array Oper} {l0 l1 l2 : List Oper} {o0 o1 o2 : Oper} {tm : TypeId} {xm c : Operand} {dr d1 d3 : Nat} {BODY : Code}
    (h0 : ops0.toList = l0 ++ [o0]) (ho0 : o0.op = .range tm xm) (hg0 : o0.guard = none) (hd0 : o0.dst = some dr)
    (h1 : ops1.toList = o1 :: l1) (ho1 : o1.op = .next (.tmp dr) false) (hg1 : o1.guard = none) (hd1 : o1.dst = some d1)
    (h2 : ops2.toList = o2 :: l2) (ho2 : o2.op = .entry (.tmp dr)) (hg2 : o2.guard = none) (hd2 : o2.dst = some d3)
    (hne : d1 ≠ dr) {tk te : TypeId} {n0 n1 : Nat} {z : List AV} {fl : Bool} (htm : T.ty tm = some ⟨.map tk te, n0, n1, z, fl⟩)
    {l la : FrA} {σ σ1 : St} {Q : PostF} (hl0 : opsF T cf ops0.toList n l0 l σ = some (la, σ1)) {mid ver d : Nat} {es0 es : List (AV × AV)} (hxm : evA n la xm = .mref mid) (hes0 : σ1[mid]? = some ⟨ver, .map es0⟩)
    {vs : List AV} {σz : St} (hz : frzL (frz d) σ1 (es0.map (·.2)) = some (vs, σz)) (hzip : es = zipV es0 vs)
    (I : Value → List Nat → FrA → St → Prop) (hIdr : ∀ v vis l σ, I v vis l σ → evA n l (.tmp dr) = .lit v) (hI0 : ∀ v, I v [] ((dr, .lit v) :: la) (σz.set mid ⟨ver, .dead⟩))
    (hstep : ∀ v vis l σ i kv, I v vis l σ → es[i]? = some kv → i ∉ vis → ∃ lb σ2 lc σ3, opsF T cf ops1.toList n l1 ((d1, .tup [.bool true, kv.1, kv.2]) :: l) σ = some (lb, σ2) ∧ evA n lb c = .bool true ∧ evA n lb (.tmp dr) = .lit v ∧
      opsF T cf ops2.toList n l2 ((d3, .tup [kv.1, kv.2]) :: lb) σ2 = some (lc, σ3) ∧ JF P n BODY lc σ3 (fun x l' σ' => (x = .norm ∨ x = .exit b1) ∧ I v (vis ++ [i]) l' σ'))
    (hend : ∀ v vis l σ, I v vis l σ → vis.Perm (List.range es.length) → ∃ lb σ2, opsF T cf ops1.toList n l1 ((d1, .tup [.bool false]) :: l) σ = some (lb, σ2) ∧ evA n lb c = .bool false ∧ Q .norm lb σ2) :
    JF P n (.seq (.region id0 ops0 false) (.block b0 (.loop (.seq (.region id1 ops1 false) (.seq (.cond c .skip (.exit b0)) (.block b1 (.seq (.region id2 ops2 false) BODY))))))) l σ Q := by
  refine JC.mapRange (s1 := (toFr n la, σ1)) hT hcf h0 ho0 hg0 hd0 h1 ho1 hg1 hd1 h2 ho2 hg2 hd2 hne htm (opsF_ok hl0) (by rw [ev_toFr]; exact hxm) hes0 hz hzip (fun v vis s => ∃ l, s.1 = toFr n l ∧ I v vis l s.2) ?_ ?_ ?_ ?_
  · rintro v vis ⟨fr, σ⟩ ⟨l, rfl, hi⟩
    rw [ev_toFr]; exact hIdr v vis l σ hi
  · intro v
    exact ⟨(dr, .lit v) :: la, put_toFr n la (some dr) (.lit v), hI0 v⟩
  · rintro v vis ⟨fr, σ⟩ i kv ⟨l, rfl, hi⟩ hkv hni
    obtain ⟨lb, σ2, lc, σ3, g1, g2, g3, g4, g5⟩ := hstep v vis l σ i kv hi hkv hni
    refine ⟨(toFr n lb, σ2), (toFr n lc, σ3), ?_, by rw [ev_toFr]; exact g2, by rw [ev_toFr]; exact g3, ?_, ?_⟩
    · have := put_toFr n l (some d1) (.tup [.bool true, kv.1, kv.2])
      rw [this]
      exact opsF_ok g1
    · have := put_toFr n lb (some d3) (.tup [kv.1, kv.2])
      rw [this]
      exact opsF_ok g4
    · refine JC.mono g5 ?_
      rintro x ⟨fr, σ'⟩ ⟨l', rfl, hx, hi'⟩
      exact ⟨hx, l', rfl, hi'⟩
  · rintro v vis ⟨fr, σ⟩ ⟨l, rfl, hi⟩ hperm
    obtain ⟨lb, σ2, g1, g2, g3⟩ := hend v vis l σ hi hperm
    refine ⟨(toFr n lb, σ2), ?_, by rw [ev_toFr]; exact g2, lb, rfl, g3⟩
    have := put_toFr n l (some d1) (.tup [.bool false])
    rw [this]
    exact opsF_ok g1

theorem opsF_cons {cf : CallF} {os : List Oper} {n : Nat} {o : Oper} {rest : List Oper} {l l' : FrA} {σ σ' : St} {r : Option (FrA × St)} (h : stepF T cf os n o l σ = some (l', σ')) (h2 : opsF T cf os n rest l' σ' = r) :
    opsF T cf os n (o :: rest) l σ = r := by
  simp only [opsF, h]; exact h2

theorem stepF_val {cf : CallF} {os : List Oper} {n : Nat} {o : Oper} {l : FrA} {σ σ' : St} {v : AV} (hw : wantedF os n o l = some true) (h : astepG T o (evA n l) σ = some (.val v σ')) : stepF T cf os n o l σ = some (putA l o.dst v, σ') := by
  unfold stepF; rw [hw]; simp only [h]

theorem stepF_skip {cf : CallF} {os : List Oper} {n : Nat} {o : Oper} {l : FrA} {σ σ' : St} (hw : wantedF os n o l = some true) (h : astepG T o (evA n l) σ = some (.skip σ')) : stepF T cf os n o l σ = some (putA l o.dst (.tup []), σ') := by
  unfold stepF; rw [hw]; simp only [h]

theorem stepF_call {cf : CallF} {os : List Oper} {n : Nat} {o : Oper} {l : FrA} {σ σ' : St} {f : FuncId} {args : List AV} {v : AV} (hw : wantedF os n o l = some true) (h : astepG T o (evA n l) σ = some (.call f args)) (hc : cf f args σ = some (v, σ')) :
    stepF T cf os n o l σ = some (putA l o.dst v, σ') := by
  unfold stepF; rw [hw]; simp only [h, hc]

/-- append behind the end of a row of our own. -/
theorem append1_snoc {t : TypeId} {σ : St} {i : TI} {id ver n m k : Nat} {cs new : List AV} {x : AV} (hi : elemTI T t = some i) (hs : i.size = k) (hk : k ≠ 0) (hz : i.zero.length = i.size) (hn : news σ i.size x = some (m, new)) (hone : new.all AV.one = true)
    (ho : σ[id]? = some ⟨ver, .cells cs true⟩) (hc : n * k = cs.length) (hm : m ≠ 0) (hroom : room47 (n + m) i.bytes = true) :
    append1 T t σ (.ref id ver 0 n k) x = some (.ref id (ver + 1) 0 (n + m) k, σ.set id ⟨ver + 1, .cells (cs ++ new) true⟩) := by
  unfold append1
  rw [hi]
  simp only [Option.bind_some, hn]
  rw [if_neg (by rw [hs]; simp [hk, hone]; rw [← hs]; exact hz)]
  rw [if_pos hs.symm, if_neg hm]
  simp only [ho]
  rw [if_pos (by refine ⟨by simp, by omega, hroom⟩)]
  simp

theorem append1_new {t : TypeId} {σ : St} {i : TI} {m : Nat} {new : List AV} {x : AV} (hi : elemTI T t = some i) (hk : i.size ≠ 0) (hz : i.zero.length = i.size) (hn : news σ i.size x = some (m, new)) (hone : new.all AV.one = true)
    (hm : m ≠ 0) (hroom : room47 m i.bytes = true) : append1 T t σ .nil0 x = some (.ref σ.length 0 0 m i.size, σ ++ [⟨0, .cells new true⟩]) := by
  unfold append1
  rw [hi]
  simp only [Option.bind_some, hn]
  rw [if_neg (by simp [hk, hone]; exact hz)]
  rw [if_neg hm, if_pos hroom]

/-- Values that are as they are. -/
def AV.plain : AV → Bool
  | .bool _ | .int .. | .str _ | .snap .. | .fptr _ | .nil0 | .nilptr | .nilmap | .nilfn | .nilif => true
  | _ => false

theorem frz_plain {d : Nat} {σ : St} {v : AV} (h : v.plain = true) : frz (d + 1) σ v = some (v, σ) := by
  cases v <;> simp [AV.plain] at h <;> rfl

theorem frzL_plain {d : Nat} {σ : St} : ∀ {l : List AV}, (∀ v ∈ l, v.plain = true) → frzL (frz (d + 1)) σ l = some (l, σ)
  | [], _ => rfl
  | v :: l, h => by
    have := frzL_plain (d := d) (σ := σ) (l := l) (fun u hu => h u (List.mem_cons_of_mem _ hu))
    simp only [frzL, frz_plain (h v List.mem_cons_self), Option.bind_some, this, Option.map_some]

theorem plain_one {v : AV} (h : v.plain = true) : v.one = true := by cases v <;> simp_all [AV.plain, AV.one]
theorem plain_closed1 {v : AV} (h : v.plain = true) : v.closed1 = true := by cases v <;> simp_all [AV.plain, AV.closed1]

open Classical in
/-- One more call that is known. -/
noncomputable def withFact (cf : CallF) (f : FuncId) (args : List AV) (σ : St) (r : AV × St) : CallF := fun f' args' σ' => if f' = f ∧ args' = args ∧ σ' = σ then some r else cf f' args' σ'

theorem withFact_ok {cf : CallF} (hcf : CfOK P cf) {f : FuncId} {args : List AV} {σ : St} {r : AV × St} (h : CallsA P f args σ r.1 r.2) : CfOK P (withFact cf f args σ r) := by
  intro f' args' σ' v σ2 hv
  unfold withFact at hv
  split at hv
  · rename_i hc
    obtain ⟨rfl, rfl, rfl⟩ := hc
    cases hv
    exact h
  · exact hcf _ _ _ _ _ hv

theorem withFact_eq {cf : CallF} {f : FuncId} {args : List AV} {σ : St} {r : AV × St} : withFact cf f args σ r f args σ = some r := by
  unfold withFact
  rw [if_pos ⟨rfl, rfl, rfl⟩]

theorem CallsQ.of (f : FuncId) {args : List AV} {σ : St} {Q : AV → St → Prop} {T : Tab} (hT : TabOK P T) {fn : Func} {c : Code} (hf : P.funcs[f]? = some fn) (hb : fn.body = some c) (ha : args.length ≤ fn.ntmps)
    (h : JF P fn.ntmps c (argsA 0 args) σ (endQ T fn Q)) : CallsQ P f args σ Q := callsQ_of_JF hT hf hb ha h

end Go.Am
namespace Go.Am
variable {P : Program} {T : Tab}
theorem step_append {t tx : TypeId} {σ σ' : St} {s x v : AV} {e : TypeId} {a b : Nat} {z : List AV} {fl : Bool} (hT : T.ty tx = some ⟨.slice e, a, b, z, fl⟩) (hx : isStr x = false) (h : append1 T t σ s x = some (v, σ')) : appendB T t tx σ s x = some (.val v σ') := by
  unfold appendB
  rw [hT]
  simp only [hx, Bool.false_eq_true, if_false, h, Option.map_some]
end Go.Am
namespace Go.Am
variable {P : Program} {T : Tab}
theorem stepF_append {cf : CallF} {os : List Oper} {n : Nat} {o : Oper} {l : FrA} {σ σ' : St} {a b : Operand} {t tx e : TypeId} {k1 k2 : Nat} {z : List AV} {fl : Bool} {s x v : AV}
    (ho : o.op = .call { callee := .builtin .append, args := #[a, b], argTypes := #[t, tx] }) (hw : wantedF os n o l = some true) (hT : T.ty tx = some ⟨.slice e, k1, k2, z, fl⟩) (hs : evA n l a = s) (hx : evA n l b = x)
    (hxs : isStr x = false) (h : append1 T t σ s x = some (v, σ')) : stepF T cf os n o l σ = some (putA l o.dst v, σ') := by
  refine stepF_val hw ?_
  unfold astepG
  rw [ho]
  simp only [Array.toList, List.map, hs, hx, builtinA]
  exact step_append hT hxs h
end Go.Am
namespace Go.Am
variable {P : Program} {T : Tab}
theorem stepF_callv {cf : CallF} {os : List Oper} {n : Nat} {o : Oper} {l : FrA} {σ σ' : St} {fop : Operand} {ars : Array Operand} {ats : Array TypeId} {f : FuncId} {fn : Func} {first cap args : List AV} {v : AV}
    (ho : o.op = .call { callee := .value fop, args := ars, argTypes := ats }) (hw : wantedF os n o l = some true) (hf : evA n l fop = .clo f first cap) (hfn : T.fn f = some fn) (has : ars.toList.map (evA n l) = args)
    (hc : cf f (first ++ args ++ cap) σ = some (v, σ')) : stepF T cf os n o l σ = some (putA l o.dst v, σ') := by
  refine stepF_call (f := f) (args := first ++ args ++ cap) hw ?_ hc
  unfold astepG
  rw [ho]
  simp only [hf, callA, hfn, has]
theorem map2 {g : Operand → AV} {a b : Operand} {x y : AV} (hx : g a = x) (hy : g b = y) : #[a, b].toList.map g = [x, y] := by simp [hx, hy]
theorem map1 {g : Operand → AV} {a : Operand} {x : AV} (hx : g a = x) : #[a].toList.map g = [x] := by simp [hx]
theorem map3 {g : Operand → AV} {a b c : Operand} {x y z : AV} (hx : g a = x) (hy : g b = y) (hz : g c = z) : #[a, b, c].toList.map g = [x, y, z] := by simp [hx, hy, hz]
end Go.Am
