/- A part of the proof: the abstract machine and what it shows of the program. -/
import Derived.Test.YtollmmiifppfnaaGreatDoorMachE
import Derived.Shelf.SlSortCmp.NoneTotal

/- Calls that change nothing that was there; slices.SortFunc at structs, out of the kit's contract. -/
set_option linter.unusedVariables false
set_option linter.unusedSimpArgs false
namespace Go.Am
open Go.Sort
variable {P : Program} {T : Tab} {X : Nat → Prop} {ρ : Rho} {σ : St} {w : World}

theorem world_grow {W w' : World} (hos : w'.os = W.os) (ht : w'.tape = W.tape) (ho : w'.output = W.output) (hd : W.drawn ≤ w'.drawn) (hs : W.heap.size ≤ w'.heap.size) (hk : ∀ b, b < W.heap.size → w'.heap[b]? = W.heap[b]?) :
    ∃ q os, w' = grow (W.drewN q) os := by
  refine ⟨w'.drawn - W.drawn, w'.heap.extract W.heap.size w'.heap.size, ?_⟩
  have h : w'.heap = W.heap ++ w'.heap.extract W.heap.size w'.heap.size := by
    apply Array.ext_getElem?
    intro i
    rw [Array.getElem?_append]
    split
    · rename_i hi; exact hk i hi
    · rename_i hi
      rw [Array.getElem?_extract]
      split
      · congr 1; omega
      · rename_i hj
        rw [Array.getElem?_eq_none]
        omega
  cases w'; cases W
  simp only [grow, World.drewN, World.mk.injEq] at *
  subst hos ht ho
  refine ⟨h, rfl, by omega, rfl, rfl⟩

/-- A frozen call leaves all that was there. -/
theorem callsF_world {f : FuncId} {args : List AV} {v : AV} (h : CallsF P f args v) {W : World} {cargs : Array Value} (hs : cargs.size = args.length)
    (ha : ∀ (i : Nat) c u, args[i]? = some c → cargs[i]? = some u → VC W (fun _ => False) c u) :
    Calls P f cargs W fun e w' => ∃ cv q os, e = .returned cv ∧ VC w' (fun _ => False) v cv ∧ w' = grow (W.drewN q) os := by
  have hR0 : Rel (fun _ => False) (fun _ => ⟨0, 0, 0⟩) [] W := ⟨fun id o ho => by simp at ho, fun i j oi oj hi => by simp at hi, fun id o ho => by simp at ho, fun b hb => hb.elim⟩
  have hM : ∀ b, Mu (fun _ => False) (fun _ => ⟨0, 0, 0⟩) [] b → False := by
    rintro b (hx | ⟨id, o, ho, _⟩)
    · exact hx
    · simp at ho
  refine (h (fun _ => False) (fun _ => ⟨0, 0, 0⟩) W cargs hR0 ⟨hs, fun i c u hc hu => (((ha i c u hc hu).keep (Nat.le_refl _) (fun b _ _ hm => hM b hm) (fun _ _ _ => rfl)).lift _ _)⟩).mono ?_
  rintro e w' ⟨cv, ρ', r, σ', rfl, ⟨d, σ2, hf⟩, h3, h4, h5⟩
  obtain ⟨hl, hv⟩ := frz_sound (X := fun _ => False) (ρ := ρ') (w := w') d σ' r v σ2 hf
  have hc := hv cv h3 h5
  obtain ⟨q, os, hw⟩ := world_grow h4.os h4.tape h4.output.1 h4.output.2 h4.size (fun b hb => h4.keep b hb (by rintro ⟨id, o, ho, _⟩; simp at ho))
  exact ⟨cv, q, os, rfl, hc.keep (Nat.le_refl _) (fun _ _ _ hm => hm) (fun _ _ _ => rfl), hw⟩

theorem VC.int_inv {w : World} {M : Nat → Prop} {k : IntKind} {n : Int} {v : Value} (h : VC w M (.int k n) v) : v = .int k n := by cases h; rfl
theorem VC.bool_inv {w : World} {M : Nat → Prop} {b : Bool} {v : Value} (h : VC w M (.bool b) v) : v = .bool b := by cases h; rfl

theorem VC.one {w : World} {M : Nat → Prop} {c : AV} {v : Value} (h : VC w M c v) (ho : c.one = true) : v.oneCell' = true := (h.lift (fun _ => ⟨0, 0, 0⟩) []).one ho

def chunk (k j : Nat) (fs : List AV) : List AV := (fs.drop (j * k)).take k

theorem get_chunk {k j t : Nat} {fs : List AV} (ht : t < k) : (chunk k j fs)[t]? = fs[j * k + t]? := by
  unfold chunk
  rw [List.getElem?_take_of_lt ht, List.getElem?_drop]

theorem len_chunk {k j n : Nat} {fs : List AV} (h : fs.length = n * k) (hj : j < n) : (chunk k j fs).length = k := by
  unfold chunk
  have : j * k + k ≤ n * k := by
    have := Nat.mul_le_mul_right k (show j + 1 ≤ n from hj)
    rwa [Nat.add_mul, Nat.one_mul] at this
  simp; omega

theorem len_flat {k n : Nat} {fs : List AV} (h : fs.length = n * k) : ∀ (π : List Nat), (∀ j ∈ π, j < n) → (π.flatMap fun j => chunk k j fs).length = π.length * k
  | [], _ => by simp
  | j :: π, hπ => by
    rw [List.flatMap_cons, List.length_append, len_chunk h (hπ j (by simp)), len_flat h π (fun i hi => hπ i (by simp [hi])), List.length_cons, Nat.add_mul]; omega

theorem get_flat {k n : Nat} {fs : List AV} (h : fs.length = n * k) : ∀ (π : List Nat), (∀ j ∈ π, j < n) → ∀ (i t : Nat) (j : Nat), π[i]? = some j → t < k → (π.flatMap fun j => chunk k j fs)[i * k + t]? = fs[j * k + t]?
  | [], _, i, t, j, hi, _ => by simp at hi
  | a :: π, hπ, 0, t, j, hi, ht => by
    simp at hi; subst hi
    rw [List.flatMap_cons, List.getElem?_append_left (by rw [len_chunk h (hπ a (by simp))]; omega), Nat.zero_mul, Nat.zero_add, get_chunk ht]
  | a :: π, hπ, i + 1, t, j, hi, ht => by
    simp at hi
    have hl := len_chunk h (hπ a (by simp))
    rw [List.flatMap_cons, List.getElem?_append_right (by rw [hl, Nat.add_mul]; omega), hl, show (i + 1) * k + t - k = i * k + t by rw [Nat.add_mul]; omega]
    exact get_flat h π (fun i hi => hπ i (by simp [hi])) i t j hi ht

/-- The order in which they come out. -/
def rankOf (π : List Nat) (n : Nat) (x : Fin n) : Nat := π.idxOf x.val

theorem rank_get {π : List Nat} {n : Nat} (hπ : π.Perm (List.range n)) (x : Fin n) : π[rankOf π n x]? = some x.val ∧ rankOf π n x < n := by
  have hm : x.val ∈ π := hπ.mem_iff.2 (by simp)
  have hlt : π.idxOf x.val < π.length := List.idxOf_lt_length_of_mem hm
  have hlen : π.length = n := by rw [hπ.length_eq]; simp
  refine ⟨?_, by unfold rankOf; omega⟩
  unfold rankOf
  rw [List.getElem?_eq_getElem hlt, List.getElem_idxOf hlt]

end Go.Am

/- slices.SortFunc at structs. -/
set_option linter.unusedVariables false
set_option linter.unusedSimpArgs false
namespace Go.Am
open Go.Sort Go.Shelf Go.RowKit Go.Lib Go.Proofs
variable {P : Program} {T : Tab} {X : Nat → Prop} {ρ : Rho} {σ : St} {w : World}

theorem heap_putRow_other {α : Type} [Inhabited α] (enc : α → List Value) (k : Nat) (w : World) (blk off : Nat) (d : Array α) (b : Nat) (h : b ≠ blk) : (putRowK enc k w blk off d).heap[b]? = w.heap[b]? := by
  simp only [putRowK, putRow, mapBlock, Array.getElem?_modify]
  rw [if_neg (Ne.symm h)]

theorem heap_sortWorld_other {α : Type} [Inhabited α] (enc : α → List Value) (k : Nat) (w : World) (blk off m : Nat) (d : Array α) (os : Array Obj) (b : Nat) (hb : b < w.heap.size) (h : b ≠ blk) : (sortWorldK enc k w blk off m d os).heap[b]? = w.heap[b]? := by
  unfold sortWorldK
  rw [heap_grow_old _ _ (by rw [size_putRowK]; exact hb), heap_putRow_other _ _ _ _ _ _ _ h]
  rfl

def idArr (n : Nat) : Array (Fin n) := Array.ofFn fun i => i
theorem size_idArr (n : Nat) : (idArr n).size = n := by simp [idArr]
theorem get_idArr (n i : Nat) (h : i < n) : (idArr n)[i]? = some ⟨i, h⟩ := by simp [idArr, h]

theorem perm_of_sorted {π : List Nat} {n : Nat} (hπ : π.Perm (List.range n)) {d' : Array (Fin n)} (hn : 0 < n) [Inhabited (Fin n)] (lt : Fin n → Fin n → Bool) (hlt : ∀ x y, lt x y = decide (rankOf π n x < rankOf π n y))
    (hp : PermIn 0 (idArr n).size (idArr n) d') (hs : SortedIn lt 0 (idArr n).size d') (i : Nat) (hi : i < n) : ∃ x, d'[i]? = some x ∧ π[i]? = some x.val := by
  obtain ⟨hsz, _, hperm⟩ := hp
  rw [← hsz] at hs
  have e1 : d'.extract 0 (idArr n).size = d' := by rw [← hsz]; exact Array.extract_size
  rw [e1, Array.extract_size] at hperm
  have hlen : π.length = n := by rw [hπ.length_eq]; simp
  have hnd : π.Nodup := hπ.nodup_iff.2 List.nodup_range
  have hmem : ∀ j ∈ π, j < n := fun j hj => by have := hπ.mem_iff.1 hj; simpa using this
  let f : Nat → Fin n := fun j => if h : j < n then ⟨j, h⟩ else default
  have hf : ∀ j ∈ π, (f j).val = j := fun j hj => by simp [f, hmem j hj]
  have hr : ∀ (i : Nat) (h : i < π.length), rankOf π n (f π[i]) = i := fun i h => by
    unfold rankOf
    rw [hf _ (List.getElem_mem h)]
    exact hnd.idxOf_getElem i h
  have hpf : (π.map f).Perm (idArr n).toList := by
    refine (hπ.map f).trans (List.Perm.of_eq ?_)
    apply List.ext_getElem?
    intro j
    rw [List.getElem?_map, Array.getElem?_toList (xs := idArr n)]
    rcases Nat.lt_or_ge j n with h | h
    · rw [get_idArr _ _ h]; simp [h, f]
    · rw [Array.getElem?_eq_none (xs := idArr n) (by rw [size_idArr]; exact h)]; simp [h]
  have key : d'.toList = π.map f := by
    refine List.Perm.eq_of_pairwise (le := fun x y => lt y x = false) ?_ ?_ ?_ (hperm.trans hpf.symm)
    · intro a b _ _ h1 h2
      rw [hlt] at h1 h2
      simp only [decide_eq_false_iff_not] at h1 h2
      have e : rankOf π n a = rankOf π n b := by omega
      have g1 := (rank_get hπ a).1
      rw [e, (rank_get hπ b).1] at g1
      simp at g1
      exact Fin.ext g1.symm
    · rw [List.pairwise_iff_getElem]
      intro i j hi hj hij
      simp at hi hj
      have := hs i j (Nat.zero_le _) hij hj
      rw [getElem!_pos d' i hi, getElem!_pos d' j hj] at this
      simpa using this
    · rw [List.pairwise_iff_getElem]
      intro i j hi hj hij
      simp at hi hj
      rw [List.getElem_map, List.getElem_map, hlt, hr i hi, hr j hj]
      simp; omega
  have hi' : i < π.length := by omega
  refine ⟨f π[i], ?_, ?_⟩
  · rw [← Array.getElem?_toList, key]; simp [hi']
  · rw [hf _ (List.getElem_mem hi'), List.getElem?_eq_getElem hi']

/-- What a sorted slice's call gives: 'π' lists the old places in the new order. -/
theorem sortFunc_A {ρf : Ren} (L : SlLaysF0.n6 P ρf) {k : Nat} (aE : ∀ w, (isAgg (ρf.t 24)).run P w = .ok true w) (zE : ∀ w, (Go.sizeOf (ρf.t 24)).run P w = .ok k w)
    {g : Nat} (eg : ∀ args w, (callFunc g args).run P w = .ok (.enter g args) w)
    {id ver off n d : Nat} {cs cap fs cap' : List AV} {σ1 σ2 : St} (ho0 : σ[id]? = some ⟨ver, .cells cs true⟩) (ho : ∃ o, σ2[id]? = some o ∧ o.ob.own = true) (hle : off + n * k ≤ cs.length) (hk : 0 < k) (hn : 0 < n) (hn62 : n < 4611686018427387904)
    (hz : frzL (frz d) σ ((cs.drop off).take (n * k)) = some (fs, σ1)) (hz2 : frzL (frz d) σ1 cap = some (cap', σ2)) (hone : fs.all AV.one = true)
    {π : List Nat} (hπ : π.Perm (List.range n))
    (hcmp : ∀ (i j a b : Nat), π[i]? = some a → π[j]? = some b → ∃ c : Int, CallsF P g ([.agg (chunk k a fs), .agg (chunk k b fs)] ++ cap') (.int .i64 c) ∧ ((c : Int) < 0 ↔ i < j)) :
    CallsA P (ρf.f 6) [.ref id ver off n k, .clo g [] cap] σ (.tup []) (σ2.set id ⟨ver, .cells (splice cs off (π.flatMap fun j => chunk k j fs)) true⟩) := by
  intro X ρ w cargs hR ha
  obtain ⟨hl1, hlen1, hv1⟩ := frzL_sound (X := X) (ρ := ρ) (w := w) (g := frz d) (fun σ v v' σ' h => frz_sound d σ v v' σ' h) _ _ _ _ hz
  obtain ⟨hl2, hlen2, hv2⟩ := frzL_sound (X := X) (ρ := ρ) (w := w) (g := frz d) (fun σ v v' σ' h => frz_sound d σ v v' σ' h) _ _ _ _ hz2
  have hR1 := hl1.rel hR
  have hR2 := hl2.rel hR1
  have hl := hl1.trans hl2
  have hfs : fs.length = n * k := by rw [hlen1]; simp; omega
  -- the object
  obtain ⟨o, ho, hown⟩ := ho
  obtain ⟨o0, ho0', hver0, hsame, _⟩ := hl.of id o ho
  rw [ho0] at ho0'
  cases ho0'
  have ho : σ2[id]? = some ⟨ver, .cells cs true⟩ := by
    obtain ⟨v2, ob2⟩ := o
    cases ob2 with
    | dead => simp [sameOB] at hsame
    | map => simp [sameOB] at hsame
    | cells cs2 b2 =>
      cases b2 with
      | false => simp [OB.own] at hown
      | true =>
        simp only [sameOB] at hsame
        simp only at hver0
        subst hsame hver0
        exact ho
  obtain ⟨cur, e, fz, hheap, htot, hfit, hfz, hcells⟩ := hR.obj id _ ho0
  -- the arguments
  obtain ⟨hasz, hav⟩ := ha
  simp at hasz
  obtain ⟨v1, v2, hcargs⟩ : ∃ v1 v2, cargs = #[v1, v2] := by
    match cargs, hasz with
    | ⟨[v1, v2]⟩, _ => exact ⟨v1, v2, rfl⟩
  subst hcargs
  have hvr1 := hav 0 _ v1 rfl rfl
  have hvr2 := hav 1 _ v2 rfl rfl
  generalize hB : (ρ id).block = blk at *
  generalize hO : (ρ id).base + off = ofs at *
  have h1 : ∃ c, v1 = .slice (some ⟨blk, ofs, none⟩) n c := by
    cases hvr1 with
    | ref _ _ _ _ _ _ h0 h1 h2 => obtain ⟨c, h, _⟩ := h2 _ ho0 rfl rfl; exact ⟨c, by rw [h, hB, hO]⟩
  obtain ⟨c1, rfl⟩ := h1
  have h2 : ∃ b' : Array Value, v2 = .func (.func g) #[] b' ∧ VRs w (Mu X ρ σ) ρ σ cap b' := by
    cases hvr2 with
    | clo _ _ _ a' b' ha hb hha hhb =>
      have : a' = #[] := Array.eq_empty_of_size_eq_zero (by simpa using ha)
      subst this
      exact ⟨b', rfl, hb, hhb⟩
  obtain ⟨b', rfl, hbs, hbv⟩ := h2
  have hcapv : ∀ (i : Nat) c v, cap'[i]? = some c → b'[i]? = some v → VC w (Mu X ρ σ2) c v := by
    have := hv2 (fun j => b'.getD j undef) hR1 (vrs_fn hbs fun i c v hc hv => (hbv i c v hc hv).less hl1)
    exact (vcs_of hlen2 hbs this).2
  let cv : Nat → Value := fun t => cur.getD (ofs + t) undef
  have hsz : ∀ t, t < n * k → ofs + t < cur.size := fun t ht => by omega
  have hget : ∀ t, t < n * k → cur[ofs + t]? = some (cv t) := fun t ht => by
    simp [cv, Array.getD_eq_getD_getElem?, Array.getElem?_eq_getElem (hsz t ht)]
  have hcell : ∀ t, t < n * k → w.cell? ⟨blk, ofs + t, none⟩ = some (cv t) := fun t ht => by
    simp [World.cell?, hheap, hget t ht]
  have hfv : ∀ (t : Nat) c, fs[t]? = some c → VC w (Mu X ρ σ1) c (cv t) := by
    refine hv1 cv hR ?_
    intro t c hc
    have ht : t < n * k := by have := (List.getElem?_eq_some_iff.1 hc).1; simp at this; omega
    rw [List.getElem?_take_of_lt ht, List.getElem?_drop] at hc
    obtain ⟨u, hu, hur⟩ := hcells _ c hc
    rw [show (ρ id).base + (off + t) = ofs + t by omega, hget t ht] at hu
    cases hu
    exact hur
  have hfv2 : ∀ (t : Nat) c, fs[t]? = some c → VC w (Mu X ρ σ2) c (cv t) := fun t c hc =>
    (hfv t c hc).keep (Nat.le_refl _) (fun b _ hn hm => hn (hm.imp (fun h => h) (fun h => hl2.own h))) (fun _ _ _ => rfl)
  have hblt : blk < w.heap.size := (Array.getElem?_eq_some_iff.1 hheap).1
  have hMb : Mu X ρ σ2 blk := .inr ⟨id, _, ho, rfl, hB⟩
  haveI : Inhabited (Fin n) := ⟨⟨0, hn⟩⟩
  let enc : Fin n → List Value := fun x => (List.range k).map fun t => cv (x.val * k + t)
  have hbk : ∀ (x : Nat), x < n → x * k + k ≤ n * k := fun x hx => by
    have := Nat.mul_le_mul_right k (show x + 1 ≤ n from hx)
    rwa [Nat.add_mul, Nat.one_mul] at this
  have henc : ∀ x : Fin n, (enc x).length = k := fun x => by simp [enc]
  have hgenc : ∀ (x : Fin n) (t : Nat), t < k → (enc x)[t]? = some (cv (x.val * k + t)) := fun x t ht => by simp [enc, ht]
  have hfone : ∀ t, t < n * k → ∃ c, fs[t]? = some c ∧ c.one = true := fun t ht => by
    have hl : t < fs.length := by omega
    exact ⟨fs[t], List.getElem?_eq_getElem hl, List.all_eq_true.1 hone _ (List.getElem_mem hl)⟩
  have hone' : ∀ x, ∀ v ∈ enc x, v.oneCell' = true := by
    intro x v hv
    simp only [enc, List.mem_map, List.mem_range] at hv
    obtain ⟨t, ht, rfl⟩ := hv
    have := hbk x.val x.isLt
    obtain ⟨c, hc, h1⟩ := hfone (x.val * k + t) (by omega)
    exact (hfv _ c hc).one h1
  -- the comparisons
  have hcf : ∀ x y : Fin n, ∃ c : Int, CallsF P g ([.agg (chunk k x.val fs), .agg (chunk k y.val fs)] ++ cap') (.int .i64 c) ∧ (c < 0 ↔ rankOf π n x < rankOf π n y) := fun x y =>
    hcmp _ _ _ _ (rank_get hπ x).1 (rank_get hπ y).1
  let cf : Fin n → Fin n → Int := fun x y => (hcf x y).choose
  have hcf1 : ∀ x y, CallsF P g ([.agg (chunk k x.val fs), .agg (chunk k y.val fs)] ++ cap') (.int .i64 (cf x y)) := fun x y => (hcf x y).choose_spec.1
  have hltO : ∀ x y, ltOf cf x y = decide (rankOf π n x < rankOf π n y) := fun x y => by
    have := (hcf x y).choose_spec.2
    unfold ltOf
    exact decide_eq_decide.2 this
  have hO' : SWO (ltOf cf) := by
    refine ⟨fun x => ?_, fun x y z h1 h2 => ?_, fun x y z h1 h2 => ?_⟩
    · rw [hltO]; simp
    · rw [hltO] at *; simp at *; omega
    · rw [hltO] at *; simp at *; omega
  have hds : (idArr n).size = n := size_idArr n
  have hflat : ∀ (d' : Array (Fin n)), d'.size = n → ∀ (i t : Nat) (x : Fin n), d'[i]? = some x → t < k → (flatK enc k d')[i * k + t]! = cv (x.val * k + t) := by
    intro d' hd i t x hx ht
    have hi : i < n := by rw [← hd]; exact (Array.getElem?_eq_some_iff.1 hx).1
    have := hbk i hi
    rw [get_flatK _ _ _ _ (by rw [hd]; omega)]
    have e1 : (i * k + t) / k = i := by rw [Nat.mul_comm, Nat.mul_add_div hk]; simp [Nat.div_eq_of_lt ht]
    have e2 : (i * k + t) % k = t := by rw [Nat.mul_comm, Nat.mul_add_mod, Nat.mod_eq_of_lt ht]
    rw [e1, e2]
    have e3 : d'[i]! = x := by rw [getElem!_def, hx]
    rw [e3, getElem!_def, hgenc x t ht]
  have hdiv : ∀ t, t < n * k → t / k < n ∧ t % k < k ∧ t / k * k + t % k = t := fun t ht => by
    refine ⟨(Nat.div_lt_iff_lt_mul hk).2 ht, Nat.mod_lt _ hk, ?_⟩
    rw [Nat.mul_comm]; exact Nat.div_add_mod t k
  have hflat0 : ∀ t, t < n * k → (flatK enc k (idArr n))[t]! = cv t := fun t ht => by
    obtain ⟨d1, d2, d3⟩ := hdiv t ht
    have := hflat (idArr n) hds (t / k) (t % k) ⟨t / k, d1⟩ (get_idArr _ _ d1) d2
    rw [d3] at this
    rw [this]
  have hH : HoldsK enc k w blk ofs (idArr n) := by
    intro j hj
    rw [size_flatK, hds] at hj
    refine ⟨by rw [hcell j hj]; show _ = some (flatK enc k (idArr n))[j]!; rw [hflat0 j hj], ?_⟩
    have := hfz _ (hsz j hj)
    simp [World.frozen?, hheap]
    omega
  have hcl : CmpLays P g b' enc k cf blk ofs (idArr n).size w := by
    intro m os dk hdk x y
    have hkeep : ∀ {c v}, VC w (Mu X ρ σ2) c v → VC (sortWorldK enc k w blk ofs m dk os) (fun _ => False) c v := fun h =>
      h.keep (size_sortWorldK_c enc k w blk ofs m dk os) (fun _ _ _ hm => hm) (fun b hb hn => heap_sortWorld_other enc k w blk ofs m dk os b hb (fun e => hn (e ▸ hMb)))
    have hchunk : ∀ x : Fin n, VC (sortWorldK enc k w blk ofs m dk os) (fun _ => False) (.agg (chunk k x.val fs)) (.agg (enc x).toArray) := by
      intro x
      refine .agg _ _ (by simp [henc, len_chunk hfs x.isLt]) ?_
      intro i c v hc hv
      have hi : i < k := by have := (List.getElem?_eq_some_iff.1 hc).1; rwa [len_chunk hfs x.isLt] at this
      rw [get_chunk hi] at hc
      simp only [List.getElem?_toArray, hgenc x i hi, Option.some.injEq] at hv
      subst hv
      exact hkeep (hfv2 _ c hc)
    refine (callsF_world (hcf1 x y) (W := sortWorldK enc k w blk ofs m dk os) (by simp; omega) ?_).mono ?_
    · intro i c u hc hu
      match i, hc, hu with
      | 0, hc, hu =>
        simp at hc; subst hc
        rw [Array.getElem?_append_left (by simp)] at hu
        simp at hu; subst hu
        exact hchunk x
      | 1, hc, hu =>
        simp at hc; subst hc
        rw [Array.getElem?_append_left (by simp)] at hu
        simp at hu; subst hu
        exact hchunk y
      | i + 2, hc, hu =>
        simp at hc
        rw [Array.getElem?_append_right (by simp)] at hu
        exact hkeep (hcapv i c u hc (by simpa using hu))
    · rintro e w' ⟨cv', q, os', rfl, hv, hw⟩
      exact ⟨by rw [hv.int_inv], q, os', hw⟩
  have hcon := AnyQ.slices_SortFunc L k aE zE enc henc hone' cf hO' g b' blk ofs c1 (idArr n) w eg hcl hH hblt (by rw [hds]; exact hn62)
  rw [hds] at hcon
  refine hcon.mono ?_
  rintro e' w' ⟨rfl, d', nn, os, hp, hs, hw⟩
  have hperm := perm_of_sorted hπ hn (ltOf cf) hltO (by rw [hds]; exact hp) (by rw [hds]; exact hs)
  have hd's : d'.size = n := hp.1.trans hds
  have hnewlen : (π.flatMap fun j => chunk k j fs).length = n * k := by
    rw [len_flat hfs π (fun j hj => by have := hπ.mem_iff.1 hj; simpa using this), hπ.length_eq]; simp
  have key := rel_upd (X := X) hR2 ho rfl ⟨ver, .cells (splice cs off (π.flatMap fun j => chunk k j fs)) true⟩ rfl (Nat.le_refl _) (ρ id) (fun _ _ => ⟨rfl, rfl⟩) (fun h => by cases h) (.inl rfl) (w' := w')
    (by rw [hw]; rfl) (by rw [hw]; rfl) (by rw [hw]; exact ⟨rfl, Nat.le_add_right _ _⟩) (by rw [hw]; exact size_sortWorldK_c enc k w blk ofs nn d' os)
    (fun b hb hne => by rw [hw]; exact heap_sortWorld_other enc k w blk ofs nn d' os b hb (hB ▸ hne)) ?_
  · refine ⟨.tuple #[], _, rfl, key.1, (hl.tr ρ w).trans key.2, .tup [] #[] rfl (fun i c v hc => by simp at hc)⟩
  · intro tr
    have hheap' : w'.heap[blk]? = some (.cells (putCells (fun v : Value => v) ofs (flatK enc k d') cur) e fz) := by
      rw [hw]
      unfold sortWorldK
      rw [heap_grow_old _ _ (by rw [size_putRowK]; exact hblt)]
      show (putRow (fun v : Value => v) (Sort.ahead w nn) blk ofs (flatK enc k d')).heap[blk]? = _
      simp only [putRow, mapBlock, Array.getElem?_modify, if_true]
      show Option.map _ (w.heap[blk]?) = _
      rw [hheap]
      rfl
    refine ⟨_, e, fz, by rw [hB]; exact hheap', by simp [putCells]; exact htot, by rw [len_splice (by rw [hnewlen]; exact hle)]; simp [putCells]; exact hfit, fun j hj => hfz j (by simpa [putCells] using hj), ?_⟩
    intro j c hc
    rw [get_splice (by rw [hnewlen]; exact hle), hnewlen] at hc
    have hpc : ∀ i, (putCells (fun v : Value => v) ofs (flatK enc k d') cur)[i]? = (cur[i]?).map fun x => if ofs ≤ i ∧ i < ofs + n * k then (flatK enc k d')[i - ofs]! else x := fun i => by
      simp [putCells, hd's]
    rw [hpc]
    by_cases hin : off ≤ j ∧ j < off + n * k
    · rw [if_neg (by omega), if_pos (by omega)] at hc
      obtain ⟨d1, d2, d3⟩ := hdiv (j - off) (by omega)
      obtain ⟨x, hx, hxπ⟩ := hperm _ d1
      have hg := get_flat hfs π (fun j hj => by have := hπ.mem_iff.1 hj; simpa using this) _ _ _ hxπ d2
      rw [d3, hc] at hg
      have hf := hflat d' hd's _ _ x hx d2
      rw [d3] at hf
      have hcu := hsz (j - off) (by omega)
      refine ⟨cv (x.val * k + (j - off) % k), ?_, ?_⟩
      · rw [show (ρ id).base + j = ofs + (j - off) by omega, Array.getElem?_eq_getElem hcu]
        simp only [Option.map_some]
        rw [if_pos (by omega), show ofs + (j - off) - ofs = j - off by omega, hf]
      · exact (((hfv2 _ c hg.symm).lift ρ σ2)).tr tr
    · have hc' : cs[j]? = some c := by
        by_cases h1 : j < off
        · rwa [if_pos h1] at hc
        · rwa [if_neg h1, if_neg (by omega)] at hc
      obtain ⟨u, hu, hur⟩ := hcells j c hc'
      refine ⟨u, ?_, (hur.less hl).tr tr⟩
      rw [hu]
      simp only [Option.map_some]
      rw [if_neg (by omega)]

end Go.Am

/- slices.SortFunc at structs, as a call that the machine runs. -/
set_option linter.unusedVariables false
set_option linter.unusedSimpArgs false
namespace Go.Am
open Go.Sort Go.Shelf Go.RowKit Go.Lib Go.Proofs
variable {P : Program} {T : Tab}
noncomputable section

theorem sortNone_A {ρf : Ren} (L : SlLaysF0.n6 P ρf) {σ : St} {x f : AV} (h : x = .nil0 ∨ (∃ id ver off k, x = .ref id ver off 0 k) ∨ (∃ cs, x = .snap 0 cs)) : CallsA P (ρf.f 6) [x, f] σ (.tup []) σ := by
  intro X ρ w cargs hR ha
  obtain ⟨hasz, hav⟩ := ha
  simp at hasz
  obtain ⟨v1, v2, hcargs⟩ : ∃ v1 v2, cargs = #[v1, v2] := by
    match cargs, hasz with
    | ⟨[v1, v2]⟩, _ => exact ⟨v1, v2, rfl⟩
  subst hcargs
  have hvr1 := hav 0 _ v1 rfl rfl
  have h1 : ∃ p c, v1 = .slice p 0 c := by
    rcases h with rfl | ⟨id, ver, off, k, rfl⟩ | ⟨cs, rfl⟩
    · cases hvr1; exact ⟨_, _, rfl⟩
    · cases hvr1 with
      | ref _ _ _ _ _ _ h0 => obtain ⟨ad, c, rfl, _⟩ := h0; exact ⟨_, _, rfl⟩
    · cases hvr1 with
      | snap0 a c => exact ⟨_, _, rfl⟩
      | snap _ _ _ _ _ _ _ _ _ hn => exact absurd rfl hn
  obtain ⟨p, c, rfl⟩ := h1
  refine (AnyF.slices_SortFunc_none L p c v2 w).mono ?_
  rintro e w' ⟨rfl, rfl⟩
  exact ⟨_, ρ, rfl, hR, Tr.refl .., .tup [] #[] rfl (fun i c v hc => by simp at hc)⟩

/-- One comparison. -/
def cmpO (run : CallF) (g k : Nat) (fs cap : List AV) (a b : Nat) : Option Int :=
  match run g ([.agg (chunk k a fs), .agg (chunk k b fs)] ++ cap) [] with
  | some (.int .i64 c, _) => some c
  | _ => none

theorem cmpO_ok {run : CallF} (hrun : CfOK P run) {g k : Nat} {fs cap : List AV} {a b : Nat} {c : Int} (h : cmpO run g k fs cap a b = some c) : CallsF P g ([.agg (chunk k a fs), .agg (chunk k b fs)] ++ cap) (.int .i64 c) := by
  unfold cmpO at h
  split at h
  · rename_i c' σ' hr
    cases h
    exact (hrun _ _ _ _ _ hr).toQ ⟨1, σ', rfl⟩
  · cases h

/-- Into a sorted list. -/
def insO (lt : Nat → Nat → Bool) (a : Nat) : List Nat → List Nat
  | [] => [a]
  | b :: l => if lt a b then a :: b :: l else b :: insO lt a l

def sortL (lt : Nat → Nat → Bool) : List Nat → List Nat
  | [] => []
  | a :: l => insO lt a (sortL lt l)

/-- Are all comparisons right? -/
def allCmp (cf : Nat → Nat → Option Int) (π : List Nat) : Bool :=
  (List.range π.length).all fun i => (List.range π.length).all fun j => match π[i]?, π[j]? with
    | some a, some b => (match cf a b with | some c => decide (c < 0) == decide (i < j) | none => false)
    | _, _ => true

theorem allCmp_spec {cf : Nat → Nat → Option Int} {π : List Nat} (h : allCmp cf π = true) {i j a b : Nat} (hi : π[i]? = some a) (hj : π[j]? = some b) : ∃ c : Int, cf a b = some c ∧ (c < 0 ↔ i < j) := by
  unfold allCmp at h
  have hi' := (List.getElem?_eq_some_iff.1 hi).1
  have hj' := (List.getElem?_eq_some_iff.1 hj).1
  have := List.all_eq_true.1 (List.all_eq_true.1 h i (by simpa using hi')) j (by simpa using hj')
  rw [hi, hj] at this
  simp only at this
  split at this
  · rename_i c hc
    refine ⟨c, hc, ?_⟩
    have := beq_iff_eq.1 this
    exact decide_eq_decide.1 this
  · cases this

/-- The call, as the machine runs it. -/
def sortO (E : Tab) (k d : Nat) : CallF → List AV → St → Option (AV × St) := fun run args σ =>
  match args with
  | [.nil0, _] => some (.tup [], σ)
  | [.snap 0 _, _] => some (.tup [], σ)
  | [.ref id ver off n k', .clo g [] cap] =>
    if n = 0 then some (.tup [], σ) else
    match E.fn g, σ[id]? with
    | some fn, some ⟨v, .cells cs true⟩ =>
      if v = ver ∧ k' = k ∧ 0 < k ∧ off + n * k ≤ cs.length ∧ n < 4611686018427387904 ∧ fn.body.isSome then
        (frzL (frz d) σ ((cs.drop off).take (n * k))).bind fun r1 => (frzL (frz d) r1.2 cap).bind fun r2 =>
          match r2.2[id]? with
          | some o =>
            let cf := cmpO run g k r1.1 r2.1
            let π := sortL (fun a b => match cf a b with | some c => decide (c < 0) | none => false) (List.range n)
            if o.ob.own = true ∧ r1.1.all AV.one = true ∧ π.isPerm (List.range n) = true ∧ allCmp cf π = true then
              some (.tup [], r2.2.set id ⟨ver, .cells (splice cs off (π.flatMap fun j => chunk k j r1.1)) true⟩)
            else none
          | none => none
      else none
    | _, _ => none
  | _ => none

theorem sortO_ok (hT : TabOK P T) {ρf : Ren} (L : SlLaysF0.n6 P ρf) {k : Nat} (aE : ∀ w, (isAgg (ρf.t 24)).run P w = .ok true w) (zE : ∀ w, (Go.sizeOf (ρf.t 24)).run P w = .ok k w) {d : Nat} {run : CallF} (hrun : CfOK P run) {args : List AV} {σ : St} {v : AV} {σ' : St}
    (h : sortO T k d run args σ = some (v, σ')) : CallsA P (ρf.f 6) args σ v σ' := by
  unfold sortO at h
  split at h
  · simp only [Option.some.injEq, Prod.mk.injEq] at h
    obtain ⟨rfl, rfl⟩ := h
    exact sortNone_A L (.inl rfl)
  · simp only [Option.some.injEq, Prod.mk.injEq] at h
    obtain ⟨rfl, rfl⟩ := h
    exact sortNone_A L (.inr (.inr ⟨_, rfl⟩))
  · rename_i id ver off n k' g cap
    split at h
    · rename_i hn
      simp only [Option.some.injEq, Prod.mk.injEq] at h
      obtain ⟨rfl, rfl⟩ := h
      subst hn
      exact sortNone_A L (.inr (.inl ⟨_, _, _, _, rfl⟩))
    · rename_i hn
      split at h
      · rename_i fn vv cs hfn ho0
        split at h
        · rename_i hc
          obtain ⟨rfl, rfl, hk, hle, hn62, hbody⟩ := hc
          simp only [Option.bind_eq_some_iff] at h
          obtain ⟨⟨fs, σ1⟩, hz, ⟨cap', σ2⟩, hz2, h⟩ := h
          simp only at h
          split at h
          · rename_i o ho
            split at h
            · rename_i hall
              obtain ⟨hown, hone, hperm, hcmp⟩ := hall
              simp only [Option.some.injEq, Prod.mk.injEq] at h
              obtain ⟨rfl, rfl⟩ := h
              obtain ⟨hf1, hf2, hf3⟩ := hT.fn g fn hfn
              obtain ⟨body, hb⟩ := Option.isSome_iff_exists.1 hbody
              refine sortFunc_A L aE zE (fun a w => enters_of hf1 hf3 hb a w) ho0 ⟨o, ho, hown⟩ hle hk (by omega) hn62 hz hz2 hone (List.isPerm_iff.1 hperm) ?_
              intro i j a b hi hj
              obtain ⟨c, hc, hlt⟩ := allCmp_spec hcmp hi hj
              exact ⟨c, cmpO_ok hrun hc, hlt⟩
            · cases h
          · cases h
        · cases h
      · cases h
  · cases h

end
end Go.Am
