/- A part of the proof: the abstract machine and what it shows of the program. -/
import Derived.Test.YtollmmiifppfnaaGreatDoorMachG
import Derived.ChangeArms
import Derived.SizedLaws

/- A row that holds a list in some order, sorted: the list in order. -/
set_option linter.unusedVariables false
set_option linter.unusedSimpArgs false
namespace Go.Am
open Go.Sort Go.Shelf Go.RowKit Go.Lib Go.Proofs
variable {P : Program} {T : Tab}

theorem chunk_perm {k n : Nat} {fs : List AV} (h : fs.length = n * k) {vis : List Nat} (hvis : ∀ j ∈ vis, j < n) {x : Nat} (hx : x ∈ vis) : chunk k (vis.idxOf x) (vis.flatMap fun j => chunk k j fs) = chunk k x fs := by
  have hlt : vis.idxOf x < vis.length := List.idxOf_lt_length_of_mem hx
  have hg : vis[vis.idxOf x]? = some x := by rw [List.getElem?_eq_getElem hlt, List.getElem_idxOf hlt]
  have hl := len_flat h vis hvis
  apply List.ext_getElem?
  intro t
  rcases Nat.lt_or_ge t k with ht | ht
  · rw [get_chunk ht, get_chunk ht]
    exact get_flat h vis hvis _ t x hg ht
  · rw [List.getElem?_eq_none (by rw [len_chunk hl hlt]; exact ht), List.getElem?_eq_none (by rw [len_chunk h (hvis x hx)]; exact ht)]

theorem map_idxOf {vis : List Nat} (hnd : vis.Nodup) : vis.map (fun x => vis.idxOf x) = List.range vis.length := by
  apply List.ext_getElem?
  intro i
  rw [List.getElem?_map]
  rcases Nat.lt_or_ge i vis.length with h | h
  · rw [List.getElem?_eq_getElem h]
    simp only [Option.map_some, hnd.idxOf_getElem i h]
    simp [h]
  · simp [h]

theorem sortFunc_perm {ρf : Ren} (L : SlLaysF0.n6 P ρf) {k : Nat} (aE : ∀ w, (isAgg (ρf.t 24)).run P w = .ok true w) (zE : ∀ w, (Go.sizeOf (ρf.t 24)).run P w = .ok k w)
    {g : Nat} (eg : ∀ args w, (callFunc g args).run P w = .ok (.enter g args) w) {σ : St} {id ver n : Nat} {fs : List AV} (hfs : fs.length = n * k) (hpl : ∀ v ∈ fs, v.plain = true) (hk : 0 < k) (hn : 0 < n) (hn62 : n < 4611686018427387904)
    {vis : List Nat} (hvis : vis.Perm (List.range n)) (ho : σ[id]? = some ⟨ver, .cells (vis.flatMap fun j => chunk k j fs) true⟩)
    {π : List Nat} (hπ : π.Perm (List.range n)) (hcmp : ∀ (i j a b : Nat), π[i]? = some a → π[j]? = some b → ∃ c : Int, CallsF P g [.agg (chunk k a fs), .agg (chunk k b fs)] (.int .i64 c) ∧ (c < 0 ↔ i < j)) :
    CallsA P (ρf.f 6) [.ref id ver 0 n k, .clo g [] []] σ (.tup []) (σ.set id ⟨ver, .cells (π.flatMap fun j => chunk k j fs) true⟩) := by
  have hmem : ∀ j ∈ vis, j < n := fun j hj => by have := hvis.mem_iff.1 hj; simpa using this
  have hnd : vis.Nodup := hvis.nodup_iff.2 List.nodup_range
  have hvl : vis.length = n := by rw [hvis.length_eq]; simp
  have hl : (vis.flatMap fun j => chunk k j fs).length = n * k := by rw [len_flat hfs vis hmem, hvl]
  have hpl' : ∀ v ∈ (vis.flatMap fun j => chunk k j fs), v.plain = true := by
    intro v hv
    rw [List.mem_flatMap] at hv
    obtain ⟨j, _, hj⟩ := hv
    exact hpl v (List.mem_of_mem_drop (List.mem_of_mem_take hj))
  have htk : ((vis.flatMap fun j => chunk k j fs).drop 0).take (n * k) = vis.flatMap fun j => chunk k j fs := by
    rw [List.drop_zero, List.take_of_length_le (by omega)]
  have hπv : ∀ x ∈ π, x ∈ vis := fun x hx => (hπ.trans hvis.symm).mem_iff.1 hx
  have key := sortFunc_A L aE zE eg (σ := σ) (id := id) (ver := ver) (off := 0) (n := n) (d := 1) (cap := []) (cap' := []) (σ1 := σ) (σ2 := σ) ho ⟨_, ho, rfl⟩ (by omega) hk hn hn62 (by rw [htk]; exact frzL_plain hpl') rfl (List.all_eq_true.2 fun v hv => plain_one (hpl' v hv))
    (π := π.map fun x => vis.idxOf x) (by
      have := (hπ.trans hvis.symm).map (fun x => vis.idxOf x)
      rw [map_idxOf hnd, hvl] at this
      exact this) (by
      intro i j a b hi hj
      rw [List.getElem?_map, Option.map_eq_some_iff] at hi hj
      obtain ⟨x, hx, rfl⟩ := hi
      obtain ⟨y, hy, rfl⟩ := hj
      obtain ⟨c, hc, hlt⟩ := hcmp i j x y hx hy
      refine ⟨c, ?_, hlt⟩
      rw [chunk_perm hfs hmem (hπv x (List.mem_of_getElem? hx)), chunk_perm hfs hmem (hπv y (List.mem_of_getElem? hy))]
      exact hc)
  have e : splice (vis.flatMap fun j => chunk k j fs) 0 ((π.map fun x => vis.idxOf x).flatMap fun j => chunk k j (vis.flatMap fun j => chunk k j fs)) = π.flatMap fun j => chunk k j fs := by
    have e1 : ((π.map fun x => vis.idxOf x).flatMap fun j => chunk k j (vis.flatMap fun j => chunk k j fs)) = π.flatMap fun j => chunk k j fs := by
      rw [List.flatMap_map]
      have : ∀ (l : List Nat), (∀ x ∈ l, x ∈ vis) → (l.flatMap fun a => chunk k (vis.idxOf a) (vis.flatMap fun j => chunk k j fs)) = l.flatMap fun j => chunk k j fs := by
        intro l hl
        induction l with
        | nil => rfl
        | cons a l ih => rw [List.flatMap_cons, List.flatMap_cons, chunk_perm hfs hmem (hl a (by simp)), ih (fun x hx => hl x (by simp [hx]))]
      exact this π hπv
    rw [e1]
    unfold splice
    have hpl : (π.flatMap fun j => chunk k j fs).length = n * k := by
      rw [len_flat hfs π (fun j hj => hmem j (hπv j hj)), hπ.length_eq]; simp
    rw [hpl, List.take_zero, List.drop_eq_nil_of_le (by omega)]
    simp
  rw [e] at key
  exact key

theorem frz_ref_plain {d : Nat} {σ : St} {id ver n k : Nat} {cs : List AV} {b : Bool} (hn : n ≠ 0) (ho : σ[id]? = some ⟨ver, .cells cs b⟩) (hl : n * k = cs.length) (hp : ∀ v ∈ cs, v.plain = true) :
    frz (d + 2) σ (.ref id ver 0 n k) = some (.snap n cs, σ.set id ⟨ver, .cells cs false⟩) := by
  have e : frz (d + 2) σ (.ref id ver 0 n k) = (if n = 0 then some (.snap 0 [], σ) else match σ[id]? with
      | some ⟨v, .cells cs _⟩ => if v = ver ∧ 0 + n * k ≤ cs.length then
          (frzL (frz (d + 1)) (σ.set id ⟨v, .cells cs false⟩) ((cs.drop 0).take (n * k))).map fun r => (.snap n r.1, r.2) else none
      | _ => none) := rfl
  rw [e, if_neg hn, ho]
  simp only
  rw [if_pos ⟨trivial, by omega⟩, List.drop_zero, List.take_of_length_le (by omega), frzL_plain hp]
  rfl

end Go.Am

/- Steps of single operations, by what their operands are; cells frozen in place. -/
set_option linter.unusedVariables false
set_option linter.unusedSimpArgs false
namespace Go.Am
variable {P : Program} {T : Tab}

section
variable {cf : CallF} {os : List Oper} {n : Nat} {o : Oper} {l : FrA} {σ : St}

theorem stepF_fieldAddr {s : TypeId} {x : Operand} {f : Nat} {r : Nat × TI} {id ver off : Nat} (ho : o.op = .fieldAddr s x f) (hw : wantedF os n o l = some true) (hf : field? T s f = some r) (hr : r.2.size ≠ 0) (hx : evA n l x = .ptr id ver off) :
    stepF T cf os n o l σ = some (putA l o.dst (.ptr id ver (off + r.1)), σ) := by
  refine stepF_val hw ?_
  unfold astepG
  rw [ho]
  simp only [hf, Option.bind_some, if_neg hr, hx]

theorem stepF_fieldAddrF {s : TypeId} {x : Operand} {f : Nat} {r : Nat × TI} {cs : List AV} (ho : o.op = .fieldAddr s x f) (hw : wantedF os n o l = some true) (hf : field? T s f = some r) (hr : r.2.size ≠ 0) (hx : evA n l x = .fptr cs) :
    stepF T cf os n o l σ = some (putA l o.dst (.fptr (cs.drop r.1)), σ) := by
  refine stepF_val hw ?_
  unfold astepG
  rw [ho]
  simp only [hf, Option.bind_some, if_neg hr, hx]

theorem stepF_load {t : TypeId} {a : Operand} {i : TI} {p v : AV} {cs : List AV} (ho : o.op = .load t a) (hw : wantedF os n o l = some true) (hi : T.ty t = some i) (ha : evA n l a = p) (hd : deref σ p i.size = some cs) (hc : chunkLoad i cs = some v) :
    stepF T cf os n o l σ = some (putA l o.dst v, σ) := by
  refine stepF_val hw ?_
  unfold astepG
  rw [ho]
  simp only [hi, Option.bind_some, ha, hd, hc, val, Option.map_some]

theorem stepF_store {t : TypeId} {a x : Operand} {i : TI} {id ver off : Nat} {v : AV} {cs : List AV} {σ' : St} (ho : o.op = .store t a x) (hw : wantedF os n o l = some true) (hi : T.ty t = some i) (ha : evA n l a = .ptr id ver off) (hx : evA n l x = v)
    (hcs : v.cells = some cs) (hl : cs.length = i.size) (hwr : wr σ id ver off cs = some σ') : stepF T cf os n o l σ = some (putA l o.dst (.tup []), σ') := by
  refine stepF_skip hw ?_
  unfold astepG
  rw [ho]
  simp only [hi, Option.bind_some, ha, hx, hcs, if_pos hl, hwr, Option.map_some]

theorem rd_of {id ver off cnt : Nat} {cs : List AV} {b : Bool} (h : σ[id]? = some ⟨ver, .cells cs b⟩) (hle : off + cnt ≤ cs.length) : rd σ id ver off cnt = some ((cs.drop off).take cnt) := by
  unfold rd
  rw [h]
  simp only
  rw [if_pos ⟨trivial, hle⟩]

theorem wr_of {id ver off : Nat} {cs new : List AV} (h : σ[id]? = some ⟨ver, .cells cs true⟩) (hle : off + new.length ≤ cs.length) (hone : new.all AV.one = true) : wr σ id ver off new = some (σ.set id ⟨ver, .cells (splice cs off new) true⟩) := by
  unfold wr
  rw [h]
  simp only
  rw [if_pos ⟨trivial, hle, hone⟩]

end

/-- The cells of a row, frozen where they lie. -/
theorem JF.frzCells {n : Nat} {c : Code} {l : FrA} {σ σ1 : St} {Q : PostF} {id ver d : Nat} {cs cs' : List AV} (ho : σ[id]? = some ⟨ver, .cells cs true⟩) (hz : frzL (frz d) σ cs = some (cs', σ1)) (ho1 : ∃ o, σ1[id]? = some o ∧ o.ob.own = true)
    (h : JF P n c l (σ1.set id ⟨ver, .cells cs' true⟩) Q) : JF P n c l σ Q := by
  intro X ρ w a hR hF
  obtain ⟨hl, hlen, hv⟩ := frzL_sound (X := X) (ρ := ρ) (w := w) (g := frz d) (fun σ v v' σ' h => frz_sound d σ v v' σ' h) _ _ _ _ hz
  have hR1 := hl.rel hR
  obtain ⟨cur, e, fz, hheap, htot, hfit, hfz, hcells⟩ := hR.obj id _ ho
  have hvc := hv (fun j => cur.getD ((ρ id).base + j) undef) hR (fun j c hc => by
    obtain ⟨u, hu, hur⟩ := hcells j c hc
    simpa [Array.getD_eq_getD_getElem?, hu] using hur)
  obtain ⟨o1, ho1, hown⟩ := ho1
  have key := rel_upd (X := X) hR1 ho1 hown ⟨ver, .cells cs' true⟩ rfl (by
      obtain ⟨o, h1, h2, _⟩ := hl.of id o1 ho1
      rw [ho] at h1; cases h1
      simp only at h2
      simp; omega) (ρ id) (fun _ _ => by
      obtain ⟨o, h1, _, h3, _⟩ := hl.of id o1 ho1
      rw [ho] at h1; cases h1
      refine ⟨?_, rfl⟩
      obtain ⟨v1, ob1⟩ := o1
      cases ob1 <;> simp_all [sameOB, OB.isCells]) (fun h => by cases h) (.inl rfl) (w' := w) rfl rfl ⟨rfl, Nat.le_refl _⟩ (Nat.le_refl _) (fun _ _ _ => rfl) (fun tr => by
      refine ⟨cur, e, fz, hheap, htot, by rw [hlen]; exact hfit, hfz, fun j c hc => ?_⟩
      have hj : j < cs.length := by rw [← hlen]; exact (List.getElem?_eq_some_iff.1 hc).1
      have hjc : (ρ id).base + j < cur.size := by omega
      refine ⟨cur[(ρ id).base + j], Array.getElem?_eq_getElem hjc, ?_⟩
      have := hvc j c hc
      have e1 : cur.getD ((ρ id).base + j) undef = cur[(ρ id).base + j] := by simp [hjc]
      rw [e1] at this
      exact (this.lift ρ σ1).tr tr)
  have t0 := (hl.tr ρ w).trans key.2
  refine wp_mono (h X _ w a key.1 (hF.tr t0)) ?_
  rintro ex a' w' ho
  exact ho.after t0

/-- Code, run. -/
theorem JF.ev {C : EvC} (hC : EvOK P C) {n : Nat} {c : Code} {l l' : FrA} {σ σ' : St} {x : AX} {Q : PostF} (hs : schsOK C.T.lits C.pol C.sch c = true) (h : evCodeF C n c l σ = some (x, l', σ')) (hq : Q x l' σ') : JF P n c l σ Q :=
  JC.mono (evCodeF_sound hC c hs h) fun y t ⟨e1, e2⟩ => by
    subst e1 e2
    exact ⟨l', rfl, hq⟩

end Go.Am
namespace Go.Am
variable {P : Program} {T : Tab}
noncomputable section

/-- The first parts of a sequence, and the rest. -/
def splitSeq : Nat → Code → List Code × Code
  | k + 1, .seq a b => (a :: (splitSeq k b).1, (splitSeq k b).2)
  | _, c => ([], c)

def evSeq (C : EvC) (n : Nat) : List Code → FrA → St → Option (FrA × St)
  | [], l, σ => some (l, σ)
  | c :: cs, l, σ => match evCodeF C n c l σ with
    | some (.norm, l', σ') => evSeq C n cs l' σ'
    | _ => none

theorem JF.pre {C : EvC} (hC : EvOK P C) {n : Nat} {Q : PostF} : ∀ (k : Nat) {c : Code} {l l' : FrA} {σ σ' : St}, schsOK C.T.lits C.pol C.sch c = true → evSeq C n (splitSeq k c).1 l σ = some (l', σ') → JF P n (splitSeq k c).2 l' σ' Q → JF P n c l σ Q
  | 0, c, l, l', σ, σ', hs, h, hq => by
    have e : splitSeq 0 c = ([], c) := by cases c <;> rfl
    rw [e] at h hq
    simp only [evSeq, Option.some.injEq, Prod.mk.injEq] at h
    obtain ⟨rfl, rfl⟩ := h
    exact hq
  | k + 1, c, l, l', σ, σ', hs, h, hq => by
    cases c with
    | seq a b =>
      simp only [splitSeq, evSeq] at h hq
      simp only [schsOK, Bool.and_eq_true] at hs
      split at h
      · rename_i l1 σ1 h1
        exact JF.seq (JF.ev hC hs.1 h1 (JF.pre hC k hs.2 h hq))
      · cases h
    | _ =>
      simp only [splitSeq, evSeq, Option.some.injEq, Prod.mk.injEq] at h hq
      obtain ⟨rfl, rfl⟩ := h
      exact hq
end
end Go.Am

/- More steps of single operations. -/
set_option linter.unusedVariables false
set_option linter.unusedSimpArgs false
namespace Go.Am
variable {P : Program} {T : Tab}

section
variable {cf : CallF} {os : List Oper} {n : Nat} {o : Oper} {l : FrA} {σ : St}

theorem stepF_int {op : BinOp} {t t' : TypeId} {x y : Operand} {k : IntKind} {a b : Int} {v : AV} (ho : o.op = .binOp op t x y t') (hw : wantedF os n o l = some true) (hy0 : nilSlice y = false) (hx : evA n l x = .int k a) (hy : evA n l y = .int k b)
    (hop : (op != .shl && op != .shr) = true) (h : intBin op k a b = some v) : stepF T cf os n o l σ = some (putA l o.dst v, σ) := by
  refine stepF_val hw ?_
  unfold astepG
  rw [ho]
  simp only [binopO, hy0, Bool.false_eq_true, if_false, hx, hy]
  have : binop T op t (.int k a) (.int k b) = some v := by
    unfold binop
    cases op <;> simp at hop <;> simp [h]
  rw [this]; rfl

theorem stepF_indexAddr {t e : TypeId} {x ix : Operand} {ti : TI} {k1 k2 m : Nat} {z cs : List AV} {fl : Bool} {k : IntKind} {i : Int} (ho : o.op = .indexAddr t x ix) (hw : wantedF os n o l = some true) (hT : T.ty t = some ⟨.slice e, k1, k2, z, fl⟩) (he : T.ty e = some ti)
    (hx : evA n l x = .snap m cs) (hi : evA n l ix = .int k i) (h0 : 0 ≤ i) (h1 : i < m) (hl : cs.length = m * ti.size) : stepF T cf os n o l σ = some (putA l o.dst (.fptr ((cs.drop (i.toNat * ti.size)).take ti.size)), σ) := by
  refine stepF_val hw ?_
  unfold astepG
  rw [ho]
  simp only [hx, hi]
  have : indexA T t (.snap m cs) (.int k i) = some (.fptr ((cs.drop (i.toNat * ti.size)).take ti.size)) := by
    unfold indexA
    rw [hT]
    simp only [he]
    show (if 0 ≤ i ∧ i < m ∧ cs.length = m * ti.size then _ else _) = _
    rw [if_pos ⟨h0, h1, hl⟩]
  rw [this]; rfl

theorem stepF_slice {t : TypeId} {x : Operand} {lo hi mx : Option Operand} {v : AV} (ho : o.op = .slice t x lo hi mx) (hw : wantedF os n o l = some true) (h : sliceOp T t (evA n l x) (lo.map (evA n l)) (hi.map (evA n l)) (mx.map (evA n l)) = some v) :
    stepF T cf os n o l σ = some (putA l o.dst v, σ) := by
  refine stepF_val hw ?_
  unfold astepG
  rw [ho]
  simp only [h, val, Option.map_some]

theorem stepF_len {t : TypeId} {x : Operand} {v : AV} {σ' : St} (ho : o.op = .call { callee := .builtin .len, args := #[x], argTypes := #[t] }) (hw : wantedF os n o l = some true) {u : AV} (hx : evA n l x = u) (h : lenB T t σ u = some (.val v σ')) :
    stepF T cf os n o l σ = some (putA l o.dst v, σ') := by
  refine stepF_val hw ?_
  unfold astepG
  rw [ho]
  simp only [Array.toList, List.map, hx, builtinA, h]

theorem stepF_min {x y : Operand} {ats : Array TypeId} {k : IntKind} {a b : Int} (ho : o.op = .call { callee := .builtin .min, args := #[x, y], argTypes := ats }) (hw : wantedF os n o l = some true) (hx : evA n l x = .int k a) (hy : evA n l y = .int k b) :
    stepF T cf os n o l σ = some (putA l o.dst (.int k (if b < a then b else a)), σ) := by
  refine stepF_val hw ?_
  unfold astepG
  rw [ho]
  simp only [Array.toList, List.map, hx, hy, builtinA]

theorem stepF_pick {c x y : Operand} {b : Bool} (ho : o.op = .pick c x y) (hw : wantedF os n o l = some true) (hc : evA n l c = .bool b) : stepF T cf os n o l σ = some (putA l o.dst (if b then evA n l x else evA n l y), σ) := by
  refine stepF_val hw ?_
  unfold astepG
  rw [ho]
  simp only [hc]

theorem stepF_off (hw : wantedF os n o l = some false) : stepF T cf os n o l σ = some (putA l o.dst (.tup []), σ) := by
  unfold stepF
  rw [hw]
end

/-- A slice of a row that is not written. -/
theorem sliceOp_snap {t e : TypeId} {ti : TI} {k1 k2 m : Nat} {z cs : List AV} {fl : Bool} (hT : T.ty t = some ⟨.slice e, k1, k2, z, fl⟩) (he : T.ty e = some ti) (hl : cs.length = m * ti.size) (lo hi : Option AV) {a b : Nat}
    (hhi : bnd hi m m = some b) (hlo : bnd lo 0 b = some a) : sliceOp T t (.snap m cs) lo hi none = some (.snap (b - a) ((cs.drop (a * ti.size)).take ((b - a) * ti.size))) := by
  unfold sliceOp
  rw [hT]
  simp only [he, Option.bind_some, sLen]
  rw [if_pos hl]
  simp only [Option.bind_some, hhi, hlo, sCut]

theorem bnd_int {k : IntKind} {i : Int} {d y : Nat} (h0 : 0 ≤ i) (h1 : i ≤ y) : bnd (some (.int k i)) d y = some i.toNat := by
  unfold bnd
  simp only
  rw [if_pos ⟨h0, h1⟩]

theorem schF_cons {cf : CallF} {os : List Oper} {n i : Nat} {is : List Nat} {o : Oper} {l l' : FrA} {σ σ' : St} {r : Option (FrA × St)} (ho : nthL os i = some o) (h : stepF T cf os n o l σ = some (l', σ')) (h2 : schF T cf os n is l' σ' = r) :
    schF T cf os n (i :: is) l σ = r := by
  simp only [schF, ho, h]; exact h2

end Go.Am
namespace Go.Am
variable {P : Program} {T : Tab}
/-- One after the other, with what holds between. -/
theorem JF.mid (I : FrA → St → Prop) {n : Nat} {x y : Code} {l : FrA} {σ : St} {Q : PostF} (h : JF P n x l σ (PostF.then I Q)) (k : ∀ l' σ', I l' σ' → JF P n y l' σ' Q) : JF P n (.seq x y) l σ Q :=
  JF.seq (h.mono fun a l' σ' hq => by
    cases a with
    | norm => exact k _ _ hq
    | exit id => exact hq
    | ret => exact hq)
end Go.Am
namespace Go.Am
variable {P : Program} {T : Tab}
theorem JF.condT {n : Nat} {c : Operand} {x y : Code} {l : FrA} {σ : St} {Q : PostF} (hc : evA n l c = .bool true) (h : JF P n x l σ Q) : JF P n (.cond c x y) l σ Q := JF.cond (t := true) hc h
theorem JF.condF {n : Nat} {c : Operand} {x y : Code} {l : FrA} {σ : St} {Q : PostF} (hc : evA n l c = .bool false) (h : JF P n y l σ Q) : JF P n (.cond c x y) l σ Q := JF.cond (t := false) hc h
end Go.Am
namespace Go.Am
variable {P : Program} {T : Tab}
theorem stepF_bin {cf : CallF} {os : List Oper} {n : Nat} {o : Oper} {l : FrA} {σ : St} {op : BinOp} {t t' : TypeId} {x y : Operand} {u v r : AV} (ho : o.op = .binOp op t x y t') (hw : wantedF os n o l = some true) (hy0 : nilSlice y = false) (hx : evA n l x = u) (hy : evA n l y = v)
    (h : binop T op t u v = some r) : stepF T cf os n o l σ = some (putA l o.dst r, σ) := by
  refine stepF_val hw ?_
  unfold astepG
  rw [ho]
  simp only [binopO, hy0, Bool.false_eq_true, if_false, hx, hy, h, val, Option.map_some]

theorem stepF_indexAddrE {cf : CallF} {os : List Oper} {n : Nat} {o : Oper} {l : FrA} {σ : St} {t e : TypeId} {x ix : Operand} {ti : TI} {k1 k2 m : Nat} {z cs cs' : List AV} {fl : Bool} {k : IntKind} {i : Int} (ho : o.op = .indexAddr t x ix) (hw : wantedF os n o l = some true) (hT : T.ty t = some ⟨.slice e, k1, k2, z, fl⟩) (he : T.ty e = some ti)
    (hx : evA n l x = .snap m cs) (hi : evA n l ix = .int k i) (h0 : 0 ≤ i) (h1 : i < m) (hl : cs.length = m * ti.size) (hcs : (cs.drop (i.toNat * ti.size)).take ti.size = cs') : stepF T cf os n o l σ = some (putA l o.dst (.fptr cs'), σ) := by
  rw [← hcs]
  exact stepF_indexAddr ho hw hT he hx hi h0 h1 hl
end Go.Am

/- What a reading of an argument says, in the machine's values. -/
set_option linter.unusedVariables false
set_option linter.unusedSimpArgs false
namespace Go.Am
variable {P : Program} {H : Type} {enc : TypeId × Value → H} {w : World} {sp : Nat → Bool} {held : Bool}

theorem add_add' (a : Addr) (i j : Nat) (h : a.spot = none) : (a.add i).add j = a.add (i + j) := by
  cases a with
  | mk b o s =>
    simp only at h
    subst h
    rw [add_lit, add_lit, add_lit, Nat.add_assoc]

theorem cell_some {a : Addr} {v : Value} (h : w.cell? a = some v) : a.spot = none ∧ a.block < w.heap.size := by
  unfold World.cell? at h
  split at h
  · rename_i c e f hb
    split at h
    · cases h
    · rename_i hs
      refine ⟨by cases hsp : a.spot <;> simp_all, (Array.getElem?_eq_some_iff.1 hb).1⟩
  · cases h

theorem cells_get {a : Addr} {k : Nat} {cs : List Value} (h : w.cells? 0 a k = some cs) : cs.length = k ∧ ∀ j, j < k → w.cell? (a.add j) = cs[j]? := by
  unfold World.cells? at h
  rw [if_pos (Nat.zero_le _)] at h
  refine ⟨by simpa using mapM_some_length h, fun j hj => ?_⟩
  have := mapM_some_get h j j (by simp [hj])
  exact this

theorem flatMap_get {α : Type} {F : α → List AV} {k : Nat} (hF : ∀ x, (F x).length = k) : ∀ (l : List α) (i j : Nat) (x : α), l[i]? = some x → j < k → (l.flatMap F)[i * k + j]? = (F x)[j]?
  | [], i, j, x, h, _ => by simp at h
  | y :: l, 0, j, x, h, hj => by
    simp at h; subst h
    rw [List.flatMap_cons, Nat.zero_mul, Nat.zero_add, List.getElem?_append_left (by rw [hF]; exact hj)]
  | y :: l, i + 1, j, x, h, hj => by
    rw [List.flatMap_cons, List.getElem?_append_right (by rw [hF, Nat.add_mul]; omega), hF, show (i + 1) * k + j - k = i * k + j by rw [Nat.add_mul]; omega]
    exact flatMap_get hF l i j x (by simpa using h) hj

theorem flatMap_len {α : Type} {F : α → List AV} {k : Nat} (hF : ∀ x, (F x).length = k) : ∀ (l : List α), (l.flatMap F).length = l.length * k
  | [] => by simp
  | y :: l => by rw [List.flatMap_cons, List.length_append, hF, flatMap_len hF l, List.length_cons, Nat.add_mul]; omega

theorem weightsAll_mem {e : TypeId} {m : Nat} : ∀ {ds : List (DataW H)} {d : DataW H}, d ∈ ds → m ∈ d.weights P e → m ∈ DataW.weightsAll P e ds
  | d0 :: ds, d, h, hm => by
    simp only [DataW.weightsAll, List.mem_append]
    rcases List.mem_cons.1 h with rfl | h
    · exact .inl hm
    · exact .inr (weightsAll_mem h hm)

/-- A slice that was read. -/
theorem snap_of_trod {α : Type} {t e : TypeId} {k : Nat} (ht : P.underlying t = some (.slice e)) (hk : P.cellsOf e = k) (hk0 : 0 < k) (hby : 0 < P.bytesOf e) {F : α → List AV} (hF : ∀ x, (F x).length = k) (R : α → Prop)
    (hel : ∀ n c y, DataW.trod enc P w 0 sp held n e c = some y → (∀ m ∈ y.1.weights P e, m ≤ reachBytes) → ∃ x : α, R x ∧ ∀ (j : Nat) c' v, (F x)[j]? = some c' → c[j]? = some v → VC w (fun _ => False) c' v) {fuel : Nat} {v : Value} {x : DataW H × List MemPlace} (h : DataW.trod enc P w 0 sp held fuel t [v] = some x) (hwt : ∀ m ∈ x.1.weights P t, m ≤ reachBytes) :
    ∃ l : List α, l.length ≤ reachBytes ∧ (∀ x ∈ l, R x) ∧ VC w (fun _ => False) (.snap l.length (l.flatMap F)) v := by
  rcases DataW.trod_slice ht h with ⟨hcs, _⟩ | ⟨a, len, cap, elems, rest, n, _, hcs, hx, _, hle, hmax, hlen, hel', _⟩
  · simp only [List.cons.injEq, and_true] at hcs
    subst hcs
    exact ⟨[], Nat.zero_le _, fun x hx => by simp at hx, .snap0 _ _⟩
  · simp only [List.cons.injEq, and_true] at hcs
    subst hcs
    rw [hk] at hel'
    subst hx
    have hw0 : (elems.length + rest.length) * P.bytesOf e ≤ reachBytes := by
      have := hwt ((elems.length + rest.length) * P.bytesOf e) (by simp [DataW.weights, ht])
      exact this
    have hwe : ∀ y ∈ elems, ∀ m ∈ y.1.weights P e, m ≤ reachBytes := fun y hy m hm => by
      refine hwt m ?_
      have := weightsAll_mem (P := P) (e := e) (List.mem_map.2 ⟨y, hy, rfl⟩) hm
      simp [DataW.weights, ht, this]
    have each : ∀ i, i < len → ∃ x : α, R x ∧ ∃ c : List Value, w.cells? 0 (a.add (i * k)) k = some c ∧ ∀ (j : Nat) c' v, (F x)[j]? = some c' → c[j]? = some v → VC w (fun _ => False) c' v := by
      intro i hi
      have h1 := hel' i hi
      rw [List.getElem?_eq_getElem (by omega), Option.bind_eq_some_iff] at h1
      obtain ⟨c, hc, hy⟩ := h1
      obtain ⟨x, hR, hx⟩ := hel n c _ hy (hwe _ (List.getElem_mem _))
      exact ⟨x, hR, c, hc, hx⟩
    -- the list of what was read
    have build : ∀ m, m ≤ len → ∃ l : List α, l.length = m ∧ (∀ x ∈ l, R x) ∧ ∀ i x, l[i]? = some x → ∃ c : List Value, w.cells? 0 (a.add (i * k)) k = some c ∧ ∀ (j : Nat) c' v, (F x)[j]? = some c' → c[j]? = some v → VC w (fun _ => False) c' v := by
      intro m
      induction m with
      | zero => exact fun _ => ⟨[], rfl, fun x hx => by simp at hx, fun i x h => by simp at h⟩
      | succ m ih =>
        intro hm
        obtain ⟨l, hl, hR, hall⟩ := ih (by omega)
        obtain ⟨x, hRx, c, hc, hx⟩ := each m (by omega)
        refine ⟨l ++ [x], by simp [hl], fun y hy => ?_, fun i y hy => ?_⟩
        · rcases List.mem_append.1 hy with h | h
          · exact hR y h
          · simp at h; subst h; exact hRx
        · rcases Nat.lt_or_ge i l.length with hi | hi
          · rw [List.getElem?_append_left hi] at hy
            exact hall i y hy
          · rw [List.getElem?_append_right hi] at hy
            have : i = m := by
              have := (List.getElem?_eq_some_iff.1 hy).1
              simp at this; omega
            subst this
            rw [hl] at hy
            simp at hy
            subst hy
            exact ⟨c, hc, hx⟩
    obtain ⟨l, hl, hR, hall⟩ := build len (Nat.le_refl _)
    refine ⟨l, ?_, hR, ?_⟩
    · have h1 : l.length ≤ (elems.length + rest.length) * P.bytesOf e := Nat.le_trans (by omega) (Nat.le_mul_of_pos_right _ hby)
      omega
    rcases Nat.eq_zero_or_pos len with h0 | hpos
    · have : l = [] := List.eq_nil_of_length_eq_zero (by omega)
      subst this
      subst h0
      exact .snap0 _ _
    · have h0l : 0 < l.length := by omega
      obtain ⟨c0, hc0, _⟩ := hall 0 l[0] (List.getElem?_eq_getElem h0l)
      obtain ⟨hcl0, hcg0⟩ := cells_get hc0
      have hcell0 : w.cell? ((a.add (0 * k)).add 0) = some c0[0] := by rw [hcg0 0 hk0, List.getElem?_eq_getElem]
      have e0 : (a.add (0 * k)).add 0 = a := by simp [Addr.add]
      rw [e0] at hcell0
      obtain ⟨hspot, hb0⟩ := cell_some hcell0
      have key : ∀ t, t < len * k → ∃ u c', w.cell? (a.add t) = some u ∧ (l.flatMap F)[t]? = some c' ∧ VC w (fun _ => False) c' u := by
        intro t ht
        have hd1 : t / k < len := (Nat.div_lt_iff_lt_mul hk0).2 ht
        have hd2 : t % k < k := Nat.mod_lt _ hk0
        have hd3 : t / k * k + t % k = t := by rw [Nat.mul_comm]; exact Nat.div_add_mod t k
        have hlk : t / k < l.length := by omega
        have hx : l[t / k]? = some l[t / k] := List.getElem?_eq_getElem hlk
        obtain ⟨c, hc, hvc⟩ := hall _ _ hx
        obtain ⟨hcl, hcg⟩ := cells_get hc
        have h1 := hcg (t % k) hd2
        rw [add_add' _ _ _ hspot, hd3] at h1
        have h2 := flatMap_get hF l _ (t % k) _ hx hd2
        rw [hd3] at h2
        have hck : t % k < c.length := by omega
        have hfk : t % k < (F l[t / k]).length := by rw [hF]; exact hd2
        have e1 : c[t % k]? = some c[t % k] := List.getElem?_eq_getElem hck
        have e2 : (F l[t / k])[t % k]? = some (F l[t / k])[t % k] := List.getElem?_eq_getElem hfk
        exact ⟨_, _, h1.trans e1, h2.trans e2, hvc _ _ _ e2 e1⟩
      refine hl ▸ VC.snap (M := fun _ => False) len (l.flatMap F) a cap (fun j => (w.cell? (a.add j)).getD undef) hspot hb0 (fun h => h) hle (by omega) (fun j hj => ?_) (fun j c hc => ?_)
      · rw [flatMap_len hF, hl] at hj
        obtain ⟨u, c', hu, _, _⟩ := key j hj
        rw [hu]; rfl
      · have hj : j < len * k := by
          have := (List.getElem?_eq_some_iff.1 hc).1
          rwa [flatMap_len hF, hl] at this
        obtain ⟨u, c', hu, hc', hvc⟩ := key j hj
        rw [hc] at hc'; cases hc'
        simp only [hu, Option.getD_some]
        exact hvc

end Go.Am
