/- A part of the proof: the abstract machine and what it shows of the program. -/
import Derived.Test.YtollmmiifppfnaaGreatDoorMachB
import Derived.Deep.Upon
import Derived.MapKept
import Derived.Lib.ConvBytes
import Derived.Laws.BytesArg

/- append. -/
set_option linter.unusedVariables false
set_option linter.unusedSimpArgs false
namespace Go.Am
variable {P : Program} {T : Tab} {X : Nat → Prop} {ρ : Rho} {σ : St} {w : World}

/-- Values beside the machine's cells. -/
def VRl (w : World) (M : Nat → Prop) (ρ : Rho) (σ : St) (cs : List AV) (vs : List Value) : Prop :=
  vs.length = cs.length ∧ ∀ (j : Nat) c v, cs[j]? = some c → vs[j]? = some v → VR w M ρ σ c v

theorem VRl.one {M : Nat → Prop} {cs : List AV} {vs : List Value} (h : VRl w M ρ σ cs vs) (ho : cs.all AV.one = true) : ∀ v ∈ vs, v.oneCell' = true := by
  intro v hv
  obtain ⟨j, hj⟩ := List.getElem?_of_mem hv
  have hl : j < cs.length := by rw [← h.1]; exact (List.getElem?_eq_some_iff.1 hj).1
  exact (h.2 j cs[j] v (List.getElem?_eq_getElem hl) hj).one (List.all_eq_true.1 ho _ (List.getElem_mem hl))

theorem VRl.tr {ρ' : Rho} {σ' : St} {w' : World} (t : Tr ρ σ w ρ' σ' w') {cs : List AV} {vs : List Value} (h : VRl w (Mu X ρ σ) ρ σ cs vs) : VRl w' (Mu X ρ' σ') ρ' σ' cs vs := ⟨h.1, fun j c v hc hv => (h.2 j c v hc hv).tr t⟩

theorem vrl_range {M : Nat → Prop} {cs : List AV} {n : Nat} {vs : Nat → Value} (hl : cs.length = n) (h : ∀ (j : Nat) c, cs[j]? = some c → VR w M ρ σ c (vs j)) : VRl w M ρ σ cs ((List.range n).map vs) := by
  refine ⟨by simp [hl], ?_⟩
  intro j c v hc hv
  have hj : j < n := by have := (List.getElem?_eq_some_iff.1 hc).1; omega
  simp [hj] at hv
  subst hv
  exact h j c hc

/-- The elements of a slice, as append reads them. -/
theorem src_slice (hR : Rel X ρ σ w) {x : AV} {v : Value} (hv : VR w (Mu X ρ σ) ρ σ x v) {k m : Nat} {cs : List AV} (h : elems σ k x = some (m, cs)) (hone : cs.all AV.one = true) {tx e : TypeId}
    (hk : P.underlying tx = some (.slice e)) : ∃ nv, Src P k tx v m nv w ∧ VRl w (Mu X ρ σ) ρ σ cs nv := by
  obtain ⟨hl, a, cap, vs, rfl, hcap, hcell, hvr⟩ := elems_sound hR hv h
  rcases hcell with rfl | ⟨ad, rfl, hcell⟩
  · have hcs : cs = [] := List.eq_nil_of_length_eq_zero (by simpa using hl)
    subst hcs
    refine ⟨[], ?_, rfl, fun j c v hc => by simp at hc⟩
    cases a with
    | none => exact Src.ofNil w hk cap
    | some ad => exact Src.ofSlice w hk ad 0 cap [] (by simp) (fun j u hu => by simp at hu) (fun u hu => by cases hu)
  · have hvl := vrl_range (σ := σ) (ρ := ρ) hl hvr
    refine ⟨_, Src.ofSlice w hk ad m cap _ (by simp) ?_ (hvl.one hone), hvl⟩
    intro j u hu
    have hj : j < m * k := by have := (List.getElem?_eq_some_iff.1 hu).1; simpa using this
    simp [hj] at hu
    subst hu
    exact hcell j hj

theorem src_string {s : List UInt8} {v : Value} {M : Nat → Prop} (hv : VR w M ρ σ (.str s) v) {tx : TypeId} (hk : P.underlying tx = some .string) :
    ∃ nv, Src P 1 tx v s.length nv w ∧ VRl w M ρ σ (s.map fun b => .int .u8 b.toNat) nv := by
  have e := hv.str_inv
  subst e
  have hsz : (⟨s.toArray⟩ : ByteArray).size = s.length := by simp [ByteArray.size]
  have hs := Src.ofString (P := P) w hk ⟨s.toArray⟩
  rw [hsz] at hs
  refine ⟨_, hs, by simp [byteCells], ?_⟩
  intro j c u hc hu
  rw [List.getElem?_map] at hc
  simp only [byteCells] at hu
  rw [List.getElem?_map] at hu
  cases hb : s[j]? with
  | none => rw [hb] at hc; cases hc
  | some b =>
    simp [hb] at hc hu
    subst hc; subst hu
    exact .int _ _

theorem append_sound (hT : TabOK P T) (hR : Rel X ρ σ w) {t tx ty : TypeId} {s x : AV} {u v : Value} (hu : VR w (Mu X ρ σ) ρ σ s u) {i : TI} (hi : elemTI T t = some i) {m : Nat} {new : List AV} {nv : List Value}
    (hs : Src P i.size tx v m nv w) (hvl : VRl w (Mu X ρ σ) ρ σ new nv) (hn : news σ i.size x = some (m, new)) {r : AV × St} (h : append1 T t σ s x = some r) :
    ∃ z w' ρ', (Builtin.append_ #[t, tx] ty #[u, v]).run P w = .ok z w' ∧ Rel X ρ' r.2 w' ∧ Tr ρ σ w ρ' r.2 w' ∧ VR w' (Mu X ρ' r.2) ρ' r.2 r.1 z := by
  simp only [append1, hi, hn, Option.bind_some] at h
  unfold elemTI at hi
  split at hi
  · rename_i e sz b zz fl ht
    obtain ⟨z, info, g1, g2, g3, g4, hz, hzv, _⟩ := zero_vrs (hT.ty _ _ hi) w (Mu X ρ σ) ρ σ
    have hut := (hT.ty _ _ ht).und
    split at h
    · cases h
    · rename_i hc
      have c1 : ¬ i.size = 0 := fun e => hc (.inl e)
      have c2 : i.zero.length = i.size := by
        apply Classical.byContradiction
        intro e; exact hc (.inr (.inl e))
      have c3 : new.all AV.one = true := by
        apply Classical.byContradiction
        intro e; exact hc (.inr (.inr (by simpa using e)))
      have hzs : z.cells.size = i.size := by rw [hzv.1, c2]
      have nlen : nv.length = m * i.size := by have := hs.newsLen; exact this
      have hs' : Src P info.size tx v m nv w := by rw [g3]; exact hs
      split at h
      · -- nil
        cases hu with
        | nil0 base =>
        split at h
        · rename_i hm
          cases h
          subst hm
          have e0 : nv = [] := List.eq_nil_of_length_eq_zero (by simpa using nlen)
          subst e0
          exact ⟨_, w, ρ, run_append_nothing (P := P) w t tx ty e info hut g1 base 0 0 (Nat.le_refl _) v hs', hR, Tr.refl .., .nil0 _⟩
        · rename_i hm
          split at h
          · rename_i hroom
            cases h
            simp only [room47, Bool.and_eq_true, decide_eq_true_eq] at hroom
            have hrun := run_append_grow_src (P := P) w t tx ty e info z hut g1 g2 base 0 0 [] (by cases base <;> simp [Builtin.firstCells, loadCells, loadCellsFrom]) v m nv hs' (by omega) (by omega)
              (by simp only [Nat.zero_add]; rw [g4]; exact growslice_fits (by omega) hroom.2)
            simp only [Nat.zero_add, List.nil_append] at hrun
            have hge := grownCap_ge w m 0 e
            have hsize : (nv.toArray ++ Builtin.zeroCells z.cells (grownCap w m 0 e - m)).size = grownCap w m 0 e * i.size := by
              rw [Array.size_append, List.size_toArray, size_zeroCells, hzs, nlen, ← Nat.add_mul]; congr 1; omega
            have key := new_cells hR e (nv.toArray ++ Builtin.zeroCells z.cells (grownCap w m 0 e - m)) new (w' := w.drew.alloc (.cells (nv.toArray ++ Builtin.zeroCells z.cells (grownCap w m 0 e - m)) e)) rfl rfl rfl ⟨rfl, by first | exact Nat.le_refl _ | exact Nat.le_succ _⟩
              (by simp [hvl.1]) (fun j c v hc hv => by
                have hj : j < nv.length := by rw [hvl.1]; exact (List.getElem?_eq_some_iff.1 hc).1
                rw [Array.getElem?_append_left (by simpa using hj)] at hv
                exact hvl.2 j c v hc (by simpa using hv))
            exact ⟨_, _, _, hrun, key.1, key.2, vr_newref _ _ _ _ _ _ _ _ _ hge (by rw [hsize]; simp)⟩
          · cases h
      · -- an object
        rename_i id ver off n k
        split at h
        · rename_i hk
          subst hk
          cases hu with
          | ref _ _ _ _ _ _ hsh hid hlive =>
          split at h
          · rename_i hm
            cases h
            subst hm
            have e0 : nv = [] := List.eq_nil_of_length_eq_zero (by simpa using nlen)
            subst e0
            obtain ⟨ad, cap, rfl, hcp⟩ := hsh
            exact ⟨_, w, ρ, run_append_nothing (P := P) w t tx ty e info hut g1 (some ad) n cap hcp v hs', hR, Tr.refl .., .ref _ _ _ _ _ _ ⟨_, _, rfl, hcp⟩ hid hlive⟩
          · rename_i hm
            split at h
            · rename_i vv cs ho
              split at h
              · rename_i hcc
                obtain ⟨rfl, hfull, hroom⟩ := hcc
                cases h
                simp only [room47, Bool.and_eq_true, decide_eq_true_eq] at hroom
                obtain ⟨cap, rfl, hcp, htot⟩ := hlive _ ho rfl rfl
                obtain ⟨cur, e', fz, hh, hcsz, hfit, hfz, hcells⟩ := hR.obj id _ ho
                by_cases hcap : n + m ≤ cap
                · -- there is room
                  have hb : (ρ id).base + off + n * i.size + m * i.size ≤ cur.size := by
                    have : n * i.size + m * i.size ≤ cap * i.size := by rw [← Nat.add_mul]; exact Nat.mul_le_mul_right _ hcap
                    omega
                  have hrun := run_append_room_src (P := P) w t tx ty e info hut g1 (ρ id).block ((ρ id).base + off) n cap v m nv hs' hcap
                    (fun j hj => by rw [g3]; simp [World.cell?, hh, Array.getElem?_eq_getElem (show (ρ id).base + off + n * i.size + j < cur.size by omega)])
                    (fun j hj => by
                      rw [g3]
                      have := hfz ((ρ id).base + off + n * i.size + j) (by omega)
                      simp [World.frozen?, hh]; omega)
                  rw [g3] at hrun
                  obtain ⟨s1, s2, s3, s4, s5⟩ := setCells_same (ρ id).block nv ((ρ id).base + off + n * i.size) w
                  obtain ⟨cur', b1, b2, b3, b4⟩ := setCells_block (ρ id).block e' fz nv ((ρ id).base + off + n * i.size) w cur hh (by omega)
                  have key := rel_upd (X := X) hR ho rfl ⟨vv + 1, .cells (cs.drop off ++ new) true⟩ rfl (Nat.le_succ _) ⟨(ρ id).block, (ρ id).base + off, (ρ id).tot⟩
                    (fun _ h => by simp at h) (fun h => by cases h) (.inl rfl) (w' := w.setCells (ρ id).block ((ρ id).base + off + n * i.size) nv) s1 s2 s3 (by omega) (fun b _ hb => s5 b hb) ?_
                  · refine ⟨_, _, _, hrun, key.1, key.2, ?_⟩
                    refine .ref _ _ _ _ _ _ ⟨_, _, rfl, hcap⟩ ⟨_, by simp [lt_of_get ho]; rfl, Nat.le_refl _⟩ (fun o _ _ _ => ⟨cap, ?_, hcap, ?_⟩)
                    · rw [upd_same, Nat.add_zero]
                    · rw [upd_same]; simp; omega
                  · intro tr
                    refine ⟨cur', e', fz, b1, by simp; omega, ?_, fun j hj => hfz j (by omega), ?_⟩
                    · simp only [List.length_append, List.length_drop]; rw [← hvl.1, b2]; omega
                    · intro j c hc
                      simp only
                      rw [List.getElem?_append] at hc
                      have hdl : (cs.drop off).length = n * i.size := by simp; omega
                      rw [hdl] at hc
                      by_cases hj : j < n * i.size
                      · rw [if_pos hj, List.getElem?_drop] at hc
                        obtain ⟨q, hq, hv⟩ := hcells (off + j) c hc
                        exact ⟨q, by rw [b4 _ (.inl (by omega)), Nat.add_assoc]; exact hq, hv.tr tr⟩
                      · rw [if_neg hj] at hc
                        have hjl : j - n * i.size < nv.length := by rw [hvl.1]; exact (List.getElem?_eq_some_iff.1 hc).1
                        refine ⟨nv[j - n * i.size], ?_, (hvl.2 _ c _ hc (List.getElem?_eq_getElem hjl)).tr tr⟩
                        have := b3 _ hjl
                        rw [show (ρ id).base + off + n * i.size + (j - n * i.size) = (ρ id).base + off + j by omega] at this
                        rw [this, List.getElem?_eq_getElem hjl]
                · -- a new block
                  have holds : ∀ j, j < n * i.size → w.cell? ((⟨(ρ id).block, (ρ id).base + off, none⟩ : Addr).add j) = some (cur.getD ((ρ id).base + off + j) default) := by
                    intro j hj
                    rw [add_lit]
                    have hlt : (ρ id).base + off + j < cur.size := by omega
                    simp [World.cell?, hh, Array.getD_eq_getD_getElem?, Array.getElem?_eq_getElem hlt]
                  let olds : List Value := (List.range (n * i.size)).map fun j => cur.getD ((ρ id).base + off + j) default
                  have hol : olds.length = n * i.size := by simp [olds]
                  have hrun := run_append_grow_src (P := P) w t tx ty e info z hut g1 g2 (some ⟨(ρ id).block, (ρ id).base + off, none⟩) n cap olds
                    (run_firstCells_some w.drew info.size n _ n cap olds (by rw [g3]; exact hol) (fun j u hu => by
                      have hj : j < n * i.size := by rw [← hol]; exact (List.getElem?_eq_some_iff.1 hu).1
                      simp [olds, hj] at hu
                      rw [World.cell?_drew, holds j hj, ← hu]; simp)) v m nv hs' (by omega) (by omega)
                    (by rw [g4]; exact growslice_fits (by omega) hroom.2)
                  have hge := grownCap_ge w (n + m) cap e
                  have hsize : ((olds ++ nv).toArray ++ Builtin.zeroCells z.cells (grownCap w (n + m) cap e - (n + m))).size = grownCap w (n + m) cap e * i.size := by
                    rw [Array.size_append, List.size_toArray, size_zeroCells, hzs, List.length_append, hol, nlen, ← Nat.add_mul, ← Nat.add_mul]; congr 1; omega
                  generalize hA : (olds ++ nv).toArray ++ Builtin.zeroCells z.cells (grownCap w (n + m) cap e - (n + m)) = A at hrun hsize
                  have key := rel_upd (X := X) hR ho rfl ⟨vv + 1, .cells (cs.drop off ++ new) true⟩ rfl (Nat.le_succ _) ⟨w.heap.size, 0, grownCap w (n + m) cap e * i.size⟩
                    (fun _ h => by simp at h) (fun h => by cases h) (.inr rfl) (w' := w.drew.alloc (.cells A e)) rfl rfl ⟨rfl, Nat.le_succ _⟩ (by simp) (fun b hb _ => heap_alloc_old w.drew _ b hb) ?_
                  · refine ⟨_, _, _, hrun, key.1, key.2, ?_⟩
                    refine .ref _ _ _ _ _ _ ⟨_, _, rfl, hge⟩ ⟨_, by simp [lt_of_get ho]; rfl, Nat.le_refl _⟩ (fun o _ _ _ => ⟨_, ?_, hge, ?_⟩)
                    · rw [upd_same]
                    · rw [upd_same]; simp
                  · intro tr
                    refine ⟨A, e, (0, 0), heap_alloc_new w.drew _, hsize, ?_, fun j hj => by simp, ?_⟩
                    · rw [hsize]
                      have : (n + m) * i.size ≤ grownCap w (n + m) cap e * i.size := Nat.mul_le_mul_right _ hge
                      rw [Nat.add_mul] at this
                      simp only [List.length_append, List.length_drop]
                      rw [← hvl.1, nlen]; omega
                    · intro j c hc
                      rw [List.getElem?_append] at hc
                      have hdl : (cs.drop off).length = n * i.size := by simp; omega
                      rw [hdl] at hc
                      have hAj : ∀ q : Nat, q < (olds ++ nv).length → A[q]? = (olds ++ nv)[q]? := by
                        intro q hq
                        rw [← hA, Array.getElem?_append_left (by simpa using hq)]; simp
                      by_cases hj : j < n * i.size
                      · rw [if_pos hj, List.getElem?_drop] at hc
                        obtain ⟨q, hq, hv⟩ := hcells (off + j) c hc
                        refine ⟨q, ?_, hv.tr tr⟩
                        rw [Nat.zero_add, hAj j (by rw [List.length_append]; omega), List.getElem?_append_left (by omega)]
                        rw [← Nat.add_assoc] at hq
                        simp [olds, hj, Array.getD_eq_getD_getElem?, hq]
                      · rw [if_neg hj] at hc
                        have hjl : j - n * i.size < nv.length := by rw [hvl.1]; exact (List.getElem?_eq_some_iff.1 hc).1
                        refine ⟨nv[j - n * i.size], ?_, (hvl.2 _ c _ hc (List.getElem?_eq_getElem hjl)).tr tr⟩
                        rw [Nat.zero_add, hAj j (by rw [List.length_append]; omega), List.getElem?_append_right (by omega), hol, List.getElem?_eq_getElem hjl]
              · cases h
            · cases h
        · cases h
      · cases h
  · cases hi

end Go.Am

/- Maps. -/
set_option linter.unusedVariables false
set_option linter.unusedSimpArgs false
namespace Go.Am
variable {P : Program} {T : Tab} {X : Nat → Prop} {ρ : Rho} {σ : St} {w : World}

/-- Entries beside the machine's. -/
def ER (w : World) (M : Nat → Prop) (ρ : Rho) (σ : St) (es : List (AV × AV)) (ces : List MapEntry) : Prop :=
  ces.length = es.length ∧ ∀ (j : Nat) e ce, es[j]? = some e → ces[j]? = some ce → VR w M ρ σ e.1 ce.key ∧ VR w M ρ σ e.2 ce.val

theorem ER.tail {M : Nat → Prop} {e : AV × AV} {es : List (AV × AV)} {ce : MapEntry} {ces : List MapEntry} (h : ER w M ρ σ (e :: es) (ce :: ces)) : (VR w M ρ σ e.1 ce.key ∧ VR w M ρ σ e.2 ce.val) ∧ ER w M ρ σ es ces :=
  ⟨h.2 0 e ce rfl rfl, by have := h.1; simpa using this, fun j e' ce' h1 h2 => h.2 (j + 1) e' ce' (by simpa using h1) (by simpa using h2)⟩

/-- What a search finds beside what the machine's finds. -/
def FR2 (w : World) (M : Nat → Prop) (ρ : Rho) (σ : St) (r : Option (Nat × AV)) (r' : Option (Nat × Value)) : Prop :=
  match r, r' with
  | none, none => True
  | some (i, v), some (j, cv) => i = j ∧ VR w M ρ σ v cv
  | _, _ => False

theorem findNow_int {M : Nat → Prop} {k : IntKind} {n : Int} {d : IntKind} : ∀ (es : List (AV × AV)) (ces : List MapEntry) (i : Nat) {r}, ER w M ρ σ es ces → findK (.int k n) es i = some r →
    ∃ r', Instr.findNow (.int d) (.int k n) ces i = some r' ∧ FR2 w M ρ σ r r'
  | [], [], i, r, _, h => by simp only [findK, Option.some.injEq] at h; subst h; exact ⟨none, rfl, trivial⟩
  | [], _ :: _, i, r, he, _ => by have := he.1; simp at this
  | _ :: _, [], i, r, he, _ => by have := he.1; simp at this
  | e :: es, ce :: ces, i, r, he, h => by
    obtain ⟨⟨h1, h2⟩, hta⟩ := he.tail
    simp only [findK] at h
    obtain ⟨e1, e2⟩ := e
    simp only at h1 h2 h
    cases e1 <;> simp only [keyEq, eqCell] at h <;> try (cases h; done)
    rename_i k' n'
    have hk := h1.int_inv
    by_cases hkk : k = k'
    · subst hkk
      simp only [if_true] at h
      simp only [Instr.findNow, hk, Instr.sameNow, if_true]
      by_cases hn : (n == n') = true
      · rw [hn] at h ⊢
        simp only [Option.some.injEq] at h
        subst h
        exact ⟨_, rfl, rfl, h2⟩
      · have hn' : (n == n') = false := by simpa using hn
        rw [hn'] at h ⊢
        exact findNow_int es ces (i + 1) hta h
    · simp only [hkk, if_false] at h; cases h

theorem findNow_str {M : Nat → Prop} {s : List UInt8} : ∀ (es : List (AV × AV)) (ces : List MapEntry) (i : Nat) {r}, ER w M ρ σ es ces → findK (.str s) es i = some r →
    ∃ r', Instr.findNow .string (.string ⟨s.toArray⟩) ces i = some r' ∧ FR2 w M ρ σ r r'
  | [], [], i, r, _, h => by simp only [findK, Option.some.injEq] at h; subst h; exact ⟨none, rfl, trivial⟩
  | [], _ :: _, i, r, he, _ => by have := he.1; simp at this
  | _ :: _, [], i, r, he, _ => by have := he.1; simp at this
  | e :: es, ce :: ces, i, r, he, h => by
    obtain ⟨⟨h1, h2⟩, hta⟩ := he.tail
    simp only [findK] at h
    obtain ⟨e1, e2⟩ := e
    simp only at h1 h2 h
    cases e1 <;> simp only [keyEq, eqCell] at h <;> try (cases h; done)
    rename_i s'
    have hk := h1.str_inv
    have hb : ((⟨s.toArray⟩ : ByteArray) == ⟨s'.toArray⟩) = (s == s') := by rw [beq_toListBytes, ByteArray.toList_mk, ByteArray.toList_mk]
    simp only [Instr.findNow, hk, Instr.sameNow, hb]
    by_cases hn : (s == s') = true
    · rw [hn] at h ⊢
      simp only [Option.some.injEq] at h
      subst h
      exact ⟨_, rfl, rfl, h2⟩
    · have hn' : (s == s') = false := by simpa using hn
      rw [hn'] at h ⊢
      exact findNow_str es ces (i + 1) hta h

theorem eqCells_len : ∀ {a b : List AV} {e : Bool}, eqCells a b = some e → a.length = b.length
  | [], [], _, _ => rfl
  | [], _ :: _, _, h => by simp [eqCells] at h
  | _ :: _, [], _, h => by simp [eqCells] at h
  | a :: as, b :: bs, e, h => by
    simp only [eqCells, Option.bind_eq_some_iff, Option.map_eq_some_iff] at h
    obtain ⟨x, _, y, hy, _⟩ := h
    simp [eqCells_len hy]

theorem findAsk_agg {M : Nat → Prop} {t : TypeId} {n : Nat} {zs : List AV} (F : FlatOK P t n zs) {as : List AV} {xs : Array Value} (hl : as.length = n) (ht : tags as zs = true) (hx : VRs w M ρ σ as xs) : ∀ (es : List (AV × AV)) (ces : List MapEntry) (i : Nat) {r}, ER w M ρ σ es ces →
    findK (.agg as) es i = some r → ∃ r', (Instr.findAsking t (.agg xs) ces i).run P w = .ok r' w ∧ FR2 w M ρ σ r r'
  | [], [], i, r, _, h => by simp only [findK, Option.some.injEq] at h; subst h; exact ⟨none, rfl, trivial⟩
  | [], _ :: _, i, r, he, _ => by have := he.1; simp at this
  | _ :: _, [], i, r, he, _ => by have := he.1; simp at this
  | e :: es, ce :: ces, i, r, he, h => by
    obtain ⟨⟨h1, h2⟩, hta⟩ := he.tail
    simp only [findK] at h
    obtain ⟨e1, e2⟩ := e
    simp only at h1 h2 h
    cases e1 <;> simp only [keyEq, eqCell] at h <;> try (cases h; done)
    rename_i bs
    obtain ⟨ys, hk, hy⟩ := h1.agg_inv
    cases he : eqCells as bs with
    | none => rw [he] at h; cases h
    | some b =>
      rw [he] at h
      have heq := F.eq w M ρ σ as bs xs ys b hl (by rw [← eqCells_len he]; exact hl) ht hx hy he
      simp only [Instr.findAsking, Sem.run_bind, hk, Op.equal, Op.maxDepth, heq, Result.andThen_ok, Sem.run_ite]
      cases b with
      | true =>
        simp only [Option.some.injEq] at h
        subst h
        exact ⟨_, rfl, rfl, h2⟩
      | false => exact findAsk_agg F hl ht hx es ces (i + 1) hta h

theorem findNow_agg {d : TypeDesc} {xs : Array Value} (ce : MapEntry) (ces : List MapEntry) (i : Nat) : Instr.findNow d (.agg xs) (ce :: ces) i = none := by
  simp only [Instr.findNow]
  cases d <;> simp [Instr.sameNow]

theorem checkKey_int {t : TypeId} {d k : IntKind} {n : Int} (b : Bool) (m : Nat) (hu : P.underlying t = some (.int d)) : (Instr.checkKey b (m + 1) t (.int k n)).run P w = .ok () w := by
  simp [Instr.checkKey, run_underlying hu]
theorem checkKey_str {t : TypeId} {s : ByteArray} (b : Bool) (m : Nat) (hu : P.underlying t = some .string) : (Instr.checkKey b (m + 1) t (.string s)).run P w = .ok () w := by
  simp [Instr.checkKey, run_underlying hu]

/-- A key is looked for. -/
theorem findKey_sound {M : Nat → Prop} {t : TypeId} {i : TI} (hty : TyOK P t i) {k : AV} {ck : Value} (hok : keyOk i k = true) (hk : VR w M ρ σ k ck) {es : List (AV × AV)} {ces : List MapEntry} (he : ER w M ρ σ es ces) {r}
    (h : findK k es 0 = some r) : (∀ b, (Instr.checkKey b 10000 t ck).run P w = .ok () w) ∧ ∃ r', (Instr.findKey t ck ces).run P w = .ok r' w ∧ FR2 w M ρ σ r r' := by
  have hu := hty.und
  cases k with
  | int kk n =>
    have e := hk.int_inv
    subst e
    simp only [keyOk] at hok
    split at hok
    · rename_i d hd
      rw [hd] at hu
      obtain ⟨r', h1, h2⟩ := findNow_int (d := d) es ces 0 he h
      exact ⟨fun b => checkKey_int b 9999 hu, r', by simp [Instr.findKey, run_underlying hu, h1], h2⟩
    · cases hok
  | str s =>
    have e := hk.str_inv
    subst e
    simp only [keyOk] at hok
    split at hok
    · rename_i hd
      rw [hd] at hu
      obtain ⟨r', h1, h2⟩ := findNow_str es ces 0 he h
      exact ⟨fun b => checkKey_str b 9999 hu, r', by simp [Instr.findKey, run_underlying hu, h1], h2⟩
    · cases hok
  | agg as =>
    obtain ⟨xs, e, hx⟩ := hk.agg_inv
    subst e
    simp only [keyOk, Bool.and_eq_true, beq_iff_eq] at hok
    obtain ⟨⟨hf, hl⟩, ha⟩ := hok
    have F := hty.flat hf
    refine ⟨fun b => F.key w M ρ σ as xs b hl ha hx, ?_⟩
    cases ces with
    | nil =>
      have : es = [] := List.eq_nil_of_length_eq_zero (by have := he.1; simpa using this.symm)
      subst this
      simp only [findK, Option.some.injEq] at h
      subst h
      exact ⟨none, by simp [Instr.findKey, run_underlying hu, Instr.findNow], trivial⟩
    | cons ce ces =>
      obtain ⟨r', h1, h2⟩ := findAsk_agg F hl ha hx es (ce :: ces) 0 he h
      refine ⟨r', ?_, h2⟩
      simp only [Instr.findKey, Sem.run_bind, run_underlying hu, Result.andThen_ok, findNow_agg]
      exact h1
  | _ => simp [keyOk] at hok

theorem map_obj (hR : Rel X ρ σ w) {id : Nat} {ver : Nat} {es : List (AV × AV)} (ho : σ[id]? = some ⟨ver, .map es⟩) : ∃ ces clock, w.heap[(ρ id).block]? = some (.map ces clock) ∧ ER w (Mu X ρ σ) ρ σ es ces.toList ∧
    (∀ (j : Nat) ce, ces[j]? = some ce → ce.born < clock) ∧ (∀ (i j : Nat) ci cj, ces[i]? = some ci → ces[j]? = some cj → ci.born = cj.born → i = j) := by
  obtain ⟨ces, clock, h1, h2, h3, h4, h5⟩ := hR.obj id _ ho
  refine ⟨ces, clock, h1, ⟨by simpa using h2, ?_⟩, h4, h5⟩
  intro j e ce he hce
  obtain ⟨ce', hc', ha, hb⟩ := h3 j e he
  rw [Array.getElem?_toList, hc'] at hce
  cases hce
  exact ⟨ha, hb⟩

theorem VR.mref_inv (hR : Rel X ρ σ w) {id : Nat} {v : Value} (hv : VR w (Mu X ρ σ) ρ σ (.mref id) v) {ver : Nat} {es : List (AV × AV)} (ho : σ[id]? = some ⟨ver, .map es⟩) : v = .map (some (ρ id).block) := by
  cases hv with
  | mref _ _ h0 h1 h2 => exact h2 _ ho rfl

theorem asVal_sound {t : TypeId} {i : TI} (hty : TyOK P t i) {c : AV} (h : asVal i i.zero = some c) (w : World) (M : Nat → Prop) (ρ : Rho) (σ : St) : ∃ z, (zeroValue t).run P w = .ok z w ∧ VR w M ρ σ c z := by
  obtain ⟨z, info, g1, g2, g3, g4, hz, hvs, ha, hb⟩ := zero_vrs hty w M ρ σ
  refine ⟨z, hz, ?_⟩
  unfold asVal chunkLoad at h
  by_cases hg : i.agg = true
  · rw [if_pos hg] at h
    cases h
    obtain ⟨cs, rfl⟩ := ha hg
    exact .agg _ _ hvs.1 hvs.2
  · rw [if_neg hg] at h
    split at h
    · rename_i v hv
      split at h
      · cases h
        have h1 := hb (by simpa using hg)
        have e : z.cells = #[z] := by cases z <;> simp_all [Value.oneCell', Value.cells]
        rw [e, hv] at hvs
        exact hvs.2 0 _ _ rfl rfl
      · cases h
    · cases h

theorem mapTypes_some {t : TypeId} {p : TI × TI} (h : mapTypes T t = some p) : ∃ k e sz b zz fl, T.ty t = some ⟨.map k e, sz, b, zz, fl⟩ ∧ T.ty k = some p.1 ∧ T.ty e = some p.2 := by
  unfold mapTypes at h
  split at h
  · rename_i k e sz b zz fl ht
    simp only [Option.bind_eq_some_iff, Option.map_eq_some_iff] at h
    obtain ⟨a, ha, b', hb, rfl⟩ := h
    exact ⟨k, e, sz, b, zz, fl, ht, ha, hb⟩
  · cases h

theorem op_lookup {o : Oper} {t : TypeId} {x ix : Operand} {ok : Bool} (ho : o.op = .lookup t x ix ok) {fr : Fr} {a : Act} (hT : TabOK P T) (hR : Rel X ρ σ w) (hF : FR X ρ σ w fr a) {r : AStep}
    (h : astep T o fr σ = some r) : Good X ρ σ w r ((execOp a.eval o).run P w) := by
  simp only [astep, ho] at h
  obtain ⟨c, hc, rfl⟩ := val_some h
  have hx := hF.ev x
  have hix := hF.ev ix
  simp only [lookupA, Option.bind_eq_some_iff] at hc
  obtain ⟨p, hm, hc⟩ := hc
  obtain ⟨kT, eT, sz, b, zz, fl, ht, hk, he⟩ := mapTypes_some hm
  split at hc
  · rename_i hok
    simp only [Option.bind_eq_some_iff] at hc
    obtain ⟨es, hes, q, hq, hc⟩ := hc
    -- the entries
    have hent : ∃ ces : Array MapEntry, ER w (Mu X ρ σ) ρ σ es ces.toList ∧ ((a.eval x = .map none ∧ ces = #[]) ∨ ∃ r clock, a.eval x = .map (some r) ∧ w.heap[r]? = some (.map ces clock)) := by
      unfold mapEs at hes
      split at hes
      · rename_i e; rw [e] at hx; cases hes
        generalize ex : a.eval x = vx at hx
        cases hx
        exact ⟨#[], ⟨rfl, fun j e ce h1 => by simp at h1⟩, .inl ⟨rfl, rfl⟩⟩
      · rename_i id e; rw [e] at hx
        split at hes
        · rename_i ver es' ho'
          cases hes
          obtain ⟨ces, clock, h1, h2, _⟩ := map_obj hR ho'
          exact ⟨ces, h2, .inr ⟨_, clock, hx.mref_inv hR ho', h1⟩⟩
        · cases hes
      · cases hes
    obtain ⟨ces, her, hent⟩ := hent
    obtain ⟨hck, r', hr', hf⟩ := findKey_sound (P := P) (hT.ty _ _ hk) hok hix her hq
    have hget : ∀ r clock, w.heap[r]? = some (.map ces clock) → (getObj r).run P w = .ok (.map ces clock) w := by
      intro r clock e2
      simp [getObj, Sem.run, e2]
    have hrun1 : ∀ j cv, r' = some (j, cv) → (execOp a.eval o).run P w = .ok (.value (if ok then .tuple #[cv, .bool true] else cv)) w := by
      intro j cv e
      subst e
      rcases hent with ⟨e1, e2⟩ | ⟨r, clock, e1, e2⟩
      · subst e2
        simp only [execOp, ho, Instr.lookup, e1, Sem.run_bind, run_underlying (hT.ty _ _ ht).und, Result.andThen_ok, Sem.run_pure, hck, hr']
      · simp only [execOp, ho, Instr.lookup, e1, Sem.run_bind, run_underlying (hT.ty _ _ ht).und, Result.andThen_ok, Sem.run_pure, hget r clock e2, hck, hr']
    have hrun2 : ∀ z, r' = none → (zeroValue eT).run P w = .ok z w → (execOp a.eval o).run P w = .ok (.value (if ok then .tuple #[z, .bool false] else z)) w := by
      intro z e hz
      subst e
      rcases hent with ⟨e1, e2⟩ | ⟨r, clock, e1, e2⟩
      · subst e2
        simp only [execOp, ho, Instr.lookup, e1, Sem.run_bind, run_underlying (hT.ty _ _ ht).und, Result.andThen_ok, Sem.run_pure, hck, hr', hz]
      · simp only [execOp, ho, Instr.lookup, e1, Sem.run_bind, run_underlying (hT.ty _ _ ht).und, Result.andThen_ok, Sem.run_pure, hget r clock e2, hck, hr', hz]
    cases q with
    | some q =>
      cases r' with
      | none => exact absurd hf (by simp [FR2])
      | some r' =>
        obtain ⟨j, cv⟩ := r'
        obtain ⟨hj, hv⟩ := hf
        simp only [Option.some.injEq] at hc
        subst hc
        refine Good.pure hR (hrun1 j cv rfl) ?_
        cases ok
        · exact hv
        · refine .tup _ _ (by simp) (fun i c v h1 h2 => ?_)
          match i, h1, h2 with
          | 0, h1, h2 => simp at h1 h2; subst h1; subst h2; exact hv
          | 1, h1, h2 => simp at h1 h2; subst h1; subst h2; exact .bool _
          | n + 2, h1, h2 => simp at h1
    | none =>
      cases r' with
      | some r' => exact absurd hf (by simp [FR2])
      | none =>
        simp only [Option.map_eq_some_iff] at hc
        obtain ⟨zc, hz, rfl⟩ := hc
        obtain ⟨z, hzr, hzv⟩ := asVal_sound (P := P) (hT.ty _ _ he) hz w (Mu X ρ σ) ρ σ
        refine Good.pure hR (hrun2 z rfl hzr) ?_
        cases ok
        · exact hzv
        · refine .tup _ _ (by simp) (fun i c v h1 h2 => ?_)
          match i, h1, h2 with
          | 0, h1, h2 => simp at h1 h2; subst h1; subst h2; exact hzv
          | 1, h1, h2 => simp at h1 h2; subst h1; subst h2; exact .bool _
          | n + 2, h1, h2 => simp at h1
  · cases hc

/-- A map's block is written. -/
theorem map_write (hR : Rel X ρ σ w) {id ver : Nat} {es : List (AV × AV)} (ho : σ[id]? = some ⟨ver, .map es⟩) (es' : List (AV × AV)) (ces' : Array MapEntry) (clock' : Nat)
    (her : ER w (Mu X ρ σ) ρ σ es' ces'.toList) (h1 : ∀ (j : Nat) ce, ces'[j]? = some ce → ce.born < clock') (h2 : ∀ (i j : Nat) ci cj, ces'[i]? = some ci → ces'[j]? = some cj → ci.born = cj.born → i = j) :
    Rel X (upd ρ id (ρ id)) (σ.set id ⟨ver, .map es'⟩) { w with heap := w.heap.setIfInBounds (ρ id).block (.map ces' clock') } ∧
      Tr ρ σ w (upd ρ id (ρ id)) (σ.set id ⟨ver, .map es'⟩) { w with heap := w.heap.setIfInBounds (ρ id).block (.map ces' clock') } := by
  have hlt : (ρ id).block < w.heap.size := (hR.obj id _ ho).lt rfl
  refine rel_upd (X := X) hR ho rfl ⟨ver, .map es'⟩ rfl (Nat.le_refl _) (ρ id) (fun h => by cases h) (fun _ => ⟨rfl, rfl⟩) (.inl rfl) rfl rfl ⟨rfl, Nat.le_refl _⟩ (by simp) (fun b hb hne => by simp [Array.getElem?_setIfInBounds, Ne.symm hne]) ?_
  intro t
  refine ⟨ces', clock', by simp [Array.getElem?_setIfInBounds, hlt], by simpa using her.1, ?_, h1, h2⟩
  intro j e he
  have hj : j < ces'.size := by have := her.1; have := (List.getElem?_eq_some_iff.1 he).1; simp at *; omega
  refine ⟨ces'[j], Array.getElem?_eq_getElem hj, ?_⟩
  have := her.2 j e ces'[j] he (by simp [hj])
  exact ⟨this.1.tr t, this.2.tr t⟩

end Go.Am

/- Maps that are written; conversions; the other built-in functions; calls. -/
set_option linter.unusedVariables false
set_option linter.unusedSimpArgs false
namespace Go.Am
variable {P : Program} {T : Tab} {X : Nat → Prop} {ρ : Rho} {σ : St} {w : World}

theorem findK_at {k : AV} : ∀ (es : List (AV × AV)) (n : Nat) {q : Nat × AV}, findK k es n = some (some q) → n ≤ q.1 ∧ ∃ e, es[q.1 - n]? = some e ∧ keyEq k e.1 = some true ∧ e.2 = q.2
  | [], n, q, h => by simp [findK] at h
  | e :: es, n, q, h => by
    simp only [findK] at h
    split at h
    · rename_i hk
      simp only [Option.some.injEq] at h
      subst h
      exact ⟨Nat.le_refl _, e, by simp, hk, rfl⟩
    · obtain ⟨h1, e', h2, h3⟩ := findK_at es (n + 1) h
      refine ⟨by omega, e', ?_, h3⟩
      rw [show q.1 - n = (q.1 - (n + 1)) + 1 by omega]
      simpa using h2
    · cases h

theorem sameBits_cell {M : Nat → Prop} {a b : AV} {x y : Value} (ha : VR w M ρ σ a x) (hb : VR w M ρ σ b y) (h : eqCell a b = some true) (n : Nat) : Instr.sameBits n y x = true := by
  unfold eqCell at h
  split at h
  · have e1 := ha.bool_inv; have e2 := hb.bool_inv; subst e1; subst e2
    simp only [Option.some.injEq, beq_iff_eq] at h
    subst h; cases n <;> simp [Instr.sameBits]
  · have e1 := ha.int_inv; have e2 := hb.int_inv; subst e1; subst e2
    split at h
    · rename_i hk
      simp only [Option.some.injEq, beq_iff_eq] at h
      subst h; subst hk; cases n <;> simp [Instr.sameBits]
    · cases h
  · have e1 := ha.str_inv; have e2 := hb.str_inv; subst e1; subst e2
    simp only [Option.some.injEq, beq_iff_eq] at h
    subst h; cases n <;> simp [Instr.sameBits, beq_toListBytes]
  · cases h

theorem eqCells_at : ∀ {a b : List AV}, eqCells a b = some true → ∀ (j : Nat) x y, a[j]? = some x → b[j]? = some y → eqCell x y = some true
  | [], [], _, j, x, y, h1, _ => by simp at h1
  | [], _ :: _, h, _, _, _, _, _ => by simp [eqCells] at h
  | _ :: _, [], h, _, _, _, _, _ => by simp [eqCells] at h
  | a :: as, b :: bs, h, j, x, y, h1, h2 => by
    simp only [eqCells, Option.bind_eq_some_iff, Option.map_eq_some_iff, Bool.and_eq_true] at h
    obtain ⟨e, he, r, hr, rfl, rfl⟩ := h
    cases j with
    | zero => simp at h1 h2; subst h1; subst h2; exact he
    | succ j => exact eqCells_at hr j x y (by simpa using h1) (by simpa using h2)

theorem sameBits_key {M : Nat → Prop} {a b : AV} {x y : Value} (ha : VR w M ρ σ a x) (hb : VR w M ρ σ b y) (h : keyEq a b = some true) (n : Nat) : Instr.sameBits (n + 1) y x = true := by
  unfold keyEq at h
  split at h
  · rename_i as bs
    obtain ⟨xs, rfl, hx⟩ := ha.agg_inv
    obtain ⟨ys, rfl, hy⟩ := hb.agg_inv
    have hl := eqCells_len h
    simp only [Instr.sameBits, Bool.and_eq_true, beq_iff_eq]
    refine ⟨by rw [hx.1, hy.1, hl], ?_⟩
    rw [List.all_eq_true]
    rintro ⟨u, v⟩ huv
    obtain ⟨j, hj⟩ := List.getElem?_of_mem huv
    rw [List.getElem?_zip_eq_some] at hj
    obtain ⟨h1, h2⟩ := hj
    rw [Array.getElem?_toList] at h1 h2
    have j1 : j < bs.length := by rw [← hy.1]; exact (Array.getElem?_eq_some_iff.1 h1).1
    have j2 : j < as.length := by omega
    exact sameBits_cell (hx.2 j as[j] v (List.getElem?_eq_getElem j2) h2) (hy.2 j bs[j] u (List.getElem?_eq_getElem j1) h1)
      (eqCells_at h j _ _ (List.getElem?_eq_getElem j2) (List.getElem?_eq_getElem j1)) n
  · exact sameBits_cell ha hb h (n + 1)

theorem keyStays {M : Nat → Prop} {a b : AV} {x y : Value} (ha : VR w M ρ σ a x) (hb : VR w M ρ σ b y) (h : keyEq a b = some true) : (Instr.keyThatStays y x).run P w = .ok x w := by
  simp only [Instr.keyThatStays]
  rw [if_pos (sameBits_key ha hb h 9999)]
  rfl

theorem run_setMap {r : Nat} {es : Array MapEntry} {clock : Nat} (h : w.heap[r]? = some (.map es clock)) (o : Obj) : (setObj r o).run P w = .ok () { w with heap := w.heap.setIfInBounds r o } := by
  simp [setObj, Sem.run, h]

theorem run_getMap {r : Nat} {es : Array MapEntry} {clock : Nat} (h : w.heap[r]? = some (.map es clock)) : (getObj r).run P w = .ok (.map es clock) w := by
  simp [getObj, Sem.run, h]

theorem update_sound (hT : TabOK P T) (hR : Rel X ρ σ w) {t : TypeId} {m k v : AV} {cm ck cv : Value} (hm : VR w (Mu X ρ σ) ρ σ m cm) (hk : VR w (Mu X ρ σ) ρ σ k ck) (hv : VR w (Mu X ρ σ) ρ σ v cv) {σ' : St}
    (h : updA T t σ m k v = some σ') : ∃ w' ρ', (Instr.mapUpdate t cm ck cv).run P w = .ok () w' ∧ Rel X ρ' σ' w' ∧ Tr ρ σ w ρ' σ' w' := by
  simp only [updA, Option.bind_eq_some_iff] at h
  obtain ⟨p, hp, h⟩ := h
  obtain ⟨kT, eT, sz, b, zz, fl, ht, hkt, he⟩ := mapTypes_some hp
  split at h
  · rename_i hok
    split at h
    · rename_i id
      split at h
      · rename_i ver es ho
        simp only [Option.map_eq_some_iff] at h
        obtain ⟨q, hq, rfl⟩ := h
        have e1 := hm.mref_inv hR ho
        obtain ⟨ces, clock, hh, her, hb1, hb2⟩ := map_obj hR ho
        obtain ⟨hck, r', hr', hf⟩ := findKey_sound (P := P) (hT.ty _ _ hkt) hok hk her hq
        cases q with
        | some q =>
          cases r' with
          | none => exact absurd hf (by simp [FR2])
          | some r' =>
            obtain ⟨j, cv0⟩ := r'
            obtain ⟨hj, _⟩ := hf
            obtain ⟨_, e, h2, h3, h4⟩ := findK_at es 0 hq
            rw [Nat.sub_zero] at h2
            have hlen := her.1
            have hlt : q.1 < ces.size := by have := (List.getElem?_eq_some_iff.1 h2).1; simp at hlen; omega
            have hkey := (her.2 q.1 e ces[q.1] h2 (by simp [hlt])).1
            have key := map_write hR ho (es.set q.1 (k, v)) (ces.modify q.1 fun e => { e with key := ck, val := cv }) clock
              ⟨by simpa using hlen, by
                intro j' e' ce' he' hce'
                rw [Array.getElem?_toList, Array.getElem?_modify] at hce'
                rw [List.getElem?_set] at he'
                by_cases hjj : q.1 = j'
                · subst hjj
                  rw [if_pos rfl] at he' hce'
                  rw [Array.getElem?_eq_getElem hlt] at hce'
                  simp at hlen
                  rw [if_pos (by omega)] at he'
                  simp at he' hce'
                  subst he'; subst hce'
                  exact ⟨hk, hv⟩
                · rw [if_neg hjj] at he' hce'
                  exact her.2 j' e' ce' he' (by rw [Array.getElem?_toList]; exact hce')⟩
              (by
                intro j' ce' hce'
                rw [Array.getElem?_modify] at hce'
                split at hce'
                · rename_i hjj; subst hjj
                  rw [Array.getElem?_eq_getElem hlt] at hce'
                  simp at hce'; subst hce'
                  exact hb1 q.1 ces[q.1] (Array.getElem?_eq_getElem hlt)
                · exact hb1 _ _ hce')
              (by
                have hborn : ∀ (i : Nat) ci, (ces.modify q.1 fun e => { e with key := ck, val := cv })[i]? = some ci → ∃ ci', ces[i]? = some ci' ∧ ci'.born = ci.born := by
                  intro i ci hci
                  rw [Array.getElem?_modify] at hci
                  split at hci
                  · cases hx : ces[i]? with
                    | none => rw [hx] at hci; cases hci
                    | some y => rw [hx] at hci; simp at hci; subst hci; exact ⟨y, rfl, rfl⟩
                  · exact ⟨ci, hci, rfl⟩
                intro i j ci cj hi hj hbb
                obtain ⟨ci', a1, a2⟩ := hborn i ci hi
                obtain ⟨cj', a3, a4⟩ := hborn j cj hj
                exact hb2 i j ci' cj' a1 a3 (by omega))
            refine ⟨_, _, ?_, key.1, key.2⟩
            subst hj
            simp only [Instr.mapUpdate, Sem.run_bind, run_underlying (hT.ty _ _ ht).und, Result.andThen_ok, e1, run_getMap hh, hck, hr']
            rw [Array.getElem?_eq_getElem hlt]
            simp only [Option.map_some, Option.getD_some]
            rw [keyStays hk hkey h3]
            simp only [Result.andThen_ok, run_setMap hh]
        | none =>
          cases r' with
          | some r' => exact absurd hf (by simp [FR2])
          | none =>
            have hlen := her.1
            have key := map_write hR ho (es ++ [(k, v)]) (ces.push { key := ck, val := cv, born := clock }) (clock + 1)
              ⟨by simp at hlen ⊢; omega, by
                intro j' e' ce' he' hce'
                simp at hlen
                rw [Array.getElem?_toList, Array.getElem?_push] at hce'
                rw [List.getElem?_append] at he'
                split at hce'
                · rename_i hjj; subst hjj
                  rw [if_neg (by omega), hlen] at he'
                  simp at he' hce'
                  subst he'; subst hce'
                  exact ⟨hk, hv⟩
                · have hj : j' < ces.size := (Array.getElem?_eq_some_iff.1 hce').1
                  rw [if_pos (by omega)] at he'
                  exact her.2 j' e' ce' he' (by rw [Array.getElem?_toList]; exact hce')⟩
              (by
                intro j' ce' hce'
                rw [Array.getElem?_push] at hce'
                split at hce'
                · simp at hce'; subst hce'; simp
                · have := hb1 _ _ hce'; omega)
              (by
                intro i j ci cj hi hj hbb
                rw [Array.getElem?_push] at hi hj
                split at hi <;> split at hj
                · omega
                · simp at hi; subst hi; have := hb1 _ _ hj; simp at hbb; omega
                · simp at hj; subst hj; have := hb1 _ _ hi; simp at hbb; omega
                · exact hb2 i j ci cj hi hj hbb)
            refine ⟨_, _, ?_, key.1, key.2⟩
            simp only [Instr.mapUpdate, Sem.run_bind, run_underlying (hT.ty _ _ ht).und, Result.andThen_ok, e1, run_getMap hh, hck, hr', run_setMap hh]
      · cases h
    · cases h
  · cases h

theorem op_mapUpdate {o : Oper} {t : TypeId} {m k x : Operand} (ho : o.op = .mapUpdate t m k x ∨ o.op = .insert t m k x) {fr : Fr} {a : Act} (hT : TabOK P T) (hR : Rel X ρ σ w) (hF : FR X ρ σ w fr a) {r : AStep}
    (h : astep T o fr σ = some r) : Good X ρ σ w r ((execOp a.eval o).run P w) := by
  rcases ho with ho | ho <;>
  · simp only [astep, ho, Option.map_eq_some_iff] at h
    obtain ⟨σ', hσ, rfl⟩ := h
    obtain ⟨w', ρ', h1, h2, h3⟩ := update_sound hT hR (hF.ev m) (hF.ev k) (hF.ev x) hσ
    refine ⟨w', ρ', ?_, h2, h3⟩
    simp only [execOp, ho]
    rw [Sem.run_bind, h1]; rfl

theorem op_makeMap {o : Oper} {t : TypeId} {x : Option Operand} (ho : o.op = .makeMap t x) {fr : Fr} {a : Act} (hT : TabOK P T) (hR : Rel X ρ σ w) (hF : FR X ρ σ w fr a) {r : AStep}
    (h : astep T o fr σ = some r) : Good X ρ σ w r ((execOp a.eval o).run P w) := by
  have fin : Rel X (upd ρ σ.length ⟨w.heap.size, 0, 0⟩) (σ ++ [⟨0, .map []⟩]) (w.alloc (.map #[] 0)) ∧ Tr ρ σ w (upd ρ σ.length ⟨w.heap.size, 0, 0⟩) (σ ++ [⟨0, .map []⟩]) (w.alloc (.map #[] 0)) :=
    rel_new hR (.map []) rfl 0 rfl rfl ⟨rfl, Nat.le_refl _⟩ (by simp) (fun b hb => heap_alloc_old w _ b hb) (fun t => ⟨#[], 0, heap_alloc_new w _, rfl, fun j e h => by simp at h, fun j ce h => by simp at h, fun i j ci cj h => by simp at h⟩)
  have hv : VR (w.alloc (.map #[] 0)) (Mu X (upd ρ σ.length ⟨w.heap.size, 0, 0⟩) (σ ++ [⟨0, .map []⟩])) (upd ρ σ.length ⟨w.heap.size, 0, 0⟩) (σ ++ [⟨0, .map []⟩]) (.mref σ.length) (.map (some w.heap.size)) :=
    .mref _ _ ⟨_, rfl⟩ ⟨⟨0, .map []⟩, by simp⟩ (fun o _ _ => by rw [upd_same])
  simp only [astep, ho] at h
  split at h
  · rename_i k e sz b zz fl ht hx
    cases h
    have hx' : x = none := by cases x <;> simp_all
    subst hx'
    refine ⟨_, _, _, ?_, fin.1, fin.2, hv⟩
    simp [execOp, ho, Instr.makeMap]
  · rename_i k e sz b zz fl kk n ht hx
    cases h
    cases x with
    | none => cases hx
    | some x =>
      simp only [Option.map_some, Option.some.injEq] at hx
      have hxx := hF.ev x
      rw [hx] at hxx
      have e1 := hxx.int_inv
      refine ⟨_, _, _, ?_, fin.1, fin.2, hv⟩
      simp [execOp, ho, Instr.makeMap, run_underlying (hT.ty _ _ ht).und, e1, asInt, asIntOf]
  · cases h

end Go.Am

/- The other built-in functions; conversions; calls. -/
set_option linter.unusedVariables false
set_option linter.unusedSimpArgs false
namespace Go.Am
variable {P : Program} {T : Tab} {X : Nat → Prop} {ρ : Rho} {σ : St} {w : World}

theorem list1 {α : Type} {f : Operand → α} {xs : Array Operand} {a : α} (h : xs.toList.map f = [a]) : ∃ x, xs = #[x] ∧ f x = a := by
  obtain ⟨l⟩ := xs
  match l, h with
  | [x], h => simp at h; exact ⟨x, rfl, h⟩

theorem list2 {α : Type} {f : Operand → α} {xs : Array Operand} {a b : α} (h : xs.toList.map f = [a, b]) : ∃ x y, xs = #[x, y] ∧ f x = a ∧ f y = b := by
  obtain ⟨l⟩ := xs
  match l, h with
  | [x, y], h => simp at h; exact ⟨x, y, rfl, h.1, h.2⟩

theorem arr1 {α : Type} {xs : Array α} {a : α} (h : xs.toList = [a]) : xs = #[a] := by
  obtain ⟨l⟩ := xs; simp at h; rw [h]
theorem arr2 {α : Type} {xs : Array α} {a b : α} (h : xs.toList = [a, b]) : xs = #[a, b] := by
  obtain ⟨l⟩ := xs; simp at h; rw [h]

/-- A call of a built-in function. -/
theorem run_builtin {o : Oper} {b : Builtin} {args : Array Operand} {ats : Array TypeId} {a : Act} (ho : o.op = .call { callee := .builtin b, args := args, argTypes := ats }) :
    (execOp a.eval o).run P w = (builtin b ats o.type (args.map fun | .const _ => true | _ => false) (args.map a.eval)).run P w := by
  simp only [execOp, ho, resolve, Sem.run_bind, Sem.run_pure, Result.andThen_ok, invoke]
  rfl

theorem lenB_sound (hT : TabOK P T) (hR : Rel X ρ σ w) {t ty : TypeId} {x : AV} {v : Value} (hv : VR w (Mu X ρ σ) ρ σ x v) {r : AStep} (h : lenB T t σ x = some r) :
    ∃ n : Nat, r = .val (.int .i64 n) σ ∧ (Builtin.len_ #[t] ty #[v]).run P w = .ok (.int .i64 n) w := by
  unfold lenB at h
  split at h
  · rename_i ht; cases h
    have e := hv.str_inv; subst e
    rename_i _ _ _ _ s
    have hsz : (⟨s.toArray⟩ : ByteArray).size = s.length := by simp [ByteArray.size]
    exact ⟨_, rfl, by simp [Builtin.len_, run_underlying (hT.ty _ _ ht).und, goInt, hsz]⟩
  · rename_i ht; cases h
    cases hv
    exact ⟨0, rfl, by simp [Builtin.len_, run_underlying (hT.ty _ _ ht).und, goInt]⟩
  · rename_i ht; cases h
    cases hv <;> exact ⟨_, rfl, by simp [Builtin.len_, run_underlying (hT.ty _ _ ht).und, goInt]⟩
  · rename_i ht; cases h
    cases hv with
    | ref _ _ _ _ _ _ h0 h1 h2 =>
      obtain ⟨ad, cap, rfl, _⟩ := h0
      exact ⟨_, rfl, by simp [Builtin.len_, run_underlying (hT.ty _ _ ht).und, goInt]⟩
  · rename_i ht; cases h
    cases hv
    exact ⟨0, rfl, by simp [Builtin.len_, run_underlying (hT.ty _ _ ht).und, goInt]⟩
  · rename_i ht
    split at h
    · rename_i ho; cases h
      have e := hv.mref_inv hR ho
      obtain ⟨ces, clock, hh, her, _⟩ := map_obj hR ho
      refine ⟨_, rfl, ?_⟩
      have := her.1
      simp at this
      simp [Builtin.len_, run_underlying (hT.ty _ _ ht).und, goInt, e, run_getMap hh, this]
    · cases h
  · cases h

theorem appendB_sound (hT : TabOK P T) (hR : Rel X ρ σ w) {t tx ty : TypeId} {s x : AV} {u v : Value} (hu : VR w (Mu X ρ σ) ρ σ s u) (hv : VR w (Mu X ρ σ) ρ σ x v) {r : AStep} (h : appendB T t tx σ s x = some r) :
    ∃ c σ' z w' ρ', r = .val c σ' ∧ (Builtin.append_ #[t, tx] ty #[u, v]).run P w = .ok z w' ∧ Rel X ρ' σ' w' ∧ Tr ρ σ w ρ' σ' w' ∧ VR w' (Mu X ρ' σ') ρ' σ' c z := by
  have fin : ∀ x0, x0 = x → (∀ i m new, elemTI T t = some i → news σ i.size x0 = some (m, new) → new.all AV.one = true → ∃ nv, Src P i.size tx v m nv w ∧ VRl w (Mu X ρ σ) ρ σ new nv) → (append1 T t σ s x0).map (fun r => AStep.val r.1 r.2) = some r →
      ∃ c σ' z w' ρ', r = .val c σ' ∧ (Builtin.append_ #[t, tx] ty #[u, v]).run P w = .ok z w' ∧ Rel X ρ' σ' w' ∧ Tr ρ σ w ρ' σ' w' ∧ VR w' (Mu X ρ' σ') ρ' σ' c z := by
    intro x0 hx0 hsrc hh
    subst hx0
    rw [Option.map_eq_some_iff] at hh
    obtain ⟨⟨c, σ'⟩, hh, rfl⟩ := hh
    have h' := hh
    simp only [append1, Option.bind_eq_some_iff] at h'
    obtain ⟨i, hi, ⟨m, new⟩, hn, hif⟩ := h'
    have hone : new.all AV.one = true := by
      apply Classical.byContradiction
      intro e
      rw [if_pos (.inr (.inr (by simpa using e)))] at hif
      cases hif
    obtain ⟨nv, h1, h2⟩ := hsrc i m new hi hn hone
    obtain ⟨z, w', ρ', a1, a2, a3, a4⟩ := append_sound (ty := ty) hT hR hu hi h1 h2 hn hh
    exact ⟨c, σ', z, w', ρ', rfl, a1, a2, a3, a4⟩
  unfold appendB at h
  split at h
  · rename_i e sz b zz fl ht
    split at h
    · cases h
    · rename_i hx
      refine fin x rfl ?_ h
      intro i m new hi hn hone
      have hn' : elems σ i.size x = some (m, new) := by
        cases x <;> first | (exact absurd rfl hx) | exact hn
      exact src_slice hR hv hn' hone (hT.ty _ _ ht).und
  · rename_i sz b zz fl ht
    split at h
    · rename_i hx
      refine fin x rfl ?_ h
      intro i m new hi hn hone
      cases x <;> try (cases hx; done)
      rename_i bs
      simp only [news] at hn
      split at hn
      · rename_i hs
        simp only [Option.some.injEq, Prod.mk.injEq] at hn
        obtain ⟨rfl, rfl⟩ := hn
        rw [hs]
        exact src_string hv (hT.ty _ _ ht).und
      · cases hn
    · cases h
  · cases h

theorem toList_erase {α : Type} (a : Array α) (i : Nat) : (a.eraseIdxIfInBounds i).toList = a.toList.eraseIdx i := by
  unfold Array.eraseIdxIfInBounds
  split
  · simp
  · rw [List.eraseIdx_of_length_le]; simp; omega

theorem delete_sound (hT : TabOK P T) (hR : Rel X ρ σ w) {t t' ty : TypeId} {m k : AV} {cm ck : Value} (hm : VR w (Mu X ρ σ) ρ σ m cm) (hk : VR w (Mu X ρ σ) ρ σ k ck) {σ' : St}
    (h : delA T t σ m k = some σ') : ∃ w' ρ', (Builtin.delete_ #[t, t'] ty #[cm, ck]).run P w = .ok (.tuple #[]) w' ∧ Rel X ρ' σ' w' ∧ Tr ρ σ w ρ' σ' w' := by
  simp only [delA, Option.bind_eq_some_iff] at h
  obtain ⟨p, hp, h⟩ := h
  obtain ⟨kT, eT, sz, b, zz, fl, ht, hkt, he⟩ := mapTypes_some hp
  split at h
  · rename_i hok
    split at h
    · cases h
      cases hm
      obtain ⟨hck, _⟩ := findKey_sound (P := P) (hT.ty _ _ hkt) hok hk (es := []) (ces := []) ⟨rfl, fun j e ce h1 => by simp at h1⟩ (r := none) rfl
      exact ⟨w, ρ, by simp [Builtin.delete_, run_underlying (hT.ty _ _ ht).und, hck], hR, Tr.refl ..⟩
    · rename_i id
      split at h
      · rename_i ver es ho
        simp only [Option.map_eq_some_iff] at h
        obtain ⟨q, hq, rfl⟩ := h
        have e1 := hm.mref_inv hR ho
        obtain ⟨ces, clock, hh, her, hb1, hb2⟩ := map_obj hR ho
        obtain ⟨hck, r', hr', hf⟩ := findKey_sound (P := P) (hT.ty _ _ hkt) hok hk her hq
        cases q with
        | some q =>
          cases r' with
          | none => exact absurd hf (by simp [FR2])
          | some r' =>
            obtain ⟨j, cv0⟩ := r'
            obtain ⟨hj, _⟩ := hf
            subst hj
            have hlen := her.1
            have get : ∀ (j : Nat), (ces.eraseIdxIfInBounds q.1)[j]? = if j < q.1 then ces[j]? else ces[j + 1]? := by
              intro j
              rw [← Array.getElem?_toList, toList_erase, List.getElem?_eraseIdx, Array.getElem?_toList, Array.getElem?_toList]
            have key := map_write hR ho (es.eraseIdx q.1) (ces.eraseIdxIfInBounds q.1) clock
              ⟨by rw [toList_erase, List.length_eraseIdx, List.length_eraseIdx, hlen], by
                intro j' e' ce' he' hce'
                rw [toList_erase, List.getElem?_eraseIdx] at hce'
                rw [List.getElem?_eraseIdx] at he'
                by_cases hj : j' < q.1
                · rw [if_pos hj] at he' hce'; exact her.2 _ _ _ he' hce'
                · rw [if_neg hj] at he' hce'; exact her.2 _ _ _ he' hce'⟩
              (by
                intro j' ce' hce'
                rw [get] at hce'
                split at hce' <;> exact hb1 _ _ hce')
              (by
                intro i j ci cj hi hj hbb
                rw [get] at hi hj
                split at hi <;> split at hj <;> (have := hb2 _ _ ci cj hi hj hbb; omega))
            refine ⟨_, _, ?_, key.1, key.2⟩
            simp only [Builtin.delete_, Sem.run_bind, List.getElem?_toArray, List.getElem?_cons_zero, List.getElem?_cons_succ, run_underlying (hT.ty _ _ ht).und, Result.andThen_ok, e1, run_getMap hh, hck, hr', run_setMap hh, Sem.run_pure]
        | none =>
          cases r' with
          | some r' => exact absurd hf (by simp [FR2])
          | none =>
            have key := map_write hR ho es ces clock her hb1 hb2
            refine ⟨_, _, ?_, key.1, key.2⟩
            simp only [Builtin.delete_, Sem.run_bind, List.getElem?_toArray, List.getElem?_cons_zero, List.getElem?_cons_succ, run_underlying (hT.ty _ _ ht).und, Result.andThen_ok, e1, run_getMap hh, hck, hr', run_setMap hh, Sem.run_pure]
      · cases h
    · cases h
  · cases h

end Go.Am

/- clear, copy, conversions, calls; every operation. -/
set_option linter.unusedVariables false
set_option linter.unusedSimpArgs false
namespace Go.Am
variable {P : Program} {T : Tab} {X : Nat → Prop} {ρ : Rho} {σ : St} {w : World}

theorem clearB_sound (hT : TabOK P T) (hR : Rel X ρ σ w) {t ty : TypeId} {x : AV} {v : Value} (hv : VR w (Mu X ρ σ) ρ σ x v) {r : AStep} (h : clearB T t σ x = some r) :
    ∃ σ' w' ρ', r = .val (.tup []) σ' ∧ (Builtin.clear_ #[t] ty #[v]).run P w = .ok (.tuple #[]) w' ∧ Rel X ρ' σ' w' ∧ Tr ρ σ w ρ' σ' w' := by
  simp only [clearB, Option.bind_eq_some_iff, elemTI] at h
  obtain ⟨i, hi, h⟩ := h
  split at hi
  · rename_i e sz b zz fl ht
    have hu := (hT.ty _ _ ht).und
    split at h
    · cases h
      cases hv with
      | nil0 a => exact ⟨σ, w, ρ, rfl, by cases a <;> simp [Builtin.clear_, run_underlying hu], hR, Tr.refl ..⟩
    · cases h
      cases hv with
      | snap0 a cap => exact ⟨σ, w, ρ, rfl, by cases a <;> simp [Builtin.clear_, run_underlying hu], hR, Tr.refl ..⟩
      | snap _ _ _ _ _ _ _ _ _ hn => exact absurd rfl hn
    · rename_i id ver off n k
      split at h
      · rename_i hc
        obtain ⟨c1, c2, c3⟩ := hc
        simp only [Option.map_eq_some_iff] at h
        obtain ⟨σ', hw, rfl⟩ := h
        obtain ⟨z, info, g1, g2, g3, g4, hz, hvs, _⟩ := zero_vrs (hT.ty _ _ hi) w (Mu X ρ σ) ρ σ
        have hr := repl_vrs hvs n
        obtain ⟨g, o', _, h2, h3, h4, h5, ρ', h6, h7⟩ := write_sound hR hw (vs := (Builtin.zeroCells z.cells n).toList) (by rw [Array.length_toList]; exact hr.1)
          (fun j c v hj hv => hr.2 j c v hj (by rwa [Array.getElem?_toList] at hv))
        obtain ⟨cap, rfl, hcap⟩ := h2 _ _ _ hv
        refine ⟨σ', _, ρ', rfl, ?_, h6, h7⟩
        have hst := run_storeCells_cells (P := P) g o' (Builtin.zeroCells z.cells n).toList 0 w (by simpa using h4) (by simpa using h5) h3
        simp only [Nat.add_zero] at hst
        obtain ⟨n', rfl⟩ : ∃ n', n = n' + 1 := ⟨n - 1, by omega⟩
        simp only [Builtin.clear_, Sem.run_bind, List.getElem?_toArray, List.getElem?_cons_zero, run_underlying hu, Result.andThen_ok, hz]
        rw [hst]; rfl
      · cases h
    · cases h
  · cases hi

theorem copyB_sound (hT : TabOK P T) (hR : Rel X ρ σ w) {t t' ty : TypeId} {d s : AV} {u v : Value} (hu : VR w (Mu X ρ σ) ρ σ d u) (hv : VR w (Mu X ρ σ) ρ σ s v) {r : AStep} (h : copyB T t σ d s = some r) :
    ∃ (n : Nat) (σ' : St) (w' : World) (ρ' : Rho), r = .val (.int .i64 n) σ' ∧ (Builtin.copy_ #[t, t'] ty #[u, v]).run P w = .ok (.int .i64 n) w' ∧ Rel X ρ' σ' w' ∧ Tr ρ σ w ρ' σ' w' := by
  simp only [copyB, Option.bind_eq_some_iff, elemTI] at h
  obtain ⟨i, hi, ⟨m, cs⟩, hs, h⟩ := h
  split at hi
  · rename_i e sz b zz fl ht
    have hut := (hT.ty _ _ ht).und
    obtain ⟨hl, a, cap, vs, rfl, hcap, hcell, hvr⟩ := elems_sound hR hv hs
    have fcl : ∀ n, n ≤ m → (Builtin.firstCells i.size n (.slice a m cap)).run P w = .ok ((Array.range (n * i.size)).map vs) w := by
      intro n hn
      rcases hcell with h0 | ⟨ad, rfl, hc⟩
      · have : n = 0 := by omega
        subst this
        cases a <;> simp [Builtin.firstCells, loadCells, loadCellsFrom]
      · exact run_cells w ad (n * i.size) vs (fun j hj => hc j (Nat.lt_of_lt_of_le hj (Nat.mul_le_mul_right _ hn)))
    split at h
    · simp only [Option.some.injEq] at h
      subst h
      cases hu with
      | nil0 base =>
        refine ⟨0, σ, w, ρ, rfl, ?_, hR, Tr.refl ..⟩
        have := fcl 0 (Nat.zero_le _)
        simp only [Builtin.copy_, Sem.run_bind, List.getElem?_toArray, List.getElem?_cons_zero, List.getElem?_cons_succ, run_underlying hut, Result.andThen_ok, Builtin.lenOf, Sem.run_pure, (hT.ty _ _ hi).sizeOf, Nat.min_zero, Nat.min_eq_min, this]
        cases base <;> simp [storeCells, goInt]
    · rename_i id ver off n k
      split at h
      · rename_i hk
        subst hk
        simp only [Option.map_eq_some_iff] at h
        obtain ⟨σ', hw, rfl⟩ := h
        have hm : min m n * i.size ≤ cs.length := by rw [hl]; exact Nat.mul_le_mul_right _ (Nat.min_le_left _ _)
        obtain ⟨g, o', _, h2, h3, h4, h5, ρ', h6, h7⟩ := write_sound hR hw (vs := ((Array.range (min m n * i.size)).map vs).toList) (by simp; omega)
          (fun j c v hj hvj => by
            rw [List.getElem?_take] at hj
            split at hj
            · rename_i hjl
              rw [Array.getElem?_toList] at hvj
              simp [hjl] at hvj
              subst hvj
              exact hvr j c hj
            · cases hj)
        obtain ⟨cap2, rfl, hcap2⟩ := h2 _ _ _ hu
        refine ⟨min m n, σ', _, ρ', rfl, ?_, h6, h7⟩
        have hst := run_storeCells_cells (P := P) g o' ((Array.range (min m n * i.size)).map vs).toList 0 w (by simpa using h4) (by simpa using h5) h3
        simp only [Nat.add_zero] at hst
        have hf := fcl (min m n) (Nat.min_le_left _ _)
        simp only [Builtin.copy_, Sem.run_bind, List.getElem?_toArray, List.getElem?_cons_zero, List.getElem?_cons_succ, run_underlying hut, Result.andThen_ok, Builtin.lenOf, Sem.run_pure, (hT.ty _ _ hi).sizeOf, Nat.min_eq_min, hf, hst]
        rfl
      · cases h
    · cases h
  · cases hi

theorem toByte_some {c : AV} {b : UInt8} (h : toByte c = some b) : ∃ n, c = .int .u8 n ∧ b = UInt8.ofNat n.toNat := by
  unfold toByte at h
  split at h
  · rename_i n
    split at h
    · cases h; exact ⟨n, rfl, rfl⟩
    · cases h
  · cases h

theorem bytes_some : ∀ {cs : List AV} {bs : List UInt8}, cs.mapM toByte = some bs → ∃ ns : List Int, cs = ns.map (AV.int .u8) ∧ bs = ns.map fun n => UInt8.ofNat n.toNat
  | [], bs, h => by simp at h; subst h; exact ⟨[], rfl, rfl⟩
  | c :: cs, bs, h => by
    rw [List.mapM_cons] at h
    simp only [Option.bind_eq_bind, Option.bind_eq_some_iff] at h
    obtain ⟨b, hb, bs', hbs, h⟩ := h
    simp at h
    subst h
    obtain ⟨n, rfl, rfl⟩ := toByte_some hb
    obtain ⟨ns, rfl, rfl⟩ := bytes_some hbs
    exact ⟨n :: ns, rfl, rfl⟩

theorem isU8_some {e : TypeId} (hT : TabOK P T) (h : isU8 T e = true) : P.underlying e = some (.int .u8) := by
  unfold isU8 at h
  split at h
  · rename_i he; exact (hT.ty _ _ he).und
  · cases h

theorem op_convert {o : Oper} {s d : TypeId} {x : Operand} (ho : o.op = .convert s d x) {fr : Fr} {a : Act} (hT : TabOK P T) (hR : Rel X ρ σ w) (hF : FR X ρ σ w fr a) {r : AStep}
    (h : astep T o fr σ = some r) : Good X ρ σ w r ((execOp a.eval o).run P w) := by
  simp only [astep, ho, Option.map_eq_some_iff] at h
  obtain ⟨⟨c, σ'⟩, hc, rfl⟩ := h
  simp only [convertA, Option.bind_eq_some_iff] at hc
  obtain ⟨si, hsi, di, hdi, hc⟩ := hc
  have us := (hT.ty _ _ hsi).und
  have ud := (hT.ty _ _ hdi).und
  have hx := hF.ev x
  have run : ∀ z w', (convert s d (a.eval x)).run P w = .ok z w' → (execOp a.eval o).run P w = .ok (.value z) w' := by
    intro z w' hz
    simp only [execOp, ho]
    rw [Sem.run_bind, hz]; rfl
  split at hc
  · rename_i k0 k k1 n hsd hdd he
    cases hc
    rw [he] at hx
    have e := hx.int_inv
    rw [hsd] at us; rw [hdd] at ud
    exact Good.pure hR (run _ _ (by simp [convert, run_underlying us, run_underlying ud, e, Conv.intToInt])) (.int _ _)
  · rename_i s' hsd hdd he
    cases hc
    rw [he] at hx
    have e := hx.str_inv
    rw [hsd] at us; rw [hdd] at ud
    exact Good.pure hR (run (.string ⟨s'.toArray⟩) _ (by simp [convert, run_underlying us, run_underlying ud, e])) (.str _ _ rfl)
  · rename_i e' s' hsd hdd he
    split at hc
    · rename_i hu8
      have hu8 := (Bool.and_eq_true _ _ ▸ hu8 : _ ∧ _).1
      cases hc
      rw [he] at hx
      have e := hx.str_inv
      rw [hsd] at us; rw [hdd] at ud
      have hrun := Lib.run_convert_string_bytes (P := P) w s d e' ⟨s'.toArray⟩ us ud (isU8_some hT hu8)
      rw [← e] at hrun
      have hsz : (⟨s'.toArray⟩ : ByteArray).size = s'.length := by simp [ByteArray.size]
      have hge := grownCap_ge w s'.length 0 e'
      have hbs : (Lib.bytesCells w e' ⟨s'.toArray⟩).size = grownCap w s'.length 0 e' := by simp [Lib.bytesCells, hsz]; omega
      have key := rel_new hR (.cells (s'.map fun b => .int .u8 b.toNat) true) rfl (grownCap w s'.length 0 e') (w' := Lib.bytesWorld w e' ⟨s'.toArray⟩) rfl rfl ⟨rfl, by first | exact Nat.le_succ _ | (unfold Lib.bytesWorld; split <;> first | exact Nat.le_refl _ | exact Nat.le_succ _)⟩ (Lib.bytesWorld_size ..) (fun b hb => Lib.bytesWorld_at_old w e' _ b hb) (fun t => by
        refine ⟨_, _, _, Lib.bytesWorld_at_new w e' _, hbs, by rw [hbs]; simp; omega, fun j hj => by simp; omega, ?_⟩
        intro j c hc
        rw [List.getElem?_map] at hc
        cases hb : s'[j]? with
        | none => rw [hb] at hc; cases hc
        | some b =>
          rw [hb] at hc
          simp at hc
          subst hc
          have hj := (List.getElem?_eq_some_iff.1 hb).1
          refine ⟨.int .u8 b.toNat, ?_, .int _ _⟩
          simp only [Lib.bytesCells, Nat.zero_add]
          rw [Array.getElem?_append_left (by simpa using hj)]
          simp [hb])
      refine ⟨_, _, _, run _ _ hrun, key.1, key.2, ?_⟩
      rw [hsz]
      exact vr_newref _ _ _ _ _ _ _ _ _ hge (by simp)
    · cases hc
  · rename_i e0 e' hsd hdd
    split at hc
    · rename_i hu8
      have hu8 := (Bool.and_eq_true _ _ ▸ hu8 : _ ∧ _).1
      simp only [Option.bind_eq_some_iff, Option.map_eq_some_iff] at hc
      obtain ⟨⟨n, cs⟩, hel, bs, hbs, hc⟩ := hc
      cases hc
      rw [hsd] at us; rw [hdd] at ud
      obtain ⟨ns, rfl, rfl⟩ := bytes_some hbs
      obtain ⟨hl, ad, cap, vs, e, hcap, hcell, hvr⟩ := elems_sound hR hx hel
      simp only [Nat.mul_one, List.length_map] at hl hcell
      refine Good.pure hR (run (.string ⟨(ns.map fun n => UInt8.ofNat n.toNat).toArray⟩) _ ?_) (.str _ _ rfl)
      rw [e, run_convert_bytes_string w s d e' ad n cap us (isU8_some hT hu8) ud]
      rcases hcell with h0 | ⟨ad', rfl, hcell⟩
      · subst h0
        have : ns = [] := List.eq_nil_of_length_eq_zero hl
        subst this
        cases ad <;> simp [Conv.bytesToString, loadCells, loadCellsFrom] <;> rfl
      · have hld : (loadCells ad' n).run P w = .ok (ns.map (Value.int .u8)).toArray w := by
          rw [run_cells w ad' n vs hcell]
          congr 1
          apply Array.ext'
          apply List.ext_getElem?
          intro j
          simp only [Array.toList_map, Array.toList_range, List.getElem?_map]
          by_cases hj : j < n
          · have hjn : j < ns.length := by omega
            have := hvr j (.int .u8 ns[j]) (by simp [hjn])
            simp [hj, hjn, this.int_inv]
          · rw [List.getElem?_eq_none (by simp; omega), List.getElem?_eq_none (by omega)]; rfl
        rw [run_bytesToString w _ n cap ns hld, foldl_push_bytes]
        simp [ByteArray.empty, ByteArray.emptyWithCapacity]
        rfl
    · cases hc
  · cases hc

theorem vrs_append {M : Nat → Prop} {a b : List AV} {x y : Array Value} (ha : VRs w M ρ σ a x) (hb : VRs w M ρ σ b y) : VRs w M ρ σ (a ++ b) (x ++ y) := by
  refine ⟨by simp [ha.1, hb.1], ?_⟩
  intro i c v hc hv
  rw [List.getElem?_append] at hc
  rw [Array.getElem?_append, ha.1] at hv
  split at hc
  · rename_i h; rw [if_pos h] at hv; exact ha.2 i c v hc hv
  · rename_i h; rw [if_neg h] at hv; exact hb.2 _ c v hc hv

theorem op_call {o : Oper} {c : Call} (ho : o.op = .call c) {fr : Fr} {a : Act} (hT : TabOK P T) (hR : Rel X ρ σ w) (hF : FR X ρ σ w fr a) {r : AStep}
    (h : astep T o fr σ = some r) : Good X ρ σ w r ((execOp a.eval o).run P w) := by
  obtain ⟨callee, args, ats⟩ := c
  simp only [astep, ho] at h
  split at h
  · -- built-in
    rename_i b
    simp only [builtinA] at h
    rw [run_builtin ho]
    split at h
    · rename_i t x hats hargs
      obtain ⟨xo, rfl, rfl⟩ := list1 hargs
      have hats := arr1 hats; subst hats
      obtain ⟨n, rfl, hn⟩ := lenB_sound (ty := o.type) hT hR (hF.ev xo) h
      exact Good.pure hR (by simp [builtin, hn]) (.int _ _)
    · rename_i t tx s x hats hargs
      obtain ⟨so, xo, rfl, rfl, rfl⟩ := list2 hargs
      have hats := arr2 hats; subst hats
      obtain ⟨c, σ', z, w', ρ', rfl, h1, h2, h3, h4⟩ := appendB_sound (ty := o.type) hT hR (hF.ev so) (hF.ev xo) h
      exact ⟨z, w', ρ', by simp [builtin, h1], h2, h3, h4⟩
    · rename_i k x k' y hargs
      cases h
      obtain ⟨xo, yo, rfl, e1, e2⟩ := list2 hargs
      have hx := hF.ev xo; have hy := hF.ev yo
      rw [e1] at hx; rw [e2] at hy
      exact Good.pure hR (by simp [builtin, Builtin.max_, Builtin.max2, hx.int_inv, hy.int_inv]) (.int _ _)
    · rename_i k x k' y hargs
      cases h
      obtain ⟨xo, yo, rfl, e1, e2⟩ := list2 hargs
      have hx := hF.ev xo; have hy := hF.ev yo
      rw [e1] at hx; rw [e2] at hy
      exact Good.pure hR (by simp [builtin, Builtin.min_, Builtin.min2, hx.int_inv, hy.int_inv]) (.int _ _)
    · rename_i t t' m k hats hargs
      obtain ⟨mo, ko, rfl, rfl, rfl⟩ := list2 hargs
      have hats := arr2 hats; subst hats
      simp only [Option.map_eq_some_iff] at h
      obtain ⟨σ', hσ, rfl⟩ := h
      obtain ⟨w', ρ', h1, h2, h3⟩ := delete_sound (t' := t') (ty := o.type) hT hR (hF.ev mo) (hF.ev ko) hσ
      exact ⟨.tuple #[], w', ρ', by simp [builtin, h1], h2, h3, .tup _ _ rfl (fun i c v hc => by simp at hc)⟩
    · rename_i t x hats hargs
      obtain ⟨xo, rfl, rfl⟩ := list1 hargs
      have hats := arr1 hats; subst hats
      obtain ⟨σ', w', ρ', rfl, h1, h2, h3⟩ := clearB_sound (ty := o.type) hT hR (hF.ev xo) h
      exact ⟨.tuple #[], w', ρ', by simp [builtin, h1], h2, h3, .tup _ _ rfl (fun i c v hc => by simp at hc)⟩
    · rename_i t t' d s hats hargs
      obtain ⟨do_, so, rfl, rfl, rfl⟩ := list2 hargs
      have hats := arr2 hats; subst hats
      obtain ⟨n, σ', w', ρ', rfl, h1, h2, h3⟩ := copyB_sound (t' := t') (ty := o.type) hT hR (hF.ev do_) (hF.ev so) h
      exact ⟨_, w', ρ', by simp [builtin, h1], h2, h3, .int _ _⟩
    · cases h
  · -- a function's value
    rename_i f
    have hf := hF.ev f
    simp only [callA] at h
    split at h
    · rename_i g fst0 cap hg
      rw [hg] at hf
      generalize ef : a.eval f = vf at hf
      cases hf with
      | clo _ _ _ a' b' s1 s2 v1 v2 =>
        have hargs : VRs w (Mu X ρ σ) ρ σ (fst0 ++ args.toList.map (ev fr) ++ cap) (a' ++ args.map a.eval ++ b') :=
          vrs_append (vrs_append ⟨s1, v1⟩ (vrs_map args hF.ev)) ⟨s2, v2⟩
        have run : (execOp a.eval o).run P w = (callFunc g (a' ++ args.map a.eval ++ b')).run P w := by
          simp only [execOp, ho, resolve, ef, Deferred.ofValue, Sem.run_bind, Sem.run_pure, Result.andThen_ok, invoke]
        rw [run]
        split at h
        · rename_i fn hfn
          cases h
          obtain ⟨h1, h2, h3⟩ := hT.fn _ _ hfn
          refine ⟨_, ?_, hargs⟩
          simp only [callFunc, Sem.run_bind, run_program, Result.andThen_ok, h1, h2, h3, Bool.false_eq_true, if_false, Sem.run_pure]
        · rename_i hfn
          simp only [Option.bind_eq_some_iff, Option.map_eq_some_iff] at h
          obtain ⟨ge, hge, v, hv, rfl⟩ := h
          obtain ⟨cv, h1, h2⟩ := hT.ext _ _ hfn hge X ρ σ w _ v _ hv hargs hR
          exact Good.pure hR h1 h2
    · cases h
  · cases h

/-- Every operation. -/
theorem op_sound {o : Oper} {fr : Fr} {a : Act} (hT : TabOK P T) (hR : Rel X ρ σ w) (hF : FR X ρ σ w fr a) {r : AStep} (h : astep T o fr σ = some r) : Good X ρ σ w r ((execOp a.eval o).run P w) := by
  cases ho : o.op with
  | move x => exact op_move (.inl ho) hR hF h
  | assign x => exact op_move (.inr ho) hR hF h
  | pick c x y => exact op_pick ho hR hF h
  | alloc t => exact op_alloc ho hT hR hF h
  | box t x => exact op_box ho hT hR hF h
  | build t ps => exact op_build ho hT hR hF h
  | buildSlice t n ps => exact op_buildSlice ho hT hR hF h
  | load t x => exact op_load ho hT hR hF h
  | store t p x => exact op_store ho hT hR hF h
  | nilCheck x => exact op_nilCheck ho hR hF h
  | binOp op t x y t' => exact op_binOp ho hT hR hF h
  | unOp op t x => exact op_unOp ho hR hF h
  | convert s d x => exact op_convert ho hT hR hF h
  | makeFunc f xs ys =>
    cases f with
    | func f => exact op_makeFunc ho hR hF h
    | _ => simp [astep, ho] at h
  | makeMap t x => exact op_makeMap ho hT hR hF h
  | makeSlice t l c => exact op_makeSlice ho hT hR hF h
  | slice t x lo hi mx => exact op_slice ho hT hR hF h
  | fieldAddr s x f => exact op_fieldAddr ho hT hR hF h
  | field s x f => exact op_field ho hT hR hF h
  | indexAddr t x ix => exact op_indexAddr ho hT hR hF h
  | index t x ix => exact op_index ho hT hR hF h
  | lookup t x ix ok => exact op_lookup ho hT hR hF h
  | mapUpdate t m k x => exact op_mapUpdate (.inl ho) hT hR hF h
  | insert t m k x => exact op_mapUpdate (.inr ho) hT hR hF h
  | extract x i => exact op_extract ho hR hF h
  | call c => exact op_call ho hT hR hF h
  | makeInterface t x =>
    simp only [astep, ho, Option.bind_eq_some_iff] at h
    obtain ⟨i, hi, h⟩ := h
    have hu := (hT.ty _ _ hi).und
    unfold mkIf at h
    split at h
    · cases h
    · rename_i hd
      cases h
      refine Good.pure hR (v := .iface t (a.eval x)) ?_ (.iface _ _ _ (hF.ev x))
      simp only [execOp, ho, Instr.makeInterface, Sem.run_bind, run_underlying hu, Result.andThen_ok]
      cases hdd : i.desc <;> first | rfl | exact absurd hdd (hd _)
  | _ => simp [astep, ho] at h

end Go.Am
