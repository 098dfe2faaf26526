/- A part of the proof: the abstract machine and what it shows of the program. -/
import Derived.Test.YtollmmiifppfnaaGreatDoorMachH
import Derived.Test.YtollmmiifppfnaaGreatDoorEnv

/- trigram.Grams. -/
set_option maxRecDepth 100000
set_option linter.unusedVariables false
set_option linter.unusedSimpArgs false
namespace Go.Proofs.Tryz.Am
open Go Go.Am Go.Proofs
noncomputable section

/-- The cells that are built of the entries. -/
def kvCells (es : List (AV × AV)) : List AV := es.flatMap fun e => [e.1, e.2]

theorem len_kvCells : ∀ (es : List (AV × AV)), (kvCells es).length = es.length * 2
  | [] => rfl
  | e :: es => by
    have := len_kvCells es
    unfold kvCells at this ⊢
    rw [List.flatMap_cons, List.length_append, this]
    simp; omega

theorem chunk_kv : ∀ (es : List (AV × AV)) (j : Nat) (e : AV × AV), es[j]? = some e → chunk 2 j (kvCells es) = [e.1, e.2]
  | [], j, e, h => by simp at h
  | a :: es, 0, e, h => by simp at h; subst h; simp [chunk, kvCells]
  | a :: es, j + 1, e, h => by
    have := chunk_kv es j e (by simpa using h)
    rw [← this]
    unfold chunk kvCells
    rw [List.flatMap_cons, show (j + 1) * 2 = 2 + j * 2 by omega, ← List.drop_drop]
    rfl

def gI (es : List (AV × AV)) (v : Value) (vis : List Nat) (l : FrA) (σ : St) : Prop :=
  evA 23 l (.tmp 8) = .lit v ∧ (∀ j ∈ vis, j < es.length) ∧ vis.Nodup ∧ (vis = [] ∧ evA 23 l (.tmp 3) = .nil0 ∨
    vis ≠ [] ∧ ∃ id ver, evA 23 l (.tmp 3) = .ref id ver 0 vis.length 2 ∧ σ[id]? = some ⟨ver, .cells (vis.flatMap fun j => chunk 2 j (kvCells es)) true⟩)

theorem flat_snoc (es : List (AV × AV)) (vis : List Nat) (i : Nat) : (vis ++ [i]).flatMap (fun j => chunk 2 j (kvCells es)) = vis.flatMap (fun j => chunk 2 j (kvCells es)) ++ chunk 2 i (kvCells es) := by simp

theorem flat_len (es : List (AV × AV)) (vis : List Nat) (h : ∀ j ∈ vis, j < es.length) : (vis.flatMap fun j => chunk 2 j (kvCells es)).length = vis.length * 2 := len_flat (len_kvCells es) vis h

theorem enters33 : ∀ args w, (callFunc 33 args).run Tryz.prog w = .ok (.enter 33 args) w := fun args w => enters_of Tryz.func33 (by kernel_rfl) (rfl : Tryz.f33.body = some _) args w

theorem grams_q {cf : CallF} (hcf : CfOK Tryz.prog cf) (s : List UInt8) {mid ver d : Nat} {σ0 σz : St} {es0 es : List (AV × AV)} {vs : List AV} (h31 : cf 31 [.str s] [] = some (.mref mid, σ0)) (hm : σ0[mid]? = some ⟨ver, .map es0⟩)
    (hz : frzL (frz d) σ0 (es0.map (·.2)) = some (vs, σz)) (hzip : es = zipV es0 vs) (hk : ∀ e ∈ es, ∃ c m cs, e = (.int .i64 c, .snap m cs)) (hlen : es.length ≤ 1000000000)
    {π : List Nat} (hπ : π.Perm (List.range es.length)) (hcmp : ∀ (i j a b : Nat), π[i]? = some a → π[j]? = some b → ∃ c : Int, CallsF Tryz.prog 33 [.agg (chunk 2 a (kvCells es)), .agg (chunk 2 b (kvCells es))] (.int .i64 c) ∧ (c < 0 ↔ i < j)) :
    CallsF Tryz.prog 16 [.str s] (if es.length = 0 then .nil0 else .snap es.length (π.flatMap fun j => chunk 2 j (kvCells es))) := by
  refine callsQ_of_JF tabOK Tryz.func16 (rfl : Tryz.f16.body = some _) (Nat.le_of_ble_eq_true rfl) ?_
  refine JF.seq (JF.region tabOK hcf rfl ?_)
  refine JF.seq (JF.region tabOK hcf rfl ?_)
  refine JF.seq (JF.mapRange (l0 := [_, _]) (xm := .tmp 7) (dr := 8) (d1 := 9) (d3 := 11) tabOK hcf rfl rfl rfl rfl rfl rfl rfl rfl rfl rfl rfl rfl (by decide) (rfl : tab.ty 91 = some ⟨.map _ _, _, _, _, _⟩)
    (opsF_cons rfl (opsF_cons (stepF_call rfl rfl h31) rfl)) rfl hm hz hzip (gI es) (fun v vis l σ h => h.1) (fun v => ⟨rfl, fun j hj => by simp at hj, by simp, .inl ⟨rfl, rfl⟩⟩) ?_ ?_)
  · rintro v vis l σ i kv ⟨h8, hvis, hnd, hout⟩ hkv hni
    obtain ⟨c, m, cs, rfl⟩ := hk kv (List.mem_of_getElem? hkv)
    refine ⟨_, _, _, _, opsF_cons rfl rfl, rfl, h8, opsF_cons rfl (opsF_cons rfl (opsF_cons rfl (opsF_cons rfl rfl))), ?_⟩
    have hil : i < es.length := (List.getElem?_eq_some_iff.1 hkv).1
    have hch := chunk_kv es i _ hkv
    have hnews : ∀ σ, news σ 2 (.snap 1 [.int .i64 c, .snap m cs]) = some (1, [.int .i64 c, .snap m cs]) := fun σ => rfl
    have hvis' : ∀ j ∈ vis ++ [i], j < es.length := fun j hj => by
      rcases List.mem_append.1 hj with hj | hj
      · exact hvis j hj
      · simp at hj; subst hj; exact hil
    have hnd' : (vis ++ [i]).Nodup := by rw [List.nodup_append]; exact ⟨hnd, by simp, fun a ha b hb => by simp at hb; subst hb; exact fun e => hni (e ▸ ha)⟩
    have hle := nodup_le _ _ hnd hvis
    have hle' := nodup_le _ _ hnd' hvis'
    rw [List.length_append, List.length_singleton] at hle'
    rcases hout with ⟨rfl, h3⟩ | ⟨hne, id, ver', h3, ho⟩
    · have happ : append1 tab 65 σ .nil0 (.snap 1 [.int .i64 c, .snap m cs]) = some (.ref σ.length 0 0 1 2, σ ++ [⟨0, .cells [.int .i64 c, .snap m cs] true⟩]) := by
        exact append1_new (i := ti68) rfl (by decide) rfl (hnews σ) rfl (by decide) rfl
      refine JF.region tabOK hcf (opsF_cons rfl (opsF_cons rfl (opsF_cons rfl (opsF_cons rfl (opsF_cons rfl (opsF_cons (stepF_append rfl rfl rfl h3 rfl rfl happ) (opsF_cons rfl rfl))))))) ?_
      refine ⟨.inl rfl, h8, hvis', hnd', .inr ⟨by simp, σ.length, 0, rfl, ?_⟩⟩
      simp [hch]
    · have hroom : room47 (vis.length + 1) ti68.bytes = true := by
        show room47 (vis.length + 1) 32 = true
        simp only [room47, Bool.and_eq_true, decide_eq_true_eq]; omega
      have happ : append1 tab 65 σ (.ref id ver' 0 vis.length 2) (.snap 1 [.int .i64 c, .snap m cs]) = some (.ref id (ver' + 1) 0 (vis.length + 1) 2, σ.set id ⟨ver' + 1, .cells ((vis.flatMap fun j => chunk 2 j (kvCells es)) ++ [.int .i64 c, .snap m cs]) true⟩) := by
        exact append1_snoc (i := ti68) rfl rfl (by decide) rfl (hnews σ) rfl ho (flat_len es vis hvis).symm (by decide) hroom
      refine JF.region tabOK hcf (opsF_cons rfl (opsF_cons rfl (opsF_cons rfl (opsF_cons rfl (opsF_cons rfl (opsF_cons (stepF_append rfl rfl rfl h3 rfl rfl happ) (opsF_cons rfl rfl))))))) ?_
      refine ⟨.inl rfl, h8, hvis', hnd', .inr ⟨by simp, id, ver' + 1, ?_, ?_⟩⟩
      · simp only [List.length_append, List.length_singleton]; rfl
      · have := lt_of_get ho
        rw [flat_snoc, hch]
        simp [this]
  · rintro v vis l σ ⟨h8, hvis, hnd, hout⟩ hperm
    refine ⟨_, _, opsF_cons rfl rfl, rfl, ?_⟩
    have hlen' : vis.length = es.length := by rw [hperm.length_eq]; simp
    rcases hout with ⟨rfl, h3⟩ | ⟨hne, id, ver', h3, ho⟩
    · refine JF.seq (JF.region tabOK (withFact_ok hcf (f := 32) (args := [.nil0, .clo 33 [] []]) (σ := σ) (r := (.tup [], σ)) (sortNone_A Tryz.sortGram (.inl rfl))) (opsF_cons rfl (opsF_cons (stepF_callv rfl rfl rfl rfl (map2 h3 rfl) withFact_eq) rfl)) ?_)
      refine JF.seq (JF.region tabOK hcf rfl ?_)
      refine JF.ret ⟨.nil0, ?_, 1, σ, ?_⟩
      · show some (evA 23 l (.tmp 3), σ) = _
        rw [h3]
      · rw [if_pos (by simpa using hlen'.symm)]; rfl
    · have hpos : 0 < es.length := by
        rw [← hlen']; exact List.length_pos_iff.2 hne
      have hkl := len_kvCells es
      have hpl : ∀ v ∈ kvCells es, v.plain = true := by
        intro v hv
        unfold kvCells at hv
        rw [List.mem_flatMap] at hv
        obtain ⟨e, he, hv⟩ := hv
        obtain ⟨c, m, cs, rfl⟩ := hk e he
        simp at hv
        rcases hv with rfl | rfl <;> rfl
      have hs := sortFunc_perm Tryz.sortGram (k := 2) Tryz.isAgg68 Tryz.sizeOf68 (g := 33) (enters33) hkl hpl (by decide) hpos (by omega) hperm ho hπ hcmp
      rw [← hlen'] at hs
      refine JF.seq (JF.region tabOK (withFact_ok hcf (f := 32) (r := (_, _)) hs) (opsF_cons rfl (opsF_cons (stepF_callv rfl rfl rfl rfl (map2 h3 rfl) withFact_eq) rfl)) ?_)
      refine JF.seq (JF.region tabOK hcf rfl ?_)
      refine JF.ret ⟨.ref id ver' 0 vis.length 2, ?_, 2, σ.set id ⟨ver', .cells (π.flatMap fun j => chunk 2 j (kvCells es)) false⟩, ?_⟩
      · show some (evA 23 l (.tmp 3), _) = _
        rw [h3]
      · have hlt := lt_of_get ho
        have hfl : (π.flatMap fun j => chunk 2 j (kvCells es)).length = es.length * 2 := by
          rw [len_flat hkl π (fun j hj => by have := hπ.mem_iff.1 hj; simpa using this), hπ.length_eq]; simp
        have hpl2 : ∀ v ∈ (π.flatMap fun j => chunk 2 j (kvCells es)), v.plain = true := by
          intro v hv
          rw [List.mem_flatMap] at hv
          obtain ⟨j, _, hj⟩ := hv
          exact hpl v (List.mem_of_mem_drop (List.mem_of_mem_take hj))
        rw [if_neg (by omega)]
        have := frz_ref_plain (d := 0) (σ := σ.set id ⟨ver', .cells (π.flatMap fun j => chunk 2 j (kvCells es)) true⟩) (id := id) (ver := ver') (n := vis.length) (k := 2) (b := true) (by omega) (List.getElem?_set_self hlt) (by omega) hpl2
        rw [List.set_set] at this
        rw [← hlen']
        exact this
end
end Go.Proofs.Tryz.Am
