/- A part of the proof: the abstract machine and what it shows of the program. -/
import Derived.Test.YtollmmiifppfnaaGreatDoorMachH
import Derived.Test.YtollmmiifppfnaaGreatDoorGrams

/- segment.Build, behind its first loops. -/
set_option maxRecDepth 100000
set_option linter.unusedVariables false
set_option linter.unusedSimpArgs false
namespace Go.Proofs.Tryz.Am
open Go Go.Am Go.Proofs
noncomputable section

theorem enters19 : ∀ args w, (callFunc 19 args).run Tryz.prog w = .ok (.enter 19 args) w := fun args w => enters_of Tryz.func19 (by kernel_rfl) (rfl : Tryz.f19.body = some _) args w

noncomputable def body9 : Code := match Tryz.f9.body with | some c => c | none => .skip
noncomputable def rest9 : Code := (splitSeq 5 body9).2

/-- The list that is built so far. -/
def outIs (es : List (AV × AV)) (vis : List Nat) (out : AV) (avoid : List Nat) (σ : St) : Prop :=
  vis = [] ∧ out = .nil0 ∨ vis ≠ [] ∧ ∃ id ver, out = .ref id ver 0 vis.length 2 ∧ id ∉ avoid ∧ σ[id]? = some ⟨ver, .cells (vis.flatMap fun j => chunk 2 j (kvCells es)) true⟩

def bI (es : List (AV × AV)) (sid rid : Nat) (docs : AV) (rcs : List AV) (v : Value) (vis : List Nat) (l : FrA) (σ : St) : Prop :=
  evA 69 l (.tmp 51) = .lit v ∧ evA 69 l (.tmp 9) = .ptr sid 0 0 ∧ evA 69 l (.tmp 2) = .ptr rid 0 0 ∧ (∀ j ∈ vis, j < es.length) ∧ vis.Nodup ∧ σ[rid]? = some ⟨0, .cells rcs true⟩ ∧
  ∃ out, σ[sid]? = some ⟨0, .cells [docs, out] true⟩ ∧ outIs es vis out [sid, rid] σ

theorem end2 {l : FrA} {σ : St} {cs : List AV} (hd : deref σ (evA 69 l (.tmp 2)) 2 = some cs) {l' : FrA} (h2 : evA 69 l' (.tmp 2) = evA 69 l (.tmp 2) := by rfl) (h3 : evA 69 l' (.tmp 3) = .int .i64 0 := by rfl) : endF tab Tryz.f9 l' σ = some (.tup [.agg cs, .int .i64 0], σ) := by
  have e : endF tab Tryz.f9 l' σ = (match ((deref σ (evA 69 l' (.tmp 2)) 2).bind (chunkLoad ti52)).bind fun v => some [v, evA 69 l' (.tmp 3)] with | some vs => some (wrap1 vs, σ) | none => none) := rfl
  rw [e, h2, hd, h3]
  rfl

theorem frz_agg {d : Nat} {σ σ' : St} {cs cs' : List AV} (h : frzL (frz d) σ cs = some (cs', σ')) : frz (d + 1) σ (.agg cs) = some (.agg cs', σ') := by
  have e : frz (d + 1) σ (.agg cs) = (frzL (frz d) σ cs).map fun r => (.agg r.1, r.2) := rfl
  rw [e, h]; rfl

theorem frz_tup2 {d : Nat} {σ σ' : St} {v v' : AV} {c : Int} (h : frz (d + 1) σ v = some (v', σ')) : frz (d + 2) σ (.tup [v, .int .i64 c]) = some (.tup [v', .int .i64 c], σ') := by
  have e : frz (d + 2) σ (.tup [v, .int .i64 c]) = (frzL (frz (d + 1)) σ [v, .int .i64 c]).map fun r => (.tup r.1, r.2) := rfl
  rw [e]
  simp only [frzL, h, Option.bind_some]
  rfl

theorem frzL_2 {d : Nat} {σ σ1 σ2 : St} {a b a' b' : AV} (h : frz d σ a = some (a', σ1)) (k : frz d σ1 b = some (b', σ2)) : frzL (frz d) σ [a, b] = some ([a', b'], σ2) := by
  simp only [frzL, h, k, Option.bind_some, Option.map_some]

theorem build_rest {cf : CallF} (hcf : CfOK Tryz.prog cf) {l : FrA} {σ σz : St} {mid mver sid rid d : Nat} {es0 es : List (AV × AV)} {vs rcs : List AV} {docs : AV}
    (h4 : evA 69 l (.tmp 4) = .mref mid) (hm : σ[mid]? = some ⟨mver, .map es0⟩) (h9 : evA 69 l (.tmp 9) = .ptr sid 0 0) (h2 : evA 69 l (.tmp 2) = .ptr rid 0 0)
    (hz : frzL (frz d) σ (es0.map (·.2)) = some (vs, σz)) (hzip : es = zipV es0 vs) (hsz : σz[sid]? = some ⟨0, .cells [docs, .nil0] true⟩) (hrz : σz[rid]? = some ⟨0, .cells rcs true⟩) (hrl : rcs.length = 2) (hdocs : docs.plain = true)
    (hms : mid ≠ sid) (hmr : mid ≠ rid) (hsr : sid ≠ rid) (hk : ∀ e ∈ es, ∃ c m cs, e = (.int .i64 c, .snap m cs)) (hlen : es.length ≤ 1000000000)
    {π : List Nat} (hπ : π.Perm (List.range es.length)) (hcmp : ∀ (i j a b : Nat), π[i]? = some a → π[j]? = some b → ∃ c : Int, CallsF Tryz.prog 19 [.agg (chunk 2 a (kvCells es)), .agg (chunk 2 b (kvCells es))] (.int .i64 c) ∧ (c < 0 ↔ i < j)) :
    JF Tryz.prog 69 rest9 l σ (endQ tab Tryz.f9 fun r σ1 => ∃ d σ2, frz d σ1 r = some (.tup [.agg [docs, if es.length = 0 then .nil0 else .snap es.length (π.flatMap fun j => chunk 2 j (kvCells es))], .int .i64 0], σ2)) := by
  refine JF.seq (JF.mapRange (l0 := [_]) (xm := .tmp 50) (dr := 51) (d1 := 52) (d3 := 54) tabOK hcf rfl rfl rfl rfl rfl rfl rfl rfl rfl rfl rfl rfl (by decide) (rfl : tab.ty 64 = some ⟨.map _ _, _, _, _, _⟩)
    (opsF_cons rfl rfl) h4 hm hz hzip (bI es sid rid docs rcs) (fun v vis l σ h => h.1)
    (fun v => ⟨rfl, h9, h2, fun j hj => by simp at hj, List.nodup_nil, by rw [List.getElem?_set_ne hmr]; exact hrz, .nil0, by rw [List.getElem?_set_ne hms]; exact hsz, .inl ⟨rfl, rfl⟩⟩) ?_ ?_)
  · rintro v vis l σ i kv ⟨h51, h9, h2, hvis, hnd, hr, out, hs, hout⟩ hkv hni
    obtain ⟨c, m, cs, rfl⟩ := hk kv (List.mem_of_getElem? hkv)
    refine ⟨_, _, _, _, opsF_cons rfl rfl, rfl, h51, opsF_cons rfl (opsF_cons rfl (opsF_cons rfl (opsF_cons rfl rfl))), ?_⟩
    have hil : i < es.length := (List.getElem?_eq_some_iff.1 hkv).1
    have hch := chunk_kv es i _ hkv
    have hnews : ∀ σ, news σ 2 (.snap 1 [.int .i64 c, .snap m cs]) = some (1, [.int .i64 c, .snap m cs]) := fun σ => rfl
    have hvis' : ∀ j ∈ vis ++ [i], j < es.length := fun j hj => by
      rcases List.mem_append.1 hj with hj | hj
      · exact hvis j hj
      · simp at hj; subst hj; exact hil
    have hnd' : (vis ++ [i]).Nodup := by rw [List.nodup_append]; exact ⟨hnd, by simp, fun a ha b hb => by simp at hb; subst hb; exact fun e => hni (e ▸ ha)⟩
    have hle' := nodup_le _ _ hnd' hvis'
    rw [List.length_append, List.length_singleton] at hle'
    have hsl := lt_of_get hs
    have hrl' := lt_of_get hr
    rcases hout with ⟨rfl, rfl⟩ | ⟨hne, id, ver', rfl, hav, ho⟩
    · have happ : append1 tab 50 σ .nil0 (.snap 1 [.int .i64 c, .snap m cs]) = some (.ref σ.length 0 0 1 2, σ ++ [⟨0, .cells [.int .i64 c, .snap m cs] true⟩]) :=
        append1_new (i := ti74) rfl (by decide) rfl (hnews σ) rfl (by decide) rfl
      have hs' : (σ ++ [⟨0, .cells [.int .i64 c, .snap m cs] true⟩] : St)[sid]? = some ⟨0, .cells [docs, .nil0] true⟩ := by rw [List.getElem?_append_left hsl]; exact hs
      refine JF.region tabOK hcf (opsF_cons (stepF_fieldAddr rfl rfl rfl (by decide) h9) (opsF_cons (stepF_load rfl rfl rfl rfl (rd_of hs (Nat.le_of_ble_eq_true rfl)) rfl) (opsF_cons rfl (opsF_cons rfl (opsF_cons rfl (opsF_cons rfl (opsF_cons (stepF_append rfl rfl rfl rfl rfl rfl happ)
        (opsF_cons (stepF_fieldAddr rfl rfl rfl (by decide) h9) (opsF_cons (stepF_store rfl rfl rfl rfl rfl rfl rfl (wr_of hs' (Nat.le_of_ble_eq_true rfl) rfl)) rfl))))))))) ?_
      refine ⟨.inl rfl, h51, h9, h2, hvis', hnd', ?_, .ref σ.length 0 0 1 2, ?_, .inr ⟨by simp, σ.length, 0, rfl, ?_, ?_⟩⟩
      · rw [List.getElem?_set_ne hsr, List.getElem?_append_left hrl']; exact hr
      · rw [List.getElem?_set_self (by simp; omega)]; rfl
      · simp; omega
      · rw [List.getElem?_set_ne (by omega), List.getElem?_append_right (Nat.le_refl _)]
        simp [hch]
    · have hroom : room47 (vis.length + 1) ti74.bytes = true := by
        show room47 (vis.length + 1) 32 = true
        simp only [room47, Bool.and_eq_true, decide_eq_true_eq]; omega
      have happ : append1 tab 50 σ (.ref id ver' 0 vis.length 2) (.snap 1 [.int .i64 c, .snap m cs]) = some (.ref id (ver' + 1) 0 (vis.length + 1) 2, σ.set id ⟨ver' + 1, .cells ((vis.flatMap fun j => chunk 2 j (kvCells es)) ++ [.int .i64 c, .snap m cs]) true⟩) :=
        append1_snoc (i := ti74) rfl rfl (by decide) rfl (hnews σ) rfl ho (flat_len es vis hvis).symm (by decide) hroom
      have hid : id ≠ sid ∧ id ≠ rid := by simpa using hav
      have hs' : (σ.set id ⟨ver' + 1, .cells ((vis.flatMap fun j => chunk 2 j (kvCells es)) ++ [.int .i64 c, .snap m cs]) true⟩ : St)[sid]? = some ⟨0, .cells [docs, .ref id ver' 0 vis.length 2] true⟩ := by
        rw [List.getElem?_set_ne hid.1]; exact hs
      refine JF.region tabOK hcf (opsF_cons (stepF_fieldAddr rfl rfl rfl (by decide) h9) (opsF_cons (stepF_load rfl rfl rfl rfl (rd_of hs (Nat.le_of_ble_eq_true rfl)) rfl) (opsF_cons rfl (opsF_cons rfl (opsF_cons rfl (opsF_cons rfl (opsF_cons (stepF_append rfl rfl rfl rfl rfl rfl happ)
        (opsF_cons (stepF_fieldAddr rfl rfl rfl (by decide) h9) (opsF_cons (stepF_store rfl rfl rfl rfl rfl rfl rfl (wr_of hs' (Nat.le_of_ble_eq_true rfl) rfl)) rfl))))))))) ?_
      have hidl := lt_of_get ho
      refine ⟨.inl rfl, h51, h9, h2, hvis', hnd', ?_, .ref id (ver' + 1) 0 (vis.length + 1) 2, ?_, .inr ⟨by simp, id, ver' + 1, by simp, hav, ?_⟩⟩
      · rw [List.getElem?_set_ne hsr, List.getElem?_set_ne hid.2]; exact hr
      · rw [List.getElem?_set_self (by simpa using hsl)]; rfl
      · rw [List.getElem?_set_ne (Ne.symm hid.1), List.getElem?_set_self hidl, flat_snoc, hch]
  · rintro v vis l σ ⟨h51, h9, h2, hvis, hnd, hr, out, hs, hout⟩ hperm
    refine ⟨_, _, opsF_cons rfl rfl, rfl, ?_⟩
    have hlen' : vis.length = es.length := by rw [hperm.length_eq]; simp
    have hsl := lt_of_get hs
    have hrl' := lt_of_get hr
    rcases hout with ⟨rfl, rfl⟩ | ⟨hne, id, ver', rfl, hav, ho⟩
    · refine JF.seq (JF.region tabOK (withFact_ok hcf (f := 18) (args := [.nil0, .clo 19 [] []]) (σ := σ) (r := (.tup [], σ)) (sortNone_A Tryz.sortPost (.inl rfl)))
        (opsF_cons (stepF_fieldAddr rfl rfl rfl (by decide) h9) (opsF_cons (stepF_load rfl rfl rfl rfl (rd_of hs (Nat.le_of_ble_eq_true rfl)) rfl) (opsF_cons (stepF_callv rfl rfl rfl rfl (map2 rfl rfl) withFact_eq) rfl))) ?_)
      have hone : [docs, .nil0].all AV.one = true := by simp [plain_one hdocs]; rfl
      refine JF.seq (JF.region tabOK hcf (opsF_cons (stepF_load rfl rfl rfl h9 (rd_of hs (Nat.le_of_ble_eq_true rfl)) rfl) (opsF_cons (stepF_store rfl rfl rfl h2 rfl rfl rfl (wr_of hr (by rw [hrl]; exact Nat.le_of_ble_eq_true rfl) hone)) (opsF_cons rfl rfl))) ?_)
      have hsp : splice rcs 0 [docs, .nil0] = [docs, .nil0] := by
        unfold splice
        rw [List.take_zero, List.drop_eq_nil_of_le (by rw [hrl]; exact Nat.le_of_ble_eq_true rfl)]; rfl
      refine JF.ret ⟨.tup [.agg [docs, .nil0], .int .i64 0], ?_, 3, σ.set rid ⟨0, .cells (splice rcs 0 [docs, .nil0]) true⟩, ?_⟩
      · have hd : deref (σ.set rid ⟨0, .cells (splice rcs 0 [docs, .nil0]) true⟩) (evA 69 l (.tmp 2)) 2 = some [docs, .nil0] := by
          rw [h2, hsp]
          exact rd_of (List.getElem?_set_self hrl') (Nat.le_of_ble_eq_true rfl)
        exact end2 hd
      · rw [if_pos (by simpa using hlen'.symm)]
        exact frz_tup2 (frz_agg (frzL_plain (fun v hv => by simp at hv; rcases hv with rfl | rfl; exact hdocs; rfl)))
    · have hpos : 0 < es.length := by
        rw [← hlen']; exact List.length_pos_iff.2 hne
      have hid : id ≠ sid ∧ id ≠ rid := by simpa using hav
      have hkl := len_kvCells es
      have hpl : ∀ v ∈ kvCells es, v.plain = true := by
        intro v hv
        unfold kvCells at hv
        rw [List.mem_flatMap] at hv
        obtain ⟨e, he, hv⟩ := hv
        obtain ⟨c, m, cs, rfl⟩ := hk e he
        simp at hv
        rcases hv with rfl | rfl <;> rfl
      have hso := sortFunc_perm Tryz.sortPost (k := 2) Tryz.isAgg74 Tryz.sizeOf74 (g := 19) (enters19) hkl hpl (by decide) hpos (by omega) hperm ho hπ hcmp
      rw [← hlen'] at hso
      have hidl := lt_of_get ho
      generalize hF : (π.flatMap fun j => chunk 2 j (kvCells es)) = F at hso ⊢
      have hs2 : (σ.set id ⟨ver', .cells F true⟩ : St)[sid]? = some ⟨0, .cells [docs, .ref id ver' 0 vis.length 2] true⟩ := by rw [List.getElem?_set_ne hid.1]; exact hs
      have hr2 : (σ.set id ⟨ver', .cells F true⟩ : St)[rid]? = some ⟨0, .cells rcs true⟩ := by rw [List.getElem?_set_ne hid.2]; exact hr
      refine JF.seq (JF.region tabOK (withFact_ok hcf (f := 18) (r := (_, _)) hso)
        (opsF_cons (stepF_fieldAddr rfl rfl rfl (by decide) h9) (opsF_cons (stepF_load rfl rfl rfl rfl (rd_of hs (Nat.le_of_ble_eq_true rfl)) rfl) (opsF_cons (stepF_callv rfl rfl rfl rfl (map2 rfl rfl) withFact_eq) rfl))) ?_)
      have hone : [docs, .ref id ver' 0 vis.length 2].all AV.one = true := by simp [plain_one hdocs]; rfl
      refine JF.seq (JF.region tabOK hcf (opsF_cons (stepF_load rfl rfl rfl h9 (rd_of hs2 (Nat.le_of_ble_eq_true rfl)) rfl) (opsF_cons (stepF_store rfl rfl rfl h2 rfl rfl rfl (wr_of hr2 (by rw [hrl]; exact Nat.le_of_ble_eq_true rfl) hone)) (opsF_cons rfl rfl))) ?_)
      have hsp : splice rcs 0 [docs, .ref id ver' 0 vis.length 2] = [docs, .ref id ver' 0 vis.length 2] := by
        unfold splice
        rw [List.take_zero, List.drop_eq_nil_of_le (by rw [hrl]; exact Nat.le_of_ble_eq_true rfl)]; rfl
      have hfl : F.length = es.length * 2 := by
        rw [← hF, len_flat hkl π (fun j hj => by have := hπ.mem_iff.1 hj; simpa using this), hπ.length_eq]; simp
      have hpl2 : ∀ v ∈ F, v.plain = true := by
        intro v hv
        rw [← hF, List.mem_flatMap] at hv
        obtain ⟨j, _, hj⟩ := hv
        exact hpl v (List.mem_of_mem_drop (List.mem_of_mem_take hj))
      refine JF.ret ⟨.tup [.agg [docs, .ref id ver' 0 vis.length 2], .int .i64 0], ?_, 4, ((σ.set id ⟨ver', .cells F true⟩).set rid ⟨0, .cells (splice rcs 0 [docs, .ref id ver' 0 vis.length 2]) true⟩).set id ⟨ver', .cells F false⟩, ?_⟩
      · have hd : deref ((σ.set id ⟨ver', .cells F true⟩).set rid ⟨0, .cells (splice rcs 0 [docs, .ref id ver' 0 vis.length 2]) true⟩) (evA 69 l (.tmp 2)) 2 = some [docs, .ref id ver' 0 vis.length 2] := by
          rw [h2, hsp]
          exact rd_of (List.getElem?_set_self (by simpa using hrl')) (Nat.le_of_ble_eq_true rfl)
        exact end2 hd
      · rw [if_neg (by omega)]
        have hf := frz_ref_plain (d := 0) (σ := (σ.set id ⟨ver', .cells F true⟩).set rid ⟨0, .cells (splice rcs 0 [docs, .ref id ver' 0 vis.length 2]) true⟩) (id := id) (ver := ver') (n := vis.length) (k := 2) (cs := F) (b := true) (by omega)
          (by rw [List.getElem?_set_ne (Ne.symm hid.2), List.getElem?_set_self hidl]) (by omega) hpl2
        rw [← hlen']
        exact frz_tup2 (frz_agg (frzL_2 (frz_plain hdocs) hf))
end
end Go.Proofs.Tryz.Am
