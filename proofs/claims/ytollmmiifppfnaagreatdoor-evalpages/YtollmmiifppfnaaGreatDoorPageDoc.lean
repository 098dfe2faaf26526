/- A part of the proof: the abstract machine and what it shows of the program. -/
import Derived.Test.YtollmmiifppfnaaGreatDoorPage

/- The document's Page. -/
set_option maxRecDepth 100000
set_option linter.unusedVariables false
set_option linter.unusedSimpArgs false
namespace Go.Proofs.Tryz.Am
open Go Go.Am Go.Proofs

theorem wrap64 {x : Int} (h1 : -9223372036854775808 ≤ x) (h2 : x ≤ 9223372036854775807) : IntKind.i64.wrap x = x := by
  simp [IntKind.wrap, IntKind.bits, IntKind.signed]; omega
theorem add_i {a b : Int} (h1 : -9223372036854775808 ≤ a + b) (h2 : a + b ≤ 9223372036854775807) : intBin .add .i64 a b = some (.int .i64 (a + b)) := by
  simp only [intBin, wrap64 h1 h2]
theorem sub_i {a b : Int} (h1 : -9223372036854775808 ≤ a - b) (h2 : a - b ≤ 9223372036854775807) : intBin .sub .i64 a b = some (.int .i64 (a - b)) := by
  simp only [intBin, wrap64 h1 h2]

/-- What stands in the frame of the document's Page. -/
def qI (l : List Rz) (a k : Int) (f : FrA) : Prop :=
  evA 49 f (.tmp 0) = rs l ∧ evA 49 f (.tmp 1) = .int .i64 a ∧ evA 49 f (.tmp 2) = .int .i64 k ∧ evA 49 f (.tmp 6) = .ptr 0 0 0 ∧ evA 49 f (.tmp 7) = .ptr 1 0 0

/-- The part that is built so far. -/
def rowIs (l : List Rz) (v : AV) (avoid : List Nat) (σ : St) : Prop :=
  l = [] ∧ v = .nil0 ∨ l ≠ [] ∧ ∃ id ver, v = .ref id ver 0 l.length 3 ∧ id ∉ avoid ∧ σ[id]? = some ⟨ver, .cells (rCells l) true⟩

/-- The page so far. -/
def qS (l p : List Rz) (σ : St) : Prop := σ[0]? = some z25 ∧ ∃ v, σ[1]? = some ⟨0, .cells [.int .i64 l.length, v] true⟩ ∧ rowIs p v [0, 1] σ

theorem end6 {g : FrA} {σ : St} {cs : List AV} (hg : evA 49 g (.tmp 6) = .ptr 0 0 0) (hd : σ[0]? = some ⟨0, .cells cs true⟩) (hl : cs.length = 2) : endF tab Tryz.f6 g σ = some (.agg cs, σ) := by
  have e2 : endF tab Tryz.f6 g σ = (match ((deref σ (evA 49 g (.tmp 6)) 2).bind (chunkLoad ti25)).bind fun v => some [v] with | some vs => some (wrap1 vs, σ) | none => none) := rfl
  have : deref σ (.ptr 0 0 0) 2 = some cs := by
    show rd σ 0 0 0 2 = some cs
    rw [rd_of hd (by omega), List.drop_zero, List.take_of_length_le (by omega)]
  rw [e2, hg, this]
  rfl

theorem frz_page' {d : Nat} {σ σ' : St} {c : Int} {v v' : AV} (h : frz (d + 1) σ v = some (v', σ')) : frz (d + 2) σ (.agg [.int .i64 c, v]) = some (.agg [.int .i64 c, v'], σ') := by
  have e : frz (d + 2) σ (.agg [.int .i64 c, v]) = (frzL (frz (d + 1)) σ [.int .i64 c, v]).map fun r => (.agg r.1, r.2) := rfl
  have h0 : frz (d + 1) σ (.int .i64 c) = some (.int .i64 c, σ) := frz_plain rfl
  rw [e]
  simp only [frzL, h0, h, Option.bind_some, Option.map_some]

/-- The page is handed back. -/
theorem fin6 {l p : List Rz} {σ : St} {w : AV} (hp : qS l p σ) (hw : w = if p = [] then .nil0 else rs p) {f : FrA} (h6 : evA 49 f (.tmp 6) = .ptr 0 0 0) (h7 : evA 49 f (.tmp 7) = .ptr 1 0 0) {cf : CallF} (hcf : CfOK Tryz.prog cf) {id : Nat} {o1 o2 : Oper} {c : Code}
    (e1 : o1.op = .load 25 (.tmp 7)) (e2 : o2.op = .store 25 (.tmp 6) (.tmp 48) ∧ o1.dst = some 48 ∨ o2.op = .store 25 (.tmp 6) (.tmp 24) ∧ o1.dst = some 24) (g1 : o1.guard = none) (g2 : o2.guard = none) (d2 : o2.dst = none) {Q : PostF}
    (hq : ∀ f' σ', (∃ v, endF tab Tryz.f6 f' σ' = some (v, σ') ∧ ∃ d σ2, frz d σ' v = some (.agg [.int .i64 l.length, w], σ2)) → JF Tryz.prog 49 c f' σ' Q) : JF Tryz.prog 49 (.seq (.region id #[o1, o2] false) c) f σ Q := by
  obtain ⟨h0, v, h1, hr⟩ := hp
  have hone : v.one = true := by
    rcases hr with ⟨_, rfl⟩ | ⟨_, id, ver, rfl, _⟩ <;> rfl
  have hd : deref σ (.ptr 1 0 0) 2 = some [.int .i64 l.length, v] := rd_of h1 (Nat.le_of_ble_eq_true rfl)
  have hw' : wr σ 0 0 0 [.int .i64 l.length, v] = some (σ.set 0 ⟨0, .cells [.int .i64 l.length, v] true⟩) := by
    rw [wr_of (cs := [.int .i64 0, .nil0]) h0 (Nat.le_of_ble_eq_true rfl) (by simp [hone]; rfl)]
    rfl
  have w1 : ∀ os n f, wantedF os n o1 f = some true := fun os n f => by unfold wantedF; rw [g1]
  have w2 : ∀ os n f, wantedF os n o2 f = some true := fun os n f => by unfold wantedF; rw [g2]
  have hlt := lt_of_get h0
  have done : ∀ f' : FrA, evA 49 f' (.tmp 6) = .ptr 0 0 0 → ∃ v', endF tab Tryz.f6 f' (σ.set 0 ⟨0, .cells [.int .i64 l.length, v] true⟩) = some (v', σ.set 0 ⟨0, .cells [.int .i64 l.length, v] true⟩) ∧
      ∃ d σ2, frz d (σ.set 0 ⟨0, .cells [.int .i64 l.length, v] true⟩) v' = some (.agg [.int .i64 l.length, w], σ2) := by
    intro f' h6'
    refine ⟨_, end6 h6' (List.getElem?_set_self hlt) rfl, ?_⟩
    rcases hr with ⟨rfl, rfl⟩ | ⟨hne, id, ver, rfl, hav, ho⟩
    · rw [if_pos rfl] at hw; subst hw
      exact ⟨2, _, frz_page' (d := 0) rfl⟩
    · rw [if_neg hne] at hw; subst hw
      have hid : id ≠ 0 := fun e => hav (by simp [e])
      have := frz_ref_plain (d := 0) (σ := σ.set 0 ⟨0, .cells [.int .i64 l.length, .ref id ver 0 p.length 3] true⟩) (id := id) (ver := ver) (n := p.length) (k := 3) (cs := rCells p) (b := true) (by simpa using hne)
        (by rw [List.getElem?_set_ne (Ne.symm hid)]; exact ho) (len_rCells p).symm (plain_rCells p)
      exact ⟨3, _, frz_page' (d := 1) this⟩
  rcases e2 with ⟨e2, d1⟩ | ⟨e2, d1⟩
  · refine JF.seq (JF.region tabOK hcf (opsF_cons (stepF_load e1 (w1 ..) rfl h7 hd rfl) (opsF_cons (stepF_store e2 (w2 ..) rfl (by rw [d1]; exact h6) (by rw [d1]) rfl rfl hw') rfl)) ?_)
    exact hq _ _ (done _ (by rw [d1, d2]; exact h6))
  · refine JF.seq (JF.region tabOK hcf (opsF_cons (stepF_load e1 (w1 ..) rfl h7 hd rfl) (opsF_cons (stepF_store e2 (w2 ..) rfl (by rw [d1]; exact h6) (by rw [d1]) rfl rfl hw') rfl)) ?_)
    exact hq _ _ (done _ (by rw [d1, d2]; exact h6))

theorem part_nil (l : List Rz) (a : Nat) : part l a 0 = [] := by simp [part]
theorem part_snoc {l : List Rz} {a c : Nat} {x : Rz} (h : l[a + c]? = some x) : part l a (c + 1) = part l a c ++ [x] := by
  unfold part
  rw [List.take_add_one, List.getElem?_drop, h]
  rfl
theorem len_part {l : List Rz} {a c : Nat} (h : a + c ≤ l.length) : (part l a c).length = c := by simp [part]; omega

/-- The loop's own invariant. -/
def qL (l : List Rz) (a k : Int) (f : FrA) (σ : St) : Prop :=
  qI l a k f ∧ ∃ c : Nat, evA 49 f (.tmp 8) = .int .i64 (a + c) ∧ a.toNat + c ≤ l.length ∧ (c : Int) ≤ k ∧ qS l (part l a.toNat c) σ

theorem page6 {cf : CallF} (hcf : CfOK Tryz.prog cf) (l : List Rz) (a k : Int) (hl : l.length ≤ 100) : CallsF Tryz.prog 6 [rs l, .int .i64 a, .int .i64 k] (pageV l a k) := by
  refine callsQ_of_JF tabOK Tryz.func6 (rfl : Tryz.f6.body = some _) (Nat.le_of_ble_eq_true rfl) ?_
  refine JF.seq (JF.region tabOK hcf rfl ?_)
  refine JF.mid (fun f σ => qI l a k f ∧ σ = [z25, ⟨0, .cells [.int .i64 l.length, .nil0] true⟩]) (JF.region tabOK hcf (opsF_cons rfl (opsF_cons rfl (opsF_cons rfl (opsF_cons rfl (opsF_cons rfl rfl))))) ⟨⟨rfl, rfl, rfl, rfl, rfl⟩, rfl⟩) ?_
  rintro f σ ⟨⟨h0, h1, h2, h6, h7⟩, rfl⟩
  have hlen : ∀ σ, lenB tab 22 σ (rs l) = some (.val (.int .i64 l.length) σ) := fun σ => rfl
  have hS0 : qS l [] [z25, ⟨0, .cells [.int .i64 l.length, .nil0] true⟩] := ⟨rfl, .nil0, rfl, .inl ⟨rfl, rfl⟩⟩
  have hout : ¬ (0 ≤ a ∧ a < l.length ∧ 0 < k) → pageV l a k = .agg [.int .i64 l.length, .nil0] := fun h => by rw [pageV, if_neg h]
  refine JF.mid (fun f σ => qI l a k f ∧ σ = [z25, ⟨0, .cells [.int .i64 l.length, .nil0] true⟩] ∧ 0 ≤ a ∧ a < l.length ∧ 0 < k) ?_ ?_
  · by_cases ha : a < 0
    · refine JF.seq (JF.region tabOK hcf (opsF_cons rfl (opsF_cons (stepF_int rfl rfl rfl h1 rfl rfl (lt_true ha)) (opsF_cons rfl (opsF_cons rfl (opsF_cons rfl (opsF_cons rfl (opsF_cons rfl (opsF_cons rfl (opsF_cons rfl (opsF_cons rfl (opsF_cons rfl (opsF_cons rfl rfl)))))))))))) ?_)
      refine JF.condT rfl ?_
      refine fin6 hS0 (w := .nil0) rfl ?_ ?_ hcf ?_ (.inr ?_) ?_ ?_ ?_ fun f' σ' hq => JF.ret ?_
      · exact h6
      · exact h7
      · exact rfl
      · exact ⟨rfl, rfl⟩
      · exact rfl
      · exact rfl
      · exact rfl
      · rw [hout (by omega)]
        exact hq
    · by_cases hb : (l.length : Int) ≤ a
      · refine JF.seq (JF.region tabOK hcf (opsF_cons rfl (opsF_cons (stepF_int rfl rfl rfl h1 rfl rfl (lt_false (by omega))) (opsF_cons rfl (opsF_cons rfl (opsF_cons rfl (opsF_cons (stepF_len rfl rfl h0 (hlen _)) (opsF_cons (stepF_int rfl rfl rfl h1 rfl rfl (ge_true hb)) (opsF_cons rfl (opsF_cons rfl (opsF_cons rfl (opsF_cons rfl (opsF_cons rfl rfl)))))))))))) ?_)
        refine JF.condT rfl ?_
        refine fin6 hS0 (w := .nil0) rfl ?_ ?_ hcf ?_ (.inr ?_) ?_ ?_ ?_ fun f' σ' hq => JF.ret ?_
        · exact h6
        · exact h7
        · exact rfl
        · exact ⟨rfl, rfl⟩
        · exact rfl
        · exact rfl
        · exact rfl
        · rw [hout (by omega)]
          exact hq
      · by_cases hc : k < 1
        · refine JF.seq (JF.region tabOK hcf (opsF_cons rfl (opsF_cons (stepF_int rfl rfl rfl h1 rfl rfl (lt_false (by omega))) (opsF_cons rfl (opsF_cons rfl (opsF_cons rfl (opsF_cons (stepF_len rfl rfl h0 (hlen _)) (opsF_cons (stepF_int rfl rfl rfl h1 rfl rfl (ge_false (by omega))) (opsF_cons rfl (opsF_cons rfl (opsF_cons rfl
            (opsF_cons (stepF_int rfl rfl rfl h2 rfl rfl (lt_true hc)) (opsF_cons rfl rfl)))))))))))) ?_)
          refine JF.condT rfl ?_
          refine fin6 hS0 (w := .nil0) rfl ?_ ?_ hcf ?_ (.inr ?_) ?_ ?_ ?_ fun f' σ' hq => JF.ret ?_
          · exact h6
          · exact h7
          · exact rfl
          · exact ⟨rfl, rfl⟩
          · exact rfl
          · exact rfl
          · exact rfl
          · rw [hout (by omega)]
            exact hq
        · refine JF.seq (JF.region tabOK hcf (opsF_cons rfl (opsF_cons (stepF_int rfl rfl rfl h1 rfl rfl (lt_false (by omega))) (opsF_cons rfl (opsF_cons rfl (opsF_cons rfl (opsF_cons (stepF_len rfl rfl h0 (hlen _)) (opsF_cons (stepF_int rfl rfl rfl h1 rfl rfl (ge_false (by omega))) (opsF_cons rfl (opsF_cons rfl (opsF_cons rfl
            (opsF_cons (stepF_int rfl rfl rfl h2 rfl rfl (lt_false (by omega))) (opsF_cons rfl rfl)))))))))))) ?_)
          exact JF.condF rfl (JF.skip ⟨⟨h0, h1, h2, h6, h7⟩, rfl, by omega, by omega, by omega⟩)
  · rintro f σ ⟨⟨h0, h1, h2, h6, h7⟩, rfl, ha, hb, hc⟩
    refine JF.mid (fun f σ => evA 49 f (.tmp 6) = .ptr 0 0 0 ∧ evA 49 f (.tmp 7) = .ptr 1 0 0 ∧ qS l (part l a.toNat k.toNat) σ) ?_ ?_
    · refine JF.seq (JF.region tabOK hcf rfl ?_)
      refine JF.block (JF.loop (qL l a k) (fun f σ => match evA 49 f (.tmp 8) with | .int _ i => l.length - i.toNat | _ => 0) ⟨⟨h0, h1, h2, h6, h7⟩, 0, (by rw [show a + ((0 : Nat) : Int) = a by simp]; exact h1), by omega, by omega, by rw [part_nil]; exact hS0⟩ ?_)
      rintro f σ ⟨⟨h0, h1, h2, h6, h7⟩, c, h8, hcl, hck, hS⟩
      by_cases hi : a + c < l.length
      · by_cases hk : (a + c) - a < k
        · refine JF.seq (JF.seq (JF.region tabOK hcf (opsF_cons rfl (opsF_cons rfl (opsF_cons (stepF_len rfl rfl h0 (hlen _)) (opsF_cons (stepF_int rfl rfl rfl h8 rfl rfl (lt_true hi)) (opsF_cons rfl (opsF_cons rfl (opsF_cons rfl (opsF_cons (stepF_int rfl rfl rfl h8 h1 rfl (sub_i (by omega) (by omega)))
            (opsF_cons rfl (opsF_cons (stepF_int rfl rfl rfl rfl h2 rfl (lt_true hk)) (opsF_cons rfl rfl))))))))))) ?_))
          refine JF.condT rfl (JF.skip ?_)
          obtain ⟨hz, v, h1c, hrow⟩ := hS
          have hx : l[a.toNat + c]? = some l[a.toNat + c] := List.getElem?_eq_getElem (by omega)
          generalize l[a.toNat + c] = x at hx
          have hsnoc := part_snoc hx
          have hch : ((rCells l).drop ((a + c).toNat * 3)).take 3 = x.cells := by
            rw [show (a + c).toNat = a.toNat + c by omega, drop_rCells, show (3 : Nat) = 1 * 3 from rfl, take_rCells]
            have : (l.drop (a.toNat + c)).take 1 = [x] := by
              have h1 := List.getElem?_eq_some_iff.1 hx
              obtain ⟨hlt, he⟩ := h1
              rw [List.drop_eq_getElem_cons hlt, he]
              rfl
            rw [this]
            simp [rCells]
          have hd : deref σ (.ptr 1 0 1) 1 = some [v] := rd_of h1c (Nat.le_of_ble_eq_true rfl)
          have hone : v.one = true := by rcases hrow with ⟨_, rfl⟩ | ⟨_, id, ver, rfl, _⟩ <;> rfl
          have hchunk : chunkLoad ti22 [v] = some v := by
            show (if v.one then some v else none) = some v
            rw [if_pos hone]
          have hpl : (part l a.toNat c).length = c := len_part hcl
          have hnews : ∀ σ, news σ 3 (.snap 1 x.cells) = some (1, x.cells) := fun σ => rfl
          have h1l := lt_of_get h1c
          -- the new row
          have happ : ∃ v' σ', append1 tab 22 σ v (.snap 1 x.cells) = some (v', σ') ∧ v'.one = true ∧ v'.cells = some [v'] ∧ σ'[0]? = some z25 ∧ σ'[1]? = some ⟨0, .cells [.int .i64 l.length, v] true⟩ ∧
              ∃ id ver, v' = .ref id ver 0 (part l a.toNat (c + 1)).length 3 ∧ id ∉ [0, 1] ∧ σ'[id]? = some ⟨ver, .cells (rCells (part l a.toNat (c + 1))) true⟩ := by
            rw [hsnoc]
            have hrc : rCells (part l a.toNat c ++ [x]) = rCells (part l a.toNat c) ++ x.cells := by simp [rCells]
            rcases hrow with ⟨hn, rfl⟩ | ⟨hn, id, ver, rfl, hav, ho⟩
            · refine ⟨.ref σ.length 0 0 1 3, σ ++ [⟨0, .cells x.cells true⟩], append1_new (i := ti40) rfl (by decide) rfl (hnews σ) rfl (by decide) rfl, rfl, rfl, ?_, ?_, σ.length, 0, ?_, ?_, ?_⟩
              · rw [List.getElem?_append_left (by omega)]; exact hz
              · rw [List.getElem?_append_left h1l]; exact h1c
              · rw [hn]; rfl
              · intro h
                rcases List.mem_cons.1 h with h | h
                · omega
                · rw [List.mem_singleton] at h; omega
              · rw [hrc, hn, List.getElem?_append_right (Nat.le_refl _)]; simp [rCells]
            · have hid : id ≠ 0 ∧ id ≠ 1 := by simpa using hav
              have hroom : room47 ((part l a.toNat c).length + 1) ti40.bytes = true := by
                rw [hpl]
                show room47 (c + 1) 40 = true
                simp only [room47, Bool.and_eq_true, decide_eq_true_eq]; omega
              refine ⟨_, _, append1_snoc (i := ti40) rfl rfl (by decide) rfl (hnews σ) rfl ho (len_rCells _).symm (by decide) hroom, rfl, rfl, ?_, ?_, id, ver + 1, ?_, hav, ?_⟩
              · rw [List.getElem?_set_ne hid.1]; exact hz
              · rw [List.getElem?_set_ne hid.2]; exact h1c
              · rw [List.length_append, List.length_singleton]
              · rw [List.getElem?_set_self (lt_of_get ho), hrc]
          obtain ⟨v', σ', happ, hone', hcells', hz', h1c', id, ver, hv', hav, ho⟩ := happ
          have hw : wr σ' 1 0 1 [v'] = some (σ'.set 1 ⟨0, .cells [.int .i64 l.length, v'] true⟩) := by
            rw [wr_of h1c' (Nat.le_of_ble_eq_true rfl) (by simp [hone'])]
            rfl
          have hid : id ≠ 0 ∧ id ≠ 1 := by simpa using hav
          refine JF.seq (JF.block (JF.draw tabOK hcf (pol := fun _ => false) (fun f args σ v σ' h => by cases h) mixedOK [0, 1, 2, 3, 4, 5, 6, 7, 8, 9] (by kernel_rfl)
            (schF_cons rfl (stepF_fieldAddr rfl rfl rfl (by decide) h7) (schF_cons rfl (stepF_load rfl rfl rfl rfl hd hchunk) (schF_cons rfl rfl (schF_cons rfl rfl (schF_cons rfl (stepF_indexAddr rfl rfl rfl rfl h0 h8 (by omega) hi (len_rCells l))
              (schF_cons rfl (stepF_load (cs := x.cells) (v := .agg x.cells) rfl rfl rfl rfl (by
                show (if 3 ≤ (((rCells l).drop ((a + c).toNat * 3)).take 3).length then some ((((rCells l).drop ((a + c).toNat * 3)).take 3).take 3) else none) = _
                rw [hch]; rfl) rfl) (schF_cons rfl rfl (schF_cons rfl (stepF_append rfl rfl rfl rfl rfl rfl happ) (schF_cons rfl (stepF_fieldAddr rfl rfl rfl (by decide) h7) (schF_cons rfl (stepF_store rfl rfl rfl rfl rfl hcells' rfl hw) rfl))))))))))
            ?_))
          refine JF.region tabOK hcf (opsF_cons rfl (opsF_cons (stepF_int rfl rfl rfl h8 rfl rfl (add_i (by omega) (by omega))) (opsF_cons rfl rfl))) ?_
          have h8' : (a + c + 1 : Int) = a + ((c + 1 : Nat) : Int) := by omega
          refine ⟨⟨⟨h0, h1, h2, h6, h7⟩, c + 1, ?_, by omega, by omega, ?_, v', ?_, .inr ⟨by rw [hsnoc]; simp, id, ver, hv', hav, ?_⟩⟩, ?_⟩
          · rw [← h8']; rfl
          · rw [List.getElem?_set_ne (by decide)]; exact hz'
          · rw [List.getElem?_set_self (lt_of_get h1c')]
          · rw [List.getElem?_set_ne (Ne.symm hid.2)]; exact ho
          · show l.length - (a + c + 1).toNat < (match evA 49 f (.tmp 8) with | .int _ i => l.length - i.toNat | _ => 0)
            rw [h8]
            simp only
            omega
        · refine JF.seq (JF.seq (JF.region tabOK hcf (opsF_cons rfl (opsF_cons rfl (opsF_cons (stepF_len rfl rfl h0 (hlen _)) (opsF_cons (stepF_int rfl rfl rfl h8 rfl rfl (lt_true hi)) (opsF_cons rfl (opsF_cons rfl (opsF_cons rfl (opsF_cons (stepF_int rfl rfl rfl h8 h1 rfl (sub_i (by omega) (by omega)))
            (opsF_cons rfl (opsF_cons (stepF_int rfl rfl rfl rfl h2 rfl (lt_false (by omega))) (opsF_cons rfl rfl))))))))))) ?_))
          refine JF.condF rfl (JF.exit ?_)
          have e : part l a.toNat c = part l a.toNat k.toNat := by rw [show c = k.toNat by omega]
          refine ⟨h6, h7, ?_⟩
          rw [← e]; exact hS
      · refine JF.seq (JF.seq (JF.region tabOK hcf (opsF_cons rfl (opsF_cons rfl (opsF_cons (stepF_len rfl rfl h0 (hlen _)) (opsF_cons (stepF_int rfl rfl rfl h8 rfl rfl (lt_false (by omega))) (opsF_cons rfl (opsF_cons rfl (opsF_cons rfl (opsF_cons rfl
            (opsF_cons rfl (opsF_cons rfl (opsF_cons rfl rfl))))))))))) ?_))
        refine JF.condF rfl (JF.exit ?_)
        have e : part l a.toNat c = part l a.toNat k.toNat := by
          unfold part
          rw [List.take_of_length_le (by simp; omega), List.take_of_length_le (by simp; omega)]
        refine ⟨h6, h7, ?_⟩
        rw [← e]; exact hS
    · rintro f σ ⟨h6, h7, hS⟩
      have hne : part l a.toNat k.toNat ≠ [] := by
        intro h
        have := congrArg List.length h
        simp [part] at this
        omega
      refine fin6 hS (w := rs (part l a.toNat k.toNat)) (by rw [if_neg hne]) ?_ ?_ hcf ?_ (.inl ?_) ?_ ?_ ?_ fun f' σ' hq => JF.ret ?_
      · exact h6
      · exact h7
      · exact rfl
      · exact ⟨rfl, rfl⟩
      · exact rfl
      · exact rfl
      · exact rfl
      · rw [pageV, if_pos ⟨ha, hb, hc⟩]
        exact hq
end Go.Proofs.Tryz.Am
