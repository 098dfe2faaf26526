/- A part of the proof: the abstract machine and what it shows of the program. -/
import Derived.Test.YtollmmiifppfnaaGreatDoorSame
import Derived.Test.YtollmmiifppfnaaGreatDoorAlive

/- EvalPages. -/
set_option maxRecDepth 100000
set_option linter.unusedVariables false
set_option linter.unusedSimpArgs false
namespace Go.Proofs.Tryz.Am
open Go Go.Am Go.Proofs

theorem factA {f : FuncId} {args : List AV} {v : AV} (h : CallsF Tryz.prog f args v) (hp : ∀ x ∈ args, x.plain = true) (σ : St) : CallsA Tryz.prog f args σ v σ := callsF_call (d := 1) (frzL_plain hp) h

theorem same00 : CallsF Tryz.prog 7 [.nil0, .nil0] (.bool true) := callsF_of_res (E := E1) (n := 3) (d := 2) E1_ok (by kernel_rfl)
theorem same0s : CallsF Tryz.prog 7 [.nil0, .snap 0 []] (.bool true) := callsF_of_res (E := E1) (n := 3) (d := 2) E1_ok (by kernel_rfl)

theorem not_true : unop .not (.bool true) = some (.bool false) := rfl
theorem eq_false' {a b : Int} (h : a ≠ b) : intBin .eql .i64 a b = some (.bool false) := by simp [intBin, ofB, h]

/-- What holds at the loop's head. -/
def eL (l : List Rz) (k : Int) (f : FrA) (σ : St) : Prop :=
  evA 64 f (.tmp 0) = rs l ∧ evA 64 f (.tmp 2) = .int .i64 k ∧ ∃ c : Nat, evA 64 f (.tmp 10) = .int .i64 c ∧ c ≤ l.length ∧ ∃ v, evA 64 f (.tmp 9) = v ∧ rowIs (l.take c) v [] σ

theorem take_part (l : List Rz) (c m : Nat) : l.take c ++ part l c m = l.take (c + m) := by
  unfold part
  rw [← List.take_add]

theorem law3 (l : List Rz) (a k : Int) (hsp : ∀ x ∈ l, x.spans.length ≤ 4611686018427387904) (hn : l.length ≤ 4611686018427387904) : CallsF Tryz.prog 3 [rs l, .int .i64 a, .int .i64 k] (.bool true) := by
  have hcf : CfOK Tryz.prog (runF E1 0) := runF_ok E1_ok 0
  generalize runF E1 0 = cf at hcf
  refine callsQ_of_JF tabOK Tryz.func3 (rfl : Tryz.f3.body = some _) (Nat.le_of_ble_eq_true rfl) ?_
  have hlen : ∀ σ, lenB tab 22 σ (rs l) = some (.val (.int .i64 l.length) σ) := fun σ => rfl
  refine JF.seq (JF.region tabOK hcf rfl ?_)
  refine JF.mid (fun f σ => σ = [] ∧ evA 64 f (.tmp 0) = rs l ∧ evA 64 f (.tmp 1) = .int .i64 a ∧ evA 64 f (.tmp 2) = .int .i64 k) ?_ ?_
  · refine JF.seq (JF.region tabOK (withFact_ok hcf (f := 4) (args := []) (σ := []) (r := (.bool true, [])) (factA alive_true (fun x hx => by cases hx) [])) (opsF_cons (stepF_callv rfl rfl rfl rfl (by rfl) withFact_eq) (opsF_cons rfl rfl)) ?_)
    exact JF.condF rfl (JF.skip ⟨rfl, rfl, rfl, rfl⟩)
  rintro f σ ⟨rfl, h0, h1, h2⟩
  refine JF.mid (fun f σ => (σ = [] ∧ evA 64 f (.tmp 0) = rs l ∧ evA 64 f (.tmp 1) = .int .i64 a ∧ evA 64 f (.tmp 2) = .int .i64 k) ∧ l.length ≤ 100) ?_ ?_
  · by_cases hbig : (100 : Int) < l.length
    · refine JF.seq (JF.region tabOK hcf (opsF_cons rfl (opsF_cons (stepF_len rfl rfl h0 (hlen _)) (opsF_cons (stepF_int rfl rfl rfl rfl rfl rfl (gt_true hbig)) rfl))) ?_)
      refine JF.condT rfl (JF.seq (JF.region tabOK hcf rfl ?_))
      exact JF.ret ⟨.bool true, rfl, 1, [], rfl⟩
    · refine JF.seq (JF.region tabOK hcf (opsF_cons rfl (opsF_cons (stepF_len rfl rfl h0 (hlen _)) (opsF_cons (stepF_int rfl rfl rfl rfl rfl rfl (gt_false (by omega))) rfl))) ?_)
      exact JF.condF rfl (JF.skip ⟨⟨rfl, h0, h1, h2⟩, by omega⟩)
  rintro f σ ⟨⟨rfl, h0, h1, h2⟩, hl⟩
  -- the two pages
  generalize hw : (if 0 ≤ a ∧ a < l.length ∧ 0 < k then rs (part l a.toNat k.toNat) else .nil0) = w
  have hpv : pageV l a k = .agg [.int .i64 l.length, w] := by rw [pageV, hw]
  have hwpl : w.plain = true := by rw [← hw]; split <;> rfl
  have hwone := plain_one hwpl
  have hargs : ∀ x ∈ [rs l, .int .i64 a, .int .i64 k], AV.plain x = true := fun x hx => by simp at hx; rcases hx with rfl | rfl | rfl <;> rfl
  have c5 := factA (page5 hcf l a k hl) hargs []
  have c6 := factA (page6 hcf l a k hl) hargs []
  rw [hpv] at c5 c6
  have hcf5 := withFact_ok hcf (f := 5) (args := [rs l, .int .i64 a, .int .i64 k]) (σ := []) (r := (.agg [.int .i64 l.length, w], [])) c5
  have hcf6 := withFact_ok hcf5 (f := 6) (args := [rs l, .int .i64 a, .int .i64 k]) (σ := []) (r := (.agg [.int .i64 l.length, w], [])) c6
  have e5 : withFact (withFact cf 5 [rs l, .int .i64 a, .int .i64 k] [] (.agg [.int .i64 l.length, w], [])) 6 [rs l, .int .i64 a, .int .i64 k] [] (.agg [.int .i64 l.length, w], []) 5 [rs l, .int .i64 a, .int .i64 k] [] = some (.agg [.int .i64 l.length, w], []) := by
    have : ∀ (cf : CallF) r, withFact cf 6 [rs l, .int .i64 a, .int .i64 k] [] r 5 [rs l, .int .i64 a, .int .i64 k] [] = cf 5 [rs l, .int .i64 a, .int .i64 k] [] := fun cf r => by
      unfold withFact
      rw [if_neg (fun h => by simp at h)]
    rw [this]
    exact withFact_eq
  have hone : [.int .i64 l.length, w].all AV.one = true := by simp [hwone]; rfl
  have hw1 : wr [z25, z25] 0 0 0 [.int .i64 l.length, w] = some [⟨0, .cells [.int .i64 l.length, w] true⟩, z25] := by
    rw [wr_of (cs := [.int .i64 0, .nil0]) rfl (Nat.le_of_ble_eq_true rfl) hone]; rfl
  have hw2 : wr [⟨0, .cells [.int .i64 l.length, w] true⟩, z25] 1 0 0 [.int .i64 l.length, w] = some [⟨0, .cells [.int .i64 l.length, w] true⟩, ⟨0, .cells [.int .i64 l.length, w] true⟩] := by
    rw [wr_of (cs := [.int .i64 0, .nil0]) rfl (Nat.le_of_ble_eq_true rfl) hone]; rfl
  refine JF.mid (fun f σ => σ = [⟨0, .cells [.int .i64 l.length, w] true⟩, ⟨0, .cells [.int .i64 l.length, w] true⟩] ∧ evA 64 f (.tmp 0) = rs l ∧ evA 64 f (.tmp 1) = .int .i64 a ∧ evA 64 f (.tmp 2) = .int .i64 k ∧ evA 64 f (.tmp 7) = .ptr 0 0 0 ∧ evA 64 f (.tmp 8) = .ptr 1 0 0)
    (JF.region tabOK hcf6 (opsF_cons rfl (opsF_cons rfl (opsF_cons rfl (opsF_cons (stepF_callv rfl rfl rfl rfl (map3 h0 h1 h2) e5) (opsF_cons rfl (opsF_cons rfl (opsF_cons rfl (opsF_cons (stepF_callv rfl rfl rfl rfl (map3 h0 h1 h2) withFact_eq) (opsF_cons rfl (opsF_cons rfl
      (opsF_cons (stepF_store rfl rfl rfl rfl rfl rfl rfl hw1) (opsF_cons (stepF_store rfl rfl rfl rfl rfl rfl rfl hw2) rfl)))))))))))) ⟨rfl, h0, h1, h2, rfl, rfl⟩) ?_
  rintro f σ ⟨rfl, h0, h1, h2, h7, h8⟩
  generalize hσ : ([⟨0, .cells [.int .i64 l.length, w] true⟩, ⟨0, .cells [.int .i64 l.length, w] true⟩] : St) = σ2
  have hd0 : deref σ2 (.ptr 0 0 0) 1 = some [.int .i64 l.length] := by rw [← hσ]; rfl
  have hd1 : deref σ2 (.ptr 1 0 0) 1 = some [.int .i64 l.length] := by rw [← hσ]; rfl
  have hd2 : deref σ2 (.ptr 0 0 1) 1 = some [w] := by rw [← hσ]; rfl
  have hd3 : deref σ2 (.ptr 1 0 1) 1 = some [w] := by rw [← hσ]; rfl
  have hchunk : chunkLoad ti22 [w] = some w := by
    show (if w.one then some w else none) = some w
    rw [if_pos hwone]
  have hsame : CallsF Tryz.prog 7 [w, w] (.bool true) := by
    rw [← hw]
    split
    · rename_i hc
      refine same7 hcf _ ?_ ?_
      · simp [part]; omega
      · intro x hx
        exact hsp x (List.mem_of_mem_drop (List.mem_of_mem_take hx))
    · exact same00
  have c7 := factA hsame (fun x hx => by simp at hx; subst hx; exact hwpl) σ2
  refine JF.mid (fun f σ => σ = σ2 ∧ evA 64 f (.tmp 0) = rs l ∧ evA 64 f (.tmp 2) = .int .i64 k) ?_ ?_
  · refine JF.seq (JF.region tabOK (withFact_ok hcf (f := 7) (args := [w, w]) (σ := σ2) (r := (.bool true, σ2)) c7) (opsF_cons (stepF_fieldAddr rfl rfl rfl (by decide) h7) (opsF_cons (stepF_load rfl rfl rfl rfl hd0 rfl) (opsF_cons (stepF_fieldAddr rfl rfl rfl (by decide) h8) (opsF_cons (stepF_load rfl rfl rfl rfl hd1 rfl)
      (opsF_cons (stepF_int rfl rfl rfl rfl rfl rfl (ne_self _)) (opsF_cons rfl (opsF_cons (stepF_fieldAddr rfl rfl rfl (by decide) h7) (opsF_cons (stepF_load rfl rfl rfl rfl hd2 hchunk) (opsF_cons (stepF_fieldAddr rfl rfl rfl (by decide) h8) (opsF_cons (stepF_load rfl rfl rfl rfl hd3 hchunk)
      (opsF_cons (stepF_callv rfl rfl rfl rfl (map2 rfl rfl) withFact_eq) (opsF_cons rfl (opsF_cons rfl rfl))))))))))))) ?_)
    exact JF.condF rfl (JF.skip ⟨rfl, h0, h2⟩)
  rintro f σ ⟨rfl, h0, h2⟩
  refine JF.mid (fun f σ => evA 64 f (.tmp 0) = rs l ∧ evA 64 f (.tmp 2) = .int .i64 k ∧ 1 ≤ k) ?_ ?_
  · by_cases hk : k < 1
    · refine JF.seq (JF.region tabOK hcf (opsF_cons rfl (opsF_cons (stepF_int rfl rfl rfl h2 rfl rfl (lt_true hk)) rfl)) ?_)
      refine JF.condT rfl (JF.seq (JF.region tabOK hcf rfl ?_))
      exact JF.ret ⟨.bool true, rfl, 1, _, rfl⟩
    · refine JF.seq (JF.region tabOK hcf (opsF_cons rfl (opsF_cons (stepF_int rfl rfl rfl h2 rfl rfl (lt_false (by omega))) rfl)) ?_)
      exact JF.condF rfl (JF.skip ⟨h0, h2, by omega⟩)
  rintro f σ ⟨h0, h2, hk⟩
  refine JF.mid (fun f σ => evA 64 f (.tmp 0) = rs l ∧ evA 64 f (.tmp 2) = .int .i64 k ∧ evA 64 f (.tmp 9) = .nil0) (JF.region tabOK hcf rfl ⟨h0, h2, rfl⟩) ?_
  rintro f σ ⟨h0, h2, h9⟩
  refine JF.mid (fun f σ => evA 64 f (.tmp 0) = rs l ∧ ∃ v, evA 64 f (.tmp 9) = v ∧ rowIs l v [] σ) ?_ ?_
  · refine JF.seq (JF.region tabOK hcf rfl ?_)
    refine JF.block (JF.loop (eL l k) (fun f σ => match evA 64 f (.tmp 10) with | .int _ i => l.length - i.toNat | _ => 0) ⟨h0, h2, 0, rfl, by omega, .nil0, h9, .inl ⟨rfl, rfl⟩⟩ ?_)
    rintro f σ ⟨h0, h2, c, h10, hc, v, h9, hrow⟩
    by_cases hlt : (c : Int) < l.length
    · have hmu : ∀ m, m < l.length - c → m < (match evA 64 f (.tmp 10) with | .int _ i => l.length - i.toNat | _ => 0) := fun m hm => by rw [h10]; simp only; omega
      generalize hp : part l c k.toNat = p
      have hplen : p.length = min k.toNat (l.length - c) := by rw [← hp]; simp [part]
      have hpos : 0 < p.length := by rw [hplen]; omega
      have hpp : pageV l (c : Int) k = .agg [.int .i64 l.length, rs p] := by
        rw [pageV, if_pos ⟨by omega, hlt, by omega⟩, Int.toNat_natCast, hp]
      have hargs : ∀ x ∈ [rs l, .int .i64 (c : Int), .int .i64 k], AV.plain x = true := fun x hx => by simp at hx; rcases hx with rfl | rfl | rfl <;> rfl
      have c5 := factA (page5 hcf l c k hl) hargs σ
      rw [hpp] at c5
      have hset : ∀ (x y : AObj), (σ ++ [x]).set σ.length y = σ ++ [y] := fun x y => by simp
      have hgetL : ∀ (x : AObj), (σ ++ [x])[σ.length]? = some x := fun x => by simp
      have hwr : wr (σ ++ [z25]) σ.length 0 0 [.int .i64 l.length, rs p] = some (σ ++ [⟨0, .cells [.int .i64 l.length, rs p] true⟩]) := by
        rw [wr_of (cs := [.int .i64 0, .nil0]) (hgetL z25) (Nat.le_of_ble_eq_true rfl) rfl, hset]; rfl
      refine JF.seq (JF.seq (JF.region tabOK hcf (opsF_cons rfl (opsF_cons rfl (opsF_cons (stepF_len rfl rfl h0 (hlen _)) (opsF_cons (stepF_int rfl rfl rfl h10 rfl rfl (lt_true hlt)) rfl)))) ?_))
      refine JF.condT rfl (JF.skip ?_)
      refine JF.block (JF.mid (fun f σ' => evA 64 f (.tmp 0) = rs l ∧ evA 64 f (.tmp 2) = .int .i64 k ∧ evA 64 f (.tmp 10) = .int .i64 c ∧ evA 64 f (.tmp 9) = v ∧ evA 64 f (.tmp 11) = .ptr σ.length 0 0 ∧ σ' = σ ++ [⟨0, .cells [.int .i64 l.length, rs p] true⟩])
        (JF.region tabOK (withFact_ok hcf (f := 5) (args := [rs l, .int .i64 (c : Int), .int .i64 k]) (σ := σ) (r := (.agg [.int .i64 l.length, rs p], σ)) c5) (opsF_cons rfl (opsF_cons rfl (opsF_cons rfl (opsF_cons (stepF_callv rfl rfl rfl rfl (map3 h0 h10 h2) withFact_eq) (opsF_cons rfl
          (opsF_cons (stepF_store rfl rfl rfl rfl rfl rfl rfl hwr) rfl)))))) ⟨h0, h2, h10, h9, rfl, rfl⟩) ?_)
      rintro f σ' ⟨h0, h2, h10, h9, h11, rfl⟩
      have hd : deref (σ ++ [⟨0, .cells [.int .i64 l.length, rs p] true⟩]) (.ptr σ.length 0 1) 1 = some [rs p] := rd_of (hgetL _) (Nat.le_of_ble_eq_true rfl)
      have hlenp : ∀ σ, lenB tab 22 σ (rs p) = some (.val (.int .i64 p.length) σ) := fun σ => rfl
      refine JF.seq (JF.seq (JF.region tabOK hcf (opsF_cons (stepF_fieldAddr rfl rfl rfl (by decide) h11) (opsF_cons (stepF_load rfl rfl rfl rfl hd rfl) (opsF_cons (stepF_len rfl rfl rfl (hlenp _)) (opsF_cons (stepF_int rfl rfl rfl rfl rfl rfl (eq_false' (by omega))) rfl)))) ?_))
      refine JF.condF rfl (JF.skip ?_)
      -- the pages so far, and this one
      have happ : ∃ v' σ', append1 tab 22 (σ ++ [⟨0, .cells [.int .i64 l.length, rs p] true⟩]) v (rs p) = some (v', σ') ∧ σ'[σ.length]? = some ⟨0, .cells [.int .i64 l.length, rs p] true⟩ ∧ rowIs (l.take (c + p.length)) v' [] σ' := by
        have htk : l.take (c + p.length) = l.take c ++ p := by
          rw [← hp, take_part, ← hp] at *
          rw [show (part l c k.toNat).length = min k.toNat (l.length - c) by rw [hp]; exact hplen]
          rcases Nat.le_total k.toNat (l.length - c) with h | h
          · rw [Nat.min_eq_left h]
          · rw [Nat.min_eq_right h, List.take_of_length_le (by omega), List.take_of_length_le (by omega)]
        have hrc : rCells (l.take c ++ p) = rCells (l.take c) ++ rCells p := by simp [rCells]
        have hnews : ∀ σ, news σ 3 (rs p) = some (p.length, rCells p) := fun σ => by
          show elems σ 3 (rs p) = _
          show (if (rCells p).length = p.length * 3 then some (p.length, rCells p) else none) = _
          rw [if_pos (len_rCells p)]
        have honep : (rCells p).all AV.one = true := List.all_eq_true.2 fun v hv => plain_one (plain_rCells p v hv)
        have hlc : (l.take c).length = c := by simp; omega
        rw [htk]
        rcases hrow with ⟨hn, rfl⟩ | ⟨hn, id, ver, rfl, _, ho⟩
        · have hroom : room47 p.length ti40.bytes = true := by
            show room47 p.length 40 = true
            simp only [room47, Bool.and_eq_true, decide_eq_true_eq]; omega
          refine ⟨_, _, append1_new (i := ti40) rfl (by decide) rfl (hnews _) honep (by omega) hroom, ?_, .inr ⟨?_, (σ ++ [(⟨0, .cells [.int .i64 l.length, rs p] true⟩ : AObj)]).length, 0, ?_, by simp, ?_⟩⟩
          · rw [List.getElem?_append_left (by simp)]; exact hgetL _
          · intro h
            rw [hn, List.nil_append] at h
            rw [h] at hpos
            simp at hpos
          · rw [hn]; rfl
          · rw [List.getElem?_append_right (Nat.le_refl _), hrc, hn]; simp [rCells]
        · have hidl := lt_of_get ho
          have ho' : (σ ++ [⟨0, .cells [.int .i64 l.length, rs p] true⟩] : St)[id]? = some ⟨ver, .cells (rCells (l.take c)) true⟩ := by rw [List.getElem?_append_left hidl]; exact ho
          have hroom : room47 ((l.take c).length + p.length) ti40.bytes = true := by
            rw [hlc]
            show room47 (c + p.length) 40 = true
            simp only [room47, Bool.and_eq_true, decide_eq_true_eq]; omega
          refine ⟨_, _, append1_snoc (i := ti40) rfl rfl (by decide) rfl (hnews _) honep ho' (len_rCells _).symm (by omega) hroom, ?_, .inr ⟨?_, id, ver + 1, ?_, by simp, ?_⟩⟩
          · rw [List.getElem?_set_ne (Nat.ne_of_lt hidl)]; exact hgetL _
          · intro h
            have := congrArg List.length h
            rw [List.length_append, List.length_nil] at this
            omega
          · rw [List.length_append]
          · rw [List.getElem?_set_self (lt_of_get ho'), hrc]
      obtain ⟨v', σ', happ, hL, hrow'⟩ := happ
      have hd' : deref σ' (.ptr σ.length 0 1) 1 = some [rs p] := rd_of hL (Nat.le_of_ble_eq_true rfl)
      refine JF.seq (JF.region tabOK hcf (opsF_cons rfl (opsF_cons (stepF_fieldAddr rfl rfl rfl (by decide) h11) (opsF_cons (stepF_load rfl rfl rfl rfl hd rfl) (opsF_cons (stepF_append rfl rfl rfl h9 rfl rfl happ) (opsF_cons rfl rfl))))) ?_)
      refine JF.region tabOK hcf (opsF_cons rfl (opsF_cons (stepF_fieldAddr rfl rfl rfl (by decide) h11) (opsF_cons (stepF_load rfl rfl rfl rfl hd' rfl) (opsF_cons (stepF_len rfl rfl rfl (hlenp _)) (opsF_cons (stepF_int rfl rfl rfl h10 rfl rfl (add_i (by omega) (by omega))) (opsF_cons rfl rfl)))))) ?_
      refine ⟨⟨h0, h2, c + p.length, by rfl, by omega, v', rfl, hrow'⟩, hmu _ ?_⟩
      show l.length - ((c : Int) + p.length).toNat < l.length - c
      omega
    · refine JF.seq (JF.seq (JF.region tabOK hcf (opsF_cons rfl (opsF_cons rfl (opsF_cons (stepF_len rfl rfl h0 (hlen _)) (opsF_cons (stepF_int rfl rfl rfl h10 rfl rfl (lt_false (by omega))) rfl)))) ?_))
      refine JF.condF rfl (JF.exit ⟨h0, v, h9, ?_⟩)
      rw [List.take_of_length_le (by omega)] at hrow
      exact hrow
  rintro f σ ⟨h0, v, h9, hrow⟩
  have hc7 : ∃ σ', CallsA Tryz.prog 7 [v, rs l] σ (.bool true) σ' := by
    rcases hrow with ⟨rfl, rfl⟩ | ⟨hne, id, ver, rfl, _, ho⟩
    · exact ⟨σ, factA same0s (fun x hx => by simp at hx; rcases hx with rfl | rfl <;> rfl) σ⟩
    · have hf := frz_ref_plain (d := 0) (n := l.length) (k := 3) (by simpa using hne) ho (len_rCells l).symm (plain_rCells l)
      refine ⟨σ.set id ⟨ver, .cells (rCells l) false⟩, callsF_call (d := 2) ?_ (same7 hcf l hl hsp)⟩
      · have h2 : frz 2 (σ.set id ⟨ver, .cells (rCells l) false⟩) (rs l) = some (rs l, σ.set id ⟨ver, .cells (rCells l) false⟩) := frz_plain (d := 1) rfl
        simp only [frzL, hf, Option.bind_some]
        rw [h2]
        rfl
  obtain ⟨σ', hc7⟩ := hc7
  refine JF.seq (JF.region tabOK (withFact_ok hcf (f := 7) (args := [v, rs l]) (σ := σ) (r := (.bool true, σ')) hc7) (opsF_cons rfl (opsF_cons rfl (opsF_cons (stepF_callv rfl rfl rfl rfl (map2 h9 h0) withFact_eq) (opsF_cons rfl rfl)))) ?_)
  exact JF.ret ⟨.bool true, rfl, 1, σ', rfl⟩
end Go.Proofs.Tryz.Am
