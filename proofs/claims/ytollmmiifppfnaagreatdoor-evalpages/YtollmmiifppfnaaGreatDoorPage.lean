/- A part of the proof: the abstract machine and what it shows of the program. -/
import Derived.Test.YtollmmiifppfnaaGreatDoorMachH
import Derived.Test.YtollmmiifppfnaaGreatDoorEnv

/- eval.Page. -/
set_option maxRecDepth 100000
set_option linter.unusedVariables false
set_option linter.unusedSimpArgs false
namespace Go.Proofs.Tryz.Am
open Go Go.Am Go.Proofs

/-- A result. -/
structure Rz where
  doc : Int
  score : Int
  spans : List (Int × Int)

def spCells (l : List (Int × Int)) : List AV := l.flatMap fun p => [.int .i64 p.1, .int .i64 p.2]
def Rz.cells (x : Rz) : List AV := [.int .i64 x.doc, .int .i64 x.score, .snap x.spans.length (spCells x.spans)]
def rCells (l : List Rz) : List AV := l.flatMap Rz.cells

theorem len_spCells : ∀ l : List (Int × Int), (spCells l).length = l.length * 2
  | [] => rfl
  | p :: l => by
    have := len_spCells l
    unfold spCells at this ⊢
    rw [List.flatMap_cons, List.length_append, this]; simp; omega

theorem len_rCells : ∀ l : List Rz, (rCells l).length = l.length * 3
  | [] => rfl
  | x :: l => by
    have := len_rCells l
    unfold rCells at this ⊢
    rw [List.flatMap_cons, List.length_append, this]; simp [Rz.cells]; omega

theorem drop_rCells : ∀ (l : List Rz) (a : Nat), (rCells l).drop (a * 3) = rCells (l.drop a)
  | l, 0 => by simp
  | [], a + 1 => by simp [rCells]
  | x :: l, a + 1 => by
    rw [List.drop_succ_cons, ← drop_rCells l a]
    unfold rCells
    rw [List.flatMap_cons, show (a + 1) * 3 = 3 + a * 3 by omega, ← List.drop_drop]
    rfl

theorem take_rCells : ∀ (l : List Rz) (a : Nat), (rCells l).take (a * 3) = rCells (l.take a)
  | l, 0 => by simp [rCells]
  | [], a + 1 => by simp [rCells]
  | x :: l, a + 1 => by
    rw [List.take_succ_cons]
    have := take_rCells l a
    unfold rCells at this ⊢
    rw [List.flatMap_cons, List.flatMap_cons, show (a + 1) * 3 = a * 3 + 1 + 1 + 1 by omega, ← this]
    rfl

theorem plain_rCells (l : List Rz) : ∀ v ∈ rCells l, v.plain = true := by
  intro v hv
  unfold rCells at hv
  rw [List.mem_flatMap] at hv
  obtain ⟨x, _, hv⟩ := hv
  simp [Rz.cells] at hv
  rcases hv with rfl | rfl | rfl <;> rfl

/-- A part of the results. -/
def part (l : List Rz) (a k : Nat) : List Rz := (l.drop a).take k

/-- Results, as a slice. -/
def rs (l : List Rz) : AV := .snap l.length (rCells l)

/-- What Page gives. -/
def pageV (l : List Rz) (a k : Int) : AV :=
  .agg [.int .i64 l.length, if 0 ≤ a ∧ a < l.length ∧ 0 < k then rs (part l a.toNat k.toNat) else .nil0]

theorem frz_page {d : Nat} {σ : St} {c : Int} {v : AV} (h : v.plain = true) : frz (d + 2) σ (.agg [.int .i64 c, v]) = some (.agg [.int .i64 c, v], σ) := by
  have e : frz (d + 2) σ (.agg [.int .i64 c, v]) = (frzL (frz (d + 1)) σ [.int .i64 c, v]).map fun r => (.agg r.1, r.2) := rfl
  rw [e, frzL_plain (fun u hu => by simp at hu; rcases hu with rfl | rfl; rfl; exact h)]
  rfl

def z25 : AObj := ⟨0, .cells [.int .i64 0, .nil0] true⟩

/-- What stands in the frame of Page. -/
def pI (l : List Rz) (a k : Int) (res : AV) (f : FrA) (σ : St) : Prop :=
  evA 37 f (.tmp 0) = rs l ∧ evA 37 f (.tmp 1) = .int .i64 a ∧ evA 37 f (.tmp 2) = .int .i64 k ∧ evA 37 f (.tmp 6) = .ptr 0 0 0 ∧ evA 37 f (.tmp 7) = .ptr 1 0 0 ∧ σ = [z25, ⟨0, .cells [.int .i64 l.length, res] true⟩]

theorem ge_true {a b : Int} (h : b ≤ a) : intBin .geq .i64 a b = some (.bool true) := by simp [intBin, ofB]; omega
theorem ge_false {a b : Int} (h : a < b) : intBin .geq .i64 a b = some (.bool false) := by simp [intBin, ofB]; omega
theorem lt_true {a b : Int} (h : a < b) : intBin .lss .i64 a b = some (.bool true) := by simp [intBin, ofB]; omega
theorem lt_false {a b : Int} (h : b ≤ a) : intBin .lss .i64 a b = some (.bool false) := by simp [intBin, ofB]; omega
theorem gt_true {a b : Int} (h : b < a) : intBin .gtr .i64 a b = some (.bool true) := by simp [intBin, ofB]; omega
theorem gt_false {a b : Int} (h : a ≤ b) : intBin .gtr .i64 a b = some (.bool false) := by simp [intBin, ofB]; omega

theorem page5 {cf : CallF} (hcf : CfOK Tryz.prog cf) (l : List Rz) (a k : Int) (hl : l.length ≤ 100) : CallsF Tryz.prog 5 [rs l, .int .i64 a, .int .i64 k] (pageV l a k) := by
  refine callsQ_of_JF tabOK Tryz.func5 (rfl : Tryz.f5.body = some _) (Nat.le_of_ble_eq_true rfl) ?_
  refine JF.seq (JF.region tabOK hcf rfl ?_)
  refine JF.mid (pI l a k .nil0) (JF.region tabOK hcf (opsF_cons rfl (opsF_cons rfl (opsF_cons rfl (opsF_cons rfl (opsF_cons rfl rfl))))) ⟨rfl, rfl, rfl, rfl, rfl, rfl⟩) ?_
  rintro f σ ⟨h0, h1, h2, h6, h7, rfl⟩
  have hlen : lenB tab 22 [z25, ⟨0, .cells [.int .i64 l.length, .nil0] true⟩] (rs l) = some (.val (.int .i64 l.length) [z25, ⟨0, .cells [.int .i64 l.length, .nil0] true⟩]) := rfl
  refine JF.mid (pI l a k (if 0 ≤ a ∧ a < l.length ∧ 0 < k then rs (part l a.toNat k.toNat) else .nil0)) ?_ ?_
  · by_cases ha : 0 ≤ a
    · by_cases hb : a < l.length
      · by_cases hc : 0 < k
        · rw [if_pos ⟨ha, hb, hc⟩]
          refine JF.seq (JF.region tabOK hcf (opsF_cons rfl (opsF_cons (stepF_int rfl rfl rfl h1 rfl rfl (ge_true ha)) (opsF_cons rfl (opsF_cons rfl (opsF_cons rfl (opsF_cons (stepF_len rfl rfl h0 hlen) (opsF_cons (stepF_int rfl rfl rfl h1 rfl rfl (lt_true hb)) (opsF_cons rfl (opsF_cons rfl
            (opsF_cons rfl (opsF_cons (stepF_int rfl rfl rfl h2 rfl rfl (gt_true hc)) (opsF_cons rfl rfl)))))))))))) ?_)
          refine JF.cond (t := true) rfl ?_
          have hs1 : sliceOp tab 22 (rs l) (some (.int .i64 a)) none none = some (rs (l.drop a.toNat)) := by
            have := sliceOp_snap (T := tab) (t := 22) (ti := ti40) (m := l.length) (cs := rCells l) (hi := none) rfl rfl (len_rCells l) (some (.int .i64 a)) (a := a.toNat) (b := l.length) rfl (bnd_int ha (by omega))
            rw [rs, this]
            have e : (l.drop a.toNat).length = l.length - a.toNat := by simp
            rw [rs, e, show ti40.size = 3 from rfl, drop_rCells, take_rCells, List.take_of_length_le (by simp)]
          have hst1 : wr [z25, ⟨0, .cells [.int .i64 l.length, .nil0] true⟩] 1 0 1 [rs (l.drop a.toNat)] = some [z25, ⟨0, .cells [.int .i64 l.length, rs (l.drop a.toNat)] true⟩] := rfl
          refine JF.mid (pI l a k (rs (l.drop a.toNat))) (JF.region tabOK hcf (opsF_cons rfl (opsF_cons rfl (opsF_cons (stepF_slice rfl rfl (by
              show sliceOp tab 22 (evA 37 f (.tmp 0)) (some (evA 37 f (.tmp 1))) none none = _
              rw [h0, h1]; exact hs1)) (opsF_cons (stepF_fieldAddr rfl rfl rfl (by decide) h7) (opsF_cons (stepF_store rfl rfl rfl rfl rfl rfl rfl hst1) rfl))))) ⟨h0, h1, h2, h6, h7, rfl⟩) ?_
          rintro f σ ⟨h0, h1, h2, h6, h7, rfl⟩
          have hd : deref [z25, ⟨0, .cells [.int .i64 l.length, rs (l.drop a.toNat)] true⟩] (.ptr 1 0 1) 1 = some [rs (l.drop a.toNat)] := rfl
          have hs2 : sliceOp tab 22 (rs (l.drop a.toNat)) none (some (.int .i64 (if ((l.drop a.toNat).length : Int) < k then ((l.drop a.toNat).length : Int) else k))) none = some (rs (part l a.toNat k.toNat)) := by
            have e : (l.drop a.toNat).length = l.length - a.toNat := by simp
            generalize hm : (if ((l.drop a.toNat).length : Int) < k then ((l.drop a.toNat).length : Int) else k) = mm
            have hm0 : 0 ≤ mm ∧ mm ≤ (l.drop a.toNat).length ∧ mm.toNat = min k.toNat (l.drop a.toNat).length := by
              rw [← hm]; split <;> omega
            have := sliceOp_snap (T := tab) (t := 22) (ti := ti40) (m := (l.drop a.toNat).length) (cs := rCells (l.drop a.toNat)) (lo := none) rfl rfl (len_rCells _) (hi := some (.int .i64 mm)) (a := 0) (b := mm.toNat) (bnd_int hm0.1 hm0.2.1) rfl
            rw [rs, this, rs, part]
            rw [List.length_take, ← hm0.2.2, show ti40.size = 3 from rfl, Nat.zero_mul, List.drop_zero, Nat.sub_zero, take_rCells, hm0.2.2]
            congr 2
            rw [← List.take_eq_take_min]
          have hst2 : wr [z25, ⟨0, .cells [.int .i64 l.length, rs (l.drop a.toNat)] true⟩] 1 0 1 [rs (part l a.toNat k.toNat)] = some [z25, ⟨0, .cells [.int .i64 l.length, rs (part l a.toNat k.toNat)] true⟩] := rfl
          exact JF.region tabOK hcf (opsF_cons (stepF_fieldAddr rfl rfl rfl (by decide) h7) (opsF_cons (stepF_load rfl rfl rfl rfl hd rfl) (opsF_cons rfl (opsF_cons (stepF_fieldAddr rfl rfl rfl (by decide) h7) (opsF_cons (stepF_load rfl rfl rfl rfl hd rfl) (opsF_cons rfl
            (opsF_cons (stepF_min rfl rfl h2 rfl) (opsF_cons (stepF_slice rfl rfl hs2) (opsF_cons (stepF_fieldAddr rfl rfl rfl (by decide) h7) (opsF_cons (stepF_store rfl rfl rfl rfl rfl rfl rfl hst2) rfl)))))))))) ⟨h0, h1, h2, h6, h7, rfl⟩
        · rw [if_neg (by omega)]
          refine JF.seq (JF.region tabOK hcf (opsF_cons rfl (opsF_cons (stepF_int rfl rfl rfl h1 rfl rfl (ge_true ha)) (opsF_cons rfl (opsF_cons rfl (opsF_cons rfl (opsF_cons (stepF_len rfl rfl h0 hlen) (opsF_cons (stepF_int rfl rfl rfl h1 rfl rfl (lt_true hb)) (opsF_cons rfl (opsF_cons rfl
            (opsF_cons rfl (opsF_cons (stepF_int rfl rfl rfl h2 rfl rfl (gt_false (by omega))) (opsF_cons rfl rfl)))))))))))) ?_)
          exact JF.cond (t := false) rfl (JF.skip ⟨h0, h1, h2, h6, h7, rfl⟩)
      · rw [if_neg (by omega)]
        refine JF.seq (JF.region tabOK hcf (opsF_cons rfl (opsF_cons (stepF_int rfl rfl rfl h1 rfl rfl (ge_true ha)) (opsF_cons rfl (opsF_cons rfl (opsF_cons rfl (opsF_cons (stepF_len rfl rfl h0 hlen) (opsF_cons (stepF_int rfl rfl rfl h1 rfl rfl (lt_false (by omega))) (opsF_cons rfl (opsF_cons rfl
            (opsF_cons rfl (opsF_cons rfl (opsF_cons rfl rfl)))))))))))) ?_)
        exact JF.cond (t := false) rfl (JF.skip ⟨h0, h1, h2, h6, h7, rfl⟩)
    · rw [if_neg (by omega)]
      refine JF.seq (JF.region tabOK hcf (opsF_cons rfl (opsF_cons (stepF_int rfl rfl rfl h1 rfl rfl (ge_false (by omega))) (opsF_cons rfl (opsF_cons rfl (opsF_cons rfl (opsF_cons rfl (opsF_cons rfl (opsF_cons rfl (opsF_cons rfl
            (opsF_cons rfl (opsF_cons rfl (opsF_cons rfl rfl)))))))))))) ?_)
      exact JF.cond (t := false) rfl (JF.skip ⟨h0, h1, h2, h6, h7, rfl⟩)
  · rintro f σ ⟨h0, h1, h2, h6, h7, rfl⟩
    generalize hv : (if 0 ≤ a ∧ a < l.length ∧ 0 < k then rs (part l a.toNat k.toNat) else .nil0) = v
    have hpl : v.plain = true := by rw [← hv]; split <;> rfl
    have hd : deref [z25, ⟨0, .cells [.int .i64 l.length, v] true⟩] (.ptr 1 0 0) 2 = some [.int .i64 l.length, v] := rfl
    have hw : wr [z25, ⟨0, .cells [.int .i64 l.length, v] true⟩] 0 0 0 [.int .i64 l.length, v] = some [⟨0, .cells [.int .i64 l.length, v] true⟩, ⟨0, .cells [.int .i64 l.length, v] true⟩] := by
      rw [wr_of (cs := [.int .i64 0, .nil0]) rfl (Nat.le_of_ble_eq_true rfl) (by simp [plain_one hpl]; rfl)]
      rfl
    refine JF.seq (JF.region tabOK hcf (opsF_cons (stepF_load rfl rfl rfl h7 hd rfl) (opsF_cons (stepF_store rfl rfl rfl h6 rfl rfl rfl hw) rfl)) ?_)
    have e : pageV l a k = .agg [.int .i64 l.length, v] := by rw [pageV, hv]
    refine JF.ret ⟨.agg [.int .i64 l.length, v], ?_, 2, _, by rw [e]; exact frz_page (d := 0) hpl⟩
    have : ∀ g : FrA, evA 37 g (.tmp 6) = .ptr 0 0 0 → endF tab Tryz.f5 g [⟨0, .cells [.int .i64 l.length, v] true⟩, ⟨0, .cells [.int .i64 l.length, v] true⟩] = some (.agg [.int .i64 l.length, v], [⟨0, .cells [.int .i64 l.length, v] true⟩, ⟨0, .cells [.int .i64 l.length, v] true⟩]) := by
      intro g hg
      have e2 : endF tab Tryz.f5 g [⟨0, .cells [.int .i64 l.length, v] true⟩, ⟨0, .cells [.int .i64 l.length, v] true⟩] = (match ((deref [⟨0, .cells [.int .i64 l.length, v] true⟩, ⟨0, .cells [.int .i64 l.length, v] true⟩] (evA 37 g (.tmp 6)) 2).bind (chunkLoad ti25)).bind fun v => some [v] with | some vs => some (wrap1 vs, [⟨0, .cells [.int .i64 l.length, v] true⟩, ⟨0, .cells [.int .i64 l.length, v] true⟩]) | none => none) := rfl
      rw [e2, hg]
      rfl
    exact this _ h6
end Go.Proofs.Tryz.Am
