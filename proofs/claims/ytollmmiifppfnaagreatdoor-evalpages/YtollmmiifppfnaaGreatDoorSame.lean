/- A part of the proof: the abstract machine and what it shows of the program. -/
import Derived.Test.YtollmmiifppfnaaGreatDoorPageDoc

/- The document's Same at equal lists. -/
set_option maxRecDepth 100000
set_option linter.unusedVariables false
set_option linter.unusedSimpArgs false
namespace Go.Proofs.Tryz.Am
open Go Go.Am Go.Proofs

theorem ne_self (a : Int) : intBin .neq .i64 a a = some (.bool false) := by simp [intBin, ofB]
theorem hflat (a b : Int) : binop tab .neq 37 (.agg [.int .i64 a, .int .i64 b]) (.agg [.int .i64 a, .int .i64 b]) = some (.bool false) := by
  have e : binop tab .neq 37 (.agg [.int .i64 a, .int .i64 b]) (.agg [.int .i64 a, .int .i64 b]) = (eqCells [.int .i64 a, .int .i64 b] [.int .i64 a, .int .i64 b]).map fun e => .bool (!e) := rfl
  rw [e]
  simp [eqCells, eqCell]

theorem noPol {cf : CallF} : PolOK (fun _ => false) cf := fun f args σ v σ' h => by cases h

theorem sp_chunk {l : List (Int × Int)} {i : Nat} {p : Int × Int} (h : l[i]? = some p) : ((spCells l).drop (i * 2)).take 2 = [.int .i64 p.1, .int .i64 p.2] := by
  induction l generalizing i with
  | nil => simp at h
  | cons q l ih =>
    cases i with
    | zero => simp at h; subst h; simp [spCells]
    | succ i =>
      have := ih (i := i) (by simpa using h)
      rw [← this]
      unfold spCells
      rw [List.flatMap_cons, show (i + 1) * 2 = 2 + i * 2 by omega, ← List.drop_drop]
      rfl

theorem r_chunk {l : List Rz} {i : Nat} {x : Rz} (h : l[i]? = some x) : ((rCells l).drop (i * 3)).take 3 = x.cells := by
  rw [drop_rCells, show (3 : Nat) = 1 * 3 from rfl, take_rCells]
  have : (l.drop i).take 1 = [x] := by
    obtain ⟨hlt, he⟩ := List.getElem?_eq_some_iff.1 h
    rw [List.drop_eq_getElem_cons hlt, he]
    rfl
  rw [this]
  simp [rCells]

def sL (l : List Rz) (f : FrA) (σ : St) : Prop := σ = [] ∧ evA 84 f (.tmp 0) = rs l ∧ evA 84 f (.tmp 1) = rs l ∧ ∃ i : Nat, evA 84 f (.tmp 5) = .int .i64 i ∧ i ≤ l.length
def sK (l : List Rz) (i : Nat) (x : Rz) (f : FrA) (σ : St) : Prop :=
  σ = [] ∧ evA 84 f (.tmp 0) = rs l ∧ evA 84 f (.tmp 1) = rs l ∧ evA 84 f (.tmp 5) = .int .i64 i ∧ ∃ k : Nat, evA 84 f (.tmp 6) = .int .i64 k ∧ k ≤ x.spans.length

theorem same7 {cf : CallF} (hcf : CfOK Tryz.prog cf) (l : List Rz) (hl : l.length ≤ 100) (hsp : ∀ x ∈ l, x.spans.length ≤ 4611686018427387904) : CallsF Tryz.prog 7 [rs l, rs l] (.bool true) := by
  refine callsQ_of_JF tabOK Tryz.func7 (rfl : Tryz.f7.body = some _) (Nat.le_of_ble_eq_true rfl) ?_
  have hlen : ∀ σ, lenB tab 22 σ (rs l) = some (.val (.int .i64 l.length) σ) := fun σ => rfl
  refine JF.seq (JF.region tabOK hcf rfl ?_)
  refine JF.mid (fun f σ => σ = [] ∧ evA 84 f (.tmp 0) = rs l ∧ evA 84 f (.tmp 1) = rs l) ?_ ?_
  · refine JF.seq (JF.region tabOK hcf (opsF_cons rfl (opsF_cons rfl (opsF_cons rfl (opsF_cons rfl (opsF_cons (stepF_int rfl rfl rfl rfl rfl rfl (ne_self _)) rfl))))) ?_)
    exact JF.condF rfl (JF.skip ⟨rfl, rfl, rfl⟩)
  · rintro f σ ⟨rfl, h0, h1⟩
    refine JF.mid (fun f σ => σ = []) ?_ ?_
    · refine JF.seq (JF.region tabOK hcf rfl ?_)
      refine JF.block (JF.loop (sL l) (fun f σ => match evA 84 f (.tmp 5) with | .int _ i => l.length - i.toNat | _ => 0) ⟨rfl, h0, h1, 0, rfl, by omega⟩ ?_)
      rintro f σ ⟨rfl, h0, h1, i, h5, hi⟩
      by_cases hlt : (i : Int) < l.length
      · obtain ⟨x, hx⟩ : ∃ x, l[i]? = some x := ⟨_, List.getElem?_eq_getElem (by omega)⟩
        have hm : x.spans.length ≤ 4611686018427387904 := hsp _ (List.mem_of_getElem? hx)
        have hch : ((rCells l).drop ((i : Int).toNat * 3)).take 3 = x.cells := by rw [Int.toNat_natCast]; exact r_chunk hx
        have hmu : ∀ m, m < l.length - i → m < (match evA 84 f (.tmp 5) with | .int _ i => l.length - i.toNat | _ => 0) := fun m hm => by rw [h5]; simp only; omega
        refine JF.seq (JF.seq (JF.region tabOK hcf (opsF_cons rfl (opsF_cons rfl (opsF_cons (stepF_len rfl rfl h0 (hlen _)) (opsF_cons (stepF_int rfl rfl rfl h5 rfl rfl (lt_true hlt)) rfl)))) ?_))
        refine JF.condT rfl (JF.skip ?_)
        refine JF.mid (fun f σ => σ = [] ∧ evA 84 f (.tmp 0) = rs l ∧ evA 84 f (.tmp 1) = rs l ∧ evA 84 f (.tmp 5) = .int .i64 i) (JF.block ?_) ?_
        · refine JF.seq (JF.seq (JF.draw tabOK hcf noPol mixedOK [0, 1, 2, 3, 4, 5, 6, 7, 8, 9, 10, 11, 12, 13, 14, 15, 16, 17, 18, 19, 20, 21, 22, 23, 24, 25, 26, 27, 28, 29, 30, 31, 32, 33, 34, 35, 36, 37, 38] (by kernel_rfl) (schF_cons rfl rfl (schF_cons rfl rfl (schF_cons rfl (stepF_indexAddrE rfl rfl rfl rfl h0 h5 (by omega) hlt (len_rCells l) hch) (schF_cons rfl rfl (schF_cons rfl rfl (schF_cons rfl rfl (schF_cons rfl rfl (schF_cons rfl (stepF_indexAddrE rfl rfl rfl rfl h1 h5 (by omega) hlt (len_rCells l) hch) (schF_cons rfl rfl (schF_cons rfl rfl (schF_cons rfl (stepF_int rfl rfl rfl rfl rfl rfl (ne_self _)) (schF_cons rfl rfl (schF_cons rfl rfl (schF_cons rfl rfl (schF_cons rfl (stepF_indexAddrE rfl rfl rfl rfl h0 h5 (by omega) hlt (len_rCells l) hch) (schF_cons rfl rfl (schF_cons rfl rfl (schF_cons rfl rfl (schF_cons rfl rfl (schF_cons rfl (stepF_indexAddrE rfl rfl rfl rfl h1 h5 (by omega) hlt (len_rCells l) hch) (schF_cons rfl rfl (schF_cons rfl rfl (schF_cons rfl (stepF_int rfl rfl rfl rfl rfl rfl (ne_self _)) (schF_cons rfl rfl (schF_cons rfl rfl (schF_cons rfl rfl (schF_cons rfl rfl (schF_cons rfl (stepF_indexAddrE rfl rfl rfl rfl h0 h5 (by omega) hlt (len_rCells l) hch) (schF_cons rfl rfl (schF_cons rfl rfl (schF_cons rfl rfl (schF_cons rfl rfl (schF_cons rfl rfl (schF_cons rfl (stepF_indexAddrE rfl rfl rfl rfl h1 h5 (by omega) hlt (len_rCells l) hch) (schF_cons rfl rfl (schF_cons rfl rfl (schF_cons rfl rfl (schF_cons rfl (stepF_int rfl rfl rfl rfl rfl rfl (ne_self _)) (schF_cons rfl rfl rfl))))))))))))))))))))))))))))))))))))))) ?_))
          refine JF.condF rfl (JF.skip ?_)
          refine JF.seq (JF.region tabOK hcf rfl ?_)
          refine JF.block (JF.loop (sK l i x) (fun f σ => match evA 84 f (.tmp 6) with | .int _ k => x.spans.length - k.toNat | _ => 0) ⟨rfl, h0, h1, h5, 0, rfl, by omega⟩ ?_)
          rintro f σ ⟨rfl, h0, h1, h5, k, h6, hk⟩
          by_cases hkl : (k : Int) < x.spans.length
          · obtain ⟨p, hp⟩ : ∃ p, x.spans[k]? = some p := ⟨_, List.getElem?_eq_getElem (by omega)⟩
            have hspc : ((spCells x.spans).drop ((k : Int).toNat * 2)).take 2 = [.int .i64 p.1, .int .i64 p.2] := by rw [Int.toNat_natCast]; exact sp_chunk hp
            refine JF.seq (JF.seq (JF.region tabOK hcf (opsF_cons rfl (opsF_cons rfl (opsF_cons rfl (opsF_cons (stepF_indexAddrE rfl rfl rfl rfl h0 h5 (by omega) hlt (len_rCells l) hch) (opsF_cons rfl (opsF_cons rfl (opsF_cons rfl (opsF_cons (stepF_int rfl rfl rfl h6 rfl rfl (lt_true hkl)) rfl)))))))) ?_))
            refine JF.condT rfl (JF.skip ?_)
            refine JF.seq (JF.block (JF.seq (JF.draw tabOK hcf noPol mixedOK [0, 1, 2, 3, 4, 5, 6, 7, 8, 9, 10, 11, 12, 13, 14, 15, 16] (by kernel_rfl) (schF_cons rfl rfl (schF_cons rfl rfl (schF_cons rfl (stepF_indexAddrE rfl rfl rfl rfl h0 h5 (by omega) hlt (len_rCells l) hch) (schF_cons rfl rfl (schF_cons rfl rfl (schF_cons rfl rfl (schF_cons rfl (stepF_indexAddrE rfl rfl rfl rfl rfl h6 (by omega) hkl (len_spCells _) hspc) (schF_cons rfl rfl (schF_cons rfl rfl (schF_cons rfl rfl (schF_cons rfl (stepF_indexAddrE rfl rfl rfl rfl h1 h5 (by omega) hlt (len_rCells l) hch) (schF_cons rfl rfl (schF_cons rfl rfl (schF_cons rfl rfl (schF_cons rfl (stepF_indexAddrE rfl rfl rfl rfl rfl h6 (by omega) hkl (len_spCells _) hspc) (schF_cons rfl rfl (schF_cons rfl (stepF_bin rfl rfl rfl rfl rfl (hflat _ _)) rfl))))))))))))))))) ?_)))
            refine JF.condF rfl (JF.skip ?_)
            refine JF.region tabOK hcf (opsF_cons rfl (opsF_cons (stepF_int rfl rfl rfl h6 rfl rfl (add_i (by omega) (by omega))) (opsF_cons rfl rfl))) ?_
            refine ⟨⟨rfl, h0, h1, h5, k + 1, by rfl, by omega⟩, ?_⟩
            show x.spans.length - ((k : Int) + 1).toNat < (match evA 84 f (.tmp 6) with | .int _ k => x.spans.length - k.toNat | _ => 0)
            rw [h6]
            simp only
            omega
          · refine JF.seq (JF.seq (JF.region tabOK hcf (opsF_cons rfl (opsF_cons rfl (opsF_cons rfl (opsF_cons (stepF_indexAddrE rfl rfl rfl rfl h0 h5 (by omega) hlt (len_rCells l) hch) (opsF_cons rfl (opsF_cons rfl (opsF_cons rfl (opsF_cons (stepF_int rfl rfl rfl h6 rfl rfl (lt_false (by omega))) rfl)))))))) ?_))
            exact JF.condF rfl (JF.exit ⟨rfl, h0, h1, h5⟩)
        · rintro f σ ⟨rfl, h0, h1, h5⟩
          refine JF.region tabOK hcf (opsF_cons rfl (opsF_cons (stepF_int rfl rfl rfl h5 rfl rfl (add_i (by omega) (by omega))) (opsF_cons rfl rfl))) ?_
          refine ⟨⟨rfl, h0, h1, i + 1, by rfl, by omega⟩, hmu _ ?_⟩
          show l.length - ((i : Int) + 1).toNat < l.length - i
          omega
      · refine JF.seq (JF.seq (JF.region tabOK hcf (opsF_cons rfl (opsF_cons rfl (opsF_cons (stepF_len rfl rfl h0 (hlen _)) (opsF_cons (stepF_int rfl rfl rfl h5 rfl rfl (lt_false (by omega))) rfl)))) ?_))
        exact JF.condF rfl (JF.exit rfl)
    · rintro f σ rfl
      refine JF.seq (JF.region tabOK hcf rfl ?_)
      exact JF.ret ⟨.bool true, rfl, 1, [], rfl⟩
end Go.Proofs.Tryz.Am
