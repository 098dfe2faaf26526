/- EvalPages returns true at every input that the row speaks of and leaves its arguments as they were; the card's conditions: the listed package variables hold what the program's text lays (tied, one of them pinned). -/
import Derived.Test.YtollmmiifppfnaaGreatDoorCardFacts
import Derived.Test.YtollmmiifppfnaaGreatDoorGoes
import Derived.Test.YtollmmiifppfnaaGreatDoorHolds

/- The card of EvalPages holds. -/
set_option maxRecDepth 100000
namespace Go.Proofs.YtollmmiifppfnaaGreatDoor
open Go

theorem goesFrom0 : Tryz.prog.goesFrom "codesearch/codesearchlaw41.EvalPages" = false := by
  unfold Program.goesFrom
  rw [w4, Option.any_some, goes2]

theorem goesAt0 : Tryz.prog.goesAt .entering "codesearch/codesearchlaw41.EvalPages" = false := by
  unfold Program.goesAt
  rw [goesFrom0, Bool.false_or]

theorem goesNone : false = Rows.evalPagesRow.goesBy Tryz.pinned.checked.prog := goesAt0.symm

theorem evalPages_holds : Rows.EvalPagesCardSaid :=
  Claim7.holds_tied_plain_at .later [] [.data, .listed, .data, .pinned] true (true, "c2cc86c29f82775a2cd973e079adf19f5cbb5986474e915f1378f109588d00b6") true holds (fun _ h => by cases h) w1 (fun _ h => by cases h) evalPages_row_tie rfl ⟨rfl, rfl⟩ w2 rfl
    (fun f fn hf hfn => by
      obtain rfl : f = 3 := Option.some.inj (w4.symm.trans hf) |>.symm
      obtain rfl : fn = Tryz.f3 := (Option.some.inj (Tryz.func3.symm.trans hfn)).symm
      exact ⟨w3, fun j t ht => by
        rw [Tryz.params3] at ht
        have hm : t ∈ [22, 3, 3] := by simpa using Array.mem_of_getElem? ht
        exact (show Tryz.prog.wantsStandIn t = false by simpa using List.all_eq_true.1 w5 t hm)⟩)
    goesNone
#print axioms evalPages_holds
end Go.Proofs.YtollmmiifppfnaaGreatDoor
