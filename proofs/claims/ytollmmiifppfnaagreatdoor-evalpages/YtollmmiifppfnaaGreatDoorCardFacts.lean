/- A part of the proof: the abstract machine and what it shows of the program. -/
import Derived.Test.YtollmmiifppfnaaGreatDoorTie
import Derived.Test.YtollmmiifppfnaaGreatDoorCards
import Derived.SevenTiedAt

/- The card's closed facts but one. -/
set_option maxRecDepth 100000
namespace Go.Proofs.YtollmmiifppfnaaGreatDoor
open Go
theorem w1 : Rows.evalPagesRow.wfByText (OpenSpec.ofChange Rows.evalPagesSpec) = true := by kernel_rfl
theorem w2 : Tryz.prog.mainIs = some (true, "c2cc86c29f82775a2cd973e079adf19f5cbb5986474e915f1378f109588d00b6".toList) := by kernel_rfl
theorem w3 : true = Tryz.prog.looks [] := by kernel_rfl
theorem w4 : Tryz.prog.funcNamed "codesearch/codesearchlaw41.EvalPages" = some 3 := by kernel_rfl
theorem w5 : ([22, 3, 3].all fun u => !Tryz.prog.wantsStandIn u) = true := by kernel_rfl
end Go.Proofs.YtollmmiifppfnaaGreatDoor
