/- A part of the proof: the abstract machine and what it shows of the program. -/
import Derived.Test.YtollmmiifppfnaaGreatDoorRows
import Derived.JoinedOf

/- Closed facts of the row, part three. -/
set_option maxRecDepth 100000
namespace Go.Proofs.YtollmmiifppfnaaGreatDoor
open Go
theorem k13 : (Rows.evalPagesRow.named == Tryz.prog.varsNamed 3) = true := by kernel_rfl
end Go.Proofs.YtollmmiifppfnaaGreatDoor
