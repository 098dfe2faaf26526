/- A part of the proof: the abstract machine and what it shows of the program. -/
import Derived.Test.YtollmmiifppfnaaGreatDoorRows
import Derived.JoinedOf

/- Closed facts of the row, part one. -/
set_option maxRecDepth 100000
namespace Go.Proofs.YtollmmiifppfnaaGreatDoor
open Go
theorem k01 : Rows.evalPagesRow.wf (OpenSpec.ofChange Rows.evalPagesSpec) = true := by kernel_rfl
theorem k02 : laidOutB Tryz.prog = true := by kernel_rfl
theorem k03 : mapsRowed Tryz.prog = true := by kernel_rfl
theorem k04 : Tryz.f3.params.all (Tryz.prog.readableRec ·) = true := by kernel_rfl
theorem k05 : namedTie Tryz.prog Rows.evalPagesRow.named Rows.evalPagesSpec.vars = true := by kernel_rfl
theorem k06 : (Rows.evalPagesRow.stops == []) = true := by kernel_rfl
theorem k07 : (Tryz.prog.stops == []) = true := by kernel_rfl
theorem k08 : (Rows.evalPagesRow.knobs == []) = true := by kernel_rfl
theorem k09 : (Tryz.prog.stopKnobs == []) = true := by kernel_rfl
theorem k10 : (Rows.evalPagesRow.inPlace == Tryz.prog.inPlace 3) = true := by kernel_rfl
end Go.Proofs.YtollmmiifppfnaaGreatDoor
