/- A part of the proof: the abstract machine and what it shows of the program. -/
import Derived.Test.YtollmmiifppfnaaGreatDoorRows
import GoSem.ClaimGoes

/- No function of the program starts a goroutine. -/
set_option maxRecDepth 100000
namespace Go.Proofs.YtollmmiifppfnaaGreatDoor
open Go
theorem goesAll : Tryz.prog.funcs.toList.any Func.goes = false := by kernel_rfl
theorem goes1 : Tryz.prog.funcs.any Func.goes = false := by rw [← Array.any_toList]; exact goesAll

theorem goes2 : Tryz.prog.goes 3 = false := by
  unfold Program.goes
  rw [goes1, Bool.and_false, Bool.or_false, List.any_eq_false]
  intro g _
  cases h : Tryz.prog.funcs[g]? with
  | none => simp
  | some fn =>
    have := List.any_eq_false.1 goesAll fn (by rw [Array.mem_toList_iff]; exact Array.mem_of_getElem? h)
    simpa using this
end Go.Proofs.YtollmmiifppfnaaGreatDoor
