/- A part of the proof: the abstract machine and what it shows of the program. -/
import Derived.Test.YtollmmiifppfnaaGreatDoorFactA
import Derived.Test.YtollmmiifppfnaaGreatDoorFactB
import Derived.Test.YtollmmiifppfnaaGreatDoorFactC
import Derived.Test.YtollmmiifppfnaaGreatDoorFactD
import Derived.Test.YtollmmiifppfnaaGreatDoorRow

/- The row of EvalPages holds. -/
set_option maxRecDepth 100000
namespace Go.Proofs.YtollmmiifppfnaaGreatDoor
open Go

theorem closed : joinedFacts Tryz.prog 3 Tryz.f3 Rows.evalPagesSpec Rows.evalPagesRow = true := by
  unfold joinedFacts
  rw [k01, k02, k03, k04, k05, k06, k07, k08, k09, k10, k11, k12, k13, k14, k15, k16, k17, k18, k19, k20, k21, k22, k23, k24, k25, k26, k27, k28, k30, k31, k32]
  rfl

theorem holds : Rows.EvalPagesSaid :=
  OpenClaim.holds_of_wide 3 Tryz.f3 rfl rfl rfl rfl rfl rfl rfl ⟨rfl, rfl, rfl, rfl, rfl⟩ rfl rfl rfl rfl rfl (by kernel_rfl) Tryz.func3 closed
    (of_decide_eq_true (by kernel_rfl)) (by unfold Func.isWrapper; first | (rw [if_pos (by decide +kernel)]; kernel_rfl) | (rw [if_neg (by decide +kernel)]; exact ⟨rfl, rfl⟩))
    (fun os started H enc _ => lifted os started H enc)
#print axioms holds
end Go.Proofs.YtollmmiifppfnaaGreatDoor
