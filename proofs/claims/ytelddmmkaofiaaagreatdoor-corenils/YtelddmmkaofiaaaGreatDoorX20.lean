/-
  A part of the proof of YtelddmmkaofiaaaGreatDoor: for every input the law answers true (a machine over names of blocks, its soundness, and the run of the law). No condition beyond the given statement's.
-/
import Derived.Test.YtelddmmkaofiaaaGreatDoorX18
set_option linter.unusedVariables false
set_option linter.unusedSimpArgs false
set_option linter.unusedSectionVars false
open Go Go.Abm
set_option maxRecDepth 100000
namespace Go.Abm.Seat
/-- ebm.Format, at the chip as it was made. -/
theorem run2 : litRun E2 100000 113 argF LA nA resG LG nG = true := by kernel_rfl
end Go.Abm.Seat
