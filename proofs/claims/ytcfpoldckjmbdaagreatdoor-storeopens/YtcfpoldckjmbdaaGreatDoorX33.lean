/-
  A part of the proof that pumicelaw17.StoreOpens returns true for every geometry, key, number and group (a machine over names of blocks, its soundness, the calls of the store for any geometry, the chapter's example as a run). Condition: the listed package variables hold what the program's text lays; the card ties that.
-/
import Derived.Test.YtcfpoldckjmbdaaGreatDoorX32
set_option linter.unusedVariables false
set_option linter.unusedSimpArgs false
set_option linter.unusedSectionVars false
open Go Go.Abm
set_option maxRecDepth 100000
namespace Go.Abm.Seat
theorem run1 : litRun (mkL l2) 100000 8 [.ptr 105 0] qL1 122 (.tup [.ptr 4649 0, zi 0]) qR1 5013 = true := by kernel_rfl
end Go.Abm.Seat
