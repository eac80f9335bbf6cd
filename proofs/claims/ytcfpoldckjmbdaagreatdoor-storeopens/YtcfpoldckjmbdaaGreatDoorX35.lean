/-
  A part of the proof that pumicelaw17.StoreOpens returns true for every geometry, key, number and group (a machine over names of blocks, its soundness, the calls of the store for any geometry, the chapter's example as a run). Condition: the listed package variables hold what the program's text lays; the card ties that.
-/
import Derived.Test.YtcfpoldckjmbdaaGreatDoorX32
set_option linter.unusedVariables false
set_option linter.unusedSimpArgs false
set_option linter.unusedSectionVars false
open Go Go.Abm
set_option maxRecDepth 100000
namespace Go.Abm.Seat
theorem run3 : litRun (mkL l2) 100000 37 [.ptr 105 0] qL3 6173 (.tup [.ptr 6459 0, zi 0]) qR3 6753 = true := by kernel_rfl
end Go.Abm.Seat

open Go Go.Abm
set_option maxRecDepth 100000
namespace Go.Abm.Seat
def S4 (f : Nat) : Bool := [119, 203, 274, 204].any (Nat.beq f)
theorem run4 : litRunN (mkL l2) 100000 300 9 S4 119 [.fn (.func 204) [] [.ptr 7165 0]] qL4 7166 (.sl 7173 0 2 2 (some 1)) qR4 7174 = true := by kernel_rfl
def S5 (f : Nat) : Bool := Nat.beq f 25
theorem run5 : litRunN (mkL l2) 100000 300 9 S5 25 [.ptr 6758 0] qL5 7189 (.sl 7223 0 10 10 (some 1)) qR5 7224 = true := by kernel_rfl
end Go.Abm.Seat
