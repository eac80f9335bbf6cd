/-
  A part of the proof of YtbehljpnncibhaaGreatDoor: for every input the law answers true (a machine over names of blocks, its soundness, and the run of the law). No condition beyond the given statement's.
-/
import Derived.Test.YtbehljpnncibhaaGreatDoorX16
set_option linter.unusedVariables false
set_option linter.unusedSimpArgs false
set_option linter.unusedSectionVars false
open Go Go.Abm
set_option maxRecDepth 100000
namespace Go.Abm.Seat
noncomputable section
/-- Memory as the law begins: header's errNone, and its text; 7: the group's cells, of which nothing is known. -/
def M0 : AM := ⟨(Tr.leaf.set 1 (some (.cells [.ifc 445 (.ptr 6 0)] true false))).set 6 (some (.cells [.str [110, 111, 32, 105, 109, 97, 103, 101]] true false)), 8⟩
def runB (k g i : AV) : Bool := match evalCall E1 (recN E1 100000) 3 [k, g, i] M0 with
  | some (.ret (.bool true), _) => true
  | _ => false
theorem run_ok (k g i : AV) : runB k g i = true := by kernel_rfl
theorem law_run (k g i : AV) : ∃ M', evalCall E1 (recN E1 100000) 3 [k, g, i] M0 = some (.ret (.bool true), M') := by
  have h := run_ok k g i
  unfold runB at h
  split at h
  · rename_i M' e; exact ⟨M', e⟩
  · cases h
end
end Go.Abm.Seat
