/-
  A part of the proof of YtelddmmkaofiaaaGreatDoor: for every input the law answers true (a machine over names of blocks, its soundness, and the run of the law). No condition beyond the given statement's.
-/
import Derived.Test.YtelddmmkaofiaaaGreatDoorX24
import Derived.Test.YtelddmmkaofiaaaGreatDoorX23
import Derived.Test.YtelddmmkaofiaaaGreatDoorTie
import Derived.Test.YtelddmmkaofiaaaGreatDoorCards
import Derived.SevenTiedAt
set_option linter.unusedVariables false
set_option linter.unusedSimpArgs false
set_option linter.unusedSectionVars false
open Go
namespace Go.Proofs.YtelddmmkaofiaaaGreatDoor
set_option maxRecDepth 100000

theorem row_holds : Rows.CoreNilsSaid :=
  OpenClaim.holds_of_wide 3 Go.Proofs.Tryz.f3 rfl rfl rfl rfl rfl rfl rfl ⟨rfl, rfl, rfl, rfl, rfl⟩ rfl rfl rfl rfl rfl fnamed Go.Proofs.Tryz.func3 jfacts finst fwrap
    (fun os started H enc _ => lifted os started H enc)

theorem card_holds : Rows.CoreNilsCardSaid :=
  Claim7.holds_tied_plain_at .later [] [.data, .data, .data, .handle, .sentinel] true (true, "2defb68f18f22c2d8654e7da5763377f9e9e645bdf6e1ab27270b77d61eae3ff") true
    row_holds (fun _ h => by cases h) cwf (fun _ h => by cases h) coreNils_row_tie rfl ⟨rfl, rfl⟩ cmain rfl
    (fun f fn hf hfn => by
      obtain rfl : f = 3 := Option.some.inj (cfn.symm.trans hf) |>.symm
      obtain rfl : fn = Go.Proofs.Tryz.f3 := (Option.some.inj (Go.Proofs.Tryz.func3.symm.trans hfn)).symm
      exact ⟨clooks, fun j t ht => by
        rw [Tryz.params3] at ht
        have h3 : t = 25 := by
          rcases j with _ | j
          · simpa using ht.symm
          · simp at ht
        rw [h3]
        exact st25⟩)
    cgoes
#print axioms card_holds
end Go.Proofs.YtelddmmkaofiaaaGreatDoor
