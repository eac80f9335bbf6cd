/-
  A part of the proof of YtbehljpnncibhaaGreatDoor: for every input the law answers true (a machine over names of blocks, its soundness, and the run of the law). No condition beyond the given statement's.
-/
import Derived.Test.YtbehljpnncibhaaGreatDoorX20
import Derived.Test.YtbehljpnncibhaaGreatDoorX19
import Derived.Test.YtbehljpnncibhaaGreatDoorTie
import Derived.Test.YtbehljpnncibhaaGreatDoorCards
import Derived.SevenTiedAt
set_option linter.unusedVariables false
set_option linter.unusedSimpArgs false
set_option linter.unusedSectionVars false
open Go
namespace Go.Proofs.YtbehljpnncibhaaGreatDoor
set_option maxRecDepth 100000

theorem row_holds : Rows.CacheNilsSaid :=
  OpenClaim.holds_of_wide 3 Go.Proofs.Tryz.f3 rfl rfl rfl rfl rfl rfl rfl ⟨rfl, rfl, rfl, rfl, rfl⟩ rfl rfl rfl rfl rfl fnamed Go.Proofs.Tryz.func3 jfacts finst fwrap
    (fun os started H enc _ => lifted os started H enc)

theorem card_holds : Rows.CacheNilsCardSaid :=
  Claim7.holds_tied_plain_at .later [] [.data, .data, .data, .handle, .sentinel] true (true, "feadfa72ab2e2b12f132485ba07561bd9c582d41e3551e501bc1a55cff14105a") true
    row_holds (fun _ h => by cases h) cwf (fun _ h => by cases h) cacheNils_row_tie rfl ⟨rfl, rfl⟩ cmain rfl
    (fun f fn hf hfn => by
      obtain rfl : f = 3 := Option.some.inj (cfn.symm.trans hf) |>.symm
      obtain rfl : fn = Go.Proofs.Tryz.f3 := (Option.some.inj (Go.Proofs.Tryz.func3.symm.trans hfn)).symm
      exact ⟨clooks, fun j t ht => by
        rw [Tryz.params3] at ht
        have h3 : t = 9 ∨ t = 22 ∨ t = 3 := by
          rcases j with _ | _ | _ | j
          · exact Or.inl (by simpa using ht.symm)
          · exact Or.inr (Or.inl (by simpa using ht.symm))
          · exact Or.inr (Or.inr (by simpa using ht.symm))
          · simp at ht
        rcases h3 with rfl | rfl | rfl
        · exact st9
        · exact st22
        · exact st3⟩)
    cgoes
#print axioms card_holds
end Go.Proofs.YtbehljpnncibhaaGreatDoor
