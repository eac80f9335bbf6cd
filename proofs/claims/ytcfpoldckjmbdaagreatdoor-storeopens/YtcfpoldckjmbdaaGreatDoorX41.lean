/-
  A part of the proof that pumicelaw17.StoreOpens returns true for every geometry, key, number and group (a machine over names of blocks, its soundness, the calls of the store for any geometry, the chapter's example as a run). Condition: the listed package variables hold what the program's text lays; the card ties that.
-/
import Derived.Test.YtcfpoldckjmbdaaGreatDoorX40
import Derived.Test.YtcfpoldckjmbdaaGreatDoorX39
import Derived.Test.YtcfpoldckjmbdaaGreatDoorTie
import Derived.Test.YtcfpoldckjmbdaaGreatDoorCards
import Derived.SevenTiedAt
set_option linter.unusedVariables false
set_option linter.unusedSimpArgs false
set_option linter.unusedSectionVars false
open Go
namespace Go.Proofs.YtcfpoldckjmbdaaGreatDoor
set_option maxRecDepth 100000
theorem row_holds : Rows.StoreOpensSaid :=
  OpenClaim.holds_of_wide 3 Go.Proofs.Tryz.f3 rfl rfl rfl rfl rfl rfl rfl ⟨rfl, rfl, rfl, rfl, rfl⟩ rfl rfl rfl rfl rfl fnamed Go.Proofs.Tryz.func3 jfacts finst fwrap
    (fun os started H enc _ => lifted os started H enc)
theorem card_holds : Rows.StoreOpensCardSaid :=
  Claim7.holds_tied_plain_at .later [] [.data, .data, .data, .data, .handle, .sentinel, .sentinel, .sentinel, .pinned] true (true, "912f1cb12ddf48f4d68e27b8a86934f3e144cdc942cd25f653bdf9f62b608f84") true
    row_holds (fun _ h => by cases h) cwf (fun _ h => by cases h) storeOpens_row_tie rfl ⟨rfl, rfl⟩ cmain rfl
    (fun f fn hf hfn => by
      obtain rfl : f = 3 := Option.some.inj (cfn.symm.trans hf) |>.symm
      obtain rfl : fn = Go.Proofs.Tryz.f3 := (Option.some.inj (Go.Proofs.Tryz.func3.symm.trans hfn)).symm
      exact ⟨clooks, fun j t ht => by
        rw [Tryz.params3] at ht
        have h3 : t = 23 ∨ t = 9 ∨ t = 3 ∨ t = 24 := by
          rcases j with _ | _ | _ | _ | j
          · exact Or.inl (by simpa using ht.symm)
          · exact Or.inr (Or.inl (by simpa using ht.symm))
          · exact Or.inr (Or.inr (Or.inl (by simpa using ht.symm)))
          · exact Or.inr (Or.inr (Or.inr (by simpa using ht.symm)))
          · simp at ht
        rcases h3 with rfl | rfl | rfl | rfl
        · exact st23
        · exact st9
        · exact st3
        · exact st24⟩)
    cgoes
#print axioms card_holds
end Go.Proofs.YtcfpoldckjmbdaaGreatDoor
