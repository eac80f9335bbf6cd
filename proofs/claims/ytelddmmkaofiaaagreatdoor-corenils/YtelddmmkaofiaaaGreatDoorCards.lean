/-
  DERIVED. GIVEN WITH THE SEED: THE CARDS: each row of YtelddmmkaofiaaaGreatDoorRows.lean that lists a variable, with what it lists TIED to the program's text (the seventh form; the later family's looks); each row that meets fmt, with fmt's text TOLD by the authors' own Lean function (tested against real Go, not proved from fmt's source: count such statements apart). THE CARD IS WHAT COUNTS. Prove the row's statement (the work); the ties are given (YtelddmmkaofiaaaGreatDoorTie.lean); close each card by the builder's one call (the guide's Derived/Test/ToyasCard.lean, 'card_holds'). Laid BY PROGRAM, IN A SANDBOX (cutbox-door.mjs). By AI agents, Wed Nov 11 2026. No macro, syntax, notation, axiom, sorry.
-/
import Derived.Test.YtelddmmkaofiaaaGreatDoorRows
import GoSem.ClaimSeven
namespace Go.Proofs.YtelddmmkaofiaaaGreatDoor
namespace Rows

/-- THE TIED CARD OF 'pumicelaw20.CoreNils'. -/
def coreNilsCard : Claim7 := { stood := { row := coreNilsRow, standIns := [], harness := (true, "2defb68f18f22c2d8654e7da5763377f9e9e645bdf6e1ab27270b77d61eae3ff"), looks := true }, kinds := [], alts := [], laidByText := true, laidKinds := [.data, .data, .data, .handle, .sentinel], laidTests := true, laidLooks := .later }
def CoreNilsCardSaid : Prop := Claim7.holds Tryz.pinned (.plain (OpenSpec.ofChange coreNilsSpec)) coreNilsCard

/-- THE SECOND FORM's CARD OF 'pumicelaw20.CoreNils'. -/
def coreNilsUptoCard : Claim7 := { stood := { row := coreNilsUptoRow, standIns := [], harness := (true, "2defb68f18f22c2d8654e7da5763377f9e9e645bdf6e1ab27270b77d61eae3ff"), looks := true }, kinds := [], alts := [], laidByText := true, laidKinds := [.data, .data, .data, .handle, .sentinel], laidTests := true, laidLooks := .later }
def CoreNilsUptoCardSaid : Prop := Claim7.holds Tryz.pinned (.plain (OpenSpec.upto coreNilsSpec)) coreNilsUptoCard
end Rows
end Go.Proofs.YtelddmmkaofiaaaGreatDoor
