/-
  DERIVED. GIVEN WITH THE SEED: THE CARDS: each row of YtbehljpnncibhaaGreatDoorRows.lean that lists a variable, with what it lists TIED to the program's text (the seventh form; the later family's looks); each row that meets fmt, with fmt's text TOLD by the authors' own Lean function (tested against real Go, not proved from fmt's source: count such statements apart). THE CARD IS WHAT COUNTS. Prove the row's statement (the work); the ties are given (YtbehljpnncibhaaGreatDoorTie.lean); close each card by the builder's one call (the guide's Derived/Test/ToyasCard.lean, 'card_holds'). Laid BY PROGRAM, IN A SANDBOX (cutbox-door.mjs). By AI agents, Wed Nov 11 2026. No macro, syntax, notation, axiom, sorry.
-/
import Derived.Test.YtbehljpnncibhaaGreatDoorRows
import GoSem.ClaimSeven
namespace Go.Proofs.YtbehljpnncibhaaGreatDoor
namespace Rows

/-- THE TIED CARD OF 'pumicelaw19.CacheNils'. -/
def cacheNilsCard : Claim7 := { stood := { row := cacheNilsRow, standIns := [], harness := (true, "feadfa72ab2e2b12f132485ba07561bd9c582d41e3551e501bc1a55cff14105a"), looks := true }, kinds := [], alts := [], laidByText := true, laidKinds := [.data, .data, .data, .handle, .sentinel], laidTests := true, laidLooks := .later }
def CacheNilsCardSaid : Prop := Claim7.holds Tryz.pinned (.plain (OpenSpec.ofChange cacheNilsSpec)) cacheNilsCard

/-- THE SECOND FORM's CARD OF 'pumicelaw19.CacheNils'. -/
def cacheNilsUptoCard : Claim7 := { stood := { row := cacheNilsUptoRow, standIns := [], harness := (true, "feadfa72ab2e2b12f132485ba07561bd9c582d41e3551e501bc1a55cff14105a"), looks := true }, kinds := [], alts := [], laidByText := true, laidKinds := [.data, .data, .data, .handle, .sentinel], laidTests := true, laidLooks := .later }
def CacheNilsUptoCardSaid : Prop := Claim7.holds Tryz.pinned (.plain (OpenSpec.upto cacheNilsSpec)) cacheNilsUptoCard
end Rows
end Go.Proofs.YtbehljpnncibhaaGreatDoor
