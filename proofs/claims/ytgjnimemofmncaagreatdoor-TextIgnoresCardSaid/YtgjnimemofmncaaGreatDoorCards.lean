/-
  DERIVED. GIVEN WITH THE SEED: THE CARDS: each row of YtgjnimemofmncaaGreatDoorRows.lean that lists a variable, with what it lists TIED to the program's text (the seventh form; the later family's looks); each row that meets fmt, with fmt's text TOLD by the authors' own Lean function (tested against real Go, not proved from fmt's source: count such statements apart). THE CARD IS WHAT COUNTS. Prove the row's statement (the work); the ties are given (YtgjnimemofmncaaGreatDoorTie.lean); close each card by the builder's one call (the guide's Derived/Test/ToyasCard.lean, 'card_holds'). Laid BY PROGRAM, IN A SANDBOX (cutbox-door.mjs). By AI agents, Wed Nov 11 2026. No macro, syntax, notation, axiom, sorry.
-/
import Derived.Test.YtgjnimemofmncaaGreatDoorRows
import GoSem.ClaimSeven
namespace Go.Proofs.YtgjnimemofmncaaGreatDoor
namespace Rows

/-- THE TIED CARD OF 'orchestrionlaw08.TextIgnores'. -/
def textIgnoresCard : Claim7 := { stood := { row := textIgnoresRow, standIns := [], harness := (true, "30fbf2a2236578b7d35cb29e4c7e8879eb87235334fe8c201f80290f7a25304b"), looks := true }, kinds := [], alts := [], laidByText := true, laidKinds := [.data, .data, .data, .data, .pinned], laidTests := true, laidLooks := .later }
def TextIgnoresCardSaid : Prop := Claim7.holds Tryz.pinned (.plain (OpenSpec.ofChange textIgnoresSpec)) textIgnoresCard

/-- THE SECOND FORM's CARD OF 'orchestrionlaw08.TextIgnores'. -/
def textIgnoresUptoCard : Claim7 := { stood := { row := textIgnoresUptoRow, standIns := [], harness := (true, "30fbf2a2236578b7d35cb29e4c7e8879eb87235334fe8c201f80290f7a25304b"), looks := true }, kinds := [], alts := [], laidByText := true, laidKinds := [.data, .data, .data, .data, .pinned], laidTests := true, laidLooks := .later }
def TextIgnoresUptoCardSaid : Prop := Claim7.holds Tryz.pinned (.plain (OpenSpec.upto textIgnoresSpec)) textIgnoresUptoCard
end Rows
end Go.Proofs.YtgjnimemofmncaaGreatDoor
