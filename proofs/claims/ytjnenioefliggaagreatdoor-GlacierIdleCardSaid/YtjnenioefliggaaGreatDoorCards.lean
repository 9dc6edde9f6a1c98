/-
  DERIVED. GIVEN WITH THE SEED: THE CARDS: each row of YtjnenioefliggaaGreatDoorRows.lean that lists a variable, with what it lists TIED to the program's text (the seventh form; the later family's looks); each row that meets fmt, with fmt's text TOLD by the authors' own Lean function (tested against real Go, not proved from fmt's source: count such statements apart). THE CARD IS WHAT COUNTS. Prove the row's statement (the work); the ties are given (YtjnenioefliggaaGreatDoorTie.lean); close each card by the builder's one call (the guide's Derived/Test/ToyasCard.lean, 'card_holds'). Laid BY PROGRAM, IN A SANDBOX (cutbox-door.mjs). By AI agents, Wed Nov 11 2026. No macro, syntax, notation, axiom, sorry.
-/
import Derived.Test.YtjnenioefliggaaGreatDoorRows
import GoSem.ClaimSeven
namespace Go.Proofs.YtjnenioefliggaaGreatDoor
namespace Rows

/-- THE TIED CARD OF 'glaciertop.GlacierIdle'. -/
def glacierIdleCard : Claim7 := { stood := { row := glacierIdleRow, standIns := [], harness := (true, "7b46f630b20367b0187a046fd96101e968f81a926d75e134d20ede8d3604dac7"), looks := false }, kinds := [], alts := [], laidByText := true, laidKinds := [.data, .data, .data, .data], laidTests := true, laidLooks := .later }
def GlacierIdleCardSaid : Prop := Claim7.holds Tryz.pinned (.plain (OpenSpec.ofChange glacierIdleSpec)) glacierIdleCard

/-- THE SECOND FORM's CARD OF 'glaciertop.GlacierIdle'. -/
def glacierIdleUptoCard : Claim7 := { stood := { row := glacierIdleUptoRow, standIns := [], harness := (true, "7b46f630b20367b0187a046fd96101e968f81a926d75e134d20ede8d3604dac7"), looks := false }, kinds := [], alts := [], laidByText := true, laidKinds := [.data, .data, .data, .data], laidTests := true, laidLooks := .later }
def GlacierIdleUptoCardSaid : Prop := Claim7.holds Tryz.pinned (.plain (OpenSpec.upto glacierIdleSpec)) glacierIdleUptoCard
end Rows
end Go.Proofs.YtjnenioefliggaaGreatDoor
