/-
  DERIVED. GIVEN WITH THE SEED: THE CARDS: each row of YtdgjkejfmehphaaGreatDoorRows.lean that lists a variable, with what it lists TIED to the program's text (the seventh form; the later family's looks); each row that meets fmt, with fmt's text TOLD by the authors' own Lean function (tested against real Go, not proved from fmt's source: count such statements apart). THE CARD IS WHAT COUNTS. Prove the row's statement (the work); the ties are given (YtdgjkejfmehphaaGreatDoorTie.lean); close each card by the builder's one call (the guide's Derived/Test/ToyasCard.lean, 'card_holds'). Laid BY PROGRAM, IN A SANDBOX (cutbox-door.mjs). By AI agents, Wed Nov 11 2026. No macro, syntax, notation, axiom, sorry.
-/
import Derived.Test.YtdgjkejfmehphaaGreatDoorRows
import GoSem.ClaimSeven
namespace Go.Proofs.YtdgjkejfmehphaaGreatDoor
namespace Rows

/-- THE TIED CARD OF 'glacierlaw22.ServiceMay'. -/
def serviceMayCard : Claim7 := { stood := { row := serviceMayRow, standIns := [], harness := (true, "048d645408e8eafdb8686be846f1fbd99fc0c9623736d046c1fc116daaf2efac"), looks := false }, kinds := [], alts := [], laidByText := true, laidKinds := [.data, .data, .data, .data], laidTests := true, laidLooks := .later }
def ServiceMayCardSaid : Prop := Claim7.holds Tryz.pinned (.plain (OpenSpec.ofChange serviceMaySpec)) serviceMayCard

/-- THE SECOND FORM's CARD OF 'glacierlaw22.ServiceMay'. -/
def serviceMayUptoCard : Claim7 := { stood := { row := serviceMayUptoRow, standIns := [], harness := (true, "048d645408e8eafdb8686be846f1fbd99fc0c9623736d046c1fc116daaf2efac"), looks := false }, kinds := [], alts := [], laidByText := true, laidKinds := [.data, .data, .data, .data], laidTests := true, laidLooks := .later }
def ServiceMayUptoCardSaid : Prop := Claim7.holds Tryz.pinned (.plain (OpenSpec.upto serviceMaySpec)) serviceMayUptoCard
end Rows
end Go.Proofs.YtdgjkejfmehphaaGreatDoor
