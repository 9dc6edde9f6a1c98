/-
  DERIVED. GIVEN WITH THE SEED: THE CARDS: each row of YtpnoiagjgkajdaaGreatDoorRows.lean that lists a variable, with what it lists TIED to the program's text (the seventh form; the later family's looks); each row that meets fmt, with fmt's text TOLD by the authors' own Lean function (tested against real Go, not proved from fmt's source: count such statements apart). THE CARD IS WHAT COUNTS. Prove the row's statement (the work); the ties are given (YtpnoiagjgkajdaaGreatDoorTie.lean); close each card by the builder's one call (the guide's Derived/Test/ToyasCard.lean, 'card_holds'). Laid BY PROGRAM, IN A SANDBOX (cutbox-door.mjs). By AI agents, Wed Nov 11 2026. No macro, syntax, notation, axiom, sorry.
-/
import Derived.Test.YtpnoiagjgkajdaaGreatDoorRows
import GoSem.ClaimSeven
namespace Go.Proofs.YtpnoiagjgkajdaaGreatDoor
namespace Rows

/-- THE TIED CARD OF 'glacierlaw22.ServiceExpires'. -/
def serviceExpiresCard : Claim7 := { stood := { row := serviceExpiresRow, standIns := [], harness := (true, "b2f948c55d6195b5ff05d4d35c4c40ecb39a4607d16a5c3f21f78f6683d79213"), looks := false }, kinds := [], alts := [], laidByText := true, laidKinds := [.data, .data, .data, .data], laidTests := true, laidLooks := .later }
def ServiceExpiresCardSaid : Prop := Claim7.holds Tryz.pinned (.plain (OpenSpec.ofChange serviceExpiresSpec)) serviceExpiresCard

/-- THE TIED CARD OF 'glacierlaw22.ServiceOnce'. -/
def serviceOnceCard : Claim7 := { stood := { row := serviceOnceRow, standIns := [], harness := (true, "b2f948c55d6195b5ff05d4d35c4c40ecb39a4607d16a5c3f21f78f6683d79213"), looks := false }, kinds := [], alts := [], laidByText := true, laidKinds := [.data, .data, .data, .data], laidTests := true, laidLooks := .later }
def ServiceOnceCardSaid : Prop := Claim7.holds Tryz.pinned (.plain (OpenSpec.ofChange serviceOnceSpec)) serviceOnceCard

/-- THE SECOND FORM's CARD OF 'glacierlaw22.ServiceExpires'. -/
def serviceExpiresUptoCard : Claim7 := { stood := { row := serviceExpiresUptoRow, standIns := [], harness := (true, "b2f948c55d6195b5ff05d4d35c4c40ecb39a4607d16a5c3f21f78f6683d79213"), looks := false }, kinds := [], alts := [], laidByText := true, laidKinds := [.data, .data, .data, .data], laidTests := true, laidLooks := .later }
def ServiceExpiresUptoCardSaid : Prop := Claim7.holds Tryz.pinned (.plain (OpenSpec.upto serviceExpiresSpec)) serviceExpiresUptoCard

/-- THE SECOND FORM's CARD OF 'glacierlaw22.ServiceOnce'. -/
def serviceOnceUptoCard : Claim7 := { stood := { row := serviceOnceUptoRow, standIns := [], harness := (true, "b2f948c55d6195b5ff05d4d35c4c40ecb39a4607d16a5c3f21f78f6683d79213"), looks := false }, kinds := [], alts := [], laidByText := true, laidKinds := [.data, .data, .data, .data], laidTests := true, laidLooks := .later }
def ServiceOnceUptoCardSaid : Prop := Claim7.holds Tryz.pinned (.plain (OpenSpec.upto serviceOnceSpec)) serviceOnceUptoCard
end Rows
end Go.Proofs.YtpnoiagjgkajdaaGreatDoor
