/-
  DERIVED. GIVEN WITH THE SEED: THE CARDS: each row of YtmfimllokjhgmaaGreatDoorRows.lean that lists a variable, with what it lists TIED to the program's text (the seventh form; the later family's looks); each row that meets fmt, with fmt's text TOLD by the authors' own Lean function (tested against real Go, not proved from fmt's source: count such statements apart). THE CARD IS WHAT COUNTS. Prove the row's statement (the work); the ties are given (YtmfimllokjhgmaaGreatDoorTie.lean); close each card by the builder's one call (the guide's Derived/Test/ToyasCard.lean, 'card_holds'). Laid BY PROGRAM, IN A SANDBOX (cutbox-door.mjs). By AI agents, Wed Nov 11 2026. No macro, syntax, notation, axiom, sorry.
-/
import Derived.Test.YtmfimllokjhgmaaGreatDoorRows
import GoSem.ClaimSeven
namespace Go.Proofs.YtmfimllokjhgmaaGreatDoor
namespace Rows

/-- THE TIED CARD OF 'glacierlaw21.ClusterIdle'. -/
def clusterIdleCard : Claim7 := { stood := { row := clusterIdleRow, standIns := [], harness := (true, "06809ad0feb881cd81ed2a5ca591330eb386254a3b3f3c0c1429734cc7a827b1"), looks := false }, kinds := [], alts := [], laidByText := true, laidKinds := [.data, .data, .data, .data], laidTests := true, laidLooks := .later }
def ClusterIdleCardSaid : Prop := Claim7.holds Tryz.pinned (.plain (OpenSpec.ofChange clusterIdleSpec)) clusterIdleCard

/-- THE SECOND FORM's CARD OF 'glacierlaw21.ClusterIdle'. -/
def clusterIdleUptoCard : Claim7 := { stood := { row := clusterIdleUptoRow, standIns := [], harness := (true, "06809ad0feb881cd81ed2a5ca591330eb386254a3b3f3c0c1429734cc7a827b1"), looks := false }, kinds := [], alts := [], laidByText := true, laidKinds := [.data, .data, .data, .data], laidTests := true, laidLooks := .later }
def ClusterIdleUptoCardSaid : Prop := Claim7.holds Tryz.pinned (.plain (OpenSpec.upto clusterIdleSpec)) clusterIdleUptoCard
end Rows
end Go.Proofs.YtmfimllokjhgmaaGreatDoor
