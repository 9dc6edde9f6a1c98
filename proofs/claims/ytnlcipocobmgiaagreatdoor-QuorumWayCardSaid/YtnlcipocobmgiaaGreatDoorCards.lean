/-
  DERIVED. GIVEN WITH THE SEED: THE CARDS: each row of YtnlcipocobmgiaaGreatDoorRows.lean that lists a variable, with what it lists TIED to the program's text (the seventh form; the later family's looks); each row that meets fmt, with fmt's text TOLD by the authors' own Lean function (tested against real Go, not proved from fmt's source: count such statements apart). THE CARD IS WHAT COUNTS. Prove the row's statement (the work); the ties are given (YtnlcipocobmgiaaGreatDoorTie.lean); close each card by the builder's one call (the guide's Derived/Test/ToyasCard.lean, 'card_holds'). Laid BY PROGRAM, IN A SANDBOX (cutbox-door.mjs). By AI agents, Wed Nov 11 2026. No macro, syntax, notation, axiom, sorry.
-/
import Derived.Test.YtnlcipocobmgiaaGreatDoorRows
import GoSem.ClaimSeven
namespace Go.Proofs.YtnlcipocobmgiaaGreatDoor
namespace Rows

/-- THE TIED CARD OF 'glacierlaw10.RaftCompacts'. -/
def raftCompactsCard : Claim7 := { stood := { row := raftCompactsRow, standIns := [], harness := (true, "00ec3f5bb09e763b5b38020922b58569e2024976a322f518cf0d9a132bbc0b56"), looks := false }, kinds := [], alts := [], laidByText := true, laidKinds := [.data], laidTests := true, laidLooks := .later }
def RaftCompactsCardSaid : Prop := Claim7.holds Tryz.pinned (.plain (OpenSpec.ofChange raftCompactsSpec)) raftCompactsCard

/-- THE TIED CARD OF 'glacierlaw10.RaftCommits'. -/
def raftCommitsCard : Claim7 := { stood := { row := raftCommitsRow, standIns := [], harness := (true, "00ec3f5bb09e763b5b38020922b58569e2024976a322f518cf0d9a132bbc0b56"), looks := false }, kinds := [], alts := [], laidByText := true, laidKinds := [.data], laidTests := true, laidLooks := .later }
def RaftCommitsCardSaid : Prop := Claim7.holds Tryz.pinned (.plain (OpenSpec.ofChange raftCommitsSpec)) raftCommitsCard

/-- THE TIED CARD OF 'glacierlaw10.RaftTells'. -/
def raftTellsCard : Claim7 := { stood := { row := raftTellsRow, standIns := [], harness := (true, "00ec3f5bb09e763b5b38020922b58569e2024976a322f518cf0d9a132bbc0b56"), looks := false }, kinds := [], alts := [], laidByText := true, laidKinds := [.data], laidTests := true, laidLooks := .later }
def RaftTellsCardSaid : Prop := Claim7.holds Tryz.pinned (.plain (OpenSpec.ofChange raftTellsSpec)) raftTellsCard

/-- THE TIED CARD OF 'glacierlaw11.QuorumWay'. -/
def quorumWayCard : Claim7 := { stood := { row := quorumWayRow, standIns := [], harness := (true, "00ec3f5bb09e763b5b38020922b58569e2024976a322f518cf0d9a132bbc0b56"), looks := false }, kinds := [], alts := [], laidByText := true, laidKinds := [.data], laidTests := true, laidLooks := .later }
def QuorumWayCardSaid : Prop := Claim7.holds Tryz.pinned (.plain (OpenSpec.ofChange quorumWaySpec)) quorumWayCard

/-- THE SECOND FORM's CARD OF 'glacierlaw10.RaftCompacts'. -/
def raftCompactsUptoCard : Claim7 := { stood := { row := raftCompactsUptoRow, standIns := [], harness := (true, "00ec3f5bb09e763b5b38020922b58569e2024976a322f518cf0d9a132bbc0b56"), looks := false }, kinds := [], alts := [], laidByText := true, laidKinds := [.data], laidTests := true, laidLooks := .later }
def RaftCompactsUptoCardSaid : Prop := Claim7.holds Tryz.pinned (.plain (OpenSpec.upto raftCompactsSpec)) raftCompactsUptoCard

/-- THE SECOND FORM's CARD OF 'glacierlaw10.RaftCommits'. -/
def raftCommitsUptoCard : Claim7 := { stood := { row := raftCommitsUptoRow, standIns := [], harness := (true, "00ec3f5bb09e763b5b38020922b58569e2024976a322f518cf0d9a132bbc0b56"), looks := false }, kinds := [], alts := [], laidByText := true, laidKinds := [.data], laidTests := true, laidLooks := .later }
def RaftCommitsUptoCardSaid : Prop := Claim7.holds Tryz.pinned (.plain (OpenSpec.upto raftCommitsSpec)) raftCommitsUptoCard

/-- THE SECOND FORM's CARD OF 'glacierlaw10.RaftTells'. -/
def raftTellsUptoCard : Claim7 := { stood := { row := raftTellsUptoRow, standIns := [], harness := (true, "00ec3f5bb09e763b5b38020922b58569e2024976a322f518cf0d9a132bbc0b56"), looks := false }, kinds := [], alts := [], laidByText := true, laidKinds := [.data], laidTests := true, laidLooks := .later }
def RaftTellsUptoCardSaid : Prop := Claim7.holds Tryz.pinned (.plain (OpenSpec.upto raftTellsSpec)) raftTellsUptoCard

/-- THE SECOND FORM's CARD OF 'glacierlaw11.QuorumWay'. -/
def quorumWayUptoCard : Claim7 := { stood := { row := quorumWayUptoRow, standIns := [], harness := (true, "00ec3f5bb09e763b5b38020922b58569e2024976a322f518cf0d9a132bbc0b56"), looks := false }, kinds := [], alts := [], laidByText := true, laidKinds := [.data], laidTests := true, laidLooks := .later }
def QuorumWayUptoCardSaid : Prop := Claim7.holds Tryz.pinned (.plain (OpenSpec.upto quorumWaySpec)) quorumWayUptoCard
end Rows
end Go.Proofs.YtnlcipocobmgiaaGreatDoor
