/-
  DERIVED. GIVEN WITH THE SEED: THE CARDS: each row of YtkplffkchanipaaGreatDoorRows.lean that lists a variable, with what it lists TIED to the program's text (the seventh form; the later family's looks); each row that meets fmt, with fmt's text TOLD by the authors' own Lean function (tested against real Go, not proved from fmt's source: count such statements apart). THE CARD IS WHAT COUNTS. Prove the row's statement (the work); the ties are given (YtkplffkchanipaaGreatDoorTie.lean); close each card by the builder's one call (the guide's Derived/Test/ToyasCard.lean, 'card_holds'). Laid BY PROGRAM, IN A SANDBOX (cutbox-door.mjs). By AI agents, Wed Nov 11 2026. No macro, syntax, notation, axiom, sorry.
-/
import Derived.Test.YtkplffkchanipaaGreatDoorRows
import GoSem.ClaimSeven
namespace Go.Proofs.YtkplffkchanipaaGreatDoor
namespace Rows

/-- THE TIED CARD OF 'glacierlaw06.ChunkRoom'. -/
def chunkRoomCard : Claim7 := { stood := { row := chunkRoomRow, standIns := [], harness := (true, "f7610df6d517c6fafaf7015534259c39d790977afb990bfe182ccecf829e9f01"), looks := false }, kinds := [], alts := [], laidByText := true, laidKinds := [.data, .data, .data, .data], laidTests := true, laidLooks := .later }
def ChunkRoomCardSaid : Prop := Claim7.holds Tryz.pinned (.plain (OpenSpec.ofChange chunkRoomSpec)) chunkRoomCard

/-- THE TIED CARD OF 'glacierlaw06.ChunkAgain'. -/
def chunkAgainCard : Claim7 := { stood := { row := chunkAgainRow, standIns := [], harness := (true, "f7610df6d517c6fafaf7015534259c39d790977afb990bfe182ccecf829e9f01"), looks := false }, kinds := [], alts := [], laidByText := true, laidKinds := [.data, .data, .data, .data], laidTests := true, laidLooks := .later }
def ChunkAgainCardSaid : Prop := Claim7.holds Tryz.pinned (.plain (OpenSpec.ofChange chunkAgainSpec)) chunkAgainCard

/-- THE TIED CARD OF 'glacierlaw06.ChunkSpoilt'. -/
def chunkSpoiltCard : Claim7 := { stood := { row := chunkSpoiltRow, standIns := [], harness := (true, "f7610df6d517c6fafaf7015534259c39d790977afb990bfe182ccecf829e9f01"), looks := false }, kinds := [], alts := [], laidByText := true, laidKinds := [.data, .data, .data, .data], laidTests := true, laidLooks := .later }
def ChunkSpoiltCardSaid : Prop := Claim7.holds Tryz.pinned (.plain (OpenSpec.ofChange chunkSpoiltSpec)) chunkSpoiltCard

/-- THE TIED CARD OF 'glacierlaw06.ChunkTwice'. -/
def chunkTwiceCard : Claim7 := { stood := { row := chunkTwiceRow, standIns := [], harness := (true, "f7610df6d517c6fafaf7015534259c39d790977afb990bfe182ccecf829e9f01"), looks := false }, kinds := [], alts := [], laidByText := true, laidKinds := [.data, .data, .data, .data], laidTests := true, laidLooks := .later }
def ChunkTwiceCardSaid : Prop := Claim7.holds Tryz.pinned (.plain (OpenSpec.ofChange chunkTwiceSpec)) chunkTwiceCard

/-- THE TIED CARD OF 'glacierlaw06.ChunkCompact'. -/
def chunkCompactCard : Claim7 := { stood := { row := chunkCompactRow, standIns := [], harness := (true, "f7610df6d517c6fafaf7015534259c39d790977afb990bfe182ccecf829e9f01"), looks := false }, kinds := [], alts := [], laidByText := true, laidKinds := [.data, .data, .data, .data], laidTests := true, laidLooks := .later }
def ChunkCompactCardSaid : Prop := Claim7.holds Tryz.pinned (.plain (OpenSpec.ofChange chunkCompactSpec)) chunkCompactCard

/-- THE TIED CARD OF 'glacierlaw19.NodeDrops'. -/
def nodeDropsCard : Claim7 := { stood := { row := nodeDropsRow, standIns := [], harness := (true, "f7610df6d517c6fafaf7015534259c39d790977afb990bfe182ccecf829e9f01"), looks := false }, kinds := [], alts := [], laidByText := true, laidKinds := [.data, .data, .data, .data], laidTests := true, laidLooks := .later }
def NodeDropsCardSaid : Prop := Claim7.holds Tryz.pinned (.plain (OpenSpec.ofChange nodeDropsSpec)) nodeDropsCard

/-- THE TIED CARD OF 'glacierlaw19.NodeKept'. -/
def nodeKeptCard : Claim7 := { stood := { row := nodeKeptRow, standIns := [], harness := (true, "f7610df6d517c6fafaf7015534259c39d790977afb990bfe182ccecf829e9f01"), looks := false }, kinds := [], alts := [], laidByText := true, laidKinds := [.data, .data, .data, .data], laidTests := true, laidLooks := .later }
def NodeKeptCardSaid : Prop := Claim7.holds Tryz.pinned (.plain (OpenSpec.ofChange nodeKeptSpec)) nodeKeptCard

/-- THE TIED CARD OF 'glacierlaw19.NodeLost'. -/
def nodeLostCard : Claim7 := { stood := { row := nodeLostRow, standIns := [], harness := (true, "f7610df6d517c6fafaf7015534259c39d790977afb990bfe182ccecf829e9f01"), looks := false }, kinds := [], alts := [], laidByText := true, laidKinds := [.data, .data, .data, .data], laidTests := true, laidLooks := .later }
def NodeLostCardSaid : Prop := Claim7.holds Tryz.pinned (.plain (OpenSpec.ofChange nodeLostSpec)) nodeLostCard

/-- THE TIED CARD OF 'glacierlaw19.NodePlays'. -/
def nodePlaysCard : Claim7 := { stood := { row := nodePlaysRow, standIns := [], harness := (true, "f7610df6d517c6fafaf7015534259c39d790977afb990bfe182ccecf829e9f01"), looks := false }, kinds := [], alts := [], laidByText := true, laidKinds := [.data, .data, .data, .data], laidTests := true, laidLooks := .later }
def NodePlaysCardSaid : Prop := Claim7.holds Tryz.pinned (.plain (OpenSpec.ofChange nodePlaysSpec)) nodePlaysCard

/-- THE SECOND FORM's CARD OF 'glacierlaw06.ChunkRoom'. -/
def chunkRoomUptoCard : Claim7 := { stood := { row := chunkRoomUptoRow, standIns := [], harness := (true, "f7610df6d517c6fafaf7015534259c39d790977afb990bfe182ccecf829e9f01"), looks := false }, kinds := [], alts := [], laidByText := true, laidKinds := [.data, .data, .data, .data], laidTests := true, laidLooks := .later }
def ChunkRoomUptoCardSaid : Prop := Claim7.holds Tryz.pinned (.plain (OpenSpec.upto chunkRoomSpec)) chunkRoomUptoCard

/-- THE SECOND FORM's CARD OF 'glacierlaw06.ChunkAgain'. -/
def chunkAgainUptoCard : Claim7 := { stood := { row := chunkAgainUptoRow, standIns := [], harness := (true, "f7610df6d517c6fafaf7015534259c39d790977afb990bfe182ccecf829e9f01"), looks := false }, kinds := [], alts := [], laidByText := true, laidKinds := [.data, .data, .data, .data], laidTests := true, laidLooks := .later }
def ChunkAgainUptoCardSaid : Prop := Claim7.holds Tryz.pinned (.plain (OpenSpec.upto chunkAgainSpec)) chunkAgainUptoCard

/-- THE SECOND FORM's CARD OF 'glacierlaw06.ChunkSpoilt'. -/
def chunkSpoiltUptoCard : Claim7 := { stood := { row := chunkSpoiltUptoRow, standIns := [], harness := (true, "f7610df6d517c6fafaf7015534259c39d790977afb990bfe182ccecf829e9f01"), looks := false }, kinds := [], alts := [], laidByText := true, laidKinds := [.data, .data, .data, .data], laidTests := true, laidLooks := .later }
def ChunkSpoiltUptoCardSaid : Prop := Claim7.holds Tryz.pinned (.plain (OpenSpec.upto chunkSpoiltSpec)) chunkSpoiltUptoCard

/-- THE SECOND FORM's CARD OF 'glacierlaw06.ChunkTwice'. -/
def chunkTwiceUptoCard : Claim7 := { stood := { row := chunkTwiceUptoRow, standIns := [], harness := (true, "f7610df6d517c6fafaf7015534259c39d790977afb990bfe182ccecf829e9f01"), looks := false }, kinds := [], alts := [], laidByText := true, laidKinds := [.data, .data, .data, .data], laidTests := true, laidLooks := .later }
def ChunkTwiceUptoCardSaid : Prop := Claim7.holds Tryz.pinned (.plain (OpenSpec.upto chunkTwiceSpec)) chunkTwiceUptoCard

/-- THE SECOND FORM's CARD OF 'glacierlaw06.ChunkCompact'. -/
def chunkCompactUptoCard : Claim7 := { stood := { row := chunkCompactUptoRow, standIns := [], harness := (true, "f7610df6d517c6fafaf7015534259c39d790977afb990bfe182ccecf829e9f01"), looks := false }, kinds := [], alts := [], laidByText := true, laidKinds := [.data, .data, .data, .data], laidTests := true, laidLooks := .later }
def ChunkCompactUptoCardSaid : Prop := Claim7.holds Tryz.pinned (.plain (OpenSpec.upto chunkCompactSpec)) chunkCompactUptoCard

/-- THE SECOND FORM's CARD OF 'glacierlaw19.NodeDrops'. -/
def nodeDropsUptoCard : Claim7 := { stood := { row := nodeDropsUptoRow, standIns := [], harness := (true, "f7610df6d517c6fafaf7015534259c39d790977afb990bfe182ccecf829e9f01"), looks := false }, kinds := [], alts := [], laidByText := true, laidKinds := [.data, .data, .data, .data], laidTests := true, laidLooks := .later }
def NodeDropsUptoCardSaid : Prop := Claim7.holds Tryz.pinned (.plain (OpenSpec.upto nodeDropsSpec)) nodeDropsUptoCard

/-- THE SECOND FORM's CARD OF 'glacierlaw19.NodeKept'. -/
def nodeKeptUptoCard : Claim7 := { stood := { row := nodeKeptUptoRow, standIns := [], harness := (true, "f7610df6d517c6fafaf7015534259c39d790977afb990bfe182ccecf829e9f01"), looks := false }, kinds := [], alts := [], laidByText := true, laidKinds := [.data, .data, .data, .data], laidTests := true, laidLooks := .later }
def NodeKeptUptoCardSaid : Prop := Claim7.holds Tryz.pinned (.plain (OpenSpec.upto nodeKeptSpec)) nodeKeptUptoCard

/-- THE SECOND FORM's CARD OF 'glacierlaw19.NodeLost'. -/
def nodeLostUptoCard : Claim7 := { stood := { row := nodeLostUptoRow, standIns := [], harness := (true, "f7610df6d517c6fafaf7015534259c39d790977afb990bfe182ccecf829e9f01"), looks := false }, kinds := [], alts := [], laidByText := true, laidKinds := [.data, .data, .data, .data], laidTests := true, laidLooks := .later }
def NodeLostUptoCardSaid : Prop := Claim7.holds Tryz.pinned (.plain (OpenSpec.upto nodeLostSpec)) nodeLostUptoCard

/-- THE SECOND FORM's CARD OF 'glacierlaw19.NodePlays'. -/
def nodePlaysUptoCard : Claim7 := { stood := { row := nodePlaysUptoRow, standIns := [], harness := (true, "f7610df6d517c6fafaf7015534259c39d790977afb990bfe182ccecf829e9f01"), looks := false }, kinds := [], alts := [], laidByText := true, laidKinds := [.data, .data, .data, .data], laidTests := true, laidLooks := .later }
def NodePlaysUptoCardSaid : Prop := Claim7.holds Tryz.pinned (.plain (OpenSpec.upto nodePlaysSpec)) nodePlaysUptoCard
end Rows
end Go.Proofs.YtkplffkchanipaaGreatDoor
