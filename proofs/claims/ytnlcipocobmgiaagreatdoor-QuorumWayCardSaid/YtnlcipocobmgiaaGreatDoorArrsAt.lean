/- Slices of strings. -/
import Derived.Test.YtnlcipocobmgiaaGreatDoorBase
namespace Go.Proofs.YtnlcipocobmgiaaGreatDoor
open Go.RowKit

/-- A slice value reads as strings. -/
def StrsAt (w : World) (v : Value) (l : List (List UInt8)) : Prop :=
  ∃ A c, v = .slice A l.length c ∧ (l ≠ [] → ∃ g o, A = some ⟨g, o, none⟩ ∧ ∀ j (h : j < l.length), w.cell? ⟨g, o + j, none⟩ = some (.string (bs l[j])))
theorem StrsAt.keep {w w' : World} {v : Value} {l : List (List UInt8)} (h : StrsAt w v l) (hk : Keep [] w w') : StrsAt w' v l := by
  obtain ⟨A, c, rfl, h2⟩ := h
  refine ⟨A, c, rfl, fun hne => ?_⟩
  obtain ⟨g, o, rfl, hc⟩ := h2 hne
  refine ⟨g, o, rfl, fun j hj => ?_⟩
  have h0 := hc j hj
  exact (hk.cell (World.block_lt_of_cell? _ _ h0) (by simp)).trans h0

end Go.Proofs.YtnlcipocobmgiaaGreatDoor
/- Slices of ints. -/
namespace Go.Proofs.YtnlcipocobmgiaaGreatDoor
open Go.RowKit

/-- A slice value reads as ints. -/
def IntsAt (w : World) (v : Value) (l : List Int) : Prop :=
  ∃ A c, v = .slice A l.length c ∧ (l ≠ [] → ∃ g o, A = some ⟨g, o, none⟩ ∧ ∀ j (h : j < l.length), w.cell? ⟨g, o + j, none⟩ = some (.int .i64 l[j]))
theorem IntsAt.keep {w w' : World} {v : Value} {l : List Int} (h : IntsAt w v l) (hk : Keep [] w w') : IntsAt w' v l := by
  obtain ⟨A, c, rfl, h2⟩ := h
  refine ⟨A, c, rfl, fun hne => ?_⟩
  obtain ⟨g, o, rfl, hc⟩ := h2 hne
  refine ⟨g, o, rfl, fun j hj => ?_⟩
  have h0 := hc j hj
  exact (hk.cell (World.block_lt_of_cell? _ _ h0) (by simp)).trans h0

end Go.Proofs.YtnlcipocobmgiaaGreatDoor
