/- glacierlaw11's acts: their kinds and numbers. -/
import Derived.Test.YtnlcipocobmgiaaGreatDoorArrsAt
namespace Go.Proofs.YtnlcipocobmgiaaGreatDoor
open Go.RowKit

/-- An act: its kind and its number. -/
structure Wa where
  kind : Int
  n : Int
/-- An act at a place. -/
def WActAt (w : World) (b off : Nat) (a : Wa) : Prop :=
  w.cell? ⟨b, off, none⟩ = some (.int .i64 a.kind) ∧ w.cell? ⟨b, off + 1, none⟩ = some (.int .i64 a.n) ∧ -9223372036854775808 ≤ a.n ∧ a.n ≤ 9223372036854775807
theorem WActAt.keep {w w' : World} {b off : Nat} {a : Wa} (h : WActAt w b off a) (hk : Keep [] w w') : WActAt w' b off a := by
  obtain ⟨h0, h1, h2⟩ := h
  have hc : ∀ {p : Addr} {v : Value}, w.cell? p = some v → w'.cell? p = some v := fun hp => (hk.cell (World.block_lt_of_cell? _ _ hp) (by simp)).trans hp
  exact ⟨hc h0, hc h1, h2⟩
/-- A slice value reads as acts. -/
def WActsAt (w : World) (v : Value) (l : List Wa) : Prop :=
  ∃ A c, v = .slice A l.length c ∧ (l ≠ [] → ∃ g o, A = some ⟨g, o, none⟩ ∧ ∀ j (h : j < l.length), WActAt w g (o + j * 5) l[j])
theorem WActsAt.keep {w w' : World} {v : Value} {l : List Wa} (h : WActsAt w v l) (hk : Keep [] w w') : WActsAt w' v l := by
  obtain ⟨A, c, rfl, h2⟩ := h
  refine ⟨A, c, rfl, fun hne => ?_⟩
  obtain ⟨g, o, rfl, hc⟩ := h2 hne
  exact ⟨g, o, rfl, fun j hj => (hc j hj).keep hk⟩

end Go.Proofs.YtnlcipocobmgiaaGreatDoor
