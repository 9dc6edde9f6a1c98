/- A node law's acts. -/
import Derived.Test.YtkplffkchanipaaGreatDoorIntsAt
namespace Go.Proofs.YtkplffkchanipaaGreatDoor
open Go.RowKit

/-- An act. -/
structure Na where
  kind : Int
  n : Int
  id : Nat
  s : List UInt8
  ch : List Int
/-- An act at a place. -/
def NActAt (w : World) (b off : Nat) (a : Na) (vc : Value) : Prop :=
  w.cell? ⟨b, off, none⟩ = some (.int .i64 a.kind) ∧ w.cell? ⟨b, off + 1, none⟩ = some (.int .i64 a.n) ∧ w.cell? ⟨b, off + 2, none⟩ = some (.int .u64 (a.id : Int)) ∧
    w.cell? ⟨b, off + 3, none⟩ = some (.string (bs a.s)) ∧ w.cell? ⟨b, off + 4, none⟩ = some vc ∧ IntsAt w vc a.ch ∧ (∀ x ∈ a.ch, -9223372036854775808 ≤ x ∧ x ≤ 9223372036854775807) ∧
    a.id < 18446744073709551616 ∧ a.s.length ≤ 9223372036854775807 ∧ -9223372036854775808 ≤ a.n ∧ a.n ≤ 9223372036854775807
theorem NActAt.keep {w w' : World} {b off : Nat} {a : Na} {vc : Value} (h : NActAt w b off a vc) (hk : Keep [] w w') : NActAt w' b off a vc := by
  obtain ⟨h0, h1, h2, h3, h4, h5, h6⟩ := h
  have hc : ∀ {p : Addr} {v : Value}, w.cell? p = some v → w'.cell? p = some v := fun hp => (hk.cell (World.block_lt_of_cell? _ _ hp) (by simp)).trans hp
  exact ⟨hc h0, hc h1, hc h2, hc h3, hc h4, h5.keep hk, h6⟩
/-- A slice value reads as acts. -/
def NActsAt (w : World) (v : Value) (l : List Na) : Prop :=
  ∃ A c, v = .slice A l.length c ∧ (l ≠ [] → ∃ g o, A = some ⟨g, o, none⟩ ∧ ∀ j (h : j < l.length), ∃ vc, NActAt w g (o + j * 5) l[j] vc)
theorem NActsAt.keep {w w' : World} {v : Value} {l : List Na} (h : NActsAt w v l) (hk : Keep [] w w') : NActsAt w' v l := by
  obtain ⟨A, c, rfl, h2⟩ := h
  refine ⟨A, c, rfl, fun hne => ?_⟩
  obtain ⟨g, o, rfl, hc⟩ := h2 hne
  refine ⟨g, o, rfl, fun j hj => ?_⟩
  obtain ⟨vc, h0⟩ := hc j hj
  exact ⟨vc, h0.keep hk⟩

end Go.Proofs.YtkplffkchanipaaGreatDoor
