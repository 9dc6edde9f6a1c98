/- The contract of (*State).Last. -/
import Derived.Test.YtnlcipocobmgiaaGreatDoorTermAll
import Derived.Test.YtnlcipocobmgiaaGreatDoorPlains
import Derived.BigQuiet
namespace Go.Proofs.YtnlcipocobmgiaaGreatDoor
open Go.RowKit
attribute [local go_sem] size_bs bs_append bs_extract

theorem own_ents {w : World} {B : Nat} {v : Value} {l : List En} (h : w.ownsRow B 62 3 v l.length (entsV l)) : EntsAt w v l := by
  rcases h.2 with ⟨rfl, h0⟩ | ⟨g, cap, cur, rfl, _, hh, _, _, _, h6⟩
  · have : l = [] := List.length_eq_zero_iff.1 h0
    subst this
    exact ⟨none, 0, rfl, fun h => absurd rfl h⟩
  · refine ⟨_, _, rfl, fun _ => ⟨g, 0, rfl, fun j u hu => ?_⟩⟩
    rw [cell_of_row w g _ cur _ _ hh]
    rw [← h6] at hu
    rw [List.getElem?_take] at hu
    split at hu
    · simpa using hu
    · cases hu

/-- The number and the term of a state's last entry. -/
def Ts.last (s : Ts) : Nat × Nat := match s.log.getLast? with
  | some e => (e.index, e.term)
  | none => (s.base, s.baseTerm)

theorem last_nil_calls {w : World} {r : Nat} (s : Ts) (lg : Value) (hB : Blk w r 46 #[.int .i64 (s.term : Int), .int .i64 (s.vote : Int), .int .i64 (s.base : Int), .int .i64 (s.baseTerm : Int), .string (bs s.snap), lg]) (hl : EntsAt w lg s.log) (h0 : s.log = []) :
    Calls Tryz.prog 46 #[.pointer (some ⟨r, 0, none⟩)] w fun e w' => e = .returned (.tuple #[.int .i64 (s.last.1 : Int), .int .i64 (s.last.2 : Int)]) ∧ ∃ k, w' = w.drewN k := by
  obtain ⟨A, c, rfl, -⟩ := hl
  have hlast : s.last = (s.base, s.baseTerm) := by simp [Ts.last, h0]
  rw [hlast]
  have c2 : w.cell? ⟨r, 2, none⟩ = some (.int .i64 (s.base : Int)) := hB.cell 2
  have c3 : w.cell? ⟨r, 3, none⟩ = some (.int .i64 (s.baseTerm : Int)) := hB.cell 3
  have c5 : w.cell? ⟨r, 5, none⟩ = some (.slice A s.log.length c) := hB.cell 5
  have hl0 : s.log.length = 0 := by simp [h0]
  rw [hl0] at c5
  clear hB h0 hl0 hlast
  go_enter Tryz.func46, Tryz.ntmps46
  go_wp2
  go_quiet (fail)
  go_wp2
  go_ret2
  exact ⟨rfl, _, rfl⟩

theorem last_cons_calls {w : World} {r : Nat} (s : Ts) (lg : Value) (hB : Blk w r 46 #[.int .i64 (s.term : Int), .int .i64 (s.vote : Int), .int .i64 (s.base : Int), .int .i64 (s.baseTerm : Int), .string (bs s.snap), lg]) (hl : EntsAt w lg s.log) (h0 : s.log ≠ []) (hn : s.log.length ≤ 4611686018427387904) :
    Calls Tryz.prog 46 #[.pointer (some ⟨r, 0, none⟩)] w fun e w' => e = .returned (.tuple #[.int .i64 (s.last.1 : Int), .int .i64 (s.last.2 : Int)]) ∧ ∃ k, w' = w.drewN k := by
  obtain ⟨A, c, rfl, hcc⟩ := hl
  obtain ⟨g, o, rfl, hc⟩ := hcc h0
  clear hcc
  have hpos : 0 < s.log.length := List.length_pos_iff.2 h0
  have hlast : s.last = ((s.log[s.log.length - 1]'(by omega)).index, (s.log[s.log.length - 1]'(by omega)).term) := by
    have : s.log.getLast? = some (s.log[s.log.length - 1]'(by omega)) := by rw [List.getLast?_eq_getElem?]; simp
    simp [Ts.last, this]
  obtain ⟨h1, h2, -⟩ := entsV_at s.log (s.log.length - 1) (by omega)
  rw [hlast]
  have k0 := hc _ _ h1
  have k1 := hc _ _ h2
  generalize (s.log[s.log.length - 1]'(by omega)).index = xi at *
  generalize (s.log[s.log.length - 1]'(by omega)).term = xt at *
  have c5 : w.cell? ⟨r, 5, none⟩ = some (.slice (some ⟨g, o, none⟩) s.log.length c) := hB.cell 5
  clear hB h0 hlast hc h1 h2
  generalize s.log.length = n at *
  obtain ⟨k, hk⟩ : ∃ k, n = k + 1 := ⟨n - 1, by omega⟩
  have hk1 : n - 1 = k := by omega
  have hsub : IntKind.i64.wrap ((n : Int) - 1) = (k : Int) := by rw [IntWalk.i64_in _ (by omega)]; omega
  have hkn : k < n := by omega
  rw [hk1, Nat.mul_comm] at k0 k1
  rw [← Nat.add_assoc] at k1
  clear hk hk1
  have hd : decide ((0 : Int) < (n : Int)) = true := by simpa using hpos
  go_enter Tryz.func46, Tryz.ntmps46
  go_wp2
  go_quiet (fail)
  go_wp2
  go_ret2
  exact ⟨rfl, _, rfl⟩

theorem last_calls {w : World} {r : Nat} (s : Ts) (lg : Value) (hB : Blk w r 46 #[.int .i64 (s.term : Int), .int .i64 (s.vote : Int), .int .i64 (s.base : Int), .int .i64 (s.baseTerm : Int), .string (bs s.snap), lg]) (hl : EntsAt w lg s.log) (hn : s.log.length ≤ 4611686018427387904) :
    Calls Tryz.prog 46 #[.pointer (some ⟨r, 0, none⟩)] w fun e w' => e = .returned (.tuple #[.int .i64 (s.last.1 : Int), .int .i64 (s.last.2 : Int)]) ∧ ∃ k, w' = w.drewN k := by
  by_cases h0 : s.log = []
  · exact last_nil_calls s lg hB hl h0
  · exact last_cons_calls s lg hB hl h0 hn

end Go.Proofs.YtnlcipocobmgiaaGreatDoor
