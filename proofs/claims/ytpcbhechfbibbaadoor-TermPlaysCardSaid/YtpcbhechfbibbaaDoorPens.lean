/- Slices of ints; entries that a law makes of commands and terms; what a disk then loads. -/
import Derived.Test.YtpcbhechfbibbaaDoorOlds
import Derived.Test.YtpcbhechfbibbaaDoorAwake
import Derived.Test.YtpcbhechfbibbaaDoorFrom
import Derived.Test.YtpcbhechfbibbaaDoorArrsAt
namespace Go.Proofs.YtpcbhechfbibbaaDoor
open Go.RowKit

/-- Entries numbered from 1, the rest by a function. -/
def ensF (f : Nat → En) (i : Nat) : List En := (List.range i).map f
theorem ensF_succ (f : Nat → En) (i : Nat) : ensF f (i + 1) = ensF f i ++ [f i] := by simp [ensF, List.range_succ]
@[simp] theorem ensF_len (f : Nat → En) (i : Nat) : (ensF f i).length = i := by simp [ensF]
theorem ensF_behind (f : Nat → En) (hf : ∀ j, (f j).index = j + 1) (i b : Nat) (hb : b ≤ i) : behind (ensF f i) b = (ensF f i).drop b := by
  have := behind_range f hf b i 0 (by omega) (by omega)
  unfold ensF
  rw [List.range_eq_range', this, ← List.map_drop]
  congr 1
  rw [List.drop_range']
  simp
theorem frs_app (a b : List En) : frs (a ++ b) = frs a ++ frs b := by simp [frs]

/-- What TermParts makes of a command and a number. -/
def pen (cs : List (List UInt8)) (ts : List Int) (j : Nat) : En := ⟨j + 1, (min (max (ts.getD j 0) 0) 100).toNat, (cs.getD j []).take 20⟩
theorem pen_fit (cs : List (List UInt8)) (ts : List Int) {j : Nat} (hj : j ≤ 1000) : (pen cs ts j).Fit ∧ (pen cs ts j).cmd.length ≤ 20 := by
  have : (List.take 20 (cs.getD j [])).length ≤ 20 := by rw [List.length_take]; omega
  exact ⟨⟨by simp only [pen]; omega, by simp only [pen]; omega, by simp only [pen]; omega⟩, this⟩
theorem pens_fit (cs : List (List UInt8)) (ts : List Int) {i : Nat} (hi : i ≤ 10) : ∀ e ∈ ensF (pen cs ts) i, e.Fit ∧ e.cmd.length ≤ 20 := by
  intro e he
  simp only [ensF, List.mem_map, List.mem_range] at he
  obtain ⟨j, hj, rfl⟩ := he
  exact pen_fit cs ts (by omega)

theorem parts_plain (cs : List (List UInt8)) (ts : List Int) (i n : Nat) (hi : i ≤ 10) (_hn : n ≤ i) :
    ∃ D1 D2, (Dk.start 100000).appendLog ((ensF (pen cs ts) i).take n) = (D1, 0) ∧ D1.appendLog ((ensF (pen cs ts) i).drop n) = (D2, 0) ∧ D2.load = (D2, ⟨0, 0, 0, 0, [], ensF (pen cs ts) i⟩, 0) ∧ D1.Good ∧ D2.Good := by
  have hc := calm_start 100000 (by decide)
  have hfit := pens_fit cs ts hi
  have f1 := frs_bound 20 (by decide) ((ensF (pen cs ts) i).take n) (fun e he => hfit e (List.mem_of_mem_take he))
  have f2 := frs_bound 20 (by decide) ((ensF (pen cs ts) i).drop n) (fun e he => hfit e (List.mem_of_mem_drop he))
  rw [List.length_take, ensF_len] at f1
  rw [List.length_drop, ensF_len] at f2
  have hz : ∀ m, (lookF m (Dk.start ↑(100000 : Nat)).files).now.text = [] := fun m => by simp [Dk.start, lookF, Fil.none_, St.none_]
  obtain ⟨D1, h1, c1, l1, o1⟩ := hc.appendLog ((ensF (pen cs ts) i).take n) (by omega)
  have c1' := c1.mono (j := 50000) (by omega)
  obtain ⟨D2, h2, c2, l2, o2⟩ := c1'.appendLog ((ensF (pen cs ts) i).drop n) (by omega)
  refine ⟨D1, D2, h1, h2, ?_, c1.good, c2.good⟩
  have k1 := c2.loadTerm_none (by rw [o2 nTerm (by decide), o1 nTerm (by decide), hz]; simp)
  have k2 := c2.loadSnap_none (by rw [o2 nSnap (by decide), o1 nSnap (by decide), hz]; simp)
  have k3 := c2.load k1 k2 (fun e he => (hfit e he).1) (by rw [l2, l1, hz]; simp only [List.nil_append]; rw [← frs_app, List.take_append_drop])
  rw [k3, ensF_behind _ (fun _ => rfl) _ _ (Nat.zero_le _)]
  rfl

end Go.Proofs.YtpcbhechfbibbaaDoor
