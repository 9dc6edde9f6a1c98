/- What TermBack's disk keeps. -/
import Derived.Test.YtpcbhechfbibbaaDoorCrashAll
import Derived.Test.YtpcbhechfbibbaaDoorOlds
import Derived.Test.YtpcbhechfbibbaaDoorAwake
namespace Go.Proofs.YtpcbhechfbibbaaDoor
open Go.RowKit

/-- The three files of package term. -/
def names3 : List (List UInt8) := [nTerm, nSnap, nLog]
theorem Dk.Names.saveTerm {D : Dk} (h : D.Names names3) (t v : Nat) : (D.saveTerm t v).1.Names names3 := h.save (by simp [names3]) _
theorem Dk.Names.rewrite {D : Dk} (h : D.Names names3) (l : List En) : (D.rewrite l).1.Names names3 := h.save (by simp [names3]) _
theorem Dk.Names.appendLog {D : Dk} (h : D.Names names3) (l : List En) : (D.appendLog l).1.Names names3 := by
  unfold Dk.appendLog
  split
  · exact h.change (by simp [names3]) _
  · exact Dk.Names.sync (h.change (by simp [names3]) _) (by simp [names3])
theorem Dk.Names.saveSnap {D : Dk} (h : D.Names names3) (b t : Nat) (s : List UInt8) (l : List En) : (D.saveSnap b t s l).1.Names names3 := by
  unfold Dk.saveSnap
  split
  · exact h.save (by simp [names3]) _
  · exact Dk.Names.rewrite (h.save (by simp [names3]) _) l
theorem names_start (n : Int) : (Dk.start n).Names names3 := ⟨by simp [Dk.start], by simp [Dk.start]⟩
theorem safe_start (n : Int) : (Dk.start n).Safe := fun m => by simp [Dk.start, lookF, Fil.none_]

theorem olds_drop_behind (t c : Nat) (cs : List (List UInt8)) (i n : Nat) (hn : n ≤ i) : behind ((olds t c cs i).drop n) n = (olds t c cs i).drop n := by
  have h1 : (olds t c cs i).drop n = (List.range' n (i - n)).map (fun j => (⟨j + 1, t, (cs.getD j []).take c⟩ : En)) := by
    unfold olds
    rw [List.range_eq_range', ← List.map_drop, List.drop_range']
    simp
  rw [h1, behind_range _ (fun _ => rfl) n (i - n) n (by omega) (Nat.le_refl _)]
  congr 2
  omega

theorem back_plain (cs : List (List UInt8)) (t v i n : Nat) (snap : List UInt8) (ht : t ≤ 1099511627776) (hv : v ≤ 5) (hs : snap.length ≤ 50) (hi : i ≤ 10) (hn : n ≤ i) :
    ∃ D1 D2 D3, (Dk.start 100000).appendLog (olds t 30 cs i) = (D1, 0) ∧ D1.saveTerm t v = (D2, 0) ∧ D2.saveSnap n t snap ((olds t 30 cs i).drop n) = (D3, 0) ∧
      D3.load = (D3, ⟨t, v, n, t, snap, (olds t 30 cs i).drop n⟩, 0) ∧ D1.Good ∧ D2.Good ∧ D3.Good ∧ D3.Safe ∧ D3.Names names3 := by
  have hc := calm_start 100000 (by decide)
  have hfit := olds_fit (t := t) (c := 30) (cs := cs) (i := i) (by omega) ht (by decide)
  have hfd : ∀ e ∈ (olds t 30 cs i).drop n, e.Fit ∧ e.cmd.length ≤ 30 := fun e he => hfit e (List.mem_of_mem_drop he)
  have f1 := frs_bound 30 (by decide) _ hfit
  have f2 := frs_bound 30 (by decide) _ hfd
  rw [olds_len] at f1
  rw [List.length_drop, olds_len] at f2
  have a1 := encU_len t (by omega)
  have a2 := encU_len v (by omega)
  have a3 := encU_len n (by omega)
  have a4 := encU_len snap.length (by omega)
  have n1 := (names_start 100000).appendLog (olds t 30 cs i)
  obtain ⟨D1, h1, c1, l1, o1⟩ := hc.appendLog (olds t 30 cs i) (by omega)
  have h1' : (Dk.start 100000).appendLog (olds t 30 cs i) = (D1, 0) := h1
  rw [h1'] at n1
  have s1 : D1.Safe := (safe_start 100000).of_look l1 o1
  have c1' := c1.mono (j := 50000) (by omega)
  have n2 := n1.saveTerm t v
  obtain ⟨D2, h2, c2, l2, o2⟩ := c1'.saveTerm t v (by simp only [frame_len, List.length_append]; omega)
  rw [h2] at n2
  have s2 : D2.Safe := s1.of_look l2 o2
  have c2' := c2.mono (j := 40000) (by simp only [frame_len, List.length_append]; omega)
  have n3 := n2.saveSnap n t snap ((olds t 30 cs i).drop n)
  obtain ⟨D3, h3, c3, l3, l3', o3⟩ := c2'.saveSnap n t snap ((olds t 30 cs i).drop n) (by
    simp only [frame_len, List.length_append, encS]
    omega)
  rw [h3] at n3
  obtain ⟨E1, g1, d1, k1, p1⟩ := c2'.save nSnap (by decide) (frame (encU n ++ (encU t ++ encS snap))) (by simp only [frame_len, List.length_append, encS]; omega)
  obtain ⟨E2, g2, d2, k2, p2⟩ := (d1.mono (j := 30000) (by simp only [frame_len, List.length_append, encS]; omega)).save nLog (by decide) (frs ((olds t 30 cs i).drop n)) (by omega)
  have hE : D2.saveSnap n t snap ((olds t 30 cs i).drop n) = (E2, 0) := by
    unfold Dk.saveSnap
    rw [g1, if_neg (by simp)]
    exact g2
  have hEq : E2 = D3 := by
    rw [hE] at h3
    exact congrArg Prod.fst h3
  subst hEq
  have s3 : E2.Safe := (s2.of_look k1 p1).of_look k2 p2
  have q1 := c3.loadTerm t v ht hv (by rw [o3, l2])
  have q2 := c3.loadSnap n t snap (by omega) ht (by omega) (by rw [l3])
  have q3 := c3.load q1 q2 (fun e he => (hfd e he).1) (by rw [l3'])
  rw [olds_drop_behind _ _ _ _ _ hn] at q3
  exact ⟨D1, D2, E2, h1, h2, h3, q3, c1.good, c2.good, c3.good, s3, n3⟩

end Go.Proofs.YtpcbhechfbibbaaDoor
