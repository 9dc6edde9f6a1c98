/- The contract of (*raft.Node).onHave at a no. -/
import Derived.Test.YtnlcipocobmgiaaGreatDoorRaft14
namespace Go.Proofs.YtnlcipocobmgiaaGreatDoor
open Go.RowKit
attribute [local go_sem] size_bs bs_append bs_extract

/-- Where the leader goes on from after a no. -/
def Rn.backTo (N : Rn) (i k : Nat) : Nat := max (min k (N.nx.getD i 0 - 2) + 1) (N.mt.getD i 0 + 1)
def Rn.backed (N : Rn) (i k : Nat) : Rn := { N with nx := N.nx.set i (N.backTo i k) }
section
variable {w : World} {V : Nv} {N : Rn} {D : Dk}
theorem Rn.Sm.backed (h : N.Sm) (i k : Nat) (hi : i < N.mt.length) (hk : k ≤ 2199023255552) : (N.backed i k).Sm := by
  refine ⟨h.n, h.id, h.term, h.base, h.baseTerm, h.snap, h.log, h.ents, h.commit, h.applied, h.timer, h.out, h.mt, ?_, h.votes, ?_, h.mts⟩
  · rcases h.nx with h2 | h2
    · left
      show (N.nx.set i _).length = N.n
      rw [List.length_set]
      exact h2
    · right
      show N.nx.set i _ = []
      rw [h2]
      rfl
  · intro x hx
    rcases List.mem_or_eq_of_mem_set hx with hx | rfl
    · exact h.nxs x hx
    · have hm : N.mt.getD i 0 ≤ 2199023255552 := by
        have := h.mts N.mt[i] (List.getElem_mem hi)
        simpa [List.getD, hi] using this
      unfold Rn.backTo
      omega
set_option maxRecDepth 100000 in
set_option maxHeartbeats 4000000 in
theorem onHave_no (h : NodeAt w V N D) (hS : N.Sm) (hmt : N.mt.length = N.n) (hnx : N.nx.length = N.n) (i : Nat) (hi : i < N.n) (k : Nat) (hkb : k ≤ 2199023255552) (hout : N.out.length ≤ 999990) (a0 a2 a3 a5 a6 : Int) :
    Calls Tryz.prog 60 #[.pointer (some ⟨V.r, 0, none⟩), .agg #[.int .i64 a0, .int .i64 (i : Int), .int .i64 a2, .int .i64 a3, .int .i64 (k : Int), .int .i64 a5, .int .i64 a6, .bool false, .slice none 0 0, .string { data := #[] }]] w fun e w' => e = .returned (.tuple #[]) ∧ ∃ V', NodeAt w' V' ((N.backed i k).lacks i) D ∧ NodeTo V V' w w' := by
  have hn5 := hS.n
  obtain ⟨gm, hgm, hmb, hmc⟩ := h.rest.ma.cell (i := i) (by rw [nums_len]; omega)
  rw [nums_at _ _ (by omega)] at hmc
  obtain ⟨gn, hgn, hnb, hnc⟩ := h.rest.ne.cell (i := i) (by rw [nums_len]; omega)
  rw [nums_at _ _ (by omega)] at hnc
  obtain ⟨yn, hyn⟩ : ∃ yn, yn = N.backTo i k := ⟨_, rfl⟩
  have hSb := hS.backed i k (by omega) hkb
  have hmtb : N.mt.getD i 0 ≤ 2199023255552 := by
    have := hS.mts N.mt[i] (List.getElem_mem (by omega))
    simpa [List.getD, show i < N.mt.length by omega] using this
  have hnxb : 1 ≤ N.nx.getD i 0 ∧ N.nx.getD i 0 ≤ 2199023255553 := by
    have := hS.nxs N.nx[i] (List.getElem_mem (by omega))
    simpa [List.getD, show i < N.nx.length by omega] using this
  have hyn2 : yn = max (min k (N.nx.getD i 0 - 2) + 1) (N.mt.getD i 0 + 1) := hyn
  have c15 : w.cell? ⟨V.r, 15, none⟩ = some (arrV V.ma N.mt.length) := h.blk.cell 15
  have c16 : w.cell? ⟨V.r, 16, none⟩ = some (arrV V.ne N.nx.length) := h.blk.cell 16
  rw [hgm, hmt] at c15
  rw [hgn, hnx] at c16
  change w.cell? ⟨V.r, 15, none⟩ = some (.slice (some ⟨gm, 0, none⟩) N.n N.n) at c15
  change w.cell? ⟨V.r, 16, none⟩ = some (.slice (some ⟨gn, 0, none⟩) N.n N.n) at c16
  have fn : w.frozen? ⟨gn, i, none⟩ = false := hnb.frozen i
  have hrl := h.blk.lt
  have hgml := hmb.lt
  have hgnl := hnb.lt
  have HLK : Hid (∀ W, Keep [] (w.setCell ⟨gn, i, none⟩ (.int .i64 (yn : Int))) W → Calls Tryz.prog 79 #[.pointer (some ⟨V.r, 0, none⟩), .int .i64 (i : Int)] W fun e w' => e = .returned (.tuple #[]) ∧ ∃ V', NodeAt w' V' ((N.backed i k).lacks i) D ∧ NodeTo V V' w w') := fun W hk => by
    have h3 := h.setNx (NodeTo.refl V w) hgn i yn rfl
    rw [hyn] at h3 hk
    have h4 := h3.1.grow hk
    have h5 := h3.2.trans (NodeTo.grow V hk)
    refine (lacks_calls (N := N.backed i k) h4 hSb i (by show i < (N.nx.set i _).length; rw [List.length_set]; omega) (by show N.out.length ≤ _; omega)).mono ?_
    rintro e w' ⟨rfl, V', h6, h7⟩
    exact ⟨rfl, V', h6, h5.trans h7⟩
  clear h hS hnx hmt hgm hgn hmb hnb hSb hout hyn
  generalize N.mt.getD i 0 = m0 at *
  generalize N.nx.getD i 0 = n0 at *
  have hmx : max (min (k : Int) ((n0 : Int) - 2) + 1) ((m0 : Int) + 1) = (yn : Int) := by omega
  have hw1 : IntKind.i64.wrap ((n0 : Int) - 2) = (n0 : Int) - 2 := IntWalk.i64_in _ (by omega)
  have hw2 : IntKind.i64.wrap (min (k : Int) ((n0 : Int) - 2) + 1) = min (k : Int) ((n0 : Int) - 2) + 1 := IntWalk.i64_in _ (by omega)
  have hw3 : IntKind.i64.wrap ((m0 : Int) + 1) = (m0 : Int) + 1 := IntWalk.i64_in _ (by omega)
  have di : decide ((i : Int) < (N.n : Int)) = true := by simp; omega
  have hin : (i : Int) < (N.n : Int) := by omega
  clear hyn2
  go_enter Tryz.func60, Tryz.ntmps60
  go_wp2
  go_region
  go_wp2_with (go_at_call 79; (with_reducible refine (HLK.out _ (by repeat (first | exact Keep.refl _ _ | refine Keep.drew ?_ | refine Keep.drewN ?_ _ | refine Keep.alloc ?_ _))).mono ?_); rintro e w5 ⟨rfl, h5⟩)
  ((try simp only [Exit.inBlock, Exit.then]); refine bodyPost_ret (results_none rfl _ _ _) rfl ?_)
  exact ⟨rfl, h5⟩
end

end Go.Proofs.YtnlcipocobmgiaaGreatDoor
