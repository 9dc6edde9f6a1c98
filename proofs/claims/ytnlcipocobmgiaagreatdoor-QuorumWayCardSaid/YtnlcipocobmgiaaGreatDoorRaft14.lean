/- The contract of (*raft.Node).onHave: a node has entries. -/
import Derived.Test.YtnlcipocobmgiaaGreatDoorRaftB
namespace Go.Proofs.YtnlcipocobmgiaaGreatDoor
open Go.RowKit
attribute [local go_sem] size_bs bs_append bs_extract

def Rn.setM (N : Rn) (i k : Nat) : Rn := { N with mt := N.mt.set i (max (N.mt.getD i 0) k) }
def Rn.setX (N : Rn) (i : Nat) : Rn := { N with nx := N.nx.set i (max (N.nx.getD i 0) (N.mt.getD i 0 + 1)) }
def Rn.haved (N : Rn) (i k : Nat) : Rn := (N.setM i k).advance.setX i
/-- Where the next entry of a node is behind that. -/
def Rn.nextOf (N : Rn) (i k : Nat) : Nat := max (N.nx.getD i 0) (max (N.mt.getD i 0) k + 1)
def Rn.has (N : Rn) (i k : Nat) : Rn := if N.nextOf i k ≤ N.st.last.1 ∧ k + 1 = N.nextOf i k then (N.haved i k).lacks i else N.haved i k
theorem getD_set_same (l : List Nat) (i x : Nat) (h : i < l.length) : (l.set i x).getD i 0 = x := by simp [List.getD, h]
theorem haved_eq (N : Rn) (i k : Nat) (h : i < N.mt.length) : N.haved i k = { (N.setM i k).advance with nx := N.nx.set i (N.nextOf i k) } := by
  unfold Rn.haved Rn.setX Rn.nextOf
  have h1 : (N.setM i k).advance.mt.getD i 0 = max (N.mt.getD i 0) k := getD_set_same _ _ _ h
  rw [h1]
  rfl

section
variable {w : World} {V : Nv} {N : Rn} {D : Dk} {eA : Option Addr} {en ec : Nat}
theorem Rn.Sm.setM (h : N.Sm) (i k : Nat) (hk : k ≤ 2199023255552) : (N.setM i k).Sm :=
  ⟨h.n, h.id, h.term, h.base, h.baseTerm, h.snap, h.log, h.ents, h.commit, h.applied, h.timer, h.out, by simpa [Rn.setM] using h.mt, h.nx, h.votes, h.nxs, (by
    intro x hx
    rcases List.mem_or_eq_of_mem_set hx with hx | rfl
    · exact h.mts x hx
    · have : N.mt.getD i 0 ≤ 2199023255552 := by
        by_cases hi : i < N.mt.length
        · have := h.mts N.mt[i] (List.getElem_mem hi)
          simpa [List.getD, hi] using this
        · simp [List.getD, hi]
      omega)⟩
theorem Rn.Sm.haved (h : N.Sm) (i k : Nat) (hk : k ≤ 2199023255552) (hc : (N.setM i k).advance.commit ≤ 2199023255552) (hi : i < N.mt.length) : (N.haved i k).Sm := by
  have h1 := h.setM i k hk
  rw [haved_eq N i k hi]
  refine ⟨h.n, h.id, h.term, h.base, h.baseTerm, h.snap, h.log, h.ents, hc, h.applied, h.timer, h.out, h1.mt, ?_, h.votes, ?_, h1.mts⟩
  · rcases h.nx with h2 | h2
    · left
      show (N.nx.set i _).length = N.n
      rw [List.length_set]
      exact h2
    · right
      show N.nx.set i _ = []
      rw [h2]
      rfl
  intro x hx
  rcases List.mem_or_eq_of_mem_set hx with hx | rfl
  · exact h.nxs x hx
  · have hm : N.mt.getD i 0 ≤ 2199023255552 := by
      have := h.mts N.mt[i] (List.getElem_mem hi)
      simpa [List.getD, hi] using this
    have hn : N.nx.getD i 0 ≤ 2199023255553 := by
      by_cases hi : i < N.nx.length
      · have := (h.nxs N.nx[i] (List.getElem_mem hi)).2
        simpa [List.getD, hi] using this
      · simp [List.getD, hi]
    unfold Rn.nextOf
    omega
theorem adv_le (N : Rn) (K : Nat) (h0 : N.commit ≤ K) : ∀ l : List En, (∀ e ∈ l, e.index ≤ K) → N.adv l ≤ K
  | [], _ => h0
  | x :: l, h => by
    unfold Rn.adv
    split
    · exact h0
    · split
      · exact h x (by simp)
      · exact adv_le N K h0 l (fun e he => h e (by simp [he]))
set_option maxRecDepth 100000 in
set_option maxHeartbeats 4000000 in
theorem onHave_yes (h : NodeAt w V N D) (hS : N.Sm) (hmt : N.mt.length = N.n) (hnx : N.nx.length = N.n) (i : Nat) (hi : i < N.n) (k : Nat) (hk : k ≤ N.st.last.1) (hkb : k ≤ 2199023255552) (hout : N.out.length ≤ 999990) (a0 a2 a3 a5 a6 : Int) :
    Calls Tryz.prog 60 #[.pointer (some ⟨V.r, 0, none⟩), .agg #[.int .i64 a0, .int .i64 (i : Int), .int .i64 a2, .int .i64 a3, .int .i64 (k : Int), .int .i64 a5, .int .i64 a6, .bool true, .slice eA en ec, .string { data := #[] }]] w fun e w' => e = .returned (.tuple #[]) ∧ ∃ V', NodeAt w' V' (N.has i k) D ∧ NodeTo V V' w w' := by
  have hn5 := hS.n
  obtain ⟨gm, hgm, hmb, hmc⟩ := h.rest.ma.cell (i := i) (by rw [nums_len]; omega)
  rw [nums_at _ _ (by omega)] at hmc
  obtain ⟨gn, hgn, hnb, hnc⟩ := h.rest.ne.cell (i := i) (by rw [nums_len]; omega)
  rw [nums_at _ _ (by omega)] at hnc
  obtain ⟨xm, hxm⟩ : ∃ xm, xm = max (N.mt.getD i 0) k := ⟨_, rfl⟩
  obtain ⟨yn, hyn⟩ : ∃ yn, yn = N.nextOf i k := ⟨_, rfl⟩
  have hS1 := hS.setM i k hkb
  have hcm1 : (N.setM i k).advance.commit ≤ 2199023255552 := adv_le (N.setM i k) _ hS.commit _ (fun e he => (hS.ents e (List.mem_reverse.1 he)).1)
  have hSh := hS.haved i k hkb hcm1 (by omega)
  have hmtb : N.mt.getD i 0 ≤ 2199023255552 := by
    have := hS.mts N.mt[i] (List.getElem_mem (by omega))
    simpa [List.getD, show i < N.mt.length by omega] using this
  have hnxb : N.nx.getD i 0 ≤ 2199023255553 := by
    have := (hS.nxs N.nx[i] (List.getElem_mem (by omega))).2
    simpa [List.getD, show i < N.nx.length by omega] using this
  have hHAS : N.has i k = if yn ≤ N.st.last.1 ∧ k + 1 = yn then (N.haved i k).lacks i else N.haved i k := by rw [hyn]; rfl
  have hhe := haved_eq N i k (by omega)
  rw [← hyn] at hhe
  have hyn2 : yn = max (N.nx.getD i 0) (xm + 1) := by rw [hyn, hxm]; rfl
  have HM : N.setM i k = { N with mt := N.mt.set i xm } := by rw [hxm]; rfl
  have hmget : (N.setM i k).advance.mt.getD i 0 = xm := by rw [hxm]; exact getD_set_same _ _ _ (by omega)
  have c15 : w.cell? ⟨V.r, 15, none⟩ = some (arrV V.ma N.mt.length) := h.blk.cell 15
  have c16 : w.cell? ⟨V.r, 16, none⟩ = some (arrV V.ne N.nx.length) := h.blk.cell 16
  rw [hgm, hmt] at c15
  rw [hgn, hnx] at c16
  change w.cell? ⟨V.r, 15, none⟩ = some (.slice (some ⟨gm, 0, none⟩) N.n N.n) at c15
  change w.cell? ⟨V.r, 16, none⟩ = some (.slice (some ⟨gn, 0, none⟩) N.n N.n) at c16
  have fm : w.frozen? ⟨gm, i, none⟩ = false := hmb.frozen i
  have hrl := h.blk.lt
  have hgml := hmb.lt
  have hgnl := hnb.lt
  have hfpl := h.fp_lt
  have hgr : gn ≠ V.r := fun e => h.r_ne.2.2.2.2.2.1 (e ▸ hgn)
  have hgr2 : V.r ≠ gn := Ne.symm hgr
  have hgs : gn ≠ w.heap.size := by omega
  have hgs2 : w.heap.size ≠ gn := by omega
  have HB0 : Hid (Blk (w.alloc (.cells #[.int .i64 a0, .int .i64 (i : Int), .int .i64 a2, .int .i64 a3, .int .i64 (k : Int), .int .i64 a5, .int .i64 a6, .bool true, .slice eA en ec, .string { data := #[] }] 56)) w.heap.size 56 #[.int .i64 a0, .int .i64 (i : Int), .int .i64 a2, .int .i64 a3, .int .i64 (k : Int), .int .i64 a5, .int .i64 a6, .bool true, .slice eA en ec, .string { data := #[] }]) := Blk.new _ _ _
  have HL : Hid (∀ W, Keep [] w W → Calls Tryz.prog 14 #[.pointer (some ⟨V.r, 0, none⟩)] W fun e w' => e = .returned (.int .i64 (N.st.last.1 : Int)) ∧ ∃ n, w' = W.drewN n) := fun W hk => nlast_calls (h.grow hk) (by have := hS.log; omega)
  have HN1 : Hid (∀ nd, NodeAt (((w.alloc (.cells #[.int .i64 a0, .int .i64 (i : Int), .int .i64 a2, .int .i64 a3, .int .i64 (k : Int), .int .i64 a5, .int .i64 a6, .bool true, .slice eA en ec, .string { data := #[] }] 56)).drewN nd).setCell ⟨gm, i, none⟩ (.int .i64 (xm : Int))) V (N.setM i k) D ∧ NodeTo V V w (((w.alloc (.cells #[.int .i64 a0, .int .i64 (i : Int), .int .i64 a2, .int .i64 a3, .int .i64 (k : Int), .int .i64 a5, .int .i64 a6, .bool true, .slice eA en ec, .string { data := #[] }] 56)).drewN nd).setCell ⟨gm, i, none⟩ (.int .i64 (xm : Int)))) := fun nd => by
    have hg0 : Keep [] w ((w.alloc (.cells #[.int .i64 a0, .int .i64 (i : Int), .int .i64 a2, .int .i64 a3, .int .i64 (k : Int), .int .i64 a5, .int .i64 a6, .bool true, .slice eA en ec, .string { data := #[] }] 56)).drewN nd) := ((Keep.refl _ _).alloc _).drewN nd
    have := (h.grow hg0).setMt (NodeTo.grow V hg0) hgm i xm rfl
    rw [← HM] at this
    exact this
  have HB1 : Hid (∀ nd, Blk (((w.alloc (.cells #[.int .i64 a0, .int .i64 (i : Int), .int .i64 a2, .int .i64 a3, .int .i64 (k : Int), .int .i64 a5, .int .i64 a6, .bool true, .slice eA en ec, .string { data := #[] }] 56)).drewN nd).setCell ⟨gm, i, none⟩ (.int .i64 (xm : Int))) w.heap.size 56 #[.int .i64 a0, .int .i64 (i : Int), .int .i64 a2, .int .i64 a3, .int .i64 (k : Int), .int .i64 a5, .int .i64 a6, .bool true, .slice eA en ec, .string { data := #[] }]) := fun nd => ((Blk.new w 56 #[.int .i64 a0, .int .i64 (i : Int), .int .i64 a2, .int .i64 a3, .int .i64 (k : Int), .int .i64 a5, .int .i64 a6, .bool true, .slice eA en ec, .string { data := #[] }]).drewN nd).far (by simp; omega) _
  have HCELL : Hid (∀ W, NodeAt W V (N.setM i k).advance D → W.cell? ⟨V.r, 15, none⟩ = some (.slice (some ⟨gm, 0, none⟩) N.n N.n) ∧ W.cell? ⟨V.r, 16, none⟩ = some (.slice (some ⟨gn, 0, none⟩) N.n N.n) ∧ W.cell? ⟨gm, i, none⟩ = some (.int .i64 (xm : Int)) ∧ W.cell? ⟨gn, i, none⟩ = some (.int .i64 ((N.nx.getD i 0 : Nat) : Int)) ∧ W.frozen? ⟨gn, i, none⟩ = false) := fun W hW => by
    have k15 : W.cell? ⟨V.r, 15, none⟩ = some (arrV V.ma (N.mt.set i (max (N.mt.getD i 0) k)).length) := hW.blk.cell 15
    have k16 : W.cell? ⟨V.r, 16, none⟩ = some (arrV V.ne N.nx.length) := hW.blk.cell 16
    rw [hgm, List.length_set, hmt] at k15
    rw [hgn, hnx] at k16
    obtain ⟨g', e', -, hc'⟩ := hW.rest.ma.cell (i := i) (by rw [nums_len]; show i < (N.mt.set i _).length; rw [List.length_set]; omega)
    obtain rfl : gm = g' := by rw [hgm] at e'; injection e'
    rw [nums_at _ _ (by show i < (N.mt.set i _).length; rw [List.length_set]; omega), hmget] at hc'
    obtain ⟨g2, e2, hb2, hc2⟩ := hW.rest.ne.cell (i := i) (by rw [nums_len]; show i < N.nx.length; omega)
    obtain rfl : gn = g2 := by rw [hgn] at e2; injection e2
    rw [nums_at _ _ (by show i < N.nx.length; omega)] at hc2
    exact ⟨k15, k16, hc', hc2, hb2.frozen i⟩
  have HN2 : Hid (∀ w2, NodeAt w2 V (N.setM i k).advance D → NodeTo V V w w2 → ∀ W, Keep [] (w2.setCell ⟨gn, i, none⟩ (.int .i64 (yn : Int))) W → NodeAt W V (N.haved i k) D ∧ NodeTo V V w W) := fun w2 h2 t2 W hk => by
    have h3 := h2.setNx t2 hgn i yn rfl
    have e : ({ (N.setM i k).advance with nx := (N.setM i k).advance.nx.set i yn } : Rn) = N.haved i k := by rw [hhe]; rfl
    rw [e] at h3
    exact ⟨h3.1.grow hk, h3.2.trans (NodeTo.grow V hk)⟩
  have HA : Hid (∀ W, NodeAt W V (N.setM i k) D → Calls Tryz.prog 83 #[.pointer (some ⟨V.r, 0, none⟩)] W fun e w' => e = .returned (.tuple #[]) ∧ NodeAt w' V (N.setM i k).advance D ∧ NodeTo V V W w') := fun W hW => advance_calls hW hS1 (by show (N.mt.set i _).length = N.n; rw [List.length_set]; exact hmt)
  have HLK : Hid (∀ W, NodeAt W V (N.haved i k) D ∧ NodeTo V V w W → Calls Tryz.prog 79 #[.pointer (some ⟨V.r, 0, none⟩), .int .i64 (i : Int)] W fun e w' => e = .returned (.tuple #[]) ∧ ∃ V', NodeAt w' V' ((N.haved i k).lacks i) D ∧ NodeTo V V' w w') := fun W hW => by
    refine (lacks_calls hW.1 hSh i (by rw [hhe]; show i < (N.nx.set i yn).length; rw [List.length_set]; omega) (by rw [hhe]; show N.out.length ≤ _; omega)).mono ?_
    rintro e w' ⟨rfl, V', h1, h2⟩
    exact ⟨rfl, V', h1, hW.2.trans h2⟩
  have HHAS := Lib.hid hHAS
  have HFP : Hid (w.heap.size ∉ V.fp) := fun hx => by have := hfpl _ hx; omega
  clear h hS hS1 hhe hHAS hnx hmt hgm hgn hmb hnb hSh hout hfpl hcm1 HM hyn hmget
  generalize N.mt.getD i 0 = m0 at *
  generalize N.nx.getD i 0 = n0 at *
  generalize N.st.last.1 = L at *
  have hmx : max (m0 : Int) (k : Int) = (xm : Int) := by omega
  have hnxx : max (n0 : Int) ((xm : Int) + 1) = (yn : Int) := by omega
  have hw1 : IntKind.i64.wrap ((xm : Int) + 1) = (xm : Int) + 1 := IntWalk.i64_in _ (by omega)
  have hw2 : IntKind.i64.wrap ((yn : Int) - 1) = (yn : Int) - 1 := IntWalk.i64_in _ (by omega)
  have di : decide ((i : Int) < (N.n : Int)) = true := by simp; omega
  have hin : (i : Int) < (N.n : Int) := by omega
  have dk : decide ((k : Int) ≤ (L : Int)) = true := by simp; omega
  clear hxm hyn2
  by_cases hA : yn ≤ L
  · have dA : decide ((yn : Int) ≤ (L : Int)) = true := by simp; omega
    by_cases hB : k + 1 = yn
    · have dB : ((k : Int) == (yn : Int) - 1) = true := by simp; omega
      have HE : Hid (N.has i k = (N.haved i k).lacks i) := (by rw [HHAS.out, if_pos ⟨hA, hB⟩] : N.has i k = (N.haved i k).lacks i)
      clear hB
      go_enter Tryz.func60, Tryz.ntmps60
      go_wp2_with (go_at_call 14; (with_reducible refine (HL.out _ (by repeat (first | exact Keep.refl _ _ | refine Keep.drew ?_ | refine Keep.drewN ?_ _ | refine Keep.alloc ?_ _))).mono ?_); rintro e w1 ⟨rfl, n1, rfl⟩)
      go_region
      go_wp2_with (go_at_call 83; (with_reducible refine (HA.out _ (HN1.out _).1).mono ?_); rintro e w2 ⟨rfl, h2, t2⟩; have hb2 := (HB1.out _).keep t2.keep HFP.out; have hbl2 := hb2.lt; obtain ⟨q15, q16, qm, qn, qf⟩ := HCELL.out _ h2; have x1 : w2.cell? ⟨w.heap.size, 1, none⟩ = some (.int .i64 (i : Int)) := hb2.cell 1; have x4 : w2.cell? ⟨w.heap.size, 4, none⟩ = some (.int .i64 (k : Int)) := hb2.cell 4; have HT2 : Hid (NodeTo V V w w2) := (HN1.out _).2.trans t2; have H2 := Lib.hid h2; clear h2 t2 hb2 c15 c16 hmc hnc fm)
      go_region
      go_wp2
      go_quiet (fail)
      go_wp2_with (go_at_call 79; (with_reducible refine (HLK.out _ (HN2.out _ H2.out HT2.out _ (by repeat (first | exact Keep.refl _ _ | refine Keep.drew ?_ | refine Keep.drewN ?_ _ | refine Keep.alloc ?_ _)))).mono ?_); rintro e w5 ⟨rfl, h5⟩)
      go_end0
      rw [HE.out]
      exact ⟨rfl, h5⟩
    · have dB : ((k : Int) == (yn : Int) - 1) = false := by simp; omega
      have HE : Hid (N.has i k = N.haved i k) := (by rw [HHAS.out, if_neg (fun h => hB h.2)] : N.has i k = N.haved i k)
      clear hB
      go_enter Tryz.func60, Tryz.ntmps60
      go_wp2_with (go_at_call 14; (with_reducible refine (HL.out _ (by repeat (first | exact Keep.refl _ _ | refine Keep.drew ?_ | refine Keep.drewN ?_ _ | refine Keep.alloc ?_ _))).mono ?_); rintro e w1 ⟨rfl, n1, rfl⟩)
      go_region
      go_wp2_with (go_at_call 83; (with_reducible refine (HA.out _ (HN1.out _).1).mono ?_); rintro e w2 ⟨rfl, h2, t2⟩; have hb2 := (HB1.out _).keep t2.keep HFP.out; have hbl2 := hb2.lt; obtain ⟨q15, q16, qm, qn, qf⟩ := HCELL.out _ h2; have x1 : w2.cell? ⟨w.heap.size, 1, none⟩ = some (.int .i64 (i : Int)) := hb2.cell 1; have x4 : w2.cell? ⟨w.heap.size, 4, none⟩ = some (.int .i64 (k : Int)) := hb2.cell 4; have HT2 : Hid (NodeTo V V w w2) := (HN1.out _).2.trans t2; have H2 := Lib.hid h2; clear h2 t2 hb2 c15 c16 hmc hnc fm)
      go_region
      go_wp2
      go_quiet (fail)
      go_wp2
      go_end0
      rw [HE.out]
      exact ⟨rfl, V, HN2.out _ H2.out HT2.out _ (by repeat (first | exact Keep.refl _ _ | refine Keep.drew ?_ | refine Keep.drewN ?_ _ | refine Keep.alloc ?_ _))⟩
  · have dA : decide ((yn : Int) ≤ (L : Int)) = false := by simp; omega
    have HE : Hid (N.has i k = N.haved i k) := (by rw [HHAS.out, if_neg (fun h => hA h.1)] : N.has i k = N.haved i k)
    go_enter Tryz.func60, Tryz.ntmps60
    go_wp2_with (go_at_call 14; (with_reducible refine (HL.out _ (by repeat (first | exact Keep.refl _ _ | refine Keep.drew ?_ | refine Keep.drewN ?_ _ | refine Keep.alloc ?_ _))).mono ?_); rintro e w1 ⟨rfl, n1, rfl⟩)
    go_region
    go_wp2_with (go_at_call 83; (with_reducible refine (HA.out _ (HN1.out _).1).mono ?_); rintro e w2 ⟨rfl, h2, t2⟩; have hb2 := (HB1.out _).keep t2.keep HFP.out; have hbl2 := hb2.lt; obtain ⟨q15, q16, qm, qn, qf⟩ := HCELL.out _ h2; have x1 : w2.cell? ⟨w.heap.size, 1, none⟩ = some (.int .i64 (i : Int)) := hb2.cell 1; have x4 : w2.cell? ⟨w.heap.size, 4, none⟩ = some (.int .i64 (k : Int)) := hb2.cell 4; have HT2 : Hid (NodeTo V V w w2) := (HN1.out _).2.trans t2; have H2 := Lib.hid h2; clear h2 t2 hb2 c15 c16 hmc hnc fm)
    go_region
    go_wp2
    go_quiet (fail)
    go_wp2
    go_end0
    rw [HE.out]
    exact ⟨rfl, V, HN2.out _ H2.out HT2.out _ (by repeat (first | exact Keep.refl _ _ | refine Keep.drew ?_ | refine Keep.drewN ?_ _ | refine Keep.alloc ?_ _))⟩
end

end Go.Proofs.YtnlcipocobmgiaaGreatDoor
