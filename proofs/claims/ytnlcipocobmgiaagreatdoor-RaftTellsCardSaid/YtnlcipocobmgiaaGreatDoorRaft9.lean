/- The contracts of (*raft.Node).Tick, Propose. -/
import Derived.Test.YtnlcipocobmgiaaGreatDoorRaft8
namespace Go.Proofs.YtnlcipocobmgiaaGreatDoor
open Go.RowKit
attribute [local go_sem] size_bs bs_append bs_extract

section
variable {w : World} {V : Nv} {N : Rn} {D : Dk}
theorem trues_set (n i : Nat) (h : i < n) : trues ((List.replicate n false).set i true) = 1 := by
  induction n generalizing i with
  | zero => omega
  | succ n ih =>
    cases i with
    | zero => simp [trues, List.replicate_succ]
    | succ i =>
      have := ih i (by omega)
      simpa [trues, List.replicate_succ] using this
theorem Rn.Sm.stands (h : N.Sm) (ht : N.st.term < 2199023255552) : N.stands.Sm :=
  ⟨h.n, h.id, by show N.st.term + 1 ≤ _; omega, h.base, h.baseTerm, h.snap, h.log, h.ents, h.commit, h.applied, by show 0 ≤ _; omega, h.out, .inr rfl, .inr rfl, .inl (by simp [Rn.stands]; rfl), (by intro x hx; cases hx), (by intro x hx; cases hx)⟩
theorem Rn.Sm.asked {k : Nat} (h : N.Sm) (hk : k ≤ 5) (ho : N.out.length ≤ 999990) : (N.asked k).Sm :=
  ⟨h.n, h.id, h.term, h.base, h.baseTerm, h.snap, h.log, h.ents, h.commit, h.applied, h.timer, (by have := asked_len N k; omega), h.mt, h.nx, h.votes, h.nxs, h.mts⟩

/-- An election that isn't won by its own vote. -/
theorem elect_many (h : NodeAt w V N D) (hg : D.Good) (hS : N.Sm) (hout : N.out.length ≤ 999980) {D1 : Dk} (hd : D.saveTerm (N.st.term + 1) (N.id + 1) = (D1, 0)) (hn : 2 ≤ N.n) :
    Calls Tryz.prog 43 #[.pointer (some ⟨V.r, 0, none⟩)] w fun e w' => e = .returned (.tuple #[]) ∧ ∃ V', NodeAt w' V' (N.stands.asked N.n) D1 ∧ NodeTo V V' w w' := by
  refine elect_any h hg hS hout hd _ (fun W U hW hT hr => ?_)
  have h1 := hS.n
  have h2 := hS.id
  have := count_no hW h1 h2 (by show N.stands.votes.length = N.n; simp [Rn.stands]) (by show 2 * trues N.stands.votes ≤ N.n; simp only [Rn.stands]; rw [trues_set _ _ h2]; omega)
  rw [hr] at this
  refine this.mono ?_
  rintro e w' ⟨rfl, rfl⟩
  exact ⟨rfl, U, hW, hT⟩
/-- The election of the only node. -/
theorem elect_one (h : NodeAt w V N D) (hg : D.Good) (hS : N.Sm) (hout : N.out.length ≤ 999970) {D1 D2 : Dk} (hd : D.saveTerm (N.st.term + 1) (N.id + 1) = (D1, 0)) (hg1 : D1.Good) (hn : N.n = 1) (ht : N.st.term < 2199023255552) (hl : N.st.last.1 < 2199023255552) (hlog : N.st.log.length < 1000000)
    (hd2 : D1.appendLog [⟨N.st.last.1 + 1, N.st.term + 1, []⟩] = (D2, 0)) :
    Calls Tryz.prog 43 #[.pointer (some ⟨V.r, 0, none⟩)] w fun e w' => e = .returned (.tuple #[]) ∧ ∃ V', NodeAt w' V' (N.stands.asked N.n).won D2 ∧ NodeTo V V' w w' := by
  refine elect_any h hg hS (by omega) hd _ (fun W U hW hT hr => ?_)
  have h1 := hS.n
  have h2 := hS.id
  have := count_yes hW hg1 ((hS.stands ht).asked h1 (by show N.out.length ≤ _; omega)) (by show N.stands.votes.length = N.n; simp [Rn.stands]) (by show N.n < 2 * trues N.stands.votes; simp only [Rn.stands]; rw [trues_set _ _ h2]; omega) (by have := asked_len N.stands N.n; change _ ≤ N.out.length + N.n at this; omega) hl hlog hd2
  rw [hr] at this
  refine this.mono ?_
  rintro e w' ⟨rfl, V', h3, h4⟩
  exact ⟨rfl, V', h3, hT.trans h4⟩

/-- A tick of a node that leads. -/
theorem tick_leader (h : NodeAt w V N D) (hS : N.Sm) (hb : N.broken = 0) (hr : N.role = 2) (hnx : N.nx.length = N.n) (hout : N.out.length ≤ 999990) :
    Calls Tryz.prog 11 #[.pointer (some ⟨V.r, 0, none⟩)] w fun e w' => e = .returned (.tuple #[]) ∧ ∃ V', NodeAt w' V' N.sendAll D ∧ NodeTo V V' w w' := by
  have c18 : w.cell? ⟨V.r, 18, none⟩ = some (.int .i64 0) := by rw [← hb]; exact h.blk.cell 18
  have c9 : w.cell? ⟨V.r, 9, none⟩ = some (.int .i64 2) := by
    have : w.cell? ⟨V.r, 9, none⟩ = some (.int .i64 (N.role : Int)) := h.blk.cell 9
    rw [this, hr]; rfl
  have HC := Lib.hid (sendAll_calls h hS hnx hout)
  clear h hS hb hr hnx
  go_enter Tryz.func11, Tryz.ntmps11
  go_wp2_with (go_at_call 42; refine HC.out.mono ?_; rintro e w1 ⟨rfl, V1, h1, t1⟩)
  ((try simp only [Exit.inBlock, Exit.then]); refine bodyPost_ret (results_none rfl _ _ _) rfl ?_)
  exact ⟨rfl, V1, h1, t1⟩

/-- A tick of a node that waits. -/
theorem tick_wait (h : NodeAt w V N D) (hS : N.Sm) (hb : N.broken = 0) (hr : N.role ≠ 2) (ht : N.timer + 1 < 4 + 2 * N.id) :
    Calls Tryz.prog 11 #[.pointer (some ⟨V.r, 0, none⟩)] w fun e w' => e = .returned (.tuple #[]) ∧ NodeAt w' V { N with timer := N.timer + 1 } D ∧ NodeTo V V w w' := by
  have c18 : w.cell? ⟨V.r, 18, none⟩ = some (.int .i64 0) := by rw [← hb]; exact h.blk.cell 18
  have c9 : w.cell? ⟨V.r, 9, none⟩ = some (.int .i64 (N.role : Int)) := h.blk.cell 9
  have c13 : w.cell? ⟨V.r, 13, none⟩ = some (.int .i64 (N.timer : Int)) := h.blk.cell 13
  have c1 : w.cell? ⟨V.r, 1, none⟩ = some (.int .i64 (N.id : Int)) := h.blk.cell 1
  have f13 : w.frozen? ⟨V.r, 13, none⟩ = false := h.blk.frozen 13
  have d1 : ((N.role : Int) == 2) = false := by simp; omega
  have htm := hS.timer
  have hid := hS.id
  have hn5 := hS.n
  have H := Lib.hid h
  clear h hS hb hr
  have w1 : IntKind.i64.wrap (2 * (N.id : Int)) = 2 * (N.id : Int) := IntWalk.i64_in _ (by omega)
  have w2 : IntKind.i64.wrap (4 + 2 * (N.id : Int)) = 4 + 2 * (N.id : Int) := IntWalk.i64_in _ (by omega)
  have d2 : decide (4 + 2 * (N.id : Int) ≤ (N.timer : Int) + 1) = false := by simp; omega
  have d3 : (N.timer : Int) + 1 < 4 + 2 * (N.id : Int) := by omega
  go_enter Tryz.func11, Tryz.ntmps11
  go_wp2
  go_quiet (fail)
  go_wp2
  go_end0
  obtain ⟨h1, h2⟩ := setR_end (N' := { N with timer := N.timer + 1 }) (w' := w.setCell ⟨V.r, 13, none⟩ (.int .i64 ((N.timer : Int) + 1))) H.out (NodeTo.refl V w) ((Keep.refl _ _).setCell (.inl (by simp)) _) (H.out.blk.set_ 13 _) rfl rfl rfl rfl rfl
  exact ⟨rfl, h1.grow (by repeat (first | exact Keep.refl _ _ | refine Keep.drew ?_ | refine Keep.drewN ?_ _ | refine Keep.alloc ?_ _)), h2.trans (NodeTo.grow V (by repeat (first | exact Keep.refl _ _ | refine Keep.drew ?_ | refine Keep.drewN ?_ _ | refine Keep.alloc ?_ _)))⟩
/-- A tick at which the node stands for election. -/
theorem tick_elect (h : NodeAt w V N D) (hS : N.Sm) (hb : N.broken = 0) (hr : N.role ≠ 2) (ht : 4 + 2 * N.id ≤ N.timer + 1) (P : World → Prop)
    (hc : ∀ W, NodeAt W V { N with timer := N.timer + 1 } D → NodeTo V V w W → Calls Tryz.prog 43 #[.pointer (some ⟨V.r, 0, none⟩)] W fun e w' => e = .returned (.tuple #[]) ∧ P w') :
    Calls Tryz.prog 11 #[.pointer (some ⟨V.r, 0, none⟩)] w fun e w' => e = .returned (.tuple #[]) ∧ P w' := by
  have c18 : w.cell? ⟨V.r, 18, none⟩ = some (.int .i64 0) := by rw [← hb]; exact h.blk.cell 18
  have c9 : w.cell? ⟨V.r, 9, none⟩ = some (.int .i64 (N.role : Int)) := h.blk.cell 9
  have c13 : w.cell? ⟨V.r, 13, none⟩ = some (.int .i64 (N.timer : Int)) := h.blk.cell 13
  have c1 : w.cell? ⟨V.r, 1, none⟩ = some (.int .i64 (N.id : Int)) := h.blk.cell 1
  have f13 : w.frozen? ⟨V.r, 13, none⟩ = false := h.blk.frozen 13
  have d1 : ((N.role : Int) == 2) = false := by simp; omega
  have htm := hS.timer
  have hid := hS.id
  have hn5 := hS.n
  have HC : Hid (∀ W, Keep [] (w.setCell ⟨V.r, 13, none⟩ (.int .i64 ((N.timer : Int) + 1))) W → Calls Tryz.prog 43 #[.pointer (some ⟨V.r, 0, none⟩)] W fun e w' => e = .returned (.tuple #[]) ∧ P w') := fun W hk => by
    obtain ⟨h1, h2⟩ := setR_end (N' := { N with timer := N.timer + 1 }) (w' := w.setCell ⟨V.r, 13, none⟩ (.int .i64 ((N.timer : Int) + 1))) h (NodeTo.refl V w) ((Keep.refl _ _).setCell (.inl (by simp)) _) (h.blk.set_ 13 _) rfl rfl rfl rfl rfl
    exact hc W (h1.grow hk) (h2.trans (NodeTo.grow V hk))
  clear h hS hb hr hc
  have w1 : IntKind.i64.wrap (2 * (N.id : Int)) = 2 * (N.id : Int) := IntWalk.i64_in _ (by omega)
  have w2 : IntKind.i64.wrap (4 + 2 * (N.id : Int)) = 4 + 2 * (N.id : Int) := IntWalk.i64_in _ (by omega)
  have d2 : decide (4 + 2 * (N.id : Int) ≤ (N.timer : Int) + 1) = true := by simp; omega
  have d3 : 4 + 2 * (N.id : Int) ≤ (N.timer : Int) + 1 := by omega
  go_enter Tryz.func11, Tryz.ntmps11
  go_wp2
  go_quiet (fail)
  go_wp2_with (go_at_call 43; refine (HC.out _ (by repeat (first | exact Keep.refl _ _ | refine Keep.drew ?_ | refine Keep.drewN ?_ _ | refine Keep.alloc ?_ _))).mono ?_; rintro e w1 ⟨rfl, h1⟩)
  go_end0
  exact ⟨rfl, h1⟩

set_option maxRecDepth 100000 in
theorem propose_calls (h : NodeAt w V N D) (hg : D.Good) (hS : N.Sm) (hb : N.broken = 0) (hr : N.role = 2) (hmt : N.mt.length = N.n) (hnx : N.nx.length = N.n) (hout : N.out.length ≤ 999990) (cmd : List UInt8) (hl : N.st.last.1 < 2199023255552) (hlog : N.st.log.length < 1000000) (hc : cmd.length ≤ 100000) {D' : Dk} (hd : D.appendLog [N.newEn cmd] = (D', 0)) :
    Calls Tryz.prog 12 #[.pointer (some ⟨V.r, 0, none⟩), .string (bs cmd)] w fun e w' => e = .returned (.tuple #[.int .i64 ((N.st.last.1 + 1 : Nat) : Int), .int .i64 (N.st.term : Int), .int .i64 0]) ∧ ∃ V', NodeAt w' V' (N.appended cmd) D' ∧ NodeTo V V' w w' := by
  have c18 : w.cell? ⟨V.r, 18, none⟩ = some (.int .i64 0) := by rw [← hb]; exact h.blk.cell 18
  have c9 : w.cell? ⟨V.r, 9, none⟩ = some (.int .i64 2) := by
    have : w.cell? ⟨V.r, 9, none⟩ = some (.int .i64 (N.role : Int)) := h.blk.cell 9
    rw [this, hr]; rfl
  have HC := Lib.hid (nappend_calls h hg hS hmt hnx hout cmd hl hlog hc hd)
  have HB : Hid ((N.appended cmd).broken = 0 ∧ (N.appended cmd).st.term = N.st.term) := ⟨hb, rfl⟩
  clear h hS hb hr hmt hnx hd hg
  generalize N.st.last.1 + 1 = ix at *
  have dl : decide ((100000 : Int) < (cmd.length : Int)) = false := by simp; omega
  go_enter Tryz.func12, Tryz.ntmps12
  go_wp2_with (go_at_call 44; refine HC.out.mono ?_; rintro e w1 ⟨rfl, V1, h1, t1⟩; have hr1 := t1.r; have c18 : w1.cell? ⟨V1.r, 18, none⟩ = some (.int .i64 (N.appended cmd).broken) := h1.blk.cell 18; have c3 : w1.cell? ⟨V1.r, 3, none⟩ = some (.int .i64 ((N.appended cmd).st.term : Int)) := h1.blk.cell 3; rw [hr1, HB.out.1] at c18; rw [hr1, HB.out.2] at c3; have H1 := Lib.hid h1; have HT1 := Lib.hid t1; clear h1 t1 hr1)
  go_quiet (fail)
  go_wp2
  go_ret3
  exact ⟨rfl, V1, H1.out.grow (by repeat (first | exact Keep.refl _ _ | refine Keep.drew ?_ | refine Keep.drewN ?_ _ | refine Keep.alloc ?_ _)), HT1.out.trans (NodeTo.grow V1 (by repeat (first | exact Keep.refl _ _ | refine Keep.drew ?_ | refine Keep.drewN ?_ _ | refine Keep.alloc ?_ _)))⟩
end

end Go.Proofs.YtnlcipocobmgiaaGreatDoor
