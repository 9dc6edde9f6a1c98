/- The contracts of (*raft.Node).Step at a vote, and at what a node has. -/
import Derived.Test.YtnlcipocobmgiaaGreatDoorRaftB
namespace Go.Proofs.YtnlcipocobmgiaaGreatDoor
open Go.RowKit
attribute [local go_sem] size_bs bs_append bs_extract

section
variable {w : World} {V : Nv} {N : Rn} {D : Dk} {eA : Option Addr} {en ec : Nat}
set_option maxRecDepth 100000 in
set_option maxHeartbeats 2000000 in
theorem step_have (h : NodeAt w V N D) (hb : N.broken = 0) (hr : N.role = 2) (i : Nat) (hi : i < N.n) (hne : i ≠ N.id) (k : Nat) (ok : Bool) (P : World → Prop)
    (hc : ∀ W, Keep [] w W → Calls Tryz.prog 60 #[.pointer (some ⟨V.r, 0, none⟩), .agg #[.int .i64 4, .int .i64 (i : Int), .int .i64 (N.id : Int), .int .i64 (N.st.term : Int), .int .i64 (k : Int), .int .i64 0, .int .i64 0, .bool ok, .slice eA en ec, .string { data := #[] }]] W fun e w' => e = .returned (.tuple #[]) ∧ P w') :
    Calls Tryz.prog 22 #[.pointer (some ⟨V.r, 0, none⟩), .agg #[.int .i64 4, .int .i64 (i : Int), .int .i64 (N.id : Int), .int .i64 (N.st.term : Int), .int .i64 (k : Int), .int .i64 0, .int .i64 0, .bool ok, .slice eA en ec, .string { data := #[] }]] w fun e w' => e = .returned (.tuple #[]) ∧ P w' := by
  have c18 : w.cell? ⟨V.r, 18, none⟩ = some (.int .i64 0) := by rw [← hb]; exact h.blk.cell 18
  have c1 : w.cell? ⟨V.r, 1, none⟩ = some (.int .i64 (N.id : Int)) := h.blk.cell 1
  have c2 : w.cell? ⟨V.r, 2, none⟩ = some (.int .i64 (N.n : Int)) := h.blk.cell 2
  have c3 : w.cell? ⟨V.r, 3, none⟩ = some (.int .i64 (N.st.term : Int)) := h.blk.cell 3
  have hrl := h.blk.lt
  have e1 : ((i : Int) == (N.id : Int)) = false := by simp; omega
  have e2 : decide ((i : Int) < 0) = false := by simp
  have e3 : decide ((N.n : Int) ≤ (i : Int)) = false := by simp; omega
  have e4 : decide ((N.st.term : Int) < (N.st.term : Int)) = false := by simp
  have c9 : w.cell? ⟨V.r, 9, none⟩ = some (.int .i64 2) := by
    have : w.cell? ⟨V.r, 9, none⟩ = some (.int .i64 (N.role : Int)) := h.blk.cell 9
    rw [this, hr]; rfl
  have HC := Lib.hid hc
  clear h hc hb hr
  go_enter Tryz.func22, Tryz.ntmps22
  go_wp2
  go_quiet (fail)
  go_wp2
  go_quiet (fail)
  go_wp2
  go_quiet (fail)
  go_wp2_with (go_at_call 60; (with_reducible refine (HC.out _ (by repeat (first | exact Keep.refl _ _ | refine Keep.drew ?_ | refine Keep.drewN ?_ _ | refine Keep.alloc ?_ _))).mono ?_); rintro e w1 ⟨rfl, h1⟩)
  go_end0
  exact ⟨rfl, h1⟩
set_option maxRecDepth 100000 in
set_option maxHeartbeats 2000000 in
theorem step_vote_late (h : NodeAt w V N D) (hb : N.broken = 0) (hr : N.role = 2) (i : Nat) (hi : i < N.n) (hne : i ≠ N.id) :
    Calls Tryz.prog 22 #[.pointer (some ⟨V.r, 0, none⟩), .agg #[.int .i64 2, .int .i64 (i : Int), .int .i64 (N.id : Int), .int .i64 (N.st.term : Int), .int .i64 0, .int .i64 0, .int .i64 0, .bool true, .slice eA en ec, .string { data := #[] }]] w fun e w' => e = .returned (.tuple #[]) ∧ NodeAt w' V N D ∧ NodeTo V V w w' := by
  have H := Lib.hid h
  have c18 : w.cell? ⟨V.r, 18, none⟩ = some (.int .i64 0) := by rw [← hb]; exact h.blk.cell 18
  have c1 : w.cell? ⟨V.r, 1, none⟩ = some (.int .i64 (N.id : Int)) := h.blk.cell 1
  have c2 : w.cell? ⟨V.r, 2, none⟩ = some (.int .i64 (N.n : Int)) := h.blk.cell 2
  have c3 : w.cell? ⟨V.r, 3, none⟩ = some (.int .i64 (N.st.term : Int)) := h.blk.cell 3
  have hrl := h.blk.lt
  have e1 : ((i : Int) == (N.id : Int)) = false := by simp; omega
  have e2 : decide ((i : Int) < 0) = false := by simp
  have e3 : decide ((N.n : Int) ≤ (i : Int)) = false := by simp; omega
  have e4 : decide ((N.st.term : Int) < (N.st.term : Int)) = false := by simp
  have c9 : w.cell? ⟨V.r, 9, none⟩ = some (.int .i64 2) := by
    have : w.cell? ⟨V.r, 9, none⟩ = some (.int .i64 (N.role : Int)) := h.blk.cell 9
    rw [this, hr]; rfl
  clear h hb hr
  go_enter Tryz.func22, Tryz.ntmps22
  go_wp2
  go_quiet (fail)
  go_wp2
  go_quiet (fail)
  go_wp2
  go_quiet (fail)
  go_wp2
  go_end0
  exact ⟨rfl, H.out.grow (by repeat (first | exact Keep.refl _ _ | refine Keep.drew ?_ | refine Keep.drewN ?_ _ | refine Keep.alloc ?_ _)), NodeTo.grow V (by repeat (first | exact Keep.refl _ _ | refine Keep.drew ?_ | refine Keep.drewN ?_ _ | refine Keep.alloc ?_ _))⟩
set_option maxRecDepth 100000 in
set_option maxHeartbeats 2000000 in
theorem step_vote (h : NodeAt w V N D) (hb : N.broken = 0) (hr : N.role = 1) (hvo : N.votes.length = N.n) (i : Nat) (hi : i < N.n) (hne : i ≠ N.id) (P : World → Prop)
    (hc : ∀ W, NodeAt W V { N with votes := N.votes.set i true } D → NodeTo V V w W → Calls Tryz.prog 56 #[.pointer (some ⟨V.r, 0, none⟩)] W fun e w' => e = .returned (.tuple #[]) ∧ P w') :
    Calls Tryz.prog 22 #[.pointer (some ⟨V.r, 0, none⟩), .agg #[.int .i64 2, .int .i64 (i : Int), .int .i64 (N.id : Int), .int .i64 (N.st.term : Int), .int .i64 0, .int .i64 0, .int .i64 0, .bool true, .slice eA en ec, .string { data := #[] }]] w fun e w' => e = .returned (.tuple #[]) ∧ P w' := by
  obtain ⟨g, hg, hgb, hgc⟩ := h.rest.vo.cell (i := i) (by rw [bools_len]; omega)
  rw [bools_at _ _ (by omega)] at hgc
  have c14 : w.cell? ⟨V.r, 14, none⟩ = some (arrV V.vo N.votes.length) := h.blk.cell 14
  rw [hg, hvo] at c14
  change w.cell? ⟨V.r, 14, none⟩ = some (.slice (some ⟨g, 0, none⟩) N.n N.n) at c14
  have hf : w.frozen? ⟨g, i, none⟩ = false := hgb.frozen i
  have hgl := hgb.lt
  have c18 : w.cell? ⟨V.r, 18, none⟩ = some (.int .i64 0) := by rw [← hb]; exact h.blk.cell 18
  have c1 : w.cell? ⟨V.r, 1, none⟩ = some (.int .i64 (N.id : Int)) := h.blk.cell 1
  have c2 : w.cell? ⟨V.r, 2, none⟩ = some (.int .i64 (N.n : Int)) := h.blk.cell 2
  have c3 : w.cell? ⟨V.r, 3, none⟩ = some (.int .i64 (N.st.term : Int)) := h.blk.cell 3
  have hrl := h.blk.lt
  have e1 : ((i : Int) == (N.id : Int)) = false := by simp; omega
  have e2 : decide ((i : Int) < 0) = false := by simp
  have e3 : decide ((N.n : Int) ≤ (i : Int)) = false := by simp; omega
  have e4 : decide ((N.st.term : Int) < (N.st.term : Int)) = false := by simp
  have c9 : w.cell? ⟨V.r, 9, none⟩ = some (.int .i64 1) := by
    have : w.cell? ⟨V.r, 9, none⟩ = some (.int .i64 (N.role : Int)) := h.blk.cell 9
    rw [this, hr]; rfl
  have HC : Hid (∀ nd W, Keep [] (((w.alloc (.cells #[.int .i64 2, .int .i64 (i : Int), .int .i64 (N.id : Int), .int .i64 (N.st.term : Int), .int .i64 0, .int .i64 0, .int .i64 0, .bool true, .slice eA en ec, .string { data := #[] }] 56)).drewN nd).setCell ⟨g, i, none⟩ (.bool true)) W → Calls Tryz.prog 56 #[.pointer (some ⟨V.r, 0, none⟩)] W fun e w' => e = .returned (.tuple #[]) ∧ P w') := fun nd W hk => by
    have hg0 : Keep [] w ((w.alloc (.cells #[.int .i64 2, .int .i64 (i : Int), .int .i64 (N.id : Int), .int .i64 (N.st.term : Int), .int .i64 0, .int .i64 0, .int .i64 0, .bool true, .slice eA en ec, .string { data := #[] }] 56)).drewN nd) := ((Keep.refl _ _).alloc _).drewN nd
    obtain ⟨h1, h2⟩ := (h.grow hg0).setVo (NodeTo.grow V hg0) hg i true rfl
    exact hc W (h1.grow hk) (h2.trans (NodeTo.grow V hk))
  have di : decide ((i : Int) < (N.n : Int)) = true := by simp; omega
  have hin : (i : Int) < (N.n : Int) := by omega
  generalize N.votes.getD i false = vo at *
  clear h hc hb hr hg hgb hvo
  go_enter Tryz.func22, Tryz.ntmps22
  go_wp2
  go_quiet (fail)
  go_wp2
  go_quiet (fail)
  go_wp2
  go_quiet (fail)
  go_wp2
  go_region
  go_wp2_with (go_at_call 56; (with_reducible refine (HC.out _ _ (by repeat (first | exact Keep.refl _ _ | refine Keep.drew ?_ | refine Keep.drewN ?_ _ | refine Keep.alloc ?_ _))).mono ?_); rintro e w1 ⟨rfl, h1⟩)
  go_end0
  exact ⟨rfl, h1⟩
end

end Go.Proofs.YtnlcipocobmgiaaGreatDoor
