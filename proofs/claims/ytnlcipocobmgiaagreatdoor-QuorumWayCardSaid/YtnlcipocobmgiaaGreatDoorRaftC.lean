/- The follower's part of a raft node: a message without entries, answer, onAsk. -/
import Derived.Test.YtnlcipocobmgiaaGreatDoorRaft15
import Derived.StillTailTactics
import Derived.Deep.AppendLies
namespace Go.Proofs.YtnlcipocobmgiaaGreatDoor
open Go.RowKit
attribute [local go_sem] size_bs bs_append bs_extract

section
variable {w : World} {V : Nv} {N : Rn} {D : Dk} {eA : Option Addr} {en ec : Nat}
theorem ents_nil (w : World) : EntsAt w (.slice none 0 0) [] := ⟨none, 0, rfl, fun h => absurd rfl h⟩
/-- send, of a message without entries. -/
theorem send_nil (h : NodeAt w V N D) (y : Mg) (hy : y.ents = []) (hl : N.out.length ≤ 999999) :
    Calls Tryz.prog 80 #[.pointer (some ⟨V.r, 0, none⟩), .agg #[.int .i64 y.kind, .int .i64 y.frm, .int .i64 y.to_, .int .i64 y.term, .int .i64 y.index, .int .i64 y.logTerm, .int .i64 y.commit, .bool y.ok, .slice none 0 0, .string (bs y.snap)]] w fun e w' => e = .returned (.tuple #[]) ∧ ∃ V', NodeAt w' V' (N.send y) D ∧ NodeTo V V' w w' := by
  refine (send_calls h y (.slice none 0 0) (by rw [hy]; exact ents_nil w) (fun k e => by cases e) (by rw [h.outs_len]; omega)).mono ?_
  rintro e w' ⟨rfl, ou', h1, h2, h3⟩
  exact ⟨rfl, _, h1, sent_to (Keep.refl _ _) h2 h3 (fun k e => by cases e) roomy_nil⟩
/-- What a node answers to entries, to a snapshot. -/
def Rn.answer (N : Rn) (j : Nat) (ok : Bool) (ix : Int) : Rn := N.send ⟨4, 0, (j : Int), 0, ix, 0, 0, ok, [], []⟩
set_option maxRecDepth 100000 in
set_option maxHeartbeats 1000000 in
theorem answer_calls (h : NodeAt w V N D) (j : Nat) (ok : Bool) (ix : Int) (hl : N.out.length ≤ 999999) :
    Calls Tryz.prog 57 #[.pointer (some ⟨V.r, 0, none⟩), .int .i64 (j : Int), .bool ok, .int .i64 ix] w fun e w' => e = .returned (.tuple #[]) ∧ ∃ V', NodeAt w' V' (N.answer j ok ix) D ∧ NodeTo V V' w w' := by
  have T := send_nil h ⟨4, 0, (j : Int), 0, ix, 0, 0, ok, [], []⟩ rfl hl
  have HT := Lib.hid T
  clear h T
  go_enter Tryz.func57, Tryz.ntmps57
  go_wp2_with (go_at_call 80; refine HT.out.mono ?_; rintro e w1 ⟨rfl, V1, h1, h2⟩)
  go_end0
  exact ⟨rfl, V1, h1, h2⟩

/-- A node that gives its vote. -/
def Rn.voted (N : Rn) (i : Nat) : Rn := ({ N.keepTerm N.st.term (i + 1) with timer := 0 } : Rn).send ⟨2, 0, (i : Int), 0, 0, 0, 0, true, [], []⟩
set_option maxRecDepth 100000 in
set_option maxHeartbeats 4000000 in
theorem onAsk_yes (h : NodeAt w V N D) (hg : D.Good) (hS : N.Sm) (i ix lt : Nat) (a2 : Int) (hi : i < 5) (hv : N.st.vote = 0) (hf : N.st.last.2 < lt ∨ lt = N.st.last.2 ∧ N.st.last.1 ≤ ix) (hl : N.out.length ≤ 999990) {D' : Dk} (hd : D.saveTerm N.st.term (i + 1) = (D', 0)) :
    Calls Tryz.prog 55 #[.pointer (some ⟨V.r, 0, none⟩), .agg #[.int .i64 1, .int .i64 (i : Int), .int .i64 a2, .int .i64 (N.st.term : Int), .int .i64 (ix : Int), .int .i64 (lt : Int), .int .i64 0, .bool false, .slice eA en ec, .string { data := #[] }]] w fun e w' => e = .returned (.tuple #[]) ∧ ∃ V', NodeAt w' V' (N.voted i) D' ∧ NodeTo V V' w w' := by
  have HL : Hid (∀ W, Keep [] w W → Calls Tryz.prog 46 #[.pointer (some ⟨V.r, 3, none⟩)] W fun e w' => e = .returned (.tuple #[.int .i64 (N.st.last.1 : Int), .int .i64 (N.st.last.2 : Int)]) ∧ ∃ k, w' = W.drewN k) := fun W hW => lastO_calls N.st V.lg (h.grow hW).sto (by have := hS.log; omega)
  have c3 : w.cell? ⟨V.r, 3, none⟩ = some (.int .i64 (N.st.term : Int)) := h.blk.cell 3
  have c4 : w.cell? ⟨V.r, 4, none⟩ = some (.int .i64 (N.st.vote : Int)) := h.blk.cell 4
  rw [hv] at c4
  have c4 : w.cell? ⟨V.r, 4, none⟩ = some (.int .i64 0) := c4
  have hrl := h.blk.lt
  have H := Lib.hid h
  have hterm := hS.term
  have d4 : decide ((N.st.term : Int) ≤ (N.st.term : Int)) = true := decide_eq_true (by omega)
  have hlt := h.fp_lt
  have HT1 : Hid (∀ W, NodeAt W V N D → NodeTo V V w W → Blk W w.heap.size 56 #[.int .i64 1, .int .i64 (i : Int), .int .i64 a2, .int .i64 (N.st.term : Int), .int .i64 (ix : Int), .int .i64 (lt : Int), .int .i64 0, .bool false, .slice eA en ec, .string { data := #[] }] → Calls Tryz.prog 53 #[.pointer (some ⟨V.r, 0, none⟩), .int .i64 (N.st.term : Int), .int .i64 ((i : Int) + 1)] W fun e w' => e = .returned (.bool true) ∧ NodeAt w' V (N.keepTerm N.st.term (i + 1)) D' ∧ NodeTo V V w w' ∧ Blk w' w.heap.size 56 #[.int .i64 1, .int .i64 (i : Int), .int .i64 a2, .int .i64 (N.st.term : Int), .int .i64 (ix : Int), .int .i64 (lt : Int), .int .i64 0, .bool false, .slice eA en ec, .string { data := #[] }]) := fun W hW hT hb => by
    rw [show (i : Int) + 1 = ((i + 1 : Nat) : Int) by omega]
    refine (keepTerm_calls hW hg _ _ (by omega) (by omega) hd).mono ?_
    rintro e w' ⟨rfl, h1, h2⟩
    exact ⟨rfl, h1, hT.trans h2, hb.keep h2.keep (fun hx => absurd (hlt _ hx) (Nat.lt_irrefl _))⟩
  have HS : Hid (∀ W, (NodeAt W V { N.keepTerm N.st.term (i + 1) with timer := 0 } D' ∧ NodeTo V V w W) → Calls Tryz.prog 80 #[.pointer (some ⟨V.r, 0, none⟩), .agg #[.int .i64 2, .int .i64 0, .int .i64 (i : Int), .int .i64 0, .int .i64 0, .int .i64 0, .int .i64 0, .bool true, .slice none 0 0, .string { data := #[] }]] W fun e w' => e = .returned (.tuple #[]) ∧ ∃ V', NodeAt w' V' (N.voted i) D' ∧ NodeTo V V' w w') := fun W hW => by
    refine (send_nil hW.1 ⟨2, 0, (i : Int), 0, 0, 0, 0, true, [], []⟩ rfl (by show N.out.length ≤ _; omega)).mono ?_
    rintro e w' ⟨rfl, V', h1, h2⟩
    exact ⟨rfl, V', h1, hW.2.trans h2⟩
  have hw1 : IntKind.i64.wrap ((i : Int) + 1) = (i : Int) + 1 := IntWalk.i64_in _ (by omega)
  have d5 : ((0 : Int) == (i : Int) + 1) = false := by simp; omega
  generalize N.st.last.1 = l1 at *
  generalize N.st.last.2 = l2 at *
  generalize hT : N.st.term = T at *
  clear h hlt hd
  rcases hf with hf | ⟨rfl, hf⟩
  · have d1 : decide ((l2 : Int) < (lt : Int)) = true := decide_eq_true (by omega)
    go_enter Tryz.func55, Tryz.ntmps55
    go_upto_region 3 with (go_at_call 46; refine (HL.out _ ((Keep.refl _ _).alloc _)).mono ?_; rintro e w1 ⟨rfl, n1, rfl⟩)
    go_quiet (fail)
    have hka : Keep [] w (((w.alloc (.cells #[.int .i64 1, .int .i64 (i : Int), .int .i64 a2, .int .i64 (T : Int), .int .i64 (ix : Int), .int .i64 (lt : Int), .int .i64 0, .bool false, .slice eA en ec, .string { data := #[] }] 56)).drewN n1).drewN nq) := (((Keep.refl _ _).alloc _).drewN _).drewN _
    have hba : Blk (((w.alloc (.cells #[.int .i64 1, .int .i64 (i : Int), .int .i64 a2, .int .i64 (T : Int), .int .i64 (ix : Int), .int .i64 (lt : Int), .int .i64 0, .bool false, .slice eA en ec, .string { data := #[] }] 56)).drewN n1).drewN nq) w.heap.size 56 #[.int .i64 1, .int .i64 (i : Int), .int .i64 a2, .int .i64 (T : Int), .int .i64 (ix : Int), .int .i64 (lt : Int), .int .i64 0, .bool false, .slice eA en ec, .string { data := #[] }] := ((Blk.new w 56 #[.int .i64 1, .int .i64 (i : Int), .int .i64 a2, .int .i64 (T : Int), .int .i64 (ix : Int), .int .i64 (lt : Int), .int .i64 0, .bool false, .slice eA en ec, .string { data := #[] }]).drewN _).drewN _
    generalize (((w.alloc (.cells #[.int .i64 1, .int .i64 (i : Int), .int .i64 a2, .int .i64 (T : Int), .int .i64 (ix : Int), .int .i64 (lt : Int), .int .i64 0, .bool false, .slice eA en ec, .string { data := #[] }] 56)).drewN n1).drewN nq) = Wa at *
    clear c3 c4
    have hNw := H.out.grow hka; have c3 : World.cell? Wa ⟨V.r, 3, none⟩ = some (.int .i64 (T : Int)) := (by rw [← hT]; exact hNw.blk.cell 3); have c4 : World.cell? Wa ⟨V.r, 4, none⟩ = some (.int .i64 0) := (by have c : World.cell? Wa ⟨V.r, 4, none⟩ = some (.int .i64 (N.st.vote : Int)) := hNw.blk.cell 4; rw [hv] at c; exact c); have b1 : World.cell? Wa ⟨w.heap.size, 1, none⟩ = some (.int .i64 (i : Int)) := hba.cell 1; have b3 : World.cell? Wa ⟨w.heap.size, 3, none⟩ = some (.int .i64 (T : Int)) := hba.cell 3; have HKA := Lib.hid hka; have HBA := Lib.hid hba; clear hka hba hNw
    go_wp2
    go_quiet (fail)
    have hka : Keep [] w (Wa.drewN nq) := HKA.out.drewN _
    have hba : Blk (Wa.drewN nq) w.heap.size 56 #[.int .i64 1, .int .i64 (i : Int), .int .i64 a2, .int .i64 (T : Int), .int .i64 (ix : Int), .int .i64 (lt : Int), .int .i64 0, .bool false, .slice eA en ec, .string { data := #[] }] := HBA.out.drewN _
    generalize Wa.drewN nq = Wb at *
    clear c3 c4 b1 b3
    have hNw := H.out.grow hka; have c3 : World.cell? Wb ⟨V.r, 3, none⟩ = some (.int .i64 (T : Int)) := (by rw [← hT]; exact hNw.blk.cell 3); have c4 : World.cell? Wb ⟨V.r, 4, none⟩ = some (.int .i64 0) := (by have c : World.cell? Wb ⟨V.r, 4, none⟩ = some (.int .i64 (N.st.vote : Int)) := hNw.blk.cell 4; rw [hv] at c; exact c); have b1 : World.cell? Wb ⟨w.heap.size, 1, none⟩ = some (.int .i64 (i : Int)) := hba.cell 1; have b3 : World.cell? Wb ⟨w.heap.size, 3, none⟩ = some (.int .i64 (T : Int)) := hba.cell 3; have HKA := Lib.hid hka; have HBA := Lib.hid hba; clear hka hba hNw
    go_wp2
    have HNB := Lib.hid (H.out.grow HKA.out)
    have HTB := Lib.hid (NodeTo.grow V HKA.out)
    clear H HKA HL
    go_still_tail 19, (by kernel_rfl)
    change wpList _ _ _ _ _ Wb.drew
    go_wp2_with (first
      | (go_at_call 53; refine (HT1.out _ (HNB.out.grow (by repeat (first | exact Keep.refl _ _ | refine Keep.drew ?_ | refine Keep.drewN ?_ _ | refine Keep.alloc ?_ _))) (HTB.out.trans (NodeTo.grow V (by repeat (first | exact Keep.refl _ _ | refine Keep.drew ?_ | refine Keep.drewN ?_ _ | refine Keep.alloc ?_ _)))) (HBA.out.keep (M := []) (by repeat (first | exact Keep.refl _ _ | refine Keep.drew ?_ | refine Keep.drewN ?_ _ | refine Keep.alloc ?_ _)) (by simp))).mono ?_; rintro e wk ⟨rfl, hk1, ht1, hb1⟩; have f13 : wk.frozen? ⟨V.r, 13, none⟩ = false := hk1.blk.frozen 13; have c13 : wk.cell? ⟨V.r, 13, none⟩ = some (.int .i64 (N.timer : Int)) := hk1.blk.cell 13; have b1 : World.cell? wk ⟨w.heap.size, 1, none⟩ = some (.int .i64 (i : Int)) := hb1.cell 1; have HK1 := Lib.hid hk1; have HKT := Lib.hid ht1; clear hk1 ht1 hb1 c3 c4 HNB HTB HT1)
      | (go_at_call 80; refine (HS.out _ (setR_end (N' := { N.keepTerm T (i + 1) with timer := 0 }) HK1.out HKT.out (by repeat (first | exact Keep.refl _ _ | refine Keep.drew ?_ | refine Keep.drewN ?_ _ | refine Keep.alloc ?_ _ | refine Keep.setCell ?_ (.inl (by simp)) _)) (HK1.out.blk.set_ 13 _) rfl rfl rfl rfl rfl)).mono ?_; rintro e w1 ⟨rfl, V1, h1, h2⟩))
    go_end0
    exact ⟨rfl, V1, h1, h2⟩
  · have d1 : decide ((lt : Int) < (lt : Int)) = false := decide_eq_false (by omega)
    have d2 : decide ((l1 : Int) ≤ (ix : Int)) = true := decide_eq_true (by omega)
    go_enter Tryz.func55, Tryz.ntmps55
    go_upto_region 3 with (go_at_call 46; refine (HL.out _ ((Keep.refl _ _).alloc _)).mono ?_; rintro e w1 ⟨rfl, n1, rfl⟩)
    go_quiet (fail)
    have hka : Keep [] w (((w.alloc (.cells #[.int .i64 1, .int .i64 (i : Int), .int .i64 a2, .int .i64 (T : Int), .int .i64 (ix : Int), .int .i64 (lt : Int), .int .i64 0, .bool false, .slice eA en ec, .string { data := #[] }] 56)).drewN n1).drewN nq) := (((Keep.refl _ _).alloc _).drewN _).drewN _
    have hba : Blk (((w.alloc (.cells #[.int .i64 1, .int .i64 (i : Int), .int .i64 a2, .int .i64 (T : Int), .int .i64 (ix : Int), .int .i64 (lt : Int), .int .i64 0, .bool false, .slice eA en ec, .string { data := #[] }] 56)).drewN n1).drewN nq) w.heap.size 56 #[.int .i64 1, .int .i64 (i : Int), .int .i64 a2, .int .i64 (T : Int), .int .i64 (ix : Int), .int .i64 (lt : Int), .int .i64 0, .bool false, .slice eA en ec, .string { data := #[] }] := ((Blk.new w 56 #[.int .i64 1, .int .i64 (i : Int), .int .i64 a2, .int .i64 (T : Int), .int .i64 (ix : Int), .int .i64 (lt : Int), .int .i64 0, .bool false, .slice eA en ec, .string { data := #[] }]).drewN _).drewN _
    generalize (((w.alloc (.cells #[.int .i64 1, .int .i64 (i : Int), .int .i64 a2, .int .i64 (T : Int), .int .i64 (ix : Int), .int .i64 (lt : Int), .int .i64 0, .bool false, .slice eA en ec, .string { data := #[] }] 56)).drewN n1).drewN nq) = Wa at *
    clear c3 c4
    have hNw := H.out.grow hka; have c3 : World.cell? Wa ⟨V.r, 3, none⟩ = some (.int .i64 (T : Int)) := (by rw [← hT]; exact hNw.blk.cell 3); have c4 : World.cell? Wa ⟨V.r, 4, none⟩ = some (.int .i64 0) := (by have c : World.cell? Wa ⟨V.r, 4, none⟩ = some (.int .i64 (N.st.vote : Int)) := hNw.blk.cell 4; rw [hv] at c; exact c); have b1 : World.cell? Wa ⟨w.heap.size, 1, none⟩ = some (.int .i64 (i : Int)) := hba.cell 1; have b3 : World.cell? Wa ⟨w.heap.size, 3, none⟩ = some (.int .i64 (T : Int)) := hba.cell 3; have HKA := Lib.hid hka; have HBA := Lib.hid hba; clear hka hba hNw
    go_wp2
    go_quiet (fail)
    have hka : Keep [] w (Wa.drewN nq) := HKA.out.drewN _
    have hba : Blk (Wa.drewN nq) w.heap.size 56 #[.int .i64 1, .int .i64 (i : Int), .int .i64 a2, .int .i64 (T : Int), .int .i64 (ix : Int), .int .i64 (lt : Int), .int .i64 0, .bool false, .slice eA en ec, .string { data := #[] }] := HBA.out.drewN _
    generalize Wa.drewN nq = Wb at *
    clear c3 c4 b1 b3
    have hNw := H.out.grow hka; have c3 : World.cell? Wb ⟨V.r, 3, none⟩ = some (.int .i64 (T : Int)) := (by rw [← hT]; exact hNw.blk.cell 3); have c4 : World.cell? Wb ⟨V.r, 4, none⟩ = some (.int .i64 0) := (by have c : World.cell? Wb ⟨V.r, 4, none⟩ = some (.int .i64 (N.st.vote : Int)) := hNw.blk.cell 4; rw [hv] at c; exact c); have b1 : World.cell? Wb ⟨w.heap.size, 1, none⟩ = some (.int .i64 (i : Int)) := hba.cell 1; have b3 : World.cell? Wb ⟨w.heap.size, 3, none⟩ = some (.int .i64 (T : Int)) := hba.cell 3; have HKA := Lib.hid hka; have HBA := Lib.hid hba; clear hka hba hNw
    go_wp2
    have HNB := Lib.hid (H.out.grow HKA.out)
    have HTB := Lib.hid (NodeTo.grow V HKA.out)
    clear H HKA HL
    go_still_tail 19, (by kernel_rfl)
    change wpList _ _ _ _ _ Wb.drew
    go_wp2_with (first
      | (go_at_call 53; refine (HT1.out _ (HNB.out.grow (by repeat (first | exact Keep.refl _ _ | refine Keep.drew ?_ | refine Keep.drewN ?_ _ | refine Keep.alloc ?_ _))) (HTB.out.trans (NodeTo.grow V (by repeat (first | exact Keep.refl _ _ | refine Keep.drew ?_ | refine Keep.drewN ?_ _ | refine Keep.alloc ?_ _)))) (HBA.out.keep (M := []) (by repeat (first | exact Keep.refl _ _ | refine Keep.drew ?_ | refine Keep.drewN ?_ _ | refine Keep.alloc ?_ _)) (by simp))).mono ?_; rintro e wk ⟨rfl, hk1, ht1, hb1⟩; have f13 : wk.frozen? ⟨V.r, 13, none⟩ = false := hk1.blk.frozen 13; have c13 : wk.cell? ⟨V.r, 13, none⟩ = some (.int .i64 (N.timer : Int)) := hk1.blk.cell 13; have b1 : World.cell? wk ⟨w.heap.size, 1, none⟩ = some (.int .i64 (i : Int)) := hb1.cell 1; have HK1 := Lib.hid hk1; have HKT := Lib.hid ht1; clear hk1 ht1 hb1 c3 c4 HNB HTB HT1)
      | (go_at_call 80; refine (HS.out _ (setR_end (N' := { N.keepTerm T (i + 1) with timer := 0 }) HK1.out HKT.out (by repeat (first | exact Keep.refl _ _ | refine Keep.drew ?_ | refine Keep.drewN ?_ _ | refine Keep.alloc ?_ _ | refine Keep.setCell ?_ (.inl (by simp)) _)) (HK1.out.blk.set_ 13 _) rfl rfl rfl rfl rfl)).mono ?_; rintro e w1 ⟨rfl, V1, h1, h2⟩))
    go_end0
    exact ⟨rfl, V1, h1, h2⟩
end


end Go.Proofs.YtnlcipocobmgiaaGreatDoor
/- The contract of (*raft.Node).Step at an ask of a later term. -/
namespace Go.Proofs.YtnlcipocobmgiaaGreatDoor
open Go.RowKit
attribute [local go_sem] size_bs bs_append bs_extract

section
variable {w : World} {V : Nv} {N : Rn} {D : Dk} {eA : Option Addr} {en ec : Nat}
set_option maxRecDepth 100000 in
set_option maxHeartbeats 4000000 in
theorem step_ask_any (h : NodeAt w V N D) (hg : D.Good) (hb : N.broken = 0) (i : Nat) (hi : i < N.n) (hne : i ≠ N.id) (T ix lt : Nat) (hT : N.st.term < T) (hT2 : T ≤ 4611686018427387904) {D1 : Dk} (hd : D.saveTerm T 0 = (D1, 0)) (P : World → Prop)
    (hc : ∀ W U, NodeAt W U ((N.keepTerm T 0).follow (-1)) D1 → NodeTo V U w W → U.r = V.r → Calls Tryz.prog 55 #[.pointer (some ⟨V.r, 0, none⟩), .agg #[.int .i64 1, .int .i64 (i : Int), .int .i64 (N.id : Int), .int .i64 (T : Int), .int .i64 (ix : Int), .int .i64 (lt : Int), .int .i64 0, .bool false, .slice eA en ec, .string { data := #[] }]] W fun e w' => e = .returned (.tuple #[]) ∧ P w') :
    Calls Tryz.prog 22 #[.pointer (some ⟨V.r, 0, none⟩), .agg #[.int .i64 1, .int .i64 (i : Int), .int .i64 (N.id : Int), .int .i64 (T : Int), .int .i64 (ix : Int), .int .i64 (lt : Int), .int .i64 0, .bool false, .slice eA en ec, .string { data := #[] }]] w fun e w' => e = .returned (.tuple #[]) ∧ P w' := by
  have c18 : w.cell? ⟨V.r, 18, none⟩ = some (.int .i64 0) := by rw [← hb]; exact h.blk.cell 18
  have c1 : w.cell? ⟨V.r, 1, none⟩ = some (.int .i64 (N.id : Int)) := h.blk.cell 1
  have c2 : w.cell? ⟨V.r, 2, none⟩ = some (.int .i64 (N.n : Int)) := h.blk.cell 2
  have c3 : w.cell? ⟨V.r, 3, none⟩ = some (.int .i64 (N.st.term : Int)) := h.blk.cell 3
  have hrl := h.blk.lt
  have e1 : ((i : Int) == (N.id : Int)) = false := by simp; omega
  have e2 : decide ((i : Int) < 0) = false := by simp
  have e3 : decide ((N.n : Int) ≤ (i : Int)) = false := by simp; omega
  have e4 : decide ((N.st.term : Int) < (T : Int)) = true := by simp; omega
  have hlt := h.fp_lt
  have HT1 : Hid (∀ W, Keep [] (w.alloc (.cells #[.int .i64 1, .int .i64 (i : Int), .int .i64 (N.id : Int), .int .i64 (T : Int), .int .i64 (ix : Int), .int .i64 (lt : Int), .int .i64 0, .bool false, .slice eA en ec, .string { data := #[] }] 56)) W → Calls Tryz.prog 53 #[.pointer (some ⟨V.r, 0, none⟩), .int .i64 (T : Int), .int .i64 0] W fun e w' => e = .returned (.bool true) ∧ NodeAt w' V (N.keepTerm T 0) D1 ∧ NodeTo V V w w' ∧ Blk w' w.heap.size 56 #[.int .i64 1, .int .i64 (i : Int), .int .i64 (N.id : Int), .int .i64 (T : Int), .int .i64 (ix : Int), .int .i64 (lt : Int), .int .i64 0, .bool false, .slice eA en ec, .string { data := #[] }]) := fun W hk => by
    have hk0 : Keep [] w W := ((Keep.refl [] w).alloc _).trans hk
    refine (keepTerm_calls (h.grow hk0) hg T 0 hT2 (by omega) hd).mono ?_
    rintro e w' ⟨rfl, h1, h2⟩
    exact ⟨rfl, h1, (NodeTo.grow V hk0).trans h2, (((Blk.new w 56 #[.int .i64 1, .int .i64 (i : Int), .int .i64 (N.id : Int), .int .i64 (T : Int), .int .i64 (ix : Int), .int .i64 (lt : Int), .int .i64 0, .bool false, .slice eA en ec, .string { data := #[] }]).keep hk (by simp)).keep h2.keep (fun hx => absurd (hlt _ hx) (Nat.lt_irrefl _)))⟩
  have HT2 : Hid (∀ W, NodeAt W V (N.keepTerm T 0) D1 → NodeTo V V w W → Blk W w.heap.size 56 #[.int .i64 1, .int .i64 (i : Int), .int .i64 (N.id : Int), .int .i64 (T : Int), .int .i64 (ix : Int), .int .i64 (lt : Int), .int .i64 0, .bool false, .slice eA en ec, .string { data := #[] }] → Calls Tryz.prog 54 #[.pointer (some ⟨V.r, 0, none⟩), .int .i64 (-1)] W fun e w' => e = .returned (.tuple #[]) ∧ NodeAt w' V.drop3 ((N.keepTerm T 0).follow (-1)) D1 ∧ NodeTo V V.drop3 w w' ∧ Blk w' w.heap.size 56 #[.int .i64 1, .int .i64 (i : Int), .int .i64 (N.id : Int), .int .i64 (T : Int), .int .i64 (ix : Int), .int .i64 (lt : Int), .int .i64 0, .bool false, .slice eA en ec, .string { data := #[] }]) := fun W hW hT hB => by
    refine (follow_calls hW (-1)).mono ?_
    rintro e w' ⟨rfl, h1, h2⟩
    exact ⟨rfl, h1, hT.trans h2, hB.keep h2.keep (fun hx => absurd (hlt _ hx) (Nat.lt_irrefl _))⟩
  have HC := Lib.hid hc
  clear h hc hb hd hlt hg
  go_enter Tryz.func22, Tryz.ntmps22
  go_wp2
  go_quiet (fail)
  go_wp2
  go_quiet (fail)
  go_wp2_with (first
    | (go_at_call 53; refine (HT1.out _ (by repeat (first | exact Keep.refl _ _ | refine Keep.drew ?_ | refine Keep.drewN ?_ _ | refine Keep.alloc ?_ _))).mono ?_; rintro e w1 ⟨rfl, h1, t1, b1⟩; have H1 := Lib.hid h1; have HTT1 := Lib.hid t1; have HB1 := Lib.hid b1; clear h1 t1 b1 c18 c1 c2 c3 HT1)
    | (go_at_call 54; refine (HT2.out _ H1.out HTT1.out HB1.out).mono ?_; rintro e w2 ⟨rfl, h2, t2, b2⟩; have q0 : w2.cell? ⟨w.heap.size, 0, none⟩ = some (.int .i64 1) := b2.cell 0; have q1 : w2.cell? ⟨w.heap.size, 1, none⟩ = some (.int .i64 (i : Int)) := b2.cell 1; have q2 : w2.cell? ⟨w.heap.size, 2, none⟩ = some (.int .i64 (N.id : Int)) := b2.cell 2; have q3 : w2.cell? ⟨w.heap.size, 3, none⟩ = some (.int .i64 (T : Int)) := b2.cell 3; have q4 : w2.cell? ⟨w.heap.size, 4, none⟩ = some (.int .i64 (ix : Int)) := b2.cell 4; have q5 : w2.cell? ⟨w.heap.size, 5, none⟩ = some (.int .i64 (lt : Int)) := b2.cell 5; have q6 : w2.cell? ⟨w.heap.size, 6, none⟩ = some (.int .i64 0) := b2.cell 6; have q7 : w2.cell? ⟨w.heap.size, 7, none⟩ = some (.bool false) := b2.cell 7; have q8 : w2.cell? ⟨w.heap.size, 8, none⟩ = some (.slice eA en ec) := b2.cell 8; have q9 : w2.cell? ⟨w.heap.size, 9, none⟩ = some (.string { data := #[] }) := b2.cell 9; have H2 := Lib.hid h2; have HTT2 := Lib.hid t2; clear h2 t2 b2 HB1 HTT1 H1 HT2)
    | (go_at_call 55; refine (HC.out _ _ (H2.out.grow (by repeat (first | exact Keep.refl _ _ | refine Keep.drew ?_ | refine Keep.drewN ?_ _ | refine Keep.alloc ?_ _))) (HTT2.out.trans (NodeTo.grow _ (by repeat (first | exact Keep.refl _ _ | refine Keep.drew ?_ | refine Keep.drewN ?_ _ | refine Keep.alloc ?_ _)))) rfl).mono ?_; rintro e w3 ⟨rfl, h3⟩)
    | fail)
  go_end0
  exact ⟨rfl, h3⟩

/-- An ask of a later term that is answered yes. -/
def Rn.askedBy (N : Rn) (i T : Nat) : Rn := ((N.keepTerm T 0).follow (-1)).voted i
theorem step_ask (h : NodeAt w V N D) (hg : D.Good) (hS : N.Sm) (hb : N.broken = 0) (i : Nat) (hi : i < N.n) (hne : i ≠ N.id) (T ix lt : Nat) (hT : N.st.term < T) (hT2 : T ≤ 2199023255552) (hf : N.st.last.2 < lt ∨ lt = N.st.last.2 ∧ N.st.last.1 ≤ ix) (hl : N.out.length ≤ 999990) {D1 D2 : Dk} (hd : D.saveTerm T 0 = (D1, 0)) (hg1 : D1.Good) (hd2 : D1.saveTerm T (i + 1) = (D2, 0)) :
    Calls Tryz.prog 22 #[.pointer (some ⟨V.r, 0, none⟩), .agg #[.int .i64 1, .int .i64 (i : Int), .int .i64 (N.id : Int), .int .i64 (T : Int), .int .i64 (ix : Int), .int .i64 (lt : Int), .int .i64 0, .bool false, .slice eA en ec, .string { data := #[] }]] w fun e w' => e = .returned (.tuple #[]) ∧ ∃ V', NodeAt w' V' (N.askedBy i T) D2 ∧ NodeTo V V' w w' := by
  refine step_ask_any (eA := eA) (en := en) (ec := ec) h hg hb i hi hne T ix lt hT (by omega) hd _ (fun W U hW hU hr => ?_)
  have hS' : ((N.keepTerm T 0).follow (-1)).Sm := ⟨hS.n, hS.id, hT2, hS.base, hS.baseTerm, hS.snap, hS.log, hS.ents, hS.commit, hS.applied, hS.timer, hS.out, .inr rfl, .inr rfl, .inr rfl, (by intro x hx; cases hx), (by intro x hx; cases hx)⟩
  have := onAsk_yes (eA := eA) (en := en) (ec := ec) hW hg1 hS' i ix lt (N.id : Int) (by have := hS.n; omega) rfl hf hl hd2
  rw [hr] at this
  refine this.mono ?_
  rintro e w' ⟨rfl, V', h1, h2⟩
  exact ⟨rfl, V', h1, hU.trans h2⟩
end

end Go.Proofs.YtnlcipocobmgiaaGreatDoor
/- The follower's part: the entries of the leader take their place behind the node's own. -/
namespace Go.Proofs.YtnlcipocobmgiaaGreatDoor
open Go.RowKit
attribute [local go_sem] size_bs bs_append bs_extract

section
variable {w : World} {V : Nv} {N : Rn} {D : Dk}
theorem NodeAt.loggedL {w1 w2 : World} {lg' : Value} {l : List En} (h : NodeAt w V N D) (hk1 : Keep V.lg.ownBlock.toList w w1)
    (hown : w1.ownsRow 0 62 3 lg' (N.st.log.length + l.length) (entsV N.st.log ++ entsV l)) (hat : ∀ k, lg'.ownBlock = some k → V.lg.ownBlock = some k ∨ w.heap.size ≤ k) (hw2 : w2 = w1.setCell ⟨V.r, 8, none⟩ lg') :
    NodeAt w2 { V with lg := lg' } { N with st := { N.st with log := N.st.log ++ l } } D ∧ NodeTo V { V with lg := lg' } w w2 := by
  subst hw2
  obtain ⟨r1, r2, r3, r4, r5, r6, r7⟩ := h.r_ne
  have R := h.rest
  have hM : ∀ x, x ∈ V.lg.ownBlock.toList → V.lg.ownBlock = some x := fun x hx => by simpa using hx
  have hne : ∀ {t : TypeId} {cs : Array Value} {g : Nat}, Blk w g t cs → 62 ≠ t → g ∉ V.lg.ownBlock.toList := fun hb ht hg => own_blk_ne R.log hb ht (hM _ hg)
  have hmap : V.m ∉ V.lg.ownBlock.toList := fun hg => own_ne_map R.log R.disk.map (hM _ hg)
  have hlg : ∀ k, V.ou.ownBlock = some k → k ∉ V.lg.ownBlock.toList := fun k e hg => own_own_ne R.log R.ou (by decide) (hM _ hg) e
  have hk2 : Keep [V.r] w1 (w1.setCell ⟨V.r, 8, none⟩ lg') := (Keep.refl _ _).setCell (.inl (by simp)) _
  have hk : Keep (V.r :: V.lg.ownBlock.toList) w (w1.setCell ⟨V.r, 8, none⟩ lg') := (hk1.mono (fun x hx => .inl (List.mem_cons_of_mem _ hx))).trans' hk2 (fun x hx => by simp at hx; exact .inl (by simp [hx]))
  have no : ∀ k, k ≠ V.r → k ∉ V.lg.ownBlock.toList → k ∉ V.r :: V.lg.ownBlock.toList := fun k h1 h2 => by simp only [List.mem_cons, not_or]; exact ⟨h1, h2⟩
  have hfp : ∀ x ∈ V.r :: V.lg.ownBlock.toList, x ∈ V.fp := fun x hx => by
    rcases List.mem_cons.1 hx with h | h
    · exact Nv.mem.2 (.inl h)
    · exact Nv.mem.2 (.inr (.inr (.inr (.inl (hM _ h)))))
  have hfp' : ∀ x ∈ ({ V with lg := lg' } : Nv).fp, x ∈ V.fp ∨ w.heap.size ≤ x := fun x hx => by
    rcases Nv.mem.1 hx with h | h | h | h | h | h | h | h
    · exact .inl (Nv.mem.2 (.inl h))
    · exact .inl (Nv.mem.2 (.inr (.inl h)))
    · exact .inl (Nv.mem.2 (.inr (.inr (.inl h))))
    · rcases hat x h with h | h
      · exact .inl (Nv.mem.2 (.inr (.inr (.inr (.inl h)))))
      · exact .inr h
    · exact .inl (Nv.mem.2 (.inr (.inr (.inr (.inr (.inl h))))))
    · exact .inl (Nv.mem.2 (.inr (.inr (.inr (.inr (.inr (.inl h)))))))
    · exact .inl (Nv.mem.2 (.inr (.inr (.inr (.inr (.inr (.inr (.inl h))))))))
    · exact .inl (Nv.mem.2 (.inr (.inr (.inr (.inr (.inr (.inr (.inr h))))))))
  have hb1 := h.blk.keep hk1 (hne h.blk (by decide))
  have hour : ∀ k, lg'.ownBlock = some k → k ∉ [V.r] := fun k e hx => by
    simp at hx
    rcases hat k e with h1 | h1
    · exact r3 (hx ▸ h1)
    · have := h.blk.lt; omega
  have arr : ∀ {t : TypeId} {o : Option Nat} {xs : List Value}, 62 ≠ t → o ≠ some V.r → ArrAt w t o xs → ArrAt (w1.setCell ⟨V.r, 8, none⟩ lg') t o xs := fun ht hr ha => ha.keep hk (fun g e => by
    subst e
    exact no _ (fun e => hr (e ▸ rfl)) (hne ha ht))
  refine ⟨⟨hb1.set_ 8 lg', R.disk.keep hk (no _ (Ne.symm r1) (hne R.disk.blk (by decide))) (no _ (Ne.symm r2) hmap), ?_, arr (by decide) r4 R.vo, arr (by decide) r5 R.ma, arr (by decide) r6 R.ne, R.dis, hk.owns R.ou (fun k e => no k (by rintro rfl; exact r7 e) (hlg k e)), R.outs, ?_, R.tab.keep hk (fun hx => R.tn (hfp _ hx)), ?_⟩, hk.mono (fun x hx => .inl (hfp x hx)), hfp', fun _ h => .inl h, rfl, rfl, rfl⟩
  · have e1 : entsV (N.st.log ++ l) = entsV N.st.log ++ entsV l := by simp [entsV]
    show (w1.setCell ⟨V.r, 8, none⟩ lg').ownsRow 0 62 3 lg' (N.st.log ++ l).length (entsV (N.st.log ++ l))
    rw [e1, List.length_append]
    exact hk2.owns hown hour
  · intro q hq
    have hq2 := R.es q hq
    refine ⟨hq2.1.keepB hk (fun k e hx => (hq2.2 k e).2 (hfp k hx)), fun k e => ⟨Nat.lt_of_lt_of_le (hq2.2 k e).1 hk.size, fun hx => ?_⟩⟩
    rcases hfp' k hx with h1 | h1
    · exact (hq2.2 k e).2 h1
    · have := (hq2.2 k e).1; omega
  · intro hx
    rcases hfp' _ hx with h1 | h1
    · exact R.tn h1
    · have := World.block_lt_of_cell? _ _ (R.tab 0 (by omega)); simp at this; omega


theorem entsV_one (l : List En) : ∀ u ∈ entsV l, u.oneCell' = true := by
  intro u hu
  simp only [entsV, List.mem_flatMap] at hu
  obtain ⟨e, -, he⟩ := hu
  simp [En.cells] at he
  rcases he with rfl | rfl | rfl <;> rfl

set_option maxRecDepth 100000 in
set_option maxHeartbeats 4000000 in
/-- Entries that begin just behind the node's last one. -/
theorem replace_calls (h : NodeAt w V N D) (hg : D.Good) (hS : N.Sm) (x : En) (l : List En) (g o c : Nat) (hv : EntsAt w (.slice (some ⟨g, o, none⟩) (x :: l).length c) (x :: l)) (hgn : g ∉ V.fp) (hok : EnsOk (x :: l)) (hx : x.index = N.st.base + N.st.log.length + 1) (hlen : l.length ≤ 1000) {D' : Dk} (hd : D.appendLog (x :: l) = (D', 0)) :
    Calls Tryz.prog 92 #[.pointer (some ⟨V.r, 0, none⟩), .slice (some ⟨g, o, none⟩) (x :: l).length c] w fun e w' => e = .returned (.bool true) ∧ ∃ V', NodeAt w' V' { N with st := { N.st with log := N.st.log ++ x :: l } } D' ∧ NodeTo V V' w w' := by
  have hsb := hS.base
  have hsl := hS.log
  have c0 : w.cell? ⟨V.r, 0, none⟩ = some (.pointer (some ⟨V.b, 0, none⟩)) := h.blk.cell 0
  have c5 : w.cell? ⟨V.r, 5, none⟩ = some (.int .i64 (N.st.base : Int)) := h.blk.cell 5
  have c8 : w.cell? ⟨V.r, 8, none⟩ = some V.lg := h.blk.cell 8
  obtain ⟨Al, cl, hlgv⟩ := own_slice h.rest.log
  rw [hlgv] at c8
  obtain ⟨A0, c0', he0, hcc⟩ := hv
  injection he0 with h1 h2 h3
  subst h1 h3
  obtain ⟨g1, o1, e1, hcc⟩ := hcc (by simp)
  injection e1 with e1
  injection e1 with e1 e2
  subst e1 e2
  have z0 : w.cell? ⟨g, o, none⟩ = some (.int .i64 (x.index : Int)) := by
    have := hcc 0 (.int .i64 (x.index : Int)) rfl
    simpa using this
  have hv : EntsAt w (.slice (some ⟨g, o, none⟩) (x :: l).length c) (x :: l) := ⟨_, _, rfl, fun _ => ⟨g, o, rfl, hcc⟩⟩
  have T2 : ∀ W, Keep [] w W → Calls Tryz.prog 82 #[.pointer (some ⟨V.b, 0, none⟩), .slice (some ⟨g, o, none⟩) (x :: l).length c] W fun e w' => e = .returned (.int .i64 0) ∧ NodeAt w' V N D' ∧ NodeTo V V w w' := fun W hk => by
    have hW := h.grow hk
    have := appendLog_calls hW.rest.disk hg hW.rest.tab (x :: l) _ (hv.keep_nil hk) hok
    rw [hd] at this
    refine this.mono ?_
    rintro e w' ⟨rfl, h1, h2⟩
    exact ⟨rfl, hW.setDisk h2 h1, (NodeTo.grow V hk).trans (NodeTo.setDisk V h2)⟩
  have wr1 : IntKind.i64.wrap ((x.index : Int) - (N.st.base : Int)) = (N.st.log.length : Int) + 1 := by rw [IntWalk.i64_in _ (by omega)]; omega
  have wr2 : IntKind.i64.wrap ((N.st.log.length : Int) + 1 - 1) = (N.st.log.length : Int) := by rw [IntWalk.i64_in _ (by omega)]; omega
  have d1 : decide ((N.st.log.length : Int) < (N.st.log.length : Int)) = false := by simp
  have HNX : Hid (∀ W, NodeTo V V w W → ∀ j u, (entsV (x :: l))[j]? = some u → W.cell? ((⟨g, o, none⟩ : Addr).add j) = some u) := fun W ht => by
    obtain ⟨A1, c1, e1, h4⟩ := hv.keepB ht.keep (fun k e => by
      have : g = k := by simpa [Value.ownBlock] using e
      exact this ▸ hgn)
    injection e1 with e1 e2 e3
    subst e1
    obtain ⟨g2, o2, e2, h5⟩ := h4 (by simp)
    injection e2 with e2
    injection e2 with e2 e3
    subst e2 e3
    intro j u hu
    rw [Go.WideShapes.add_plain]
    exact h5 j u hu
  obtain ⟨i0, hi, hz0, hz1, hz2⟩ := info_parts Tryz.info62
  have HT2 := Lib.hid T2
  have H := Lib.hid h
  have HCC := Lib.hid hcc
  have HLV := Lib.hid hlgv
  clear h hd hS hcc hlgv T2 hv hx
  obtain ⟨m, hm⟩ : ∃ m, m = (x :: l).length := ⟨_, rfl⟩
  have hm0 : 0 < m := by rw [hm]; simp
  have hm1 : m ≤ 1001 := by rw [hm]; simp; omega
  have hm2 : 0 < (m : Int) := by omega
  have HM : Hid (m = (x :: l).length) := hm
  rw [← hm] at HT2 ⊢
  clear hm
  go_enter Tryz.func92, Tryz.ntmps92
  go_wp2
  go_quiet (fail)
  go_wp2_with (first
    | (go_at_call 82; refine (HT2.out _ (by repeat (first | exact Keep.refl _ _ | refine Keep.drew ?_ | refine Keep.drewN ?_ _ | refine Keep.alloc ?_ _))).mono ?_; rintro e w1 ⟨rfl, h1, t1⟩; have c8 : w1.cell? ⟨V.r, 8, none⟩ = some (.slice Al N.st.log.length cl) := HLV.out ▸ h1.blk.cell 8; have f8 : w1.frozen? ⟨V.r, 8, none⟩ = false := h1.blk.frozen 8; have hown1 : w1.ownsRow 0 62 3 (.slice Al N.st.log.length cl) N.st.log.length (entsV N.st.log) := HLV.out ▸ h1.rest.log; have HOWN1 := Lib.hid hown1; have HNW := Lib.hid (HNX.out w1 t1); have H1 := Lib.hid h1; have HTT1 := Lib.hid t1; clear h1 t1 hown1 c0 c5 HT2)
    | (go_at_call 81; refine (stored_ok _ _).mono ?_; rintro e w6 ⟨rfl, rfl⟩)
    | (at_builtin; refine wpList_append_lies _ rfl (.tmp 65) (.tmp 66) 40 rfl 0 62 i0 _ 3 32 Tryz.underlying40 hi hz0 hz1 hz2 rfl (by omega) (.slice Al N.st.log.length cl) N.st.log.length (entsV N.st.log) rfl HOWN1.out ⟨g, o, none⟩ m c (entsV (x :: l)) rfl (by rw [HM.out]; exact entsV_len _) HNW.out (entsV_one _) hm0 (by unfold maxLen; omega) (by omega) (Nat.zero_le _) w1.heap.size rfl ?_
       intro g2 cap2 w2 hown2 hgrow2 hat2 hlt2
       rw [← HLV.out] at hgrow2 hat2
       have hk2 : Keep V.lg.ownBlock.toList w1 w2 := (Keep.refl _ _).grown hgrow2 (fun k hk => .inl (by simp [hk]))
       have hnr : V.r ∉ V.lg.ownBlock.toList := fun hx => H1.out.r_ne.2.2.1 (by simpa using hx)
       have hb2 := H1.out.blk.keep hk2 hnr
       have c8 : w2.cell? ⟨V.r, 8, none⟩ = some (.slice Al N.st.log.length cl) := HLV.out ▸ hb2.cell 8
       have f8 : w2.frozen? ⟨V.r, 8, none⟩ = false := hb2.frozen 8
       have HK2 := Lib.hid hk2
       have HOWN2 := Lib.hid hown2
       have HAT2 := Lib.hid hat2
       clear hown2 hgrow2 hat2 hlt2 hk2 hnr hb2)
    | fail)
  go_ret
  obtain ⟨h9, t9⟩ := H1.out.loggedL (l := x :: l) HK2.out (by rw [← HM.out]; exact HOWN2.out) (fun k e => by
    have e' : g2 = k := by simpa [Value.ownBlock] using e
    subst e'
    rcases HAT2.out with h1 | h1
    · exact .inl h1
    · exact .inr (by omega)) rfl
  exact ⟨rfl, _, h9, HTT1.out.trans t9⟩
end

end Go.Proofs.YtnlcipocobmgiaaGreatDoor
