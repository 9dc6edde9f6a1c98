/- The contracts of (*raft.Node).elect and Tick. -/
import Derived.Test.YtnlcipocobmgiaaGreatDoorRaft7
import Derived.StillTailTactics
namespace Go.Proofs.YtnlcipocobmgiaaGreatDoor
open Go.RowKit
attribute [local go_sem] size_bs bs_append bs_extract

theorem Tryz.info4 : (Tryz.prog.info? 4).map (fun i => (i.zero, i.size, i.bytes)) = some (some (.bool false), 1, 1) := by kernel_rfl
theorem madeBools (n : Nat) : madeCells #[Value.bool false] n = (bools (List.replicate n false)).toArray := by
  rw [made1]; simp [bools]
section
variable {w : World} {V : Nv} {N : Rn} {D : Dk}
theorem asked_succ (N : Rn) (k : Nat) : N.asked (k + 1) = if k = N.id then N.asked k else { N.asked k with out := (N.asked k).out ++ [N.ask k] } := by
  by_cases h : k = N.id
  · rw [if_pos h]
    unfold Rn.asked
    rw [others_succ, if_pos h]
  · rw [if_neg h]
    unfold Rn.asked
    rw [others_succ, if_neg h, List.map_append]
    simp
theorem asked_len (N : Rn) (k : Nat) : (N.asked k).out.length ≤ N.out.length + k := by
  have h1 : (others k N.id).length ≤ k := by
    unfold others
    exact Nat.le_trans (List.length_filter_le _ _) (by simp)
  simp only [Rn.asked, List.length_append, List.length_map]
  omega

theorem stand_arr {w0 w2 : World} {U : Nv} {M : Rn} (h : NodeAt w2 U.drop3 M D) (hT : NodeTo V U.drop3 w0 w2) :
    NodeAt ((((w2.setCell ⟨U.r, 9, none⟩ (.int .i64 1)).setCell ⟨U.r, 13, none⟩ (.int .i64 0)).setCell ⟨U.r, 14, none⟩ (.slice (some ⟨w2.heap.size, 0, none⟩) M.n M.n)).alloc (.cells (madeCells #[Value.bool false] M.n) 4)) { U.drop3 with vo := some w2.heap.size } { M with role := 1, timer := 0, votes := List.replicate M.n false, mt := [], nx := [] } D ∧ NodeTo V { U.drop3 with vo := some w2.heap.size } w0 ((((w2.setCell ⟨U.r, 9, none⟩ (.int .i64 1)).setCell ⟨U.r, 13, none⟩ (.int .i64 0)).setCell ⟨U.r, 14, none⟩ (.slice (some ⟨w2.heap.size, 0, none⟩) M.n M.n)).alloc (.cells (madeCells #[Value.bool false] M.n) 4)) := by
  have hrl : U.r < w2.heap.size := h.blk.lt
  have hi : U.r ∈ [U.r] ∨ w2.heap.size ≤ U.r := .inl (by simp)
  have hk : Keep [U.r] w2 ((((w2.setCell ⟨U.r, 9, none⟩ (.int .i64 1)).setCell ⟨U.r, 13, none⟩ (.int .i64 0)).setCell ⟨U.r, 14, none⟩ (.slice (some ⟨w2.heap.size, 0, none⟩) M.n M.n)).alloc (.cells (madeCells #[Value.bool false] M.n) 4)) := ((((Keep.refl [U.r] w2).setCell (p := ⟨U.r, 9, none⟩) hi _).setCell (p := ⟨U.r, 13, none⟩) hi _).setCell (p := ⟨U.r, 14, none⟩) hi _).alloc _
  have hb : Blk ((((w2.setCell ⟨U.r, 9, none⟩ (.int .i64 1)).setCell ⟨U.r, 13, none⟩ (.int .i64 0)).setCell ⟨U.r, 14, none⟩ (.slice (some ⟨w2.heap.size, 0, none⟩) M.n M.n)).alloc (.cells (madeCells #[Value.bool false] M.n) 4)) w2.heap.size 4 (bools (List.replicate M.n false)).toArray := by
    rw [madeBools]
    exact Blk.here _ _ _ _ (by simp)
  have e1 : (List.replicate M.n false).length = M.n := by simp
  have hB := ((h.blk.set_ 9 (.int .i64 1)).set_ 13 (.int .i64 0)).set_ 14 (.slice (some ⟨w2.heap.size, 0, none⟩) M.n M.n)
  have hB2 := hB.alloc (.cells (madeCells #[Value.bool false] M.n) 4)
  have hB3 : Blk ((((w2.setCell ⟨U.r, 9, none⟩ (.int .i64 1)).setCell ⟨U.r, 13, none⟩ (.int .i64 0)).setCell ⟨U.r, 14, none⟩ (.slice (some ⟨w2.heap.size, 0, none⟩) M.n M.n)).alloc (.cells (madeCells #[Value.bool false] M.n) 4)) U.r 81 (nodeCells { U.drop3 with vo := some w2.heap.size, ma := none, ne := none } { M with role := 1, timer := 0, votes := List.replicate M.n false, mt := [], nx := [] }) := by
    unfold nodeCells
    simp only [e1]
    exact hB2
  obtain ⟨h1, h2⟩ := h.rearr (vo' := some w2.heap.size) (ma' := none) (ne' := none) (N' := { M with role := 1, timer := 0, votes := List.replicate M.n false, mt := [], nx := [] }) hk hB3 rfl rfl hb (ArrAt.nil _ _) (ArrAt.nil _ _) (fun g e => by injection e with e; omega) (fun g e => by cases e) (fun g e => by cases e) (fun g e => by cases e)
  exact ⟨h1, hT.trans h2⟩
set_option maxRecDepth 100000 in
set_option maxHeartbeats 8000000 in
theorem elect_any (h : NodeAt w V N D) (hg : D.Good) (hS : N.Sm) (hout : N.out.length ≤ 999980) {D1 : Dk} (hd : D.saveTerm (N.st.term + 1) (N.id + 1) = (D1, 0)) (P : World → Prop)
    (hc : ∀ W U, NodeAt W U (N.stands.asked N.n) D1 → NodeTo V U w W → U.r = V.r → Calls Tryz.prog 56 #[.pointer (some ⟨V.r, 0, none⟩)] W fun e w' => e = .returned (.tuple #[]) ∧ P w') :
    Calls Tryz.prog 43 #[.pointer (some ⟨V.r, 0, none⟩)] w fun e w' => e = .returned (.tuple #[]) ∧ P w' := by
  have hn5 := hS.n
  have hid := hS.id
  have htm := hS.term
  have hll := hS.log
  have T1 : ∀ W, NodeAt W V N D → NodeTo V V w W → Calls Tryz.prog 53 #[.pointer (some ⟨V.r, 0, none⟩), .int .i64 ((N.st.term + 1 : Nat) : Int), .int .i64 ((N.id + 1 : Nat) : Int)] W fun e w' => e = .returned (.bool true) ∧ NodeAt w' V (N.keepTerm (N.st.term + 1) (N.id + 1)) D1 ∧ NodeTo V V w w' := fun W hW hT => by
    refine (keepTerm_calls hW hg _ _ (by omega) (by omega) hd).mono ?_
    rintro e w' ⟨rfl, h1, h2⟩
    exact ⟨rfl, h1, hT.trans h2⟩
  have T2 : ∀ W, NodeAt W V (N.keepTerm (N.st.term + 1) (N.id + 1)) D1 → NodeTo V V w W → Calls Tryz.prog 54 #[.pointer (some ⟨V.r, 0, none⟩), .int .i64 (-1)] W fun e w' => e = .returned (.tuple #[]) ∧ NodeAt w' V.drop3 ((N.keepTerm (N.st.term + 1) (N.id + 1)).follow (-1)) D1 ∧ NodeTo V V.drop3 w w' := fun W hW hT => by
    refine (follow_calls hW (-1)).mono ?_
    rintro e w' ⟨rfl, h1, h2⟩
    exact ⟨rfl, h1, hT.trans h2⟩
  have hw1 : IntKind.i64.wrap ((N.st.term : Int) + 1) = ((N.st.term + 1 : Nat) : Int) := by rw [IntWalk.i64_in _ (by omega)]; omega
  have hw2 : IntKind.i64.wrap ((N.id : Int) + 1) = ((N.id + 1 : Nat) : Int) := by rw [IntWalk.i64_in _ (by omega)]; omega
  have c1 : w.cell? ⟨V.r, 1, none⟩ = some (.int .i64 (N.id : Int)) := h.blk.cell 1
  have c3 : w.cell? ⟨V.r, 3, none⟩ = some (.int .i64 (N.st.term : Int)) := h.blk.cell 3
  have H := Lib.hid h
  have HC := Lib.hid hc
  have HT1 := Lib.hid T1
  have HT2 := Lib.hid T2
  clear h hc T1 T2 hd hg hS
  have HXS : Hid (N.stands = { ({ (N.keepTerm (N.st.term + 1) (N.id + 1)).follow (-1) with role := 1, timer := 0, votes := List.replicate N.n false, mt := [], nx := [] } : Rn) with votes := (List.replicate N.n false).set N.id true }) := rfl
  have HXL : Hid (N.stands.st.last = N.st.last ∧ N.stands.id = N.id ∧ N.stands.n = N.n ∧ N.stands.st.log = N.st.log ∧ N.stands.out = N.out) := ⟨rfl, rfl, rfl, rfl, rfl⟩
  generalize hx1 : N.st.term + 1 = t1 at *
  generalize hx2 : N.id + 1 = v1 at *
  clear hx1 hx2
  go_enter Tryz.func43, Tryz.ntmps43
  go_wp2_with fail
  go_still_tail 12, (by kernel_rfl)
  change wpList _ _ _ _ _ w.drew
  have hmk := fun (W : World) => run_make_row' (P := Tryz.prog) 79 4 (.bool false) 1 Tryz.underlying79 Tryz.info4 rfl .i64 .i64 N.n (by omega) (by omega) W
  go_wp2_with (first
    | (go_at_call 53; refine (HT1.out _ (H.out.grow (by repeat (first | exact Keep.refl _ _ | refine Keep.drew ?_ | refine Keep.drewN ?_ _ | refine Keep.alloc ?_ _))) (NodeTo.grow V (by repeat (first | exact Keep.refl _ _ | refine Keep.drew ?_ | refine Keep.drewN ?_ _ | refine Keep.alloc ?_ _)))).mono ?_; rintro e w1 ⟨rfl, h1, t1⟩; have H1 := Lib.hid h1; have HTT1 := Lib.hid t1; clear h1 t1 c1 c3)
    | (go_at_call 54; refine (HT2.out _ H1.out HTT1.out).mono ?_; rintro e w2 ⟨rfl, h2, t2⟩; have hf : ∀ i, w2.frozen? ⟨V.r, i, none⟩ = false := fun i => h2.blk.frozen i; have c1 : w2.cell? ⟨V.r, 1, none⟩ = some (.int .i64 (N.id : Int)) := h2.blk.cell 1; have c2 : w2.cell? ⟨V.r, 2, none⟩ = some (.int .i64 (N.n : Int)) := h2.blk.cell 2; have c9 : w2.cell? ⟨V.r, 9, none⟩ = some (.int .i64 0) := h2.blk.cell 9; have c13 : w2.cell? ⟨V.r, 13, none⟩ = some (.int .i64 (N.timer : Int)) := h2.blk.cell 13; have c14 : w2.cell? ⟨V.r, 14, none⟩ = some (.slice none 0 0) := h2.blk.cell 14; have hrl : V.r < w2.heap.size := h2.blk.lt; have H2 := Lib.hid h2; have HTT2 := Lib.hid t2; clear h2 t2)
    | fail)
  obtain ⟨hN3, hT3⟩ : NodeAt ((((w2.setCell ⟨V.r, 9, none⟩ (.int .i64 1)).setCell ⟨V.r, 13, none⟩ (.int .i64 0)).setCell ⟨V.r, 14, none⟩ (.slice (some ⟨w2.heap.size, 0, none⟩) N.n N.n)).alloc (.cells (madeCells #[Value.bool false] N.n) 4)) { V.drop3 with vo := some w2.heap.size } { (N.keepTerm t1 v1).follow (-1) with role := 1, timer := 0, votes := List.replicate N.n false, mt := [], nx := [] } D1 ∧ NodeTo V { V.drop3 with vo := some w2.heap.size } w ((((w2.setCell ⟨V.r, 9, none⟩ (.int .i64 1)).setCell ⟨V.r, 13, none⟩ (.int .i64 0)).setCell ⟨V.r, 14, none⟩ (.slice (some ⟨w2.heap.size, 0, none⟩) N.n N.n)).alloc (.cells (madeCells #[Value.bool false] N.n) 4)) := stand_arr H2.out HTT2.out
  obtain ⟨V3, hV3⟩ : ∃ V3 : Nv, V3 = { V.drop3 with vo := some w2.heap.size } := ⟨_, rfl⟩
  rw [← hV3] at hN3 hT3
  have hvo3 : V3.vo = some w2.heap.size := by rw [hV3]
  have hr3 : V3.r = V.r := by rw [hV3]; rfl
  have HVO3 := Lib.hid hvo3
  have HR3 := Lib.hid hr3
  have HN3 := Lib.hid hN3
  have HT3 := Lib.hid hT3
  clear hN3 hT3 hvo3 hr3 hV3 c9 c13 c14 c2 c1 hf hmk H2 HTT2 H1 HTT1 HT1 HT2 hw1 hw2
  generalize ((((w2.setCell ⟨V.r, 9, none⟩ (.int .i64 1)).setCell ⟨V.r, 13, none⟩ (.int .i64 0)).setCell ⟨V.r, 14, none⟩ (.slice (some ⟨w2.heap.size, 0, none⟩) N.n N.n)).alloc (.cells (madeCells #[Value.bool false] N.n) 4)) = W3 at *
  generalize w2.heap.size = gv at *
  have c14 : W3.cell? ⟨V3.r, 14, none⟩ = some (arrV V3.vo (List.replicate N.n false).length) := HN3.out.blk.cell 14
  have c1 : W3.cell? ⟨V3.r, 1, none⟩ = some (.int .i64 (N.id : Int)) := HN3.out.blk.cell 1
  rw [HR3.out, HVO3.out, List.length_replicate] at c14
  rw [HR3.out] at c1
  change W3.cell? ⟨V.r, 14, none⟩ = some (.slice (some ⟨gv, 0, none⟩) N.n N.n) at c14
  obtain ⟨g3, hg3, hb3, hc3⟩ := HN3.out.rest.vo.cell (i := N.id) (by simp [bools]; exact hid)
  obtain rfl : gv = g3 := by rw [HVO3.out] at hg3; injection hg3
  have hv0 : W3.cell? ⟨gv, N.id, none⟩ = some (.bool false) := by
    rw [hc3]
    simp [bools]
  have mf : W3.frozen? ⟨gv, N.id, none⟩ = false := hb3.frozen N.id
  have hin : (N.id : Int) < (N.n : Int) := by omega
  clear hc3 hb3 hg3
  obtain ⟨M, hM⟩ : ∃ M, M = N.stands := ⟨_, rfl⟩
  rw [← hM] at HC HXS HXL
  obtain ⟨ml, mid, mn, mlog, mout⟩ := HXL.out
  have HSV : Hid (∀ W, Keep [] (W3.setCell ⟨gv, N.id, none⟩ (.bool true)) W → NodeAt W V3 (M.asked 0) D1 ∧ NodeTo V V3 w W) := fun W hk => by
    obtain ⟨h1, h2⟩ := HN3.out.setVo HT3.out HVO3.out N.id true rfl
    have e0 : M.asked 0 = M := by simp [Rn.asked, others]
    rw [e0, HXS.out]
    exact ⟨h1.grow hk, h2.trans (NodeTo.grow V3 hk)⟩
  have HLS : Hid (∀ W, Keep [] (W3.setCell ⟨gv, N.id, none⟩ (.bool true)) W → Calls Tryz.prog 46 #[.pointer (some ⟨V.r, 3, none⟩)] W fun e w' => e = .returned (.tuple #[.int .i64 (M.st.last.1 : Int), .int .i64 (M.st.last.2 : Int)]) ∧ NodeAt w' V3 (M.asked 0) D1 ∧ NodeTo V V3 w w') := fun W hk => by
    obtain ⟨h1, h2⟩ := HSV.out W hk
    have := lastO_calls _ V3.lg h1.sto (by show M.st.log.length ≤ _; rw [mlog]; omega)
    rw [HR3.out] at this
    refine this.mono ?_
    rintro e w' ⟨rfl, k, rfl⟩
    exact ⟨rfl, h1.grow ((Keep.refl _ _).drewN _), h2.trans (NodeTo.grow V3 ((Keep.refl _ _).drewN _))⟩
  have HSD : Hid (∀ k, k < N.n → ∀ W U, NodeAt W U (M.asked k) D1 → NodeTo V U w W → U.r = V.r → k ≠ N.id → Calls Tryz.prog 80 #[.pointer (some ⟨V.r, 0, none⟩), .agg #[.int .i64 1, .int .i64 0, .int .i64 (k : Int), .int .i64 0, .int .i64 (M.st.last.1 : Int), .int .i64 (M.st.last.2 : Int), .int .i64 0, .bool false, .slice none 0 0, .string { data := #[] }]] W fun e w' => e = .returned (.tuple #[]) ∧ ∃ U', NodeAt w' U' (M.asked (k + 1)) D1 ∧ NodeTo V U' w w' ∧ U'.r = V.r) := fun k hk W U hW hT hr hne => by
    have := send_calls hW ⟨1, 0, (k : Int), 0, (M.st.last.1 : Int), (M.st.last.2 : Int), 0, false, [], []⟩ (.slice none 0 0) ⟨none, 0, rfl, fun h => absurd rfl h⟩ (fun k e => by cases e) (by rw [hW.outs_len]; have := asked_len M k; rw [mout] at this; omega)
    rw [← hr]
    refine this.mono ?_
    rintro e w' ⟨rfl, ou', h1, h2, h3⟩
    have e1 : (M.asked k).send ⟨1, 0, (k : Int), 0, (M.st.last.1 : Int), (M.st.last.2 : Int), 0, false, [], []⟩ = M.asked (k + 1) := by
      rw [asked_succ, if_neg (by rw [mid]; exact hne)]
      rfl
    have ht := sent_to (p := ({ (⟨1, 0, (k : Int), 0, (M.st.last.1 : Int), (M.st.last.2 : Int), 0, false, [], []⟩ : Mg) with frm := ((M.asked k).id : Int), term := ((M.asked k).st.term : Int) }, .slice none 0 0)) (Keep.refl [] W) h2 h3 (fun k e => by cases e)
    exact ⟨rfl, _, e1 ▸ h1, hT.trans ht, rfl⟩
  have HSK : Hid (M.asked (N.id + 1) = M.asked N.id) := by
    show M.asked (N.id + 1) = M.asked N.id
    rw [asked_succ, if_pos (by rw [mid])]
  clear ml mlog mout hM HXS HXL HN3 HT3 HVO3 HSV
  go_region
  go_wp2_with (first
    | (go_at_call 46; refine (HLS.out _ (by repeat (first | exact Keep.refl _ _ | refine Keep.drew ?_ | refine Keep.drewN ?_ _ | refine Keep.alloc ?_ _))).mono ?_; rintro e w4 ⟨rfl, h4, t4⟩; have c2 : w4.cell? ⟨V3.r, 2, none⟩ = some (.int .i64 (M.n : Int)) := h4.blk.cell 2; rw [HR3.out, mn] at c2; have H4 := Lib.hid h4; have HT4 := Lib.hid t4; clear h4 t4)
    | fail)
  go_loopw [4, 55] (fun _ vi wr => ∃ k U, k ≤ N.n ∧ vi = .int .i64 ((k : Nat) : Int) ∧ NodeAt wr U (M.asked k) D1 ∧ NodeTo V U w wr ∧ U.r = V.r) (fun _ vi _ => N.n - (intOf vi).toNat)
  case atStart => exact ⟨0, V3, Nat.zero_le _, rfl, H4.out, HT4.out, HR3.out⟩
  case round =>
    obtain ⟨k, U, hk, rfl, hU, hT, hr⟩ := hrel
    have c1 : wr.cell? ⟨U.r, 1, none⟩ = some (.int .i64 (M.id : Int)) := hU.blk.cell 1
    rw [hr, mid] at c1
    have HU := Lib.hid hU
    have HTT := Lib.hid hT
    have HR := Lib.hid hr
    clear hU hT hr
    by_cases hlt : k < N.n
    · have d1 : decide ((k : Int) < (N.n : Int)) = true := by simp; omega
      by_cases hne : k = N.id
      · have d2 : ((k : Int) != (N.id : Int)) = false := by simp; omega
        go_wp2
        go_roundw
        case rel =>
          refine ⟨k + 1, U, by omega, by go_num, ?_, HTT.out, HR.out⟩
          rw [hne, HSK.out, ← hne]
          exact HU.out
        case measure => simp [intOf]; omega
      · have d2 : ((k : Int) != (N.id : Int)) = true := by simp; omega
        go_wp2_with (go_at_call 80; refine (HSD.out k hlt _ U HU.out HTT.out HR.out hne).mono ?_; rintro e w5 ⟨rfl, U5, h5, t5, r5⟩; have H5 := Lib.hid h5; have HT5 := Lib.hid t5; have HR5 := Lib.hid r5; clear h5 t5 r5)
        go_roundw
        case rel => exact ⟨k + 1, U5, by omega, by go_num, H5.out, HT5.out, HR5.out⟩
        case measure => simp [intOf]; omega
    · have d1 : decide ((k : Int) < (N.n : Int)) = false := by simp; omega
      obtain rfl : k = N.n := by omega
      go_wp2_with (go_at_call 56; refine (HC.out _ U HU.out HTT.out HR.out).mono ?_; rintro e w6 ⟨rfl, h6⟩; have H6 := Lib.hid h6; clear h6)
      go_end0
      exact ⟨rfl, H6.out⟩
end

end Go.Proofs.YtnlcipocobmgiaaGreatDoor
