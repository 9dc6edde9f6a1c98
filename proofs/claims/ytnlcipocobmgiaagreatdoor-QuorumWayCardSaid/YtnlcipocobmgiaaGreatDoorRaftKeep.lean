/- The contracts of (*raft.Node).Fresh, State. -/
import Derived.Test.YtnlcipocobmgiaaGreatDoorRaft10
namespace Go.Proofs.YtnlcipocobmgiaaGreatDoor
open Go.RowKit
attribute [local go_sem] size_bs bs_append bs_extract

def Rn.handed (N : Rn) : List En := N.st.from_ (N.applied + 1) (N.commit - N.applied)
def Rn.fresh (N : Rn) : Rn := { N with applied := match N.handed.getLast? with
  | some e => e.index
  | none => N.applied }
section
variable {w : World} {V : Nv} {N : Rn} {D : Dk}
set_option maxRecDepth 100000 in
set_option maxHeartbeats 2000000 in
theorem fresh_calls (h : NodeAt w V N D) (hS : N.Sm) (hb : N.st.base ≤ N.applied) (hc : N.applied ≤ N.commit) :
    Calls Tryz.prog 13 #[.pointer (some ⟨V.r, 0, none⟩)] w fun e w' => ∃ A c, e = .returned (.tuple #[.string (bs []), .bool false, .slice A N.handed.length c]) ∧ w'.ownsRow w.heap.size 62 3 (.slice A N.handed.length c) N.handed.length (entsV N.handed) ∧ NodeAt w' V N.fresh D ∧ NodeTo V V w w' := by
  have hap := hS.applied
  have hcm := hS.commit
  have hbs := hS.base
  have hlg := hS.log
  have T1 : ∀ W, NodeAt W V N D → Calls Tryz.prog 45 #[.pointer (some ⟨V.r, 3, none⟩), .int .i64 ((N.applied + 1 : Nat) : Int), .int .i64 ((N.commit - N.applied : Nat) : Int)] W fun e w' => ∃ A c, e = .returned (.slice A N.handed.length c) ∧ w'.ownsRow W.heap.size 62 3 (.slice A N.handed.length c) N.handed.length (entsV N.handed) ∧ Keep [] W w' := fun W hW =>
    fromO_calls N.st V.lg hW.sto (N.applied + 1) (N.commit - N.applied) (by omega) (by omega) (by omega) (by omega)
  have c12 : w.cell? ⟨V.r, 12, none⟩ = some (.int .i64 (N.applied : Int)) := h.blk.cell 12
  have c11 : w.cell? ⟨V.r, 11, none⟩ = some (.int .i64 (N.commit : Int)) := h.blk.cell 11
  have c5 : w.cell? ⟨V.r, 5, none⟩ = some (.int .i64 (N.st.base : Int)) := h.blk.cell 5
  have HS : Hid (∀ W, Keep [] w W → W.cell? ⟨V.r, 12, none⟩ = some (.int .i64 (N.applied : Int)) ∧ W.cell? ⟨V.r, 11, none⟩ = some (.int .i64 (N.commit : Int))) := fun W hk => by
    have h1 := h.blk.keep hk (by simp)
    exact ⟨h1.cell 12, h1.cell 11⟩
  have H := Lib.hid h
  have HT1 := Lib.hid T1
  have HFR : Hid (N.fresh = { N with applied := match N.handed.getLast? with
    | some e => e.index
    | none => N.applied }) := rfl
  have hln : N.handed.length ≤ 1000000 := by
    unfold Rn.handed Ts.from_
    split
    · rw [List.length_take, List.length_drop]; omega
    · simp
  clear h T1 hS
  have d1 : decide ((N.applied : Int) < (N.st.base : Int)) = false := by simp; omega
  have w1 : IntKind.i64.wrap ((N.applied : Int) + 1) = ((N.applied + 1 : Nat) : Int) := by rw [IntWalk.i64_in _ (by omega)]; omega
  have w2 : IntKind.i64.wrap ((N.commit : Int) - (N.applied : Int)) = ((N.commit - N.applied : Nat) : Int) := by rw [IntWalk.i64_in _ (by omega)]; omega
  generalize hx1 : N.applied + 1 = a1 at *
  generalize hx2 : N.commit - N.applied = a2 at *
  clear hx1 hx2
  go_enter Tryz.func13, Tryz.ntmps13
  go_wp2
  go_quiet (fail)
  go_wp2
  go_region_held3 (fun w' => w'.cell? ⟨V.r, 12, none⟩ = some (.int .i64 (N.applied : Int)) ∧ w'.cell? ⟨V.r, 11, none⟩ = some (.int .i64 (N.commit : Int)))
    (first
      | (refine HS.out _ ?_; (repeat (first | exact Keep.refl _ _ | exact HK5.out | refine Keep.drew ?_ | refine Keep.drewN ?_ _ | refine Keep.alloc ?_ _)); done)
      | go_keep)
    (first
      | (go_at_call 45; refine (HT1.out _ (H.out.grow (by repeat (first | exact Keep.refl _ _ | refine Keep.drew ?_ | refine Keep.drewN ?_ _ | refine Keep.alloc ?_ _)))).mono ?_; rintro e w5 ⟨A5, c5', rfl, hO, hk⟩; have HO := Lib.hid hO; have HK5 : Hid (Keep [] w w5) := Keep.trans' (M := []) (by repeat (first | exact Keep.refl _ _ | refine Keep.drew ?_ | refine Keep.drewN ?_ _ | refine Keep.alloc ?_ _)) hk (by simp); clear hO hk)
      | fail)
  clear w1 w2 HT1 HS c12 c11 c5
  have H5 := Lib.hid (H.out.grow HK5.out)
  have HO2 : Hid (w5.ownsRow w.heap.size 62 3 (.slice A5 N.handed.length c5') N.handed.length (entsV N.handed)) := HO.out
  have c12 : w5.cell? ⟨V.r, 12, none⟩ = some (.int .i64 (N.applied : Int)) := H5.out.blk.cell 12
  have f12 : w5.frozen? ⟨V.r, 12, none⟩ = false := H5.out.blk.frozen 12
  have hwz := HK5.out.size
  have hrl : V.r < w.heap.size := H.out.blk.lt
  by_cases h0 : N.handed = []
  · have HE : Hid (N.fresh = N) := by
      show N.fresh = N
      rw [HFR.out, h0]
      rfl
    have hl0 : N.handed.length = 0 := by rw [h0]; rfl
    have HL0 := Lib.hid hl0
    rw [hl0] at HO HO2 ⊢
    clear h0 hl0
    go_wp2
    go_ret3
    exact ⟨A5, c5', by show Ending.returned (.tuple #[.string (bs []), .bool false, .slice A5 0 c5']) = _; rw [HL0.out], by rw [HL0.out]; exact HO2.out, by rw [HE.out]; exact H5.out, NodeTo.grow V HK5.out⟩
  · have hpos : 0 < N.handed.length := List.length_pos_iff.2 h0
    have hlast : N.handed.getLast? = some (N.handed[N.handed.length - 1]'(by omega)) := by rw [List.getLast?_eq_getElem?]; simp
    have HFR2 : Hid (N.fresh = { N with applied := (N.handed[N.handed.length - 1]'(by omega)).index }) := by
      show N.fresh = _
      rw [HFR.out, hlast]
    obtain ⟨A', c', he, hcc⟩ := own_ents HO2.out
    injection he with he1 _ he3
    subst he1 he3
    obtain ⟨g, o, rfl, hc⟩ := hcc h0
    obtain ⟨h1, -, -⟩ := entsV_at N.handed (N.handed.length - 1) (by omega)
    have k0 := hc _ _ h1
    clear hcc hc h1 hlast HFR
    generalize (N.handed[N.handed.length - 1]'(by omega)).index = xi at *
    clear h0
    obtain ⟨ln, hlnn⟩ : ∃ ln, ln = N.handed.length := ⟨_, rfl⟩
    rw [← hlnn] at hpos k0 hln HO HO2 ⊢
    have HLN := Lib.hid hlnn
    clear hlnn
    obtain ⟨k, hk⟩ : ∃ k, ln = k + 1 := ⟨ln - 1, by omega⟩
    have hk1 : ln - 1 = k := by omega
    have hsub : IntKind.i64.wrap ((ln : Int) - 1) = (k : Int) := by rw [IntWalk.i64_in _ (by omega)]; omega
    have hkn : k < ln := by omega
    rw [hk1, Nat.mul_comm] at k0
    clear hk hk1
    have hd : decide ((0 : Int) < (ln : Int)) = true := by simpa using hpos
    go_wp2
    go_ret3
    have hk8 : Keep [] w w5 := HK5.out
    obtain ⟨h7, h8⟩ := setR_end (N' := { N with applied := xi }) H5.out (NodeTo.grow V hk8) ((Keep.refl [V.r] w5).setCell (.inl (by simp)) _) (H5.out.blk.set_ 12 _) rfl rfl rfl rfl rfl
    refine ⟨_, _, (by show Ending.returned (.tuple #[.string (bs []), .bool false, .slice (some ⟨g, o, none⟩) ln c5']) = _; rw [HLN.out]), ?_, by rw [HFR2.out]; exact h7, h8⟩
    rw [← HLN.out]
    exact Keep.owns ((Keep.refl [V.r] w5).setCell (.inl (by simp)) _) HO2.out (fun q e => by
      have := (HO2.out.lt q e).1
      simp
      omega)
end

end Go.Proofs.YtnlcipocobmgiaaGreatDoor
/- The contracts of (*raft.Node).keepSnap, Compact. -/
namespace Go.Proofs.YtnlcipocobmgiaaGreatDoor
open Go.RowKit
attribute [local go_sem] size_bs bs_append bs_extract

def Rn.snapped (N : Rn) (b t : Nat) (snap : List UInt8) (rest : List En) : Rn := { N with st := { N.st with base := b, baseTerm := t, snap := snap, log := rest } }
def Nv.withLog (V : Nv) (v : Value) : Nv := { V with lg := v }
theorem Nv.withLog_fp {V : Nv} {v : Value} {x : Nat} (h : x ∈ (V.withLog v).fp) : x ∈ V.fp ∨ v.ownBlock = some x := by
  rcases Nv.mem.1 h with h | h | h | h | h | h | h | h
  · exact .inl (Nv.mem.2 (.inl h))
  · exact .inl (Nv.mem.2 (.inr (.inl h)))
  · exact .inl (Nv.mem.2 (.inr (.inr (.inl h))))
  · exact .inr h
  · exact .inl (Nv.mem.2 (.inr (.inr (.inr (.inr (.inl h))))))
  · exact .inl (Nv.mem.2 (.inr (.inr (.inr (.inr (.inr (.inl h)))))))
  · exact .inl (Nv.mem.2 (.inr (.inr (.inr (.inr (.inr (.inr (.inl h))))))))
  · exact .inl (Nv.mem.2 (.inr (.inr (.inr (.inr (.inr (.inr (.inr h))))))))
section
variable {w : World} {V : Nv} {N : Rn} {D : Dk}
theorem snapped_end {w0 w1 w' : World} {D' : Dk} {v : Value} {b t : Nat} {snap : List UInt8} {rest : List En} (h0 : NodeAt w0 V N D) (h1 : NodeAt w1 V N D') (ht : NodeTo V V w0 w1) (hO : w1.ownsRow w0.heap.size 62 3 v rest.length (entsV rest)) (hk : Keep [V.r] w1 w') (hB : Blk w' V.r 81 (nodeCells (V.withLog v) (N.snapped b t snap rest))) : NodeAt w' (V.withLog v) (N.snapped b t snap rest) D' ∧ NodeTo V (V.withLog v) w0 w' := by
  have R := h1.rest_keep hk
  have hnv : ∀ k, v.ownBlock = some k → w0.heap.size ≤ k := fun k e => (hO.lt k e).1
  have hr0 := h0.blk.lt
  have hg0 := World.block_lt_of_cell? _ _ (h0.rest.tab 0 (by omega))
  refine ⟨⟨hB, R.disk, own_base0 (hk.owns hO (fun k e => by have := hnv k e; simp; omega)), R.vo, R.ma, R.ne, R.dis, R.ou, R.outs, fun p hp => ⟨(R.es p hp).1, fun k e => ⟨((R.es p hp).2 k e).1, fun hx => ?_⟩⟩, R.tab, fun hx => ?_⟩, ⟨(ht.trans (NodeTo.setR V hk)).keep, fun x hx => ?_, fun _ h => .inl h, rfl, rfl, rfl⟩⟩
  · rcases Nv.withLog_fp hx with h2 | h2
    · exact ((R.es p hp).2 k e).2 h2
    · have := ((h0.rest.es p hp).2 k e).1
      have := hnv k h2
      omega
  · rcases Nv.withLog_fp hx with h2 | h2
    · exact R.tn h2
    · have := hnv _ h2
      simp at hg0
      omega
  · rcases Nv.withLog_fp hx with h2 | h2
    · exact .inl h2
    · exact .inr (hnv x h2)
set_option maxRecDepth 100000 in
set_option maxHeartbeats 1000000 in
theorem keepSnap_calls {w0 : World} (h0 : NodeAt w0 V N D) (hw : Keep [] w0 w) (hg : D.Good) (b t : Nat) (hb : b ≤ 4611686018427387904) (ht : t ≤ 4611686018427387904) (snap : List UInt8) (hs : snap.length ≤ 16777216) (rest : List En) (A : Option Addr) (c : Nat) (hO : w.ownsRow w0.heap.size 62 3 (.slice A rest.length c) rest.length (entsV rest)) (hl : EnsOk rest) {D' : Dk} (hd : D.saveSnap b t snap rest = (D', 0)) :
    Calls Tryz.prog 48 #[.pointer (some ⟨V.r, 0, none⟩), .int .i64 (b : Int), .int .i64 (t : Int), .string (bs snap), .slice A rest.length c] w fun e w' => e = .returned (.bool true) ∧ NodeAt w' (V.withLog (.slice A rest.length c)) (N.snapped b t snap rest) D' ∧ NodeTo V (V.withLog (.slice A rest.length c)) w0 w' := by
  have h := h0.grow hw
  have T : ∀ W, Keep [] w W → Calls Tryz.prog 41 #[.pointer (some ⟨V.b, 0, none⟩), .int .i64 (b : Int), .int .i64 (t : Int), .string (bs snap), .slice A rest.length c] W fun e w' => e = .returned (.int .i64 0) ∧ NodeAt w' V N D' ∧ NodeTo V V w0 w' ∧ w'.ownsRow w0.heap.size 62 3 (.slice A rest.length c) rest.length (entsV rest) := fun W hk => by
    have hW := h.grow hk
    have hOW := hk.owns hO (by simp)
    have := saveSnap_calls hW.rest.disk hg hW.rest.tab b t hb ht snap hs rest _ (own_ents hOW) hl
    rw [hd] at this
    refine this.mono ?_
    rintro e w' ⟨rfl, h1, h2⟩
    refine ⟨rfl, hW.setDisk h2 h1, (NodeTo.grow V (hw.trans hk)).trans (NodeTo.setDisk V h2), h2.owns hOW (fun k e => ?_)⟩
    have h3 := (hO.lt k e).1
    have h4 := h0.rest.disk.blk.lt
    have h5 := h0.rest.disk.map.lt
    simp
    omega
  have HT := Lib.hid T
  have H0 := Lib.hid h0
  have c0 : w.cell? ⟨V.r, 0, none⟩ = some (.pointer (some ⟨V.b, 0, none⟩)) := h.blk.cell 0
  clear h h0 T hd hO hl hw
  go_enter Tryz.func48, Tryz.ntmps48
  go_wp2_with (first
    | (go_at_call 41; refine (HT.out _ (Keep.refl _ _)).mono ?_; rintro e w1 ⟨rfl, h1, hk1, hO1⟩; obtain ⟨Al, cl, hlv⟩ := own_slice h1.rest.log; have c5 : w1.cell? ⟨V.r, 5, none⟩ = some (.int .i64 (N.st.base : Int)) := h1.blk.cell 5; have c6 : w1.cell? ⟨V.r, 6, none⟩ = some (.int .i64 (N.st.baseTerm : Int)) := h1.blk.cell 6; have c7 : w1.cell? ⟨V.r, 7, none⟩ = some (.string (bs N.st.snap)) := h1.blk.cell 7; have c8 : w1.cell? ⟨V.r, 8, none⟩ = some V.lg := h1.blk.cell 8; rw [hlv] at c8; have hf : ∀ i, w1.frozen? ⟨V.r, i, none⟩ = false := fun i => h1.blk.frozen i; have H1 := Lib.hid h1; have HK1 := Lib.hid hk1; have HO1 := Lib.hid hO1; clear h1 hk1 hO1 hlv c0)
    | (go_at_call 81; refine (stored_ok _ _).mono ?_; rintro e w1 ⟨rfl, rfl⟩))
  go_ret
  exact ⟨rfl, snapped_end H0.out H1.out HK1.out HO1.out (by repeat (first | exact Keep.refl _ _ | refine Keep.drew ?_ | refine Keep.drewN ?_ _ | refine Keep.alloc ?_ _ | refine Keep.setCell ?_ (.inl (by simp)) _)) ((((H1.out.blk.set_ 5 _).set_ 6 _).set_ 7 _).set_ 8 _)⟩

set_option maxRecDepth 100000 in
set_option maxHeartbeats 2000000 in
theorem compact_calls (h : NodeAt w V N D) (hg : D.Good) (hS : N.Sm) (hb : N.broken = 0) (hba : N.st.base < N.applied) {t : Nat} (ht : N.st.termAt N.applied = some t) (htt : t ≤ 2199023255552) (snap : List UInt8) (hs : snap.length ≤ 1000000) (hl : EnsOk (N.st.from_ (N.applied + 1) N.st.log.length)) {D' : Dk} (hd : D.saveSnap N.applied t snap (N.st.from_ (N.applied + 1) N.st.log.length) = (D', 0)) :
    Calls Tryz.prog 16 #[.pointer (some ⟨V.r, 0, none⟩), .string (bs snap)] w fun e w' => e = .returned (.int .i64 0) ∧ ∃ V', NodeAt w' V' (N.snapped N.applied t snap (N.st.from_ (N.applied + 1) N.st.log.length)) D' ∧ NodeTo V V' w w' := by
  have hap := hS.applied
  have hbs := hS.base
  have hlg := hS.log
  obtain ⟨A0, c0, hlv⟩ := own_slice h.rest.log
  have T1 : ∀ W, NodeAt W V N D → Calls Tryz.prog 47 #[.pointer (some ⟨V.r, 3, none⟩), .int .i64 (N.applied : Int)] W fun e w' => e = .returned (.tuple #[.int .i64 (t : Int), .bool true]) ∧ ∃ n, w' = W.drewN n := fun W hW => by
    have := termAtO_calls N.st V.lg hW.sto N.applied (by omega) (by omega)
    rw [ht] at this
    exact this
  have T2 : ∀ W, NodeAt W V N D → Calls Tryz.prog 45 #[.pointer (some ⟨V.r, 3, none⟩), .int .i64 ((N.applied + 1 : Nat) : Int), .int .i64 (N.st.log.length : Int)] W fun e w' => ∃ A c, e = .returned (.slice A (N.st.from_ (N.applied + 1) N.st.log.length).length c) ∧ w'.ownsRow W.heap.size 62 3 (.slice A (N.st.from_ (N.applied + 1) N.st.log.length).length c) (N.st.from_ (N.applied + 1) N.st.log.length).length (entsV (N.st.from_ (N.applied + 1) N.st.log.length)) ∧ Keep [] W w' := fun W hW =>
    fromO_calls N.st V.lg hW.sto (N.applied + 1) N.st.log.length (by omega) (by omega) (by omega) (by omega)
  have T3 : ∀ W0 W A c, NodeAt W0 V N D → Keep [] w W0 → Keep [] W0 W → W.ownsRow W0.heap.size 62 3 (.slice A (N.st.from_ (N.applied + 1) N.st.log.length).length c) (N.st.from_ (N.applied + 1) N.st.log.length).length (entsV (N.st.from_ (N.applied + 1) N.st.log.length)) → Calls Tryz.prog 48 #[.pointer (some ⟨V.r, 0, none⟩), .int .i64 (N.applied : Int), .int .i64 (t : Int), .string (bs snap), .slice A (N.st.from_ (N.applied + 1) N.st.log.length).length c] W fun e w' => e = .returned (.bool true) ∧ ∃ V', NodeAt w' V' (N.snapped N.applied t snap (N.st.from_ (N.applied + 1) N.st.log.length)) D' ∧ NodeTo V V' w w' ∧ w'.cell? ⟨V.r, 18, none⟩ = some (.int .i64 0) := fun W0 W A c hW hk0 hk hO => by
    have := keepSnap_calls hW hk hg N.applied t (by omega) (by omega) snap (by omega) _ A c hO hl hd
    refine this.mono ?_
    rintro e w' ⟨rfl, h1, h2⟩
    have h18 : w'.cell? ⟨V.r, 18, none⟩ = some (.int .i64 N.broken) := h1.blk.cell 18
    rw [hb] at h18
    exact ⟨rfl, _, h1, (NodeTo.grow V hk0).trans h2, h18⟩
  have c12 : w.cell? ⟨V.r, 12, none⟩ = some (.int .i64 (N.applied : Int)) := h.blk.cell 12
  have c18 : w.cell? ⟨V.r, 18, none⟩ = some (.int .i64 0) := by rw [← hb]; exact h.blk.cell 18
  have c5 : w.cell? ⟨V.r, 5, none⟩ = some (.int .i64 (N.st.base : Int)) := h.blk.cell 5
  have HS : Hid (∀ W, Keep [] w W → W.cell? ⟨V.r, 12, none⟩ = some (.int .i64 (N.applied : Int)) ∧ W.cell? ⟨V.r, 8, none⟩ = some (.slice A0 N.st.log.length c0)) := fun W hk => by
    have h1 := h.blk.keep hk (by simp)
    have h8 : W.cell? ⟨V.r, 8, none⟩ = some V.lg := h1.cell 8
    rw [hlv] at h8
    exact ⟨h1.cell 12, h8⟩
  have H := Lib.hid h
  have HT1 := Lib.hid T1
  have HT2 := Lib.hid T2
  have HT3 := Lib.hid T3
  clear h T1 T2 T3 hS hl hd hb ht hlv
  generalize N.snapped N.applied t snap (N.st.from_ (N.applied + 1) N.st.log.length) = N' at *
  generalize N.st.from_ (N.applied + 1) N.st.log.length = rest at *
  have d1 : decide ((N.applied : Int) ≤ (N.st.base : Int)) = false := by simp; omega
  have d2 : decide ((1000000 : Int) < (snap.length : Int)) = false := by simp; omega
  have w1 : IntKind.i64.wrap ((N.applied : Int) + 1) = ((N.applied + 1 : Nat) : Int) := by rw [IntWalk.i64_in _ (by omega)]; omega
  generalize hx1 : N.applied + 1 = a1 at *
  clear hx1
  go_enter Tryz.func16, Tryz.ntmps16
  go_wp2
  go_region_held3 (fun w' => w'.cell? ⟨V.r, 12, none⟩ = some (.int .i64 (N.applied : Int)))
    (first
      | (refine (HS.out _ ?_).1; (repeat (first | exact Keep.refl _ _ | refine Keep.drew ?_ | refine Keep.drewN ?_ _ | refine Keep.alloc ?_ _)); done)
      | go_keep)
    (first
      | (go_at_call 47; refine (HT1.out _ (H.out.grow (by repeat (first | exact Keep.refl _ _ | refine Keep.drew ?_ | refine Keep.drewN ?_ _ | refine Keep.alloc ?_ _)))).mono ?_; rintro e w5 ⟨rfl, n1, rfl⟩)
      | fail)
  go_wp2
  go_quiet (fail)
  go_wp2
  refine wp_region_K (S := fun W => W.cell? ⟨V.r, 12, none⟩ = some (.int .i64 (N.applied : Int)) ∧ W.cell? ⟨V.r, 8, none⟩ = some (.slice A0 N.st.log.length c0)) (z := 22) (by kernel_rfl) ?_
  refine wpAnyK_take2 (i := 0) (v := ?_) rfl rfl (by kernel_rfl) (by kernel_rfl) (by kernel_rfl) (by kernel_rfl) (by kernel_rfl) (fun _ _ _ h => h) (by rfl) ?_ (HS.out _ (by repeat (first | exact Keep.refl _ _ | refine Keep.drew ?_ | refine Keep.drewN ?_ _ | refine Keep.alloc ?_ _))) ?_
  rotate_left
  · rintro W ⟨s0, s1⟩
    go_simp
    with_reducible rfl
  try simp only [Act.put]
  refine wpAnyK_take2 (i := 1) (v := ?_) rfl rfl (by kernel_rfl) (by kernel_rfl) (by kernel_rfl) (by kernel_rfl) (by kernel_rfl) (fun _ _ _ h => h) (by rfl) ?_ (HS.out _ (by repeat (first | exact Keep.refl _ _ | refine Keep.drew ?_ | refine Keep.drewN ?_ _ | refine Keep.alloc ?_ _))) ?_
  rotate_left
  · rintro W ⟨s0, s1⟩
    go_simp
    with_reducible rfl
  try simp only [Act.put]
  refine wpAnyK_take2 (i := 2) (v := ?_) rfl rfl (by kernel_rfl) (by kernel_rfl) (by kernel_rfl) (by kernel_rfl) (by kernel_rfl) (fun _ _ _ h => h) (by rfl) ?_ (HS.out _ (by repeat (first | exact Keep.refl _ _ | refine Keep.drew ?_ | refine Keep.drewN ?_ _ | refine Keep.alloc ?_ _))) ?_
  rotate_left
  · rintro W ⟨s0, s1⟩
    go_simp
    with_reducible rfl
  try simp only [Act.put]
  refine wpAnyK_take2 (i := 3) (v := ?_) rfl rfl (by kernel_rfl) (by kernel_rfl) (by kernel_rfl) (by kernel_rfl) (by kernel_rfl) (fun _ _ _ h => h) (by rfl) ?_ (HS.out _ (by repeat (first | exact Keep.refl _ _ | refine Keep.drew ?_ | refine Keep.drewN ?_ _ | refine Keep.alloc ?_ _))) ?_
  rotate_left
  · rintro W ⟨s0, s1⟩
    go_simp
    with_reducible rfl
  try simp only [Act.put]
  refine wpAnyK_take2 (i := 4) (v := ?_) rfl rfl (by kernel_rfl) (by kernel_rfl) (by kernel_rfl) (by kernel_rfl) (by kernel_rfl) (fun _ _ _ h => h) (by rfl) ?_ (HS.out _ (by repeat (first | exact Keep.refl _ _ | refine Keep.drew ?_ | refine Keep.drewN ?_ _ | refine Keep.alloc ?_ _))) ?_
  rotate_left
  · rintro W ⟨s0, s1⟩
    go_simp
    with_reducible rfl
  try simp only [Act.put]
  refine wpAnyK_take2 (i := 5) (v := ?_) rfl rfl (by kernel_rfl) (by kernel_rfl) (by kernel_rfl) (by kernel_rfl) (by kernel_rfl) (fun _ _ _ h => h) (by rfl) ?_ (HS.out _ (by repeat (first | exact Keep.refl _ _ | refine Keep.drew ?_ | refine Keep.drewN ?_ _ | refine Keep.alloc ?_ _))) ?_
  rotate_left
  · rintro W ⟨s0, s1⟩
    go_simp
    with_reducible rfl
  try simp only [Act.put]
  refine wpAnyK_take2 (i := 6) (v := ?_) rfl rfl (by kernel_rfl) (by kernel_rfl) (by kernel_rfl) (by kernel_rfl) (by kernel_rfl) (fun _ _ _ h => h) (by rfl) ?_ (HS.out _ (by repeat (first | exact Keep.refl _ _ | refine Keep.drew ?_ | refine Keep.drewN ?_ _ | refine Keep.alloc ?_ _))) ?_
  rotate_left
  · rintro W ⟨s0, s1⟩
    go_simp
    with_reducible rfl
  try simp only [Act.put]
  refine wpAnyK_take2 (i := 7) (v := ?_) rfl rfl (by kernel_rfl) (by kernel_rfl) (by kernel_rfl) (by kernel_rfl) (by kernel_rfl) (fun _ _ _ h => h) (by rfl) ?_ (HS.out _ (by repeat (first | exact Keep.refl _ _ | refine Keep.drew ?_ | refine Keep.drewN ?_ _ | refine Keep.alloc ?_ _))) ?_
  rotate_left
  · rintro W ⟨s0, s1⟩
    go_simp
    with_reducible rfl
  try simp only [Act.put]
  refine wpAnyK_take2 (i := 8) (v := ?_) rfl rfl (by kernel_rfl) (by kernel_rfl) (by kernel_rfl) (by kernel_rfl) (by kernel_rfl) (fun _ _ _ h => h) (by rfl) ?_ (HS.out _ (by repeat (first | exact Keep.refl _ _ | refine Keep.drew ?_ | refine Keep.drewN ?_ _ | refine Keep.alloc ?_ _))) ?_
  rotate_left
  · rintro W ⟨s0, s1⟩
    go_simp
    with_reducible rfl
  try simp only [Act.put]
  refine wpAnyK_take2 (i := 9) (v := ?_) rfl rfl (by kernel_rfl) (by kernel_rfl) (by kernel_rfl) (by kernel_rfl) (by kernel_rfl) (fun _ _ _ h => h) (by rfl) ?_ (HS.out _ (by repeat (first | exact Keep.refl _ _ | refine Keep.drew ?_ | refine Keep.drewN ?_ _ | refine Keep.alloc ?_ _))) ?_
  rotate_left
  · rintro W ⟨s0, s1⟩
    go_simp
    with_reducible rfl
  try simp only [Act.put]
  refine wpAnyK_take2 (i := 10) (v := ?_) rfl rfl (by kernel_rfl) (by kernel_rfl) (by kernel_rfl) (by kernel_rfl) (by kernel_rfl) (fun _ _ _ h => h) (by rfl) ?_ (HS.out _ (by repeat (first | exact Keep.refl _ _ | refine Keep.drew ?_ | refine Keep.drewN ?_ _ | refine Keep.alloc ?_ _))) ?_
  rotate_left
  · rintro W ⟨s0, s1⟩
    go_simp
    with_reducible rfl
  try simp only [Act.put]
  refine wpAnyK_take2 (i := 11) (v := ?_) rfl rfl (by kernel_rfl) (by kernel_rfl) (by kernel_rfl) (by kernel_rfl) (by kernel_rfl) (fun _ _ _ h => h) (by rfl) ?_ (HS.out _ (by repeat (first | exact Keep.refl _ _ | refine Keep.drew ?_ | refine Keep.drewN ?_ _ | refine Keep.alloc ?_ _))) ?_
  rotate_left
  · rintro W ⟨s0, s1⟩
    go_simp
    with_reducible rfl
  try simp only [Act.put]
  refine wpAnyK_take2 (i := 12) (v := ?_) rfl rfl (by kernel_rfl) (by kernel_rfl) (by kernel_rfl) (by kernel_rfl) (by kernel_rfl) (fun _ _ _ h => h) (by rfl) ?_ (HS.out _ (by repeat (first | exact Keep.refl _ _ | refine Keep.drew ?_ | refine Keep.drewN ?_ _ | refine Keep.alloc ?_ _))) ?_
  rotate_left
  · rintro W ⟨s0, s1⟩
    go_simp
    with_reducible rfl
  try simp only [Act.put]
  refine wpAnyK_take2 (i := 13) (v := ?_) rfl rfl (by kernel_rfl) (by kernel_rfl) (by kernel_rfl) (by kernel_rfl) (by kernel_rfl) (fun _ _ _ h => h) (by rfl) ?_ (HS.out _ (by repeat (first | exact Keep.refl _ _ | refine Keep.drew ?_ | refine Keep.drewN ?_ _ | refine Keep.alloc ?_ _))) ?_
  rotate_left
  · rintro W ⟨s0, s1⟩
    go_simp
    with_reducible rfl
  try simp only [Act.put]
  refine wpAnyK_take2 (i := 14) (v := ?_) rfl rfl (by kernel_rfl) (by kernel_rfl) (by kernel_rfl) (by kernel_rfl) (by kernel_rfl) (fun _ _ _ h => h) (by rfl) ?_ (HS.out _ (by repeat (first | exact Keep.refl _ _ | refine Keep.drew ?_ | refine Keep.drewN ?_ _ | refine Keep.alloc ?_ _))) ?_
  rotate_left
  · rintro W ⟨s0, s1⟩
    go_simp
    with_reducible rfl
  try simp only [Act.put]
  refine wpAnyK_take2 (i := 15) (v := ?_) rfl rfl (by kernel_rfl) (by kernel_rfl) (by kernel_rfl) (by kernel_rfl) (by kernel_rfl) (fun _ _ _ h => h) (by rfl) ?_ (HS.out _ (by repeat (first | exact Keep.refl _ _ | refine Keep.drew ?_ | refine Keep.drewN ?_ _ | refine Keep.alloc ?_ _))) ?_
  rotate_left
  · rintro W ⟨s0, s1⟩
    go_simp
    with_reducible rfl
  try simp only [Act.put]
  refine wpAnyK_take2 (i := 16) (v := ?_) rfl rfl (by kernel_rfl) (by kernel_rfl) (by kernel_rfl) (by kernel_rfl) (by kernel_rfl) (fun _ _ _ h => h) (by rfl) ?_ (HS.out _ (by repeat (first | exact Keep.refl _ _ | refine Keep.drew ?_ | refine Keep.drewN ?_ _ | refine Keep.alloc ?_ _))) ?_
  rotate_left
  · rintro W ⟨s0, s1⟩
    go_simp
    with_reducible rfl
  try simp only [Act.put]
  refine wpAnyK_take2 (i := 17) (v := ?_) rfl rfl (by kernel_rfl) (by kernel_rfl) (by kernel_rfl) (by kernel_rfl) (by kernel_rfl) (fun _ _ _ h => h) (by rfl) ?_ (HS.out _ (by repeat (first | exact Keep.refl _ _ | refine Keep.drew ?_ | refine Keep.drewN ?_ _ | refine Keep.alloc ?_ _))) ?_
  rotate_left
  · rintro W ⟨s0, s1⟩
    go_simp
    with_reducible rfl
  try simp only [Act.put]
  refine wpAnyK_take2 (i := 18) (v := ?_) rfl rfl (by kernel_rfl) (by kernel_rfl) (by kernel_rfl) (by kernel_rfl) (by kernel_rfl) (fun _ _ _ h => h) (by rfl) ?_ (HS.out _ (by repeat (first | exact Keep.refl _ _ | refine Keep.drew ?_ | refine Keep.drewN ?_ _ | refine Keep.alloc ?_ _))) ?_
  rotate_left
  · rintro W ⟨s0, s1⟩
    go_simp
    with_reducible rfl
  try simp only [Act.put]
  refine wpAnyK_take2 (i := 19) (v := ?_) rfl rfl (by kernel_rfl) (by kernel_rfl) (by kernel_rfl) (by kernel_rfl) (by kernel_rfl) (fun _ _ _ h => h) (by rfl) ?_ (HS.out _ (by repeat (first | exact Keep.refl _ _ | refine Keep.drew ?_ | refine Keep.drewN ?_ _ | refine Keep.alloc ?_ _))) ?_
  rotate_left
  · rintro W ⟨s0, s1⟩
    go_simp
    with_reducible rfl
  try simp only [Act.put]
  refine wpAnyK_take2 (i := 20) (v := ?_) rfl rfl (by kernel_rfl) (by kernel_rfl) (by kernel_rfl) (by kernel_rfl) (by kernel_rfl) (fun _ _ _ h => h) (by rfl) ?_ (HS.out _ (by repeat (first | exact Keep.refl _ _ | refine Keep.drew ?_ | refine Keep.drewN ?_ _ | refine Keep.alloc ?_ _))) ?_
  rotate_left
  · rintro W ⟨s0, s1⟩
    go_simp
    with_reducible rfl
  try simp only [Act.put]
  refine wpAnyK_one (k := 21) (by kernel_rfl) rfl (fun K hK => ?_)
  go_simp
  go_at_call 45
  refine (HT2.out _ (H.out.grow (by repeat (first | exact Keep.refl _ _ | refine Keep.drew ?_ | refine Keep.drewN ?_ _ | refine Keep.alloc ?_ _)))).mono ?_
  rintro e w5 ⟨A5, c5', rfl, hO, hk⟩
  have HK5 : Hid (Keep [] w w5) := Keep.trans' (M := []) (by repeat (first | exact Keep.refl _ _ | refine Keep.drew ?_ | refine Keep.drewN ?_ _ | refine Keep.alloc ?_ _)) hk (by simp)
  have HO := Lib.hid hO
  have HK := Lib.hid hk
  clear hO hk
  refine hK.out _ _ (fun _ => HS.out _ HK5.out) ?_
  clear hK K
  try simp only [Act.put]
  refine wpAnyK_one (k := 22) (by kernel_rfl) rfl (fun K hK => ?_)
  go_simp
  go_at_call 48
  refine (HT3.out _ _ _ _ (H.out.grow (by repeat (first | exact Keep.refl _ _ | refine Keep.drew ?_ | refine Keep.drewN ?_ _ | refine Keep.alloc ?_ _))) (by repeat (first | exact Keep.refl _ _ | refine Keep.drew ?_ | refine Keep.drewN ?_ _ | refine Keep.alloc ?_ _)) HK.out HO.out).mono ?_
  rintro e w6 ⟨rfl, V6, h6, t6, s6⟩
  have H6 := Lib.hid h6
  have HT6 := Lib.hid t6
  clear h6 t6 c12 c18 c5
  refine hK.out _ _ (fun h => absurd rfl h) ?_
  clear hK K
  refine wpAnyK_done (by kernel_rfl) ?_
  go_wp2
  go_ret
  exact ⟨rfl, V6, H6.out, HT6.out⟩
set_option maxRecDepth 100000 in
set_option maxHeartbeats 1000000 in
theorem compact_none (h : NodeAt w V N D) (hS : N.Sm) (hb : N.broken = 0) (hba : N.applied ≤ N.st.base) (snap : List UInt8) (hs : snap.length ≤ 1000000) :
    Calls Tryz.prog 16 #[.pointer (some ⟨V.r, 0, none⟩), .string (bs snap)] w fun e w' => e = .returned (.int .i64 5) ∧ NodeAt w' V N D ∧ NodeTo V V w w' := by
  have hap := hS.applied
  have hbs := hS.base
  have T1 : ∀ W, NodeAt W V N D → Calls Tryz.prog 47 #[.pointer (some ⟨V.r, 3, none⟩), .int .i64 (N.applied : Int)] W fun e w' => e = .returned (.tuple #[.int .i64 (((N.st.termAt N.applied).getD 0 : Nat) : Int), .bool (N.st.termAt N.applied).isSome]) ∧ ∃ n, w' = W.drewN n := fun W hW =>
    termAtO_calls N.st V.lg hW.sto N.applied (by omega) (by omega)
  have c12 : w.cell? ⟨V.r, 12, none⟩ = some (.int .i64 (N.applied : Int)) := h.blk.cell 12
  have c18 : w.cell? ⟨V.r, 18, none⟩ = some (.int .i64 0) := by rw [← hb]; exact h.blk.cell 18
  have c5 : w.cell? ⟨V.r, 5, none⟩ = some (.int .i64 (N.st.base : Int)) := h.blk.cell 5
  have HS : Hid (∀ W, Keep [] w W → W.cell? ⟨V.r, 12, none⟩ = some (.int .i64 (N.applied : Int))) := fun W hk => (h.blk.keep hk (by simp)).cell 12
  have H := Lib.hid h
  have HT1 := Lib.hid T1
  clear h T1 hS hb
  generalize (N.st.termAt N.applied).getD 0 = tt at *
  generalize (N.st.termAt N.applied).isSome = tb at *
  have d1 : decide ((N.applied : Int) ≤ (N.st.base : Int)) = true := by simp; omega
  have d2 : decide ((1000000 : Int) < (snap.length : Int)) = false := by simp; omega
  go_enter Tryz.func16, Tryz.ntmps16
  go_wp2
  go_region_held3 (fun w' => w'.cell? ⟨V.r, 12, none⟩ = some (.int .i64 (N.applied : Int)))
    (first
      | (refine HS.out _ ?_; (repeat (first | exact Keep.refl _ _ | refine Keep.drew ?_ | refine Keep.drewN ?_ _ | refine Keep.alloc ?_ _)); done)
      | go_keep)
    (first
      | (go_at_call 47; refine (HT1.out _ (H.out.grow (by repeat (first | exact Keep.refl _ _ | refine Keep.drew ?_ | refine Keep.drewN ?_ _ | refine Keep.alloc ?_ _)))).mono ?_; rintro e w5 ⟨rfl, n1, rfl⟩)
      | fail)
  go_wp2
  go_quiet (fail)
  go_wp2
  go_ret
  exact ⟨rfl, H.out.grow (by repeat (first | exact Keep.refl _ _ | refine Keep.drew ?_ | refine Keep.drewN ?_ _ | refine Keep.alloc ?_ _)), NodeTo.grow V (by repeat (first | exact Keep.refl _ _ | refine Keep.drew ?_ | refine Keep.drewN ?_ _ | refine Keep.alloc ?_ _))⟩
end

end Go.Proofs.YtnlcipocobmgiaaGreatDoor
/- The contract of (*raft.Node).State; slices.Clone of any entries. -/
namespace Go.Proofs.YtnlcipocobmgiaaGreatDoor
open Go.RowKit
attribute [local go_sem] size_bs bs_append bs_extract

theorem clone_nil_calls {w : World} :
    Calls Tryz.prog 52 #[.slice none 0 0] w fun e w' => e = .returned (.slice none 0 0) ∧ w = w' := by
  have qT : ∀ (w : World) (a : Option Addr) (n c n' c' : Nat), (binOp .eql 40 (.slice a n c) (.slice none n' c')).run Tryz.prog w = .ok (.bool a.isNone) w := fun w a n c n' c' => Lib.run_eql_slice_nil w _ _ a n c n' c' Tryz.underlying40
  go_enter Tryz.func52, Tryz.ntmps52
  go_wp2
  go_ret
  exact ⟨rfl, rfl⟩
theorem clone_some_calls {w : World} (l : List En) (g c : Nat) (hc : ∀ j u, (entsV l)[j]? = some u → w.cell? ⟨g, j, none⟩ = some u) (hn : l.length ≤ 1000000000) :
    Calls Tryz.prog 52 #[.slice (some ⟨g, 0, none⟩) l.length c] w fun e w' => ∃ v', e = .returned v' ∧ w'.ownsRow w.heap.size 62 3 v' l.length (entsV l) ∧ Keep [] w w' := by
  obtain ⟨i0, hi, hz0, hz1, hz2⟩ := info_parts Tryz.info62
  have qT : ∀ (w : World) (a : Option Addr) (n c n' c' : Nat), (binOp .eql 40 (.slice a n c) (.slice none n' c')).run Tryz.prog w = .ok (.bool a.isNone) w := fun w a n c n' c' => Lib.run_eql_slice_nil w _ _ a n c n' c' Tryz.underlying40
  have hlen := entsV_len l
  have hone : ∀ u ∈ entsV l, u.oneCell' = true := by
    intro u hu
    simp only [entsV, List.mem_flatMap, En.cells] at hu
    obtain ⟨e, _, he⟩ := hu
    simp only [List.mem_cons, List.not_mem_nil, or_false] at he
    rcases he with rfl | rfl | rfl <;> rfl
  have hown0 : (w.alloc (.cells #[] 62)).ownsRow w.heap.size 62 3 (.slice (some ⟨w.heap.size, 0, none⟩) 0 0) 0 [] :=
    ⟨rfl, .inr ⟨w.heap.size, 0, #[], rfl, Nat.le_refl _, heap_alloc_new _ _, Nat.le_refl _, Nat.zero_le _, rfl, by simp⟩⟩
  have HO := Lib.hid hown0
  have HC := Lib.hid hc
  have HLN := Lib.hid hlen
  have HON := Lib.hid hone
  clear hc hown0 hlen hone
  go_enter Tryz.func52, Tryz.ntmps52
  go_wp2_with (at_builtin; refine wpList_append_own _ rfl (.tmp 5) (.tmp 6) 40 rfl w.heap.size 62 i0 _ 3 32 Tryz.underlying40 hi hz0 hz1 hz2 rfl (by omega) _ _ _ rfl HO.out ⟨g, 0, none⟩ l.length c (entsV l) rfl HLN.out ?c1 HON.out ?c3 ?c4 ?c5 ?_)
  case c1 =>
    intro j u hu
    have h0 := HC.out j u hu
    rw [Go.WideShapes.add_plain, Nat.zero_add]
    exact cell_alloc h0 _
  case c3 => unfold maxLen; omega
  case c4 => omega
  case c5 => simp
  intro v' w2 hown2 hgrow _
  have hk2 : Keep [] w w2 := ((Keep.refl [] w).alloc _).grown hgrow (fun k hk => .inr (HO.out.lt k hk).1)
  go_wp2
  go_ret
  exact ⟨v', rfl, hown2, hk2⟩
theorem clone_any_calls {w : World} {B : Nat} {v : Value} (l : List En) (h : w.ownsRow B 62 3 v l.length (entsV l)) (hn : l.length ≤ 1000000000) :
    Calls Tryz.prog 52 #[v] w fun e w' => ∃ A c, e = .returned (.slice A l.length c) ∧ w'.ownsRow w.heap.size 62 3 (.slice A l.length c) l.length (entsV l) ∧ Keep [] w w' := by
  rcases h.2 with ⟨rfl, h0⟩ | ⟨g, cap, cur, rfl, _, hh, _, _, _, h6⟩
  · have hl : l = [] := List.length_eq_zero_iff.1 h0
    subst hl
    refine clone_nil_calls.mono ?_
    rintro e w' ⟨rfl, rfl⟩
    exact ⟨none, 0, rfl, World.ownsRow_nil _ _ _ _, Keep.refl _ _⟩
  · refine (clone_some_calls l g cap (fun j u hu => ?_) hn).mono ?_
    · rw [cell_of_row w g _ cur _ _ hh]
      rw [← h6] at hu
      rw [List.getElem?_take] at hu
      split at hu
      · simpa using hu
      · cases hu
    · rintro e w' ⟨v', rfl, h2, h3⟩
      obtain ⟨A, c, rfl⟩ := own_slice h2
      exact ⟨A, c, rfl, h2, h3⟩

section
variable {w : World} {V : Nv} {N : Rn} {D : Dk}
theorem state_ret {W : World} {r : Nat} {x0 x1 x2 x3 x4 x5 : Value} {t : Array Value} {R : Ending → World → Prop} (h2 : t[2]? = some (.pointer (some ⟨r, 0, none⟩)))
    (hB : Blk W r 46 #[x0, x1, x2, x3, x4, x5]) (hR : R (.returned (.agg #[x0, x1, x2, x3, x4, x5])) W) : bodyPost Tryz.prog Tryz.f20 R .ret { tmps := t, defers := [] } W := by
  have k0 : W.cell? ⟨r, 0, none⟩ = some x0 := hB.cell 0
  have k1 : W.cell? ⟨r, 1, none⟩ = some x1 := hB.cell 1
  have k2 : W.cell? ⟨r, 2, none⟩ = some x2 := hB.cell 2
  have k3 : W.cell? ⟨r, 3, none⟩ = some x3 := hB.cell 3
  have k4 : W.cell? ⟨r, 4, none⟩ = some x4 := hB.cell 4
  have k5 : W.cell? ⟨r, 5, none⟩ = some x5 := hB.cell 5
  refine bodyPost_ret (v := .agg #[x0, x1, x2, x3, x4, x5]) ?_ rfl hR
  simp [results, Tryz.results20, go_sem, h2, k0, k1, k2, k3, k4, k5]
set_option maxRecDepth 100000 in
set_option maxHeartbeats 1000000 in
theorem state_calls (h : NodeAt w V N D) (hn : N.st.log.length ≤ 1000000000) :
    Calls Tryz.prog 20 #[.pointer (some ⟨V.r, 0, none⟩)] w fun e w' => ∃ A c, e = .returned (N.st.agg (.slice A N.st.log.length c)) ∧ w'.ownsRow w.heap.size 62 3 (.slice A N.st.log.length c) N.st.log.length (entsV N.st.log) ∧ Keep [] w w' := by
  obtain ⟨Al, cl, hlv⟩ := own_slice h.rest.log
  have c3 : w.cell? ⟨V.r, 3, none⟩ = some (.int .i64 (N.st.term : Int)) := h.blk.cell 3
  have c4 : w.cell? ⟨V.r, 4, none⟩ = some (.int .i64 (N.st.vote : Int)) := h.blk.cell 4
  have c5 : w.cell? ⟨V.r, 5, none⟩ = some (.int .i64 (N.st.base : Int)) := h.blk.cell 5
  have c6 : w.cell? ⟨V.r, 6, none⟩ = some (.int .i64 (N.st.baseTerm : Int)) := h.blk.cell 6
  have c7 : w.cell? ⟨V.r, 7, none⟩ = some (.string (bs N.st.snap)) := h.blk.cell 7
  have c8 : w.cell? ⟨V.r, 8, none⟩ = some V.lg := h.blk.cell 8
  rw [hlv] at c8
  have hrl := h.blk.lt
  have HC : Hid (∀ W, Keep [] w W → Calls Tryz.prog 52 #[.slice Al N.st.log.length cl] W fun e w' => ∃ A c, e = .returned (.slice A N.st.log.length c) ∧ w'.ownsRow W.heap.size 62 3 (.slice A N.st.log.length c) N.st.log.length (entsV N.st.log) ∧ Keep [] W w') := fun W hk => by
    have := clone_any_calls (v := V.lg) N.st.log ((h.grow hk).rest.log) hn
    rw [hlv] at this
    exact this
  clear h hlv
  go_enter Tryz.func20, Tryz.ntmps20
  go_wp2_with (go_at_call 52; refine (HC.out _ (by repeat (first | exact Keep.refl _ _ | refine Keep.drew ?_ | refine Keep.drewN ?_ _ | refine Keep.alloc ?_ _))).mono ?_; rintro e w1 ⟨A1, c1, rfl, hO, hk⟩; have hbr : Blk w1 w.heap.size 46 #[.int .i64 0, .int .i64 0, .int .i64 0, .int .i64 0, .string { data := #[] }, .slice none 0 0] := ((Blk.new _ _ _).alloc _).keep hk (by simp); have hbs : Blk w1 (w.heap.size + 1) 46 #[.int .i64 (N.st.term : Int), .int .i64 (N.st.vote : Int), .int .i64 (N.st.base : Int), .int .i64 (N.st.baseTerm : Int), .string (bs N.st.snap), .slice Al N.st.log.length cl] := Blk.keep (Blk.here _ _ _ _ (by simp)) hk (by simp); have r0 : w1.cell? ⟨w.heap.size, 0, none⟩ = some (.int .i64 0) := hbr.cell 0; have r1 : w1.cell? ⟨w.heap.size, 1, none⟩ = some (.int .i64 0) := hbr.cell 1; have r2 : w1.cell? ⟨w.heap.size, 2, none⟩ = some (.int .i64 0) := hbr.cell 2; have r3 : w1.cell? ⟨w.heap.size, 3, none⟩ = some (.int .i64 0) := hbr.cell 3; have r4 : w1.cell? ⟨w.heap.size, 4, none⟩ = some (.string { data := #[] }) := hbr.cell 4; have r5 : w1.cell? ⟨w.heap.size, 5, none⟩ = some (.slice none 0 0) := hbr.cell 5; have fr : ∀ i, w1.frozen? ⟨w.heap.size, i, none⟩ = false := fun i => hbr.frozen i; have s0 : w1.cell? ⟨w.heap.size + 1, 0, none⟩ = some (.int .i64 (N.st.term : Int)) := hbs.cell 0; have s1 : w1.cell? ⟨w.heap.size + 1, 1, none⟩ = some (.int .i64 (N.st.vote : Int)) := hbs.cell 1; have s2 : w1.cell? ⟨w.heap.size + 1, 2, none⟩ = some (.int .i64 (N.st.base : Int)) := hbs.cell 2; have s3 : w1.cell? ⟨w.heap.size + 1, 3, none⟩ = some (.int .i64 (N.st.baseTerm : Int)) := hbs.cell 3; have s4 : w1.cell? ⟨w.heap.size + 1, 4, none⟩ = some (.string (bs N.st.snap)) := hbs.cell 4; have s5 : w1.cell? ⟨w.heap.size + 1, 5, none⟩ = some (.slice Al N.st.log.length cl) := hbs.cell 5; have fs : ∀ i, w1.frozen? ⟨w.heap.size + 1, i, none⟩ = false := fun i => hbs.frozen i; have HO : Hid (∀ k, (Value.slice A1 N.st.log.length c1).ownBlock = some k → w.heap.size + 1 < k) := (fun k e => by have := (hO.lt k e).1; simp at this; omega); have HO1 := Lib.hid hO; have HBR := Lib.hid hbr; have HK : Hid (Keep [] w w1) := Keep.trans (M := []) (by repeat (first | exact Keep.refl _ _ | refine Keep.drew ?_ | refine Keep.drewN ?_ _ | refine Keep.alloc ?_ _)) hk; clear hO hk hbr hbs)
  obtain ⟨hB6, hK6⟩ := six_cells (HBR.out.far (p := ⟨w.heap.size + 1, 5, none⟩) (by simp) (.slice A1 N.st.log.length c1)) (.int .i64 (N.st.term : Int)) (.int .i64 (N.st.vote : Int)) (.int .i64 (N.st.base : Int)) (.int .i64 (N.st.baseTerm : Int)) (.string (bs N.st.snap)) (.slice A1 N.st.log.length c1)
  have hk7 : Keep [w.heap.size, w.heap.size + 1] w1 _ := Keep.trans' (M := [w.heap.size, w.heap.size + 1]) ((Keep.refl _ _).setCell (.inl (by simp)) _) hK6 (by simp)
  refine state_ret rfl hB6 ⟨A1, c1, rfl, own_mono (hk7.owns HO1.out (fun k e => ?_)) (by simp; omega), HK.out.trans' hk7 (by simp)⟩
  have := HO.out k e
  simp
  omega
end

end Go.Proofs.YtnlcipocobmgiaaGreatDoor
