/- The walk of glacierlaw10.RaftTells. -/
import Derived.Test.YtnlcipocobmgiaaGreatDoorLeads
import Derived.Deep.RegionHeld3
namespace Go.Proofs.YtnlcipocobmgiaaGreatDoor
open Go.RowKit
attribute [local go_sem] size_bs bs_append bs_extract ba_self

theorem msgs_cells {w : World} {v : Value} {outs : List (Mg × Value)} (h : MsgsAt w v outs) (hne : outs ≠ []) : ∃ g o c, v = .slice (some ⟨g, o, none⟩) outs.length c ∧ ∀ j (hj : j < outs.length) i u, i < 10 → ((outs[j]).1.cells (outs[j]).2)[i]? = some u → w.cell? ⟨g, o + j * 10 + i, none⟩ = some u := by
  rcases h.own.2 with ⟨rfl, h0⟩ | ⟨g, cap, cur, rfl, _, hh, _, _, _, h6⟩
  · exact absurd (List.length_eq_zero_iff.1 h0) hne
  · refine ⟨g, 0, _, rfl, fun j hj i u hi hu => ?_⟩
    have h1 := msgsV_at outs j hj i hi
    rw [hu] at h1
    rw [cell_of_row w g _ cur _ _ hh]
    rw [← h6] at h1
    rw [List.getElem?_take] at h1
    split at h1
    · rw [show 0 + j * 10 + i = j * 10 + i by omega]
      simpa using h1
    · cases h1
section
variable {w W : World} {r b m n first o k last n1 : Nat} {s : Ts} {mt : List Nat}
theorem last_at (h : LeadAt w W r b m n first s mt o k) (hl : last = s.base + s.log.length) : Calls Tryz.prog 14 #[.pointer (some ⟨r, 0, none⟩)] W fun e w' => e = .returned (.int .i64 (last : Int)) ∧ ∃ n, w' = W.drewN n := by
  rw [hl]
  exact lead_last h
theorem step_any {x : Nat} (h : LeadAt w W r b m n first s mt 0 k) (h1 : 1 < n) (hl : last = s.base + s.log.length) (hx : x ≤ last) (ok : Bool) :
    Calls Tryz.prog 22 #[.pointer (some ⟨r, 0, none⟩), .agg #[.int .i64 4, .int .i64 1, .int .i64 0, .int .i64 (s.term : Int), .int .i64 (x : Int), .int .i64 0, .int .i64 0, .bool ok, .slice none 0 0, .string { data := #[] }]] W fun e w' => e = .returned (.tuple #[]) ∧ ∃ mt', LeadAt w w' r b m n first s mt' 1 k := by
  cases ok with
  | true =>
    refine (lead_have h 1 (by decide) h1 x (by omega) (by decide)).mono ?_
    rintro e w' ⟨rfl, g⟩
    exact ⟨rfl, _, g⟩
  | false =>
    refine (lead_back h 1 (by decide) h1 x (by omega) (by decide)).mono ?_
    rintro e w' ⟨rfl, g⟩
    exact ⟨rfl, _, g⟩
theorem out_at (h : LeadMs w W r b m n first s mt k) (hn : n - 1 = n1) :
    Calls Tryz.prog 26 #[.pointer (some ⟨r, 0, none⟩)] W fun e w' => ∃ A c outs, e = .returned (.slice A n1 c) ∧ MsgsAt w' (.slice A n1 c) outs ∧ outs.length = n1 ∧ (∀ p ∈ outs, MsgOk s (comm s.base first mt) p.1) ∧ LeadAt w w' r b m n first s mt 0 k := by
  subst hn
  exact lead_out h
theorem term_q (h : LeadAt w W r b m n first s mt o k) : Calls Tryz.prog 23 #[.pointer (some ⟨r, 0, none⟩)] W fun e w' => e = .returned (.int .i64 (s.term : Int)) ∧ w' = W := (lead_term h).mono fun _ _ ⟨h1, h2⟩ => ⟨h1, h2.symm⟩
theorem commit_q {cm : Nat} (hc : cm = comm s.base first mt) (h : LeadAt w W r b m n first s mt o k) : Calls Tryz.prog 25 #[.pointer (some ⟨r, 0, none⟩)] W fun e w' => e = .returned (.int .i64 (cm : Int)) ∧ w' = W := by
  rw [hc]
  exact (lead_commit h).mono fun _ _ ⟨h1, h2⟩ => ⟨h1, h2.symm⟩
theorem state_at (h : LeadAt w W r b m n first s mt o k) : Calls Tryz.prog 20 #[.pointer (some ⟨r, 0, none⟩)] W fun e w' => ∃ A c, e = .returned (.agg #[.int .i64 (s.term : Int), .int .i64 (s.vote : Int), .int .i64 (s.base : Int), .int .i64 (s.baseTerm : Int), .string (bs s.snap), .slice A s.log.length c]) ∧ Keep [] W w' := lead_state h
end
set_option maxRecDepth 100000 in
set_option maxHeartbeats 1000000 in
theorem raftTells_out (w : World) (hTb : Tab w) (st sv sb : Int) (vt : Value) (n : Int) (hn : n < 2 ∨ 5 < n) (vc : Value) (hv : Int) (ok : Bool) :
    Calls Tryz.prog 5 #[.agg #[.int .i64 st, .int .i64 sv, .int .i64 sb, vt], .int .i64 n, vc, .int .i64 hv, .bool ok] w fun e w' => e = .returned (.bool true) ∧ Keep [] w w' := by
  have HT := Lib.hid hTb
  clear hTb
  have HTA : Hid (∀ W, Keep [] w W → Calls Tryz.prog 7 #[] W fun e w' => e = .returned (.bool true) ∧ Keep [] w w') := fun W hk => by
    refine (rawake_calls W (HT.out.keep hk (by simp))).mono ?_
    rintro e w' ⟨rfl, h⟩
    exact ⟨rfl, hk.trans h⟩
  rcases hn with hn | hn
  · have d1 : decide (n < 2) = true := by simpa using hn
    go_enter Tryz.func5, Tryz.ntmps5
    go_wp2_with (first
      | (go_at_call 7; (with_reducible refine (HTA.out _ ((Keep.refl [] _).alloc _)).mono ?_); rintro e w1 ⟨rfl, hk1⟩; have HK1 := Lib.hid hk1; clear hk1)
      | (go_at_call 7; (with_reducible refine (HTA.out _ HK1.out).mono ?_); rintro e w2 ⟨rfl, hk2⟩; have HK2 := Lib.hid hk2; clear hk2))
    go_ret
    exact ⟨rfl, HK2.out⟩
  · have d1 : decide (n < 2) = false := by simp; omega
    have d2 : decide (5 < n) = true := by simpa using hn
    go_enter Tryz.func5, Tryz.ntmps5
    go_wp2_with (first
      | (go_at_call 7; (with_reducible refine (HTA.out _ ((Keep.refl [] _).alloc _)).mono ?_); rintro e w1 ⟨rfl, hk1⟩; have HK1 := Lib.hid hk1; clear hk1)
      | (go_at_call 7; (with_reducible refine (HTA.out _ HK1.out).mono ?_); rintro e w2 ⟨rfl, hk2⟩; have HK2 := Lib.hid hk2; clear hk2))
    go_ret
    exact ⟨rfl, HK2.out⟩
set_option maxRecDepth 100000 in
set_option maxHeartbeats 4000000 in
theorem raftTells_in (w : World) (hTb : Tab w) (st sv sb : Int) (vt : Value) (lt : List Int) (ht : IntsAt w vt lt) (n : Nat) (h2n : 2 ≤ n) (h5n : n ≤ 5) (vc : Value) (cs : List (List UInt8)) (hcs : StrsAt w vc cs) (hv : Int) (ok : Bool) :
    Calls Tryz.prog 5 #[.agg #[.int .i64 st, .int .i64 sv, .int .i64 sb, vt], .int .i64 (n : Int), vc, .int .i64 hv, .bool ok] w fun e w' => e = .returned (.bool true) ∧ Keep [] w w' := by
  obtain ⟨At, ct, rfl, ht2⟩ := ht
  have HVT : Hid (IntsAt w (.slice At lt.length ct) lt) := ⟨At, ct, rfl, ht2⟩
  obtain ⟨A0, c0, rfl, hcc⟩ := hcs
  have HVC : Hid (StrsAt w (.slice A0 cs.length c0) cs) := ⟨A0, c0, rfl, hcc⟩
  have HT := Lib.hid hTb
  obtain ⟨T, hT⟩ : ∃ T : Nat, min (max st 0) 20 = (T : Int) := ⟨(min (max st 0) 20).toNat, by omega⟩
  obtain ⟨V, hV⟩ : ∃ T : Nat, min (max sv 0) 5 = (T : Int) := ⟨(min (max sv 0) 5).toNat, by omega⟩
  obtain ⟨B, hB⟩ : ∃ T : Nat, min (max sb 0) 4 = (T : Int) := ⟨(min (max sb 0) 4).toNat, by omega⟩
  have hBl : B ≤ 4 := by omega
  have HTT := Lib.hid hT
  have HVV := Lib.hid hV
  have HBB := Lib.hid hB
  obtain ⟨n1, hn1⟩ : ∃ n1, n = n1 + 1 := ⟨n - 1, by omega⟩
  have TA : ∀ W, Keep [] w W → Calls Tryz.prog 7 #[] W fun e w' => e = .returned (.bool true) ∧ Keep [] W w' := fun W hk => rawake_calls W (HT.out.keep hk (by simp))
  have TL : ∀ W, Keep [] w W → Calls Tryz.prog 21 #[.agg #[.int .i64 st, .int .i64 sv, .int .i64 sb, .slice At lt.length ct], .int .i64 (n : Int), .slice A0 cs.length c0] W fun e w' => ∃ (w3 : World) (r b m last F : Nat) (s : Ts) (mt : List Nat), e = .returned (.pointer (some ⟨r, 0, none⟩)) ∧ last = s.base + s.log.length ∧ last ≤ 100 ∧ Keep [] w w3 ∧ w.heap.size ≤ b ∧ w.heap.size ≤ m ∧ LeadAt w3 w' r b m n F s mt 0 100000 := fun W hk => by
    refine (leader_calls W (HT.out.keep hk (by simp)) st sv sb _ lt (HVT.out.keep hk) _ cs (HVC.out.keep hk) n (by omega) h5n T V B HTT.out HVV.out HBB.out).mono ?_
    rintro e w' ⟨w3, r, b, m, K, s, rfl, h1, h2, h3, h4, h5, h6, h7, h8, h8', h9⟩
    have := hk.size
    exact ⟨w3, r, b, m, _, _, s, _, rfl, rfl, by omega, hk.trans h1, by omega, by omega, h9⟩
  have HTA := Lib.hid TA
  have HTL := Lib.hid TL
  clear TA TL hTb hcc hT hV hB ht2
  have d1 : decide ((n : Int) < 2) = false := by simp; omega
  have d2 : decide ((5 : Int) < (n : Int)) = false := by simp; omega
  have hsub : IntKind.i64.wrap ((n : Int) - 1) = (n1 : Int) := by rw [IntWalk.i64_in _ (by omega)]; omega
  have hsub2 : (n : Int) - 1 = (n1 : Int) := by omega
  have HN1 : Hid (n - 1 = n1) := (by omega : n - 1 = n1)
  have h1n : 1 < n := by omega
  have hn1l : n1 ≤ 4 := by omega
  clear hn1
  have hf2 : ∀ (w : World) (a b c d : Int) (x : ByteArray) (A : Option Addr) (l k : Nat), (Instr.field 46 (.agg #[.int .i64 a, .int .i64 b, .int .i64 c, .int .i64 d, .string x, .slice A l k]) 2).run Tryz.prog w = .ok (.int .i64 c) w := fun _ _ _ _ _ _ _ _ _ => by kernel_rfl
  have hf4 : ∀ (w : World) (a b c d : Int) (x : ByteArray) (A : Option Addr) (l k : Nat), (Instr.field 46 (.agg #[.int .i64 a, .int .i64 b, .int .i64 c, .int .i64 d, .string x, .slice A l k]) 4).run Tryz.prog w = .ok (.string x) w := fun _ _ _ _ _ _ _ _ _ => by kernel_rfl
  go_enter Tryz.func5, Tryz.ntmps5
  go_wp2_with (first
    | (go_at_call 7; (with_reducible refine (HTA.out _ ((Keep.refl [] _).alloc _)).mono ?_); rintro e w1 ⟨rfl, hk1⟩; have hbx : Blk w1 w.heap.size 24 #[.int .i64 st, .int .i64 sv, .int .i64 sb, .slice At lt.length ct] := (Blk.new _ _ _).keep hk1 (by simp); have x0 : w1.cell? ⟨w.heap.size, 0, none⟩ = some (.int .i64 st) := hbx.cell 0; have x1 : w1.cell? ⟨w.heap.size, 1, none⟩ = some (.int .i64 sv) := hbx.cell 1; have x2 : w1.cell? ⟨w.heap.size, 2, none⟩ = some (.int .i64 sb) := hbx.cell 2; have x3 : w1.cell? ⟨w.heap.size, 3, none⟩ = some (.slice At lt.length ct) := hbx.cell 3; have HK1 : Hid (Keep [] w w1) := Keep.trans (M := []) ((Keep.refl [] _).alloc _) hk1; clear hk1 hbx)
    | (go_at_call 21; (with_reducible refine (HTL.out _ HK1.out).mono ?_); rintro e w2 ⟨w3, r, b, m, last, F, s, mt, rfl, hlast, hl100, hk3, hbw, hmw, hLd⟩; obtain ⟨kx, hkx⟩ : ∃ kx : Nat, min (max hv 0) (last : Int) = (kx : Int) := ⟨(min (max hv 0) (last : Int)).toNat, (by omega)⟩; have hkl : kx ≤ last := (by omega); have HLAST := Lib.hid hlast; have HK3 := Lib.hid hk3; have HLd := Lib.hid hLd; clear hlast hk3 hLd x0 x1 x2 x3)
    | (go_at_call 14; (with_reducible refine (last_at HLd.out HLAST.out).mono ?_); rintro e w4 ⟨rfl, n4, rfl⟩)
    | (go_at_call 23; (with_reducible refine (lead_term (HLd.out.grow (by repeat (first | exact Keep.refl _ _ | refine Keep.drew ?_ | refine Keep.drewN ?_ _ | refine Keep.alloc ?_ _)))).mono ?_); rintro e w5 ⟨rfl, rfl⟩)
    | (go_at_call 22; (with_reducible refine (step_any (HLd.out.grow (by repeat (first | exact Keep.refl _ _ | refine Keep.drew ?_ | refine Keep.drewN ?_ _ | refine Keep.alloc ?_ _))) h1n HLAST.out hkl ok).mono ?_); rintro e w6 ⟨rfl, mt', h6⟩; have H6 := Lib.hid h6; clear h6)
    | (go_at_call 26; (with_reducible refine (lead_take H6.out).mono ?_); rintro e w7 ⟨v7, rfl, h7⟩; have H7 := Lib.hid h7; clear h7 H6)
    | (go_at_call 11; (with_reducible refine (lead_tick H7.out).mono ?_); rintro e w8 ⟨rfl, h8⟩; have H8 := Lib.hid h8; clear h8)
    | (go_at_call 26; (with_reducible refine (out_at H8.out HN1.out).mono ?_); rintro e w9 ⟨A9, c9, outs, rfl, hms, hol, hok, h9⟩; have HMS := Lib.hid hms; have HOL := Lib.hid hol; have HOK := Lib.hid hok; have H9 := Lib.hid h9; clear hms hol hok h9 H8)
    | (go_at_call 20; (with_reducible refine (state_at H9.out).mono ?_); rintro e w10 ⟨A10, c10, rfl, hk10⟩; have HK10 := Lib.hid hk10; clear hk10))
  have HKW : Hid (Keep [] w w10) := (HK3.out.trans' H9.out.keep (by simp; omega)).trans HK10.out
  have H10 := Lib.hid (H9.out.grow HK10.out)
  go_loopw [64] (fun a wr => ∃ j : Nat, j ≤ n1 ∧ a = .int .i64 (j : Int) ∧ Keep [] w10 wr) (fun a _ => n1 - (intOf a).toNat)
  case atStart => exact ⟨0, Nat.zero_le _, rfl, Keep.refl _ _⟩
  case round =>
    obtain ⟨j, hj, rfl, hkj⟩ := hrel
    have HKJ := Lib.hid hkj
    clear hkj
    by_cases hlt : j < n1
    · have dj : decide ((j : Int) < (n1 : Int)) = true := by simp; omega
      have hjn : (j : Int) < (n1 : Int) := by omega
      obtain ⟨g, o, cc, hA, hcell⟩ := msgs_cells HMS.out (by intro h; have h2 := HOL.out; rw [h] at h2; simp at h2; omega)
      rw [HOL.out] at hA
      injection hA with hA1 _ hA3
      subst hA1 hA3
      have hjo : j < outs.length := by rw [HOL.out]; exact hlt
      have hmo := HOK.out outs[j] (List.getElem_mem hjo)
      have hes := HMS.out.es outs[j] (List.getElem_mem hjo)
      have hcs2 := hcell j hjo
      generalize outs[j] = p at *
      obtain ⟨⟨m0, m1, m2, m3, m4, m5, m6, m7, m8, m9⟩, ev⟩ := p
      obtain ⟨Ae, ce, hev, hee⟩ := hes
      simp only at hev hee hmo hcs2
      subst hev
      have HMO := Lib.hid hmo
      have HEE := Lib.hid hee
      have up : ∀ i u, w9.cell? ⟨g, i, none⟩ = some u → wr.cell? ⟨g, i, none⟩ = some u := fun i u hu => ((HK10.out.trans HKJ.out).cell (World.block_lt_of_cell? _ _ hu) (by simp)).trans hu
      have y0 := up _ _ (hcs2 0 (.int .i64 m0) (by decide) rfl)
      have y1 := up _ _ (hcs2 1 (.int .i64 m1) (by decide) rfl)
      have y2 := up _ _ (hcs2 2 (.int .i64 m2) (by decide) rfl)
      have y3 := up _ _ (hcs2 3 (.int .i64 m3) (by decide) rfl)
      have y4 := up _ _ (hcs2 4 (.int .i64 m4) (by decide) rfl)
      have y5 := up _ _ (hcs2 5 (.int .i64 m5) (by decide) rfl)
      have y6 := up _ _ (hcs2 6 (.int .i64 m6) (by decide) rfl)
      have y7 := up _ _ (hcs2 7 (.bool m7) (by decide) rfl)
      have y8 := up _ _ (hcs2 8 (.slice Ae m8.length ce) (by decide) rfl)
      have y9 := up _ _ (hcs2 9 (.string (bs m9)) (by decide) rfl)
      rw [Nat.add_zero] at y0
      have hgl := World.block_lt_of_cell? _ _ y0
      simp only at hgl
      obtain ⟨q1, q2, q3, q4⟩ := hmo
      simp only at q1 q2 q3 q4
      obtain ⟨cm, hcm⟩ : ∃ cm, cm = comm s.base F mt' := ⟨_, rfl⟩
      rw [← hcm] at q3
      subst q1 q2 q3
      have HCMT : Hid (∀ W, LeadAt w3 W r b m n F s mt' 0 100000 → Calls Tryz.prog 25 #[.pointer (some ⟨r, 0, none⟩)] W fun e w' => e = .returned (.int .i64 (cm : Int)) ∧ w' = W) := fun W hW => commit_q hcm hW
      have hkz : Keep [] w10 (wr.alloc (.cells #[.int .i64 m0, .int .i64 0, .int .i64 m2, .int .i64 (s.term : Int), .int .i64 m4, .int .i64 m5, .int .i64 (cm : Int), .bool m7, .slice Ae m8.length ce, .string (bs m9)] 56)) := HKJ.out.alloc _
      have HKZ := Lib.hid hkz
      have HBZ : Hid (Blk (wr.alloc (.cells #[.int .i64 m0, .int .i64 0, .int .i64 m2, .int .i64 (s.term : Int), .int .i64 m4, .int .i64 m5, .int .i64 (cm : Int), .bool m7, .slice Ae m8.length ce, .string (bs m9)] 56)) wr.heap.size 56 #[.int .i64 m0, .int .i64 0, .int .i64 m2, .int .i64 (s.term : Int), .int .i64 m4, .int .i64 m5, .int .i64 (cm : Int), .bool m7, .slice Ae m8.length ce, .string (bs m9)]) := Blk.new _ _ _
      have HEZ : Hid (EntsAt (wr.alloc (.cells #[.int .i64 m0, .int .i64 0, .int .i64 m2, .int .i64 (s.term : Int), .int .i64 m4, .int .i64 m5, .int .i64 (cm : Int), .bool m7, .slice Ae m8.length ce, .string (bs m9)] 56)) (.slice Ae m8.length ce) m8) := (EntsAt.keep_nil (⟨Ae, ce, rfl, hee⟩ : EntsAt w9 (.slice Ae m8.length ce) m8) (HK10.out.trans hkz) : EntsAt (wr.alloc (.cells #[.int .i64 m0, .int .i64 0, .int .i64 m2, .int .i64 (s.term : Int), .int .i64 m4, .int .i64 m5, .int .i64 (cm : Int), .bool m7, .slice Ae m8.length ce, .string (bs m9)] 56)) (.slice Ae m8.length ce) m8)
      have HZ := Lib.hid (H10.out.grow hkz)
      clear hcell hcs2 up hee hcm hkz HMO HEE
      go_upto_region 17 with fail
      clear y0 y1 y2 y3 y4 y5 y6 y7 y8 y9
      generalize (wr.alloc (.cells #[.int .i64 m0, .int .i64 0, .int .i64 m2, .int .i64 (s.term : Int), .int .i64 m4, .int .i64 m5, .int .i64 (cm : Int), .bool m7, .slice Ae m8.length ce, .string (bs m9)] 56)) = Wz at *
      generalize wr.heap.size = zb at *
      have HBC := HBZ
      have z0 : Wz.cell? ⟨zb, 0, none⟩ = some (.int .i64 m0) := HBZ.out.cell 0
      have z1 : Wz.cell? ⟨zb, 1, none⟩ = some (.int .i64 0) := HBZ.out.cell 1
      have z3 : Wz.cell? ⟨zb, 3, none⟩ = some (.int .i64 (s.term : Int)) := HBZ.out.cell 3
      have z4 : Wz.cell? ⟨zb, 4, none⟩ = some (.int .i64 m4) := HBZ.out.cell 4
      have z6 : Wz.cell? ⟨zb, 6, none⟩ = some (.int .i64 (cm : Int)) := HBZ.out.cell 6
      have z8 : Wz.cell? ⟨zb, 8, none⟩ = some (.slice Ae m8.length ce) := HBZ.out.cell 8
      have z9 : Wz.cell? ⟨zb, 9, none⟩ = some (.string (bs m9)) := HBZ.out.cell 9
      go_quiet ((first
        | (go_at_call 23; exact Calls.quiet_of_same (term_q (HZ.out.grow (by repeat (first | exact Keep.refl _ _ | refine Keep.drew ?_ | refine Keep.drewN ?_ _ | refine Keep.alloc ?_ _)))))
        | (go_at_call 25; exact Calls.quiet_of_same (HCMT.out _ (HZ.out.grow (by repeat (first | exact Keep.refl _ _ | refine Keep.drew ?_ | refine Keep.drewN ?_ _ | refine Keep.alloc ?_ _)))))
        | fail))
      have HKY := Lib.hid (HKZ.out.drewN nq)
      have HBY := Lib.hid (HBZ.out.drewN nq)
      have HEY := Lib.hid (EntsAt.keep_nil HEZ.out ((Keep.refl _ _).drewN nq))
      have HY := Lib.hid (HZ.out.grow ((Keep.refl _ _).drewN nq))
      clear z0 z1 z3 z4 z6 z8 z9 HKZ HBZ HBC HEZ HZ HCMT
      generalize Wz.drewN nq = Wy at *
      have z0 : Wy.cell? ⟨zb, 0, none⟩ = some (.int .i64 m0) := HBY.out.cell 0
      have z4 : Wy.cell? ⟨zb, 4, none⟩ = some (.int .i64 m4) := HBY.out.cell 4
      have z8 : Wy.cell? ⟨zb, 8, none⟩ = some (.slice Ae m8.length ce) := HBY.out.cell 8
      have z9 : Wy.cell? ⟨zb, 9, none⟩ = some (.string (bs m9)) := HBY.out.cell 9
      rcases q4 with ⟨rfl, rfl, rfl, hb0⟩ | ⟨rfl, ix, rfl, hlo, hhi, hlen, hseq⟩
      · have hb1 : ((s.base : Int) == 0) = false := by simp; omega
        have HS : Hid (∀ W, Keep [] Wy W → W.cell? ⟨zb, 4, none⟩ = some (.int .i64 (s.base : Int)) ∧ W.cell? ⟨zb, 9, none⟩ = some (.string (bs s.snap))) := fun W hk => by
          have h := HBY.out.keep hk (by simp)
          exact ⟨h.cell 4, h.cell 9⟩
        go_wp2_with fail
        go_region_held3 (fun w' => w'.cell? ⟨zb, 4, none⟩ = some (.int .i64 (s.base : Int)) ∧ w'.cell? ⟨zb, 9, none⟩ = some (.string (bs s.snap)))
          (first
            | (refine HS.out _ ?_; (repeat (first | exact Keep.refl _ _ | exact HK11.out | refine Keep.drew ?_ | refine Keep.drewN ?_ _ | refine Keep.alloc ?_ _)); done)
            | go_keep)
          (first
            | (go_at_call 20; refine (state_at (HY.out.grow (by repeat (first | exact Keep.refl _ _ | refine Keep.drew ?_ | refine Keep.drewN ?_ _ | refine Keep.alloc ?_ _)))).mono ?_; rintro e w11 ⟨A11, c11, rfl, hk11⟩; have HK11 : Hid (Keep [] Wy w11) := Keep.trans (M := []) (by repeat (first | exact Keep.refl _ _ | refine Keep.drew ?_ | refine Keep.drewN ?_ _ | refine Keep.alloc ?_ _)) hk11; clear hk11)
            | fail)
        all_goals
          go_wp2_with fail
          go_roundw
          case rel => exact ⟨j + 1, by omega, by go_num, HKY.out.trans (HK11.out.trans (by repeat (first | exact Keep.refl _ _ | refine Keep.drew ?_ | refine Keep.drewN ?_ _ | refine Keep.alloc ?_ _)))⟩
          case measure => simp [intOf]; omega
      · obtain ⟨kk, hkk⟩ : ∃ kk : Nat, IntKind.i64.wrap ((last : Int) - (ix : Int)) = (kk : Int) ∧ min (kk : Int) 4 = (m8.length : Int) := ⟨last - ix, by
          have h1 := HLAST.out
          rw [IntWalk.i64_in _ (by omega)]; omega⟩
        obtain ⟨hk1, hk2⟩ := hkk
        have hb1 : decide ((ix : Int) < (s.base : Int)) = false := by simp; omega
        have hix : ix ≤ 100 := by have h1 := HLAST.out; omega
        have hl8 : m8.length ≤ 4 := by rw [hlen]; omega
        have HSEQ := Lib.hid hseq
        clear hlen hseq
        go_wp2_with fail
        go_quiet ((first
          | (go_at_call 14; exact Calls.quiet_of (last_at (HY.out.grow (by repeat (first | exact Keep.refl _ _ | refine Keep.drew ?_ | refine Keep.drewN ?_ _ | refine Keep.alloc ?_ _))) HLAST.out))
          | fail))
        clear hk1 hk2 hb1
        go_wp2_with fail
        go_loopw [128] (fun a W => ∃ i : Nat, i ≤ m8.length ∧ a = .int .i64 (i : Int) ∧ Keep [] Wy W) (fun a _ => m8.length - (intOf a).toNat)
        case atStart => exact ⟨0, Nat.zero_le _, rfl, (by repeat (first | exact Keep.refl _ _ | refine Keep.drew ?_ | refine Keep.drewN ?_ _ | refine Keep.alloc ?_ _))⟩
        case round =>
          obtain ⟨i, hi, rfl, hki⟩ := hrel
          have HKI := Lib.hid hki
          have x4 : ∀ W, Keep [] wr W → W.cell? ⟨zb, 4, none⟩ = some (.int .i64 (ix : Int)) := fun W hk => (HBY.out.keep (hki.trans hk) (by simp)).cell 4
          have v4 := x4 wr (Keep.refl _ _)
          clear x4 hki
          have hzl := World.block_lt_of_cell? _ _ v4
          simp only at hzl
          by_cases hil : i < m8.length
          · have di : decide ((i : Int) < (m8.length : Int)) = true := by simp; omega
            obtain ⟨Aq, cq, heq, hcc⟩ := HEY.out
            injection heq with e1 e2 e3
            subst e1 e3
            clear e2
            obtain ⟨ge, oe, rfl, hc2⟩ := hcc (by intro h; rw [h] at hil; simp at hil)
            obtain ⟨a1, a2, a3⟩ := entsV_at m8 i hil
            have up : ∀ p u, Wy.cell? ⟨ge, p, none⟩ = some u → wr.cell? ⟨ge, p, none⟩ = some u := fun p u hu => (HKI.out.cell (World.block_lt_of_cell? _ _ hu) (by simp)).trans hu
            have k0 := up _ _ (hc2 _ _ a1)
            have k1 := up _ _ (hc2 _ _ a2)
            have k2 := up _ _ (hc2 _ _ a3)
            have hsq := HSEQ.out i hil
            clear a1 a2 a3 up hcc hc2
            generalize m8[i] = en at *
            obtain ⟨ei, et, ec⟩ := en
            simp only at k0 k1 k2 hsq
            rw [← Nat.add_assoc] at k1 k2
            rw [Nat.mul_comm] at k0 k1 k2
            have hgl := World.block_lt_of_cell? _ _ k0
            simp only at hgl
            have hes : ((ei : Int) == (ix : Int) + 1 + (i : Int)) = true := by simp; omega
            have hen : ((ei : Int) != (ix : Int) + 1 + (i : Int)) = false := by simp; omega
            clear hsq
            go_wp2_with fail
            go_roundw
            case rel => exact ⟨i + 1, by omega, by go_num, HKI.out.trans (by repeat (first | exact Keep.refl _ _ | refine Keep.drew ?_ | refine Keep.drewN ?_ _ | refine Keep.alloc ?_ _))⟩
            case measure => simp [intOf]; omega
          · obtain rfl : i = m8.length := by omega
            have di : decide ((m8.length : Int) < (m8.length : Int)) = false := by simp
            go_wp2_with fail
            go_roundw
            case rel => exact ⟨j + 1, by omega, by go_num, HKY.out.trans (HKI.out.trans (by repeat (first | exact Keep.refl _ _ | refine Keep.drew ?_ | refine Keep.drewN ?_ _ | refine Keep.alloc ?_ _)))⟩
            case measure => simp [intOf]; omega
    · obtain rfl : j = n1 := by omega
      have dj : decide ((j : Int) < (j : Int)) = false := by simp
      go_wp2
      go_ret
      exact ⟨rfl, HKW.out.trans HKJ.out⟩

end Go.Proofs.YtnlcipocobmgiaaGreatDoor
