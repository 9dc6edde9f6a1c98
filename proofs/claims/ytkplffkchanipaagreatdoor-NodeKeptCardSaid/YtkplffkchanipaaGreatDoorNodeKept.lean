/- The contract of glacierlaw19.NodeKept. -/
import Derived.Test.YtkplffkchanipaaGreatDoorNodesC
import Derived.Deep.CutBlock
import Derived.Outline
namespace Go.Proofs.YtkplffkchanipaaGreatDoor
open Go.RowKit
attribute [local go_sem] size_bs bs_append ba_self
variable {w w' w0 : World} {n s b m g c k : Nat} {C C' : Ck} {D D' : Dk} {X : List (Nat × List UInt8)} {u : Bool}

set_option maxRecDepth 100000 in
set_option maxHeartbeats 800000 in
theorem nodeKept_out (w : World) (hT : Tab w) (room : Int) (hr : room < 0 ∨ 5000 < room) (v1 v2 : Value) :
    Calls Tryz.prog 9 #[.int .i64 room, v1, v2] w fun e w' => e = .returned (.bool true) ∧ Keep [] w w' := by
  have HTA := Lib.hid (nawake_calls w hT)
  have HTB : Hid (∀ W, Keep [] w W → _) := fun W (hW : Keep [] w W) => nawake_calls W (hT.keep hW (by simp))
  clear hT
  by_cases h0 : room < 0
  · have d1 : decide (room < 0) = true := decide_eq_true h0
    clear hr
    go_enter Tryz.func9, Tryz.ntmps9
    go_wp2_with (first
      | (go_at_call 31; (with_reducible refine HTA.out.mono ?_); rintro e w1 ⟨rfl, hk⟩; have HK1 := Lib.hid hk; clear hk)
      | (go_at_call 31; refine (HTB.out _ HK1.out).mono ?_; rintro e w2 ⟨rfl, hk⟩; have HK2 := Lib.hid hk; clear hk))
    go_ret
    exact ⟨rfl, HK1.out.trans HK2.out⟩
  · have d1 : decide (room < 0) = false := decide_eq_false h0
    have d2 : decide (5000 < room) = true := decide_eq_true (by omega)
    clear hr
    go_enter Tryz.func9, Tryz.ntmps9
    go_wp2_with (first
      | (go_at_call 31; (with_reducible refine HTA.out.mono ?_); rintro e w1 ⟨rfl, hk⟩; have HK1 := Lib.hid hk; clear hk)
      | (go_at_call 31; refine (HTB.out _ HK1.out).mono ?_; rintro e w2 ⟨rfl, hk⟩; have HK2 := Lib.hid hk; clear hk))
    go_ret
    exact ⟨rfl, HK1.out.trans HK2.out⟩

set_option maxRecDepth 100000 in
set_option maxHeartbeats 4000000 in
theorem nodeKept_in (w : World) (hT : Tab w) (room : Int) (hr0 : 0 ≤ room) (hr1 : room ≤ 5000) (v : Value) (l : List Na) (hv : NActsAt w v l) (v2 : Value) (ch : List Int) (hch : IntsAt w v2 ch) (hcb : ∀ x ∈ ch, -9223372036854775808 ≤ x ∧ x ≤ 9223372036854775807) :
    Calls Tryz.prog 9 #[.int .i64 room, v, v2] w fun e w' => e = .returned (.bool true) ∧ Keep [] w w' := by
  have HTA := Lib.hid (nawake_calls w hT)
  have HTN : Hid (∀ W, Keep [] w W → _) := fun W (hW : Keep [] w W) => NdS.new hW (hT.keep hW (by simp)) room hr0 (by omega)
  obtain ⟨A0, c0, rfl, hcc⟩ := hv
  have HCC := Lib.hid hcc
  have d1 : decide (room < 0) = false := decide_eq_false (by omega)
  have d2 : decide (5000 < room) = false := decide_eq_false (by omega)
  have HCH := Lib.hid (And.intro hch hcb)
  clear hcc hT hch hcb hr0 hr1
  go_enter Tryz.func9, Tryz.ntmps9
  go_wp2_with (first
    | (go_at_call 31; refine HTA.out.mono ?_; rintro e w1 ⟨rfl, hk⟩; have HK1 := Lib.hid hk; clear hk)
    | (go_at_call 30; refine (HTN.out _ HK1.out).mono ?_; rintro e w2 ⟨n, b, m, rfl, h, -⟩; have z0 := h.c0; have H2 := Lib.hid h; clear h))
  have hX0 : OwnX (w2.alloc (.cells #[] 32)) w.heap.size (.slice (some ⟨w2.heap.size, 0, none⟩) 0 0) [] := OwnX.start w2 w.heap.size H2.out.keep.size
  have HS0 : Hid (KSt w (w2.alloc (.cells #[] 32)) n b m 2 room true ⟨room, 0, false, 0, []⟩ [] (.slice (some ⟨w2.heap.size, 0, none⟩) 0 0) [] 0) := ⟨H2.out.grow ((Keep.refl _ _).alloc _), rfl, hX0, (fun p hp => by cases hp), Nat.le_refl _⟩
  clear hX0
  go_loopw [8, 9] (fun vx x wr => ∃ (k : Nat) (u : Bool) (D : Dk) (X lx : List (Nat × List UInt8)), k ≤ l.length ∧ k ≤ 25 ∧ x = .int .i64 (k : Int) ∧ KSt w wr n b m (2 + 3 * k) room u D X vx lx k) (fun _ x _ => l.length - (intOf x).toNat)
  case atStart => exact ⟨0, true, _, _, _, Nat.zero_le _, Nat.zero_le _, rfl, HS0.out⟩
  case round =>
    obtain ⟨k, u, D, X, lx, hk, hk25, rfl, h⟩ := hrel
    have H := Lib.hid h
    by_cases hlt : k < l.length ∧ k < 25
    · obtain ⟨hlt, hlt25⟩ := hlt
      have d1 : decide ((k : Int) < (l.length : Int)) = true := decide_eq_true (by omega)
      have d2 : decide ((k : Int) < 25) = true := decide_eq_true (by omega)
      obtain ⟨gx, o, rfl, hc⟩ := HCC.out (by intro h; rw [h] at hlt; simp at hlt)
      obtain ⟨vc, q⟩ := hc k hlt
      obtain ⟨x0, x1, x2, x3, x4, -, -, -, -, -⟩ := q.keep h.nd.keep
      obtain ⟨-, -, -, -, -, hci, hcb, hai, -, han⟩ := q
      have hlen : (l[k].s.take 40).length ≤ 40 := by rw [List.length_take]; omega
      clear h hc
      generalize l[k] = a0 at *
      obtain ⟨ak, an, ai, as_, ac⟩ := a0
      simp only at x0 x1 x2 x3 hlen hci hcb hai han
      have HCI : Hid (∀ W, Keep [] w W → IntsAt W vc ac) := fun W hW => hci.keep hW
      obtain ⟨A4, c4, rfl, -⟩ := hci
      have HLEN := Lib.hid hlen
      have HCB := Lib.hid (And.intro hcb (And.intro hai han))
      clear hlen hcb hai han
      go_upto_block 2 with (go_at_call 15; refine (cut_calls as_ 40 _).mono ?_; rintro e w3 ⟨rfl, rfl⟩)
      have HS1 : Hid (KSt w (wr.alloc (.cells #[.int .i64 ak, .int .i64 an, .int .u64 (ai : Int), .string (bs as_), .slice A4 ac.length c4] 75)) n b m (2 + 3 * k) room u D X u8 lx k) := H.out.grow ((Keep.refl _ _).alloc _)
      have HAB : Hid (Blk (wr.alloc (.cells #[.int .i64 ak, .int .i64 an, .int .u64 (ai : Int), .string (bs as_), .slice A4 ac.length c4] 75)) wr.heap.size 75 #[.int .i64 ak, .int .i64 an, .int .u64 (ai : Int), .string (bs as_), .slice A4 ac.length c4]) := Blk.new wr 75 #[.int .i64 ak, .int .i64 an, .int .u64 (ai : Int), .string (bs as_), .slice A4 ac.length c4]
      generalize (wr.alloc (.cells #[.int .i64 ak, .int .i64 an, .int .u64 (ai : Int), .string (bs as_), .slice A4 ac.length c4] 75)) = W3 at *
      generalize wr.heap.size = pb at *
      clear H x0 x1 x2 x3 x4
      go_cut [8] (fun s8 wx => ∃ (u : Bool) (D : Dk) (X lx : List (Nat × List UInt8)), KSt w wx n b m (2 + 3 * (k + 1)) room u D X s8 lx (k + 1) ∧ Blk wx pb 75 #[.int .i64 ak, .int .i64 an, .int .u64 (ai : Int), .string (bs as_), .slice A4 ac.length c4])
      case first =>
        have p0 : World.cell? W3 ⟨pb, 0, none⟩ = some (.int .i64 ak) := HAB.out.cell 0; have p1 : World.cell? W3 ⟨pb, 1, none⟩ = some (.int .i64 an) := HAB.out.cell 1; have p2 : World.cell? W3 ⟨pb, 2, none⟩ = some (.int .u64 (ai : Int)) := HAB.out.cell 2; have p4 : World.cell? W3 ⟨pb, 4, none⟩ = some (.slice A4 ac.length c4) := HAB.out.cell 4
        by_cases hk1 : ak = 1
        · have e1 : (ak == 1) = true := beq_iff_eq.2 hk1
          clear hk1
          go_wp2_with fail
          go_at_call 32
          refine (HS1.out.nd.put (by omega) HCB.out.2.1 HLEN.out).mono ?_
          rintro e w4 ⟨hst, u', y, D', X', rfl, hn, hrm, hy, -⟩
          have HAB4 := Lib.hid (hst.blk _ _ _ (by decide) (by decide) (by decide) HAB.out)
          have p2 : w4.cell? ⟨pb, 2, none⟩ = some (.int .u64 (ai : Int)) := HAB4.out.cell 2
          have HO4 := Lib.hid (hst.own _ _ _ HS1.out.own)
          rcases hy with ⟨rfl, rfl⟩ | ⟨hy, rfl⟩
          · have HN := Lib.hid hn
            have HRM := Lib.hid hrm
            clear hn hrm hst
            go_wp2_with (go_at_call 17; refine (putX_calls lx _ ai (as_.take 40) _ HO4.out.at_ (by have := HS1.out.len; omega)).mono ?_; rintro e w5 ⟨gp, cp, rfl, h5, hk5⟩; have HO5 := Lib.hid h5; have HK5 := Lib.hid hk5; clear h5 hk5)
            go_meet
            exact ⟨u', D', _, _, ⟨(HN.out.grow HK5.out).mono (by omega), HRM.out.trans HS1.out.room, HO5.out.mono HN.out.keep.size, HS1.out.sub.put, by have := putX_len (ai, as_.take 40) lx; have := HS1.out.len; omega⟩, HAB4.out.keep HK5.out (by simp)⟩
          · have b1 : (y == 0) = false := beq_eq_false_iff_ne.2 hy
            have HK := Lib.hid (HS1.out.next hst hn hrm HS1.out.sub (Nat.le_succ k))
            clear hn hrm hst
            go_wp2
            go_meet
            exact ⟨u', D', _, _, HK.out.mono (by omega) (Nat.le_refl _), HAB4.out⟩
        · have e1 : (ak == 1) = false := beq_eq_false_iff_ne.2 hk1
          clear hk1
          by_cases hk2 : ak = 2
          · have e2 : (ak == 2) = true := beq_iff_eq.2 hk2
            clear hk2
            go_wp2_with fail
            go_at_call 34
            refine (HS1.out.nd.drop (by omega) HCB.out.2.1).mono ?_
            rintro e w4 ⟨hst, u', y, D', X', rfl, hn, hrm, hy, -⟩
            have HAB4 := Lib.hid (hst.blk _ _ _ (by decide) (by decide) (by decide) HAB.out)
            have p2 : w4.cell? ⟨pb, 2, none⟩ = some (.int .u64 (ai : Int)) := HAB4.out.cell 2
            have HO4 := Lib.hid (hst.own _ _ _ HS1.out.own)
            have HN := Lib.hid hn
            have HRM := Lib.hid hrm
            have HY := Lib.hid hy
            clear hn hrm hst hy
            go_wp2_with (go_at_call 37; refine (dropX_calls lx _ ai _ HO4.out.at_ (by have := HS1.out.len; omega)).mono ?_; rintro e w5 ⟨gp, cp, rfl, h5, hk5⟩; have HO5 := Lib.hid h5; have HK5 := Lib.hid hk5; clear h5 hk5)
            go_meet
            exact ⟨u', D', _, _, ⟨(HN.out.grow HK5.out).mono (by omega), HRM.out.trans HS1.out.room, HO5.out.mono HN.out.keep.size, HS1.out.sub.drop HY.out, by have := drop_len ai lx; have := HS1.out.len; omega⟩, HAB4.out.keep HK5.out (by simp)⟩
          · have e2 : (ak == 2) = false := beq_eq_false_iff_ne.2 hk2
            clear hk2
            by_cases hk4 : ak = 4
            · have e4 : (ak == 4) = true := beq_iff_eq.2 hk4
              clear hk4
              go_wp2_with (go_at_call 38; refine (HS1.out.nd.stop_any (by omega) _ ac HCB.out.1 (fun W _ hW => HCI.out W hW)).mono ?_; rintro e w4 ⟨y, rfl, hst, hn⟩; have HN := Lib.hid hn; have HST := Lib.hid hst; clear hn hst)
              go_meet
              exact ⟨false, D, X, lx, (HS1.out.next HST.out HN.out rfl HS1.out.sub (Nat.le_succ k)).mono (by omega) (Nat.le_refl _), HST.out.blk _ _ _ (by decide) (by decide) (by decide) HAB.out⟩
            · have e4 : (ak == 4) = false := beq_eq_false_iff_ne.2 hk4
              clear hk4
              by_cases hk5 : ak = 5
              · have e5 : (ak == 5) = true := beq_iff_eq.2 hk5
                clear hk5
                go_wp2_with (go_at_call 39; refine (HS1.out.nd.start_any (by omega) (by omega)).mono ?_; rintro e w4 ⟨y, rfl, hst, D', hn, hrm⟩; have HN := Lib.hid hn; have HST := Lib.hid hst; clear hn hst)
                go_meet
                exact ⟨true, D', X, lx, (HS1.out.next HST.out HN.out hrm HS1.out.sub (Nat.le_succ k)).mono (by omega) (Nat.le_refl _), HST.out.blk _ _ _ (by decide) (by decide) (by decide) HAB.out⟩
              · have e5 : (ak == 5) = false := beq_eq_false_iff_ne.2 hk5
                clear hk5
                by_cases hk7 : ak = 7
                · have e7 : (ak == 7) = true := beq_iff_eq.2 hk7
                  clear hk7
                  have z0 := HS1.out.nd.c0
                  go_upto_region 24 with fail
                  have HC9 : Hid (∀ W, Keep [] W3 W → World.cell? W ⟨n, 0, none⟩ = some (.pointer (some ⟨b, 0, none⟩)) ∧ World.cell? W ⟨pb, 1, none⟩ = some (.int .i64 an)) := fun W hW => ⟨(HS1.out.nd.grow hW).c0, (HAB.out.keep hW (by simp)).cell 1⟩
                  go_region_held3 (fun w' => World.cell? w' ⟨n, 0, none⟩ = some (.pointer (some ⟨b, 0, none⟩)) ∧ World.cell? w' ⟨pb, 1, none⟩ = some (.int .i64 an))
                    (first
                      | (exact ⟨HN.out.c0, HABX.out.cell 1⟩)
                      | (exact HC9.out _ (by repeat (first | exact Keep.refl _ _ | exact HK5.out | refine Keep.drew ?_ | refine Keep.drewN ?_ _ | refine Keep.alloc ?_ _)))
                      | fail)
                    (first
                      | (go_at_call 28; refine ((HS1.out.nd.grow (by repeat (first | exact Keep.refl _ _ | exact HK5.out | refine Keep.drew ?_ | refine Keep.drewN ?_ _ | refine Keep.alloc ?_ _))).fail _ (by omega)).mono ?_; rintro e w4 ⟨rfl, hst, hn⟩; have HST : Hid (Stay W3 w4) := Stay.trans (Stay.keep (by repeat (first | exact Keep.refl _ _ | exact HK5.out | refine Keep.drew ?_ | refine Keep.drewN ?_ _ | refine Keep.alloc ?_ _))) hst; have HABX := Lib.hid (HST.out.blk _ _ _ (by decide) (by decide) (by decide) HAB.out); have HN := Lib.hid hn; clear hn hst)
                      | fail)
                  all_goals
                    go_wp2
                    go_meet
                    exact ⟨u, _, X, lx, (HS1.out.next HST.out HN.out rfl HS1.out.sub (Nat.le_succ k)).mono (by omega) (Nat.le_refl _), HST.out.blk _ _ _ (by decide) (by decide) (by decide) HAB.out⟩
                · have e7 : (ak == 7) = false := beq_eq_false_iff_ne.2 hk7
                  clear hk7
                  go_wp2
                  go_meet
                  exact ⟨u, D, X, lx, HS1.out.mono (by omega) (Nat.le_succ k), HAB.out⟩
      case rest =>
        obtain ⟨uu, D2, X2, lx2, hS, hab⟩ := hcut
        obtain ⟨Ax, cx, hvx⟩ := hS.own.slice
        subst hvx
        have HS := Lib.hid hS
        have HAB := Lib.hid hab
        have z0 := hS.nd.c0
        have dr : decide (room < D2.used) = false := decide_eq_false (by have := hS.nd.here.good.ok.fits; have := hS.room; omega)
        clear hS hab HS1
        go_wp2_with (first
          | (go_at_call 19; refine (used_calls HS.out.nd.disk).mono ?_; rintro e w5 ⟨rfl, rfl⟩)
          | (go_at_call 28; refine (HS.out.nd.fail (-1) (by decide)).mono ?_; rintro e w6 ⟨rfl, hst, hn⟩; have HF : Hid (KSt w w6 n b m (2 + 3 * (k + 1)) room uu (D2.arm (armV (-1))) X2 (.slice Ax lx2.length cx) lx2 (k + 1)) := HS.out.next hst hn rfl HS.out.sub (Nat.le_refl _); have HABF := Lib.hid (hst.blk _ _ _ (by decide) (by decide) (by decide) HAB.out); clear hn hst))
        have ha3 : (D2.arm (armV (-1))).armed = 0 := rfl
        have HA3 := Lib.hid ha3
        have hlx2 : lx2.length ≤ 26 := by have := HF.out.len; omega
        clear ha3 dr z0
        generalize D2.arm (armV (-1)) = D3 at *
        go_loopw [126] (fun x wr => ∃ j : Nat, j ≤ lx2.length ∧ x = .int .i64 (j : Int) ∧ KSt w wr n b m (2 + 3 * (k + 1)) room uu D3 X2 (.slice Ax lx2.length cx) lx2 (k + 1) ∧ Blk wr pb 75 #[.int .i64 ak, .int .i64 an, .int .u64 (ai : Int), .string (bs as_), .slice A4 ac.length c4]) (fun x _ => lx2.length - (intOf x).toNat)
        case atStart => exact ⟨0, Nat.zero_le _, rfl, HF.out, HABF.out⟩
        case round =>
          obtain ⟨j, hj, rfl, h, hab⟩ := hrel
          have HH := Lib.hid h
          have HAB := Lib.hid hab
          by_cases hlt3 : j < lx2.length
          · have d3 : decide ((j : Int) < (lx2.length : Int)) = true := decide_eq_true (by omega)
            obtain ⟨A1, c1, hv1, hc1⟩ := h.own.at_
            injection hv1 with e1 e2 e3
            subst e1
            clear e2 e3
            obtain ⟨gy, o2, rfl, hc⟩ := hc1 (by intro h; rw [h] at hlt3; simp at hlt3)
            obtain ⟨y0, y1⟩ := hc j hlt3
            have hlook := h.sub _ (List.getElem_mem hlt3)
            have hd : lx2[j].2.length ≤ 9223372036854775807 := Nat.le_trans (h.nd.1.data _ (look_memX hlook)) (by decide)
            have HLK := Lib.hid (And.intro hlook hd)
            clear hc hc1 h hab hlook hd
            generalize lx2[j] = ee at *
            obtain ⟨ei, ed⟩ := ee
            simp only at y0 y1
            go_upto_region 31 with fail
            have HBW : Hid (Blk (wr.alloc (.cells #[.int .u64 (ei : Int), .string (bs ed)] 32)) wr.heap.size 32 #[.int .u64 (ei : Int), .string (bs ed)]) := Blk.new wr 32 #[.int .u64 (ei : Int), .string (bs ed)]
            have HK4 : Hid (Keep [] wr (wr.alloc (.cells #[.int .u64 (ei : Int), .string (bs ed)] 32))) := (Keep.refl [] wr).alloc _
            generalize (wr.alloc (.cells #[.int .u64 (ei : Int), .string (bs ed)] 32)) = W4 at *
            generalize wr.heap.size = pc at *
            have HC8 : Hid (∀ W, Keep [] W4 W → World.cell? W ⟨pc, 0, none⟩ = some (.int .u64 (ei : Int)) ∧ World.cell? W ⟨pc, 1, none⟩ = some (.string (bs ed))) := fun W hW => ⟨(HBW.out.keep hW (by simp)).cell 0, (HBW.out.keep hW (by simp)).cell 1⟩
            go_region_held3 (fun w' => World.cell? w' ⟨pc, 0, none⟩ = some (.int .u64 (ei : Int)) ∧ World.cell? w' ⟨pc, 1, none⟩ = some (.string (bs ed)))
              (first
                | (exact ⟨HBX.out.cell 0, HBX.out.cell 1⟩)
                | (exact HC8.out _ (by repeat (first | exact Keep.refl _ _ | exact HK8.out | refine Keep.drew ?_ | refine Keep.drewN ?_ _ | refine Keep.alloc ?_ _)))
                | fail)
              (first
                | (go_at_call 41; refine (refSum_calls ed HLK.out.2 _).mono ?_; rintro e w7 ⟨rfl, hk7⟩; have HK8 : Hid (Keep [] W4 w7) := Keep.trans (M := []) (by repeat (first | exact Keep.refl _ _ | exact HK8.out | refine Keep.drew ?_ | refine Keep.drewN ?_ _ | refine Keep.alloc ?_ _)) hk7; clear hk7)
                | (go_at_call 40; refine ((HH.out.nd.grow (HK4.out.trans (by repeat (first | exact Keep.refl _ _ | exact HK8.out | refine Keep.drew ?_ | refine Keep.drewN ?_ _ | refine Keep.alloc ?_ _)))).sure (by omega) (by omega) HA3.out HLK.out.1).mono ?_; rintro e w8 ⟨hst, rfl, hn⟩; have HST8 : Hid (Stay wr w8) := Stay.trans (Stay.keep (HK4.out.trans (by repeat (first | exact Keep.refl _ _ | exact HK8.out | refine Keep.drew ?_ | refine Keep.drewN ?_ _ | refine Keep.alloc ?_ _)))) hst; have HBX := Lib.hid (hst.blk _ _ _ (by decide) (by decide) (by decide) (HBW.out.keep (by repeat (first | exact Keep.refl _ _ | exact HK8.out | refine Keep.drew ?_ | refine Keep.drewN ?_ _ | refine Keep.alloc ?_ _)) (by simp))); have HN8 := Lib.hid hn; clear hn hst)
                | fail)
            all_goals
              go_wp2
              go_roundw
              case rel => exact ⟨j + 1, by omega, by go_num, HH.out.next HST8.out HN8.out rfl HH.out.sub (Nat.le_refl _), HST8.out.blk _ _ _ (by decide) (by decide) (by decide) HAB.out⟩
              case measure => simp [intOf]; omega
          · obtain rfl : j = lx2.length := by omega
            have d3 : decide ((lx2.length : Int) < (lx2.length : Int)) = false := by simp
            have p0 : wr.cell? ⟨pb, 0, none⟩ = some (.int .i64 ak) := HAB.out.cell 0
            have p1 : wr.cell? ⟨pb, 1, none⟩ = some (.int .i64 an) := HAB.out.cell 1
            have z0 := h.nd.c0
            clear h hab
            by_cases hk7 : ak = 7
            · have e7 : (ak == 7) = true := beq_iff_eq.2 hk7
              clear hk7
              go_upto_region 35 with fail
              have HC9 : Hid (∀ W, Keep [] wr W → World.cell? W ⟨n, 0, none⟩ = some (.pointer (some ⟨b, 0, none⟩)) ∧ World.cell? W ⟨pb, 1, none⟩ = some (.int .i64 an)) := fun W hW => ⟨(HH.out.nd.grow hW).c0, (HAB.out.keep hW (by simp)).cell 1⟩
              go_region_held3 (fun w' => World.cell? w' ⟨n, 0, none⟩ = some (.pointer (some ⟨b, 0, none⟩)) ∧ World.cell? w' ⟨pb, 1, none⟩ = some (.int .i64 an))
                (first
                  | (exact ⟨HN.out.c0, HABX.out.cell 1⟩)
                  | (exact HC9.out _ (by repeat (first | exact Keep.refl _ _ | exact HK5.out | refine Keep.drew ?_ | refine Keep.drewN ?_ _ | refine Keep.alloc ?_ _)))
                  | fail)
                (first
                  | (go_at_call 28; refine ((HH.out.nd.grow (by repeat (first | exact Keep.refl _ _ | exact HK5.out | refine Keep.drew ?_ | refine Keep.drewN ?_ _ | refine Keep.alloc ?_ _))).fail _ (by omega)).mono ?_; rintro e w4 ⟨rfl, hst, hn⟩; have HST : Hid (Stay wr w4) := Stay.trans (Stay.keep (by repeat (first | exact Keep.refl _ _ | exact HK5.out | refine Keep.drew ?_ | refine Keep.drewN ?_ _ | refine Keep.alloc ?_ _))) hst; have HABX := Lib.hid (HST.out.blk _ _ _ (by decide) (by decide) (by decide) HAB.out); have HN := Lib.hid hn; clear hn hst)
                  | fail)
              all_goals
                go_wp2
                go_roundw
                case rel => exact ⟨k + 1, uu, _, X2, lx2, by omega, by omega, by go_num, HH.out.next HST.out HN.out rfl HH.out.sub (Nat.le_refl _)⟩
                case measure => simp [intOf]; omega
            · have e7 : (ak == 7) = false := beq_eq_false_iff_ne.2 hk7
              clear hk7
              go_wp2
              go_roundw
              case rel => exact ⟨k + 1, uu, D3, X2, lx2, by omega, by omega, by go_num, HH.out⟩
              case measure => simp [intOf]; omega
    · have hcase : k = l.length ∨ k = 25 ∧ k < l.length := by omega
      obtain ⟨Ax, cx, hvx⟩ := h.own.slice
      subst hvx
      have hlx : lx.length ≤ 25 := by have := h.len; omega
      clear h
      rcases hcase with rfl | ⟨hk8, hlt8⟩
      · have d1 : decide ((l.length : Int) < (l.length : Int)) = false := by simp
        go_wp2_with (first
          | (go_at_call 38; refine (H.out.nd.stop_any (by omega) v2 ch HCH.out.2 (fun W _ hW => HCH.out.1.keep hW)).mono ?_; rintro e w4 ⟨y4, rfl, hst, hn⟩; have H4 : Hid (KSt w w4 n b m (2 + 3 * l.length + 3) room false D X (.slice Ax lx.length cx) lx l.length) := H.out.next hst hn rfl H.out.sub (Nat.le_refl _); clear hst hn)
          | (go_at_call 39; refine (H4.out.nd.start_down (by omega) (by omega)).mono ?_; rintro e w5 ⟨rfl, hst, D5, hn, hrm, ha5⟩; have H5 : Hid (KSt w w5 n b m (2 + 3 * l.length + 3 + 3) room true D5 X (.slice Ax lx.length cx) lx l.length) := H4.out.next hst hn hrm H4.out.sub (Nat.le_refl _); have HA5 := Lib.hid ha5; clear hst hn hrm ha5))
        go_loopw [165] (fun x wr => ∃ j : Nat, j ≤ lx.length ∧ x = .int .i64 (j : Int) ∧ KSt w wr n b m (2 + 3 * l.length + 3 + 3) room true D5 X (.slice Ax lx.length cx) lx l.length) (fun x _ => lx.length - (intOf x).toNat)
        case atStart => exact ⟨0, Nat.zero_le _, rfl, H5.out⟩
        case round =>
          obtain ⟨j, hj, rfl, h⟩ := hrel
          have HH := Lib.hid h
          by_cases hlt3 : j < lx.length
          · have d3 : decide ((j : Int) < (lx.length : Int)) = true := decide_eq_true (by omega)
            obtain ⟨A1, c1, hv1, hc1⟩ := h.own.at_
            injection hv1 with e1 e2 e3
            subst e1
            clear e2 e3
            obtain ⟨gy, o2, rfl, hc⟩ := hc1 (by intro h; rw [h] at hlt3; simp at hlt3)
            obtain ⟨y0, y1⟩ := hc j hlt3
            have hlook := h.sub _ (List.getElem_mem hlt3)
            have HLK := Lib.hid hlook
            clear hc hc1 h hlook
            generalize lx[j] = ee at *
            obtain ⟨ei, ed⟩ := ee
            simp only at y0 y1
            have HBW : Hid (Blk (wr.alloc (.cells #[.int .u64 (ei : Int), .string (bs ed)] 32)) wr.heap.size 32 #[.int .u64 (ei : Int), .string (bs ed)]) := Blk.new wr 32 #[.int .u64 (ei : Int), .string (bs ed)]
            have HK4 : Hid (Keep [] wr (wr.alloc (.cells #[.int .u64 (ei : Int), .string (bs ed)] 32))) := (Keep.refl [] wr).alloc _
            go_wp2_with (go_at_call 33; refine ((HH.out.nd.grow HK4.out).get_there HA5.out HLK.out).mono ?_; rintro e w8 ⟨hst, rfl, hn⟩; have hb8 := hst.blk _ _ _ (by decide) (by decide) (by decide) HBW.out; have y8 : w8.cell? ⟨wr.heap.size, 1, none⟩ = some (.string (bs ed)) := hb8.cell 1; have HST8 : Hid (Stay wr w8) := Stay.trans (Stay.keep HK4.out) hst; have HN8 := Lib.hid hn; clear hn hst hb8)
            go_roundw
            case rel => exact ⟨j + 1, by omega, by go_num, HH.out.next HST8.out HN8.out rfl HH.out.sub (Nat.le_refl _)⟩
            case measure => simp [intOf]; omega
          · obtain rfl : j = lx.length := by omega
            have d3 : decide ((lx.length : Int) < (lx.length : Int)) = false := by simp
            clear h
            go_wp2
            go_ret
            exact ⟨rfl, HH.out.nd.keep⟩
      · have d1 : decide ((k : Int) < (l.length : Int)) = true := by simp; omega
        have d1n : decide (k < l.length) = true := by simpa using hlt8
        have d2 : decide ((k : Int) < 25) = false := by simp; omega
        have d2n : decide (k < 25) = false := by simp; omega
        go_wp2_with (first
          | (go_at_call 38; refine (H.out.nd.stop_any (by omega) v2 ch HCH.out.2 (fun W _ hW => HCH.out.1.keep hW)).mono ?_; rintro e w4 ⟨y4, rfl, hst, hn⟩; have H4 : Hid (KSt w w4 n b m (2 + 3 * k + 3) room false D X (.slice Ax lx.length cx) lx k) := H.out.next hst hn rfl H.out.sub (Nat.le_refl _); clear hst hn)
          | (go_at_call 39; refine (H4.out.nd.start_down (by omega) (by omega)).mono ?_; rintro e w5 ⟨rfl, hst, D5, hn, hrm, ha5⟩; have H5 : Hid (KSt w w5 n b m (2 + 3 * k + 3 + 3) room true D5 X (.slice Ax lx.length cx) lx k) := H4.out.next hst hn hrm H4.out.sub (Nat.le_refl _); have HA5 := Lib.hid ha5; clear hst hn hrm ha5))
        go_loopw [165] (fun x wr => ∃ j : Nat, j ≤ lx.length ∧ x = .int .i64 (j : Int) ∧ KSt w wr n b m (2 + 3 * k + 3 + 3) room true D5 X (.slice Ax lx.length cx) lx k) (fun x _ => lx.length - (intOf x).toNat)
        case atStart => exact ⟨0, Nat.zero_le _, rfl, H5.out⟩
        case round =>
          obtain ⟨j, hj, rfl, h⟩ := hrel
          have HH := Lib.hid h
          by_cases hlt3 : j < lx.length
          · have d3 : decide ((j : Int) < (lx.length : Int)) = true := decide_eq_true (by omega)
            obtain ⟨A1, c1, hv1, hc1⟩ := h.own.at_
            injection hv1 with e1 e2 e3
            subst e1
            clear e2 e3
            obtain ⟨gy, o2, rfl, hc⟩ := hc1 (by intro h; rw [h] at hlt3; simp at hlt3)
            obtain ⟨y0, y1⟩ := hc j hlt3
            have hlook := h.sub _ (List.getElem_mem hlt3)
            have HLK := Lib.hid hlook
            clear hc hc1 h hlook
            generalize lx[j] = ee at *
            obtain ⟨ei, ed⟩ := ee
            simp only at y0 y1
            have HBW : Hid (Blk (wr.alloc (.cells #[.int .u64 (ei : Int), .string (bs ed)] 32)) wr.heap.size 32 #[.int .u64 (ei : Int), .string (bs ed)]) := Blk.new wr 32 #[.int .u64 (ei : Int), .string (bs ed)]
            have HK4 : Hid (Keep [] wr (wr.alloc (.cells #[.int .u64 (ei : Int), .string (bs ed)] 32))) := (Keep.refl [] wr).alloc _
            go_wp2_with (go_at_call 33; refine ((HH.out.nd.grow HK4.out).get_there HA5.out HLK.out).mono ?_; rintro e w8 ⟨hst, rfl, hn⟩; have hb8 := hst.blk _ _ _ (by decide) (by decide) (by decide) HBW.out; have y8 : w8.cell? ⟨wr.heap.size, 1, none⟩ = some (.string (bs ed)) := hb8.cell 1; have HST8 : Hid (Stay wr w8) := Stay.trans (Stay.keep HK4.out) hst; have HN8 := Lib.hid hn; clear hn hst hb8)
            go_roundw
            case rel => exact ⟨j + 1, by omega, by go_num, HH.out.next HST8.out HN8.out rfl HH.out.sub (Nat.le_refl _)⟩
            case measure => simp [intOf]; omega
          · obtain rfl : j = lx.length := by omega
            have d3 : decide ((lx.length : Int) < (lx.length : Int)) = false := by simp
            clear h
            go_wp2
            go_ret
            exact ⟨rfl, HH.out.nd.keep⟩

theorem nodeKept_calls (w : World) (hT : Tab w) (room : Int) (_h1 : -9223372036854775808 ≤ room) (_h2 : room ≤ 9223372036854775807) (v : Value) (l : List Na) (hv : NActsAt w v l) (v2 : Value) (ch : List Int) (hch : IntsAt w v2 ch) (hcb : ∀ x ∈ ch, -9223372036854775808 ≤ x ∧ x ≤ 9223372036854775807) :
    Calls Tryz.prog 9 #[.int .i64 room, v, v2] w fun e w' => e = .returned (.bool true) ∧ Keep [] w w' := by
  by_cases h : room < 0 ∨ 5000 < room
  · exact nodeKept_out w hT room h v v2
  · exact nodeKept_in w hT room (by omega) (by omega) v l hv v2 ch hch hcb

end Go.Proofs.YtkplffkchanipaaGreatDoor
