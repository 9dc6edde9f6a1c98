/- The contract of glacierlaw19.NodeLost. -/
import Derived.Test.YtkplffkchanipaaGreatDoorNodesC
import Derived.Test.YtkplffkchanipaaGreatDoorNacts
import Derived.Test.YtkplffkchanipaaGreatDoorRefSums
namespace Go.Proofs.YtkplffkchanipaaGreatDoor
open Go.RowKit
attribute [local go_sem] size_bs bs_append ba_self
variable {w w' w0 : World} {n s b m g c k : Nat} {C C' : Ck} {D D' : Dk} {X : List (Nat × List UInt8)} {u : Bool}

/-- A node whose disk is lost, but which was up. -/
structure LUp (w0 w : World) (n b : Nat) (s m g c : Nat) (C : Ck) (D : Dk) : Prop where
  up : NdUp w0 w n s b m g c C D
  lost : D.lost = true
theorem LUp.grow (h : LUp w0 w n b s m g c C D) (hk : Keep [] w w') : LUp w0 w' n b s m g c C D := ⟨h.up.grow hk, h.lost⟩
theorem LUp.upc (h : LUp w0 w n b s m g c C D) : Calls Tryz.prog 43 #[.pointer (some ⟨n, 0, none⟩)] w fun e w' => e = .returned (.bool false) ∧ w = w' := h.up.off h.lost
theorem LUp.lost_ (h : LUp w0 w n b s m g c C D) : Calls Tryz.prog 44 #[.pointer (some ⟨b, 2, none⟩)] w fun e w' => e = .returned (.bool true) ∧ w = w' := by
  have T := lost_calls h.up.at_.disk
  rw [h.lost] at T
  exact T
theorem LUp.start (h : LUp w0 w n b s m g c C D) : Calls Tryz.prog 39 #[.pointer (some ⟨n, 0, none⟩)] w fun e w' => e = .returned (.int .i64 14) ∧ w = w' := by
  have T := nstart_up h.up
  rw [h.lost, if_pos rfl] at T
  exact T
theorem NdS.lose (h : NdS true w0 w n b m k D X) :
    Calls Tryz.prog 42 #[.pointer (some ⟨b, 2, none⟩)] w fun e w' => e = .returned (.tuple #[]) ∧ ∃ s g c C, LUp w0 w' n b s m g c C { D with lost := true } := by
  obtain ⟨h0, s, g, c, C, h1, h2, h3, h4⟩ := h
  refine (lose_calls h1.at_.disk).mono ?_
  rintro e w' ⟨rfl, hd, hk⟩
  exact ⟨rfl, s, g, c, C, h1.set (hk.mono (by simp)) (h1.at_.setDisk (hk.mono (by simp)) hd), rfl⟩

set_option maxRecDepth 100000 in
set_option maxHeartbeats 2000000 in
theorem nodeLost_calls (w : World) (hT : Tab w) (v : Value) (l : List Na) (hv : NActsAt w v l) :
    Calls Tryz.prog 10 #[v] w fun e w' => e = .returned (.bool true) ∧ Keep [] w w' := by
  have HTN := Lib.hid (NdS.new (Keep.refl [] w) hT 1048576 (by decide) (by decide))
  obtain ⟨A0, c0, rfl, hcc⟩ := hv
  have HCC := Lib.hid hcc
  clear hcc hT
  go_enter Tryz.func10, Tryz.ntmps10
  go_wp2_with (first
    | (go_at_call 30; refine HTN.out.mono ?_; rintro e w1 ⟨n, b, m, rfl, h, -⟩; have H1 := Lib.hid h; clear h)
    | (go_at_call 31; refine (nawake_calls _ H1.out.tab).mono ?_; rintro e w2 ⟨rfl, hk⟩; have h2 := H1.out.grow hk; have z0 := h2.c0; have H2 := Lib.hid h2; clear hk h2))
  go_loopw [4] (fun x wr => ∃ (k : Nat) (D : Dk) (X : List (Nat × List UInt8)), k ≤ l.length ∧ k ≤ 10 ∧ x = .int .i64 (k : Int) ∧ NdS true w wr n b m (2 + 3 * k) D X ∧ D.armed = 0 ∧ D.room = 1048576 ∧ D.used ≤ 90 * (k : Int)) (fun x _ => l.length - (intOf x).toNat)
  case atStart => exact ⟨0, _, _, Nat.zero_le _, Nat.zero_le _, rfl, H2.out, rfl, rfl, by decide⟩
  case round =>
    obtain ⟨k, D, X, hk, hk10, rfl, h, ha, hr, hu⟩ := hrel
    have H := Lib.hid h
    by_cases hlt : k < l.length ∧ k < 10
    · obtain ⟨hlt, hlt10⟩ := hlt
      have d1 : decide ((k : Int) < (l.length : Int)) = true := decide_eq_true (by omega)
      have d2 : decide ((k : Int) < 10) = true := decide_eq_true (by omega)
      obtain ⟨gx, o, rfl, hc⟩ := HCC.out (by intro h; rw [h] at hlt; simp at hlt)
      obtain ⟨vc, q⟩ := hc k hlt
      obtain ⟨x0, x1, x2, x3, x4, x5, x6, x7, x8, x9⟩ := q.keep h.keep
      obtain ⟨-, -, y2, y3, -⟩ := q
      have hlen : (l[k].s.take 40).length ≤ 40 := by rw [List.length_take]; omega
      clear h hc x1 x4 x5 x6 x9
      generalize l[k] = a0 at *
      obtain ⟨ak, an, ai, as_, ac⟩ := a0
      simp only at x0 x2 x3 x7 x8 hlen y2 y3
      have HLS := Lib.hid x8
      have HLEN := Lib.hid hlen
      clear x8 hlen
      by_cases hkd : ak = 1
      · subst hkd
        go_upto_region 8 with fail
        have HC9 : Hid (∀ W, Keep [] w W → World.cell? W ⟨gx, o + k * 5 + 2, none⟩ = some (.int .u64 (ai : Int)) ∧ World.cell? W ⟨gx, o + k * 5 + 3, none⟩ = some (.string (bs as_))) := fun W hW => ⟨(hW.cell (World.block_lt_of_cell? _ _ y2) (by simp)).trans y2, (hW.cell (World.block_lt_of_cell? _ _ y3) (by simp)).trans y3⟩
        clear y2 y3
        go_region_held3 (fun w' => World.cell? w' ⟨gx, o + k * 5 + 2, none⟩ = some (.int .u64 (ai : Int)) ∧ World.cell? w' ⟨gx, o + k * 5 + 3, none⟩ = some (.string (bs as_)))
          (first
            | (exact HC9.out _ (by repeat (first | exact H4.out.keep | exact H.out.keep | refine Keep.drew ?_ | refine Keep.drewN ?_ _)))
            | fail)
          (first
            | (go_at_call 15; refine (cut_calls as_ 40 _).mono ?_; rintro e w3 ⟨rfl, rfl⟩)
            | (go_at_call 32; refine ((H.out.grow (by repeat (first | exact Keep.refl _ _ | exact HK5.out | refine Keep.drew ?_ | refine Keep.drewN ?_ _ | refine Keep.alloc ?_ _))).put_ok (by omega) ha (by omega) x7 HLEN.out).mono ?_; rintro e w4 ⟨-, rfl, D4, h4, h5, h6, h7⟩; have H4 := Lib.hid h4; clear h4)
            | fail)
        go_wp2
        go_roundw
        case rel => exact ⟨k + 1, D4, _, by omega, by omega, by go_num, (show 2 + 3 * k + 3 = 2 + 3 * (k + 1) by omega) ▸ H4.out, h6, h5.trans hr, by omega⟩
        case measure => simp [intOf]; omega
      · have b1 : (ak == 1) = false := beq_eq_false_iff_ne.2 hkd
        clear y2 y3 hkd
        go_wp2
        go_roundw
        case rel => exact ⟨k + 1, D, X, by omega, by omega, by go_num, H.out.mono (by omega), ha, hr, by omega⟩
        case measure => simp [intOf]; omega
    · have hcase : k = l.length ∨ k = 10 ∧ k < l.length := by omega
      have z0 := h.c0
      clear h
      rcases hcase with rfl | ⟨hk8, hlt8⟩
      · have d1 : decide ((l.length : Int) < (l.length : Int)) = false := by simp
        go_wp2_with (go_at_call 42; refine H.out.lose.mono ?_; rintro e w5 ⟨rfl, s, g, c, C, h⟩; have H5 := Lib.hid h; clear h)
        go_loopw [5] (fun x wr => ∃ (k : Nat), k ≤ l.length ∧ k ≤ 10 ∧ x = .int .i64 (k : Int) ∧ LUp w wr n b s m g c C { D with lost := true }) (fun x _ => l.length - (intOf x).toNat)
        case atStart => exact ⟨0, Nat.zero_le _, Nat.zero_le _, rfl, H5.out⟩
        case round =>
          obtain ⟨k2, hk2, hk210, rfl, h⟩ := hrel
          have H := Lib.hid h
          by_cases hlt2 : k2 < l.length ∧ k2 < 10
          · obtain ⟨hlt2, hlt210⟩ := hlt2
            have d1 : decide ((k2 : Int) < (l.length : Int)) = true := decide_eq_true (by omega)
            have d2 : decide ((k2 : Int) < 10) = true := decide_eq_true (by omega)
            obtain ⟨gx, o, rfl, hc⟩ := HCC.out (by intro h; rw [h] at hlt2; simp at hlt2)
            obtain ⟨vc, q⟩ := hc k2 hlt2
            obtain ⟨x0, x1, x2, x3, x4, ⟨A4, c4, rfl, -⟩, -, x7, x8, -⟩ := q.keep h.up.keep
            clear h hc q
            generalize l[k2] = a0 at *
            obtain ⟨ak, an, ai, as_, ac⟩ := a0
            simp only at x0 x1 x2 x3 x4 x7 x8
            have HLS := Lib.hid x8
            clear x8
            go_upto_region 15 with (first
              | (go_at_call 33; refine (nget_off (((H.out.grow (by repeat (first | exact Keep.refl _ _ | exact HK5.out | refine Keep.drew ?_ | refine Keep.drewN ?_ _ | refine Keep.alloc ?_ _))).up).off H.out.lost) _).mono ?_; rintro e w6 ⟨rfl, rfl⟩))
            have HBW : Hid (Blk (wr.alloc (.cells #[.int .i64 ak, .int .i64 an, .int .u64 (ai : Int), .string (bs as_), .slice A4 ac.length c4] 75)) wr.heap.size 75 #[.int .i64 ak, .int .i64 an, .int .u64 (ai : Int), .string (bs as_), .slice A4 ac.length c4]) := Blk.new wr 75 #[.int .i64 ak, .int .i64 an, .int .u64 (ai : Int), .string (bs as_), .slice A4 ac.length c4]
            have HC9 : Hid (∀ W, Keep [] (wr.alloc (.cells #[.int .i64 ak, .int .i64 an, .int .u64 (ai : Int), .string (bs as_), .slice A4 ac.length c4] 75)) W → World.cell? W ⟨wr.heap.size, 2, none⟩ = some (.int .u64 (ai : Int)) ∧ World.cell? W ⟨wr.heap.size, 3, none⟩ = some (.string (bs as_))) := fun W hW => ⟨(HBW.out.keep hW (by simp)).cell 2, (HBW.out.keep hW (by simp)).cell 3⟩
            have HK3 : Hid (Keep [] wr (wr.alloc (.cells #[.int .i64 ak, .int .i64 an, .int .u64 (ai : Int), .string (bs as_), .slice A4 ac.length c4] 75))) := (Keep.refl [] wr).alloc _
            generalize (wr.alloc (.cells #[.int .i64 ak, .int .i64 an, .int .u64 (ai : Int), .string (bs as_), .slice A4 ac.length c4] 75)) = W3 at *
            go_region_held3 (fun w' => World.cell? w' ⟨wr.heap.size, 2, none⟩ = some (.int .u64 (ai : Int)) ∧ World.cell? w' ⟨wr.heap.size, 3, none⟩ = some (.string (bs as_)))
              (first
                | (exact HC9.out _ (by repeat (first | exact Keep.refl _ _ | exact HK5.out | refine Keep.drew ?_ | refine Keep.drewN ?_ _ | refine Keep.alloc ?_ _)))
                | fail)
              (first
                | (go_at_call 32; refine (nput_off (((H.out.grow (HK3.out.trans (by repeat (first | exact Keep.refl _ _ | exact HK5.out | refine Keep.drew ?_ | refine Keep.drewN ?_ _ | refine Keep.alloc ?_ _)))).up).off H.out.lost) _ _).mono ?_; rintro e w6 ⟨rfl, rfl⟩)
                | (go_at_call 34; refine (ndrop_off (((H.out.grow (HK3.out.trans (by repeat (first | exact Keep.refl _ _ | exact HK5.out | refine Keep.drew ?_ | refine Keep.drewN ?_ _ | refine Keep.alloc ?_ _)))).up).off H.out.lost) _).mono ?_; rintro e w6 ⟨rfl, rfl⟩)
                | (go_at_call 35; refine (nhas_off (((H.out.grow (HK3.out.trans (by repeat (first | exact Keep.refl _ _ | exact HK5.out | refine Keep.drew ?_ | refine Keep.drewN ?_ _ | refine Keep.alloc ?_ _)))).up).off H.out.lost) _).mono ?_; rintro e w6 ⟨rfl, rfl⟩)
                | (go_at_call 41; refine (refSum_calls as_ HLS.out _).mono ?_; rintro e w6 ⟨rfl, hk6⟩; have HK5 : Hid (Keep [] W3 w6) := Keep.trans (M := []) (by repeat (first | exact Keep.refl _ _ | exact HK5.out | refine Keep.drew ?_ | refine Keep.drewN ?_ _ | refine Keep.alloc ?_ _)) hk6; clear hk6)
                | (go_at_call 40; refine (nsure_lost (H.out.grow (HK3.out.trans (by repeat (first | exact Keep.refl _ _ | exact HK5.out | refine Keep.drew ?_ | refine Keep.drewN ?_ _ | refine Keep.alloc ?_ _)))).up H.out.lost _ _ _).mono ?_; rintro e w7 ⟨rfl, rfl⟩)
                | fail)
            go_wp2
            go_roundw
            case rel => exact ⟨k2 + 1, by omega, by omega, by go_num, H.out.grow (HK3.out.trans HK5.out)⟩
            case measure => simp [intOf]; omega
          · have hcase : k2 = l.length ∨ k2 = 10 ∧ k2 < l.length := by omega
            have z0 : wr.cell? ⟨n, 0, none⟩ = some (.pointer (some ⟨b, 0, none⟩)) := h.up.blk.cell 0
            clear h
            rcases hcase with rfl | ⟨hk9, hlt9⟩
            · have d1 : decide ((l.length : Int) < (l.length : Int)) = false := by simp
              first
              | (exfalso; omega)
              | (go_wp2_with (first
                   | (go_at_call 43; refine H.out.upc.mono ?_; rintro e w7 ⟨rfl, rfl⟩)
                   | (go_at_call 44; refine H.out.lost_.mono ?_; rintro e w7 ⟨rfl, rfl⟩)
                   | (go_at_call 36; refine (nids_off (H.out.up.off H.out.lost)).mono ?_; rintro e w7 ⟨rfl, rfl⟩)
                   | (go_at_call 39; refine H.out.start.mono ?_; rintro e w7 ⟨rfl, rfl⟩))
                 go_ret
                 exact ⟨rfl, H.out.up.keep⟩)
            · have d1 : decide ((k2 : Int) < (l.length : Int)) = true := by simp; omega
              have d1n : decide (k2 < l.length) = true := by simpa using hlt9
              have d2 : decide ((k2 : Int) < 10) = false := by simp; omega
              have d2n : decide (k2 < 10) = false := by simp; omega
              first
              | (exfalso; omega)
              | (go_wp2_with (first
                   | (go_at_call 43; refine H.out.upc.mono ?_; rintro e w7 ⟨rfl, rfl⟩)
                   | (go_at_call 44; refine H.out.lost_.mono ?_; rintro e w7 ⟨rfl, rfl⟩)
                   | (go_at_call 36; refine (nids_off (H.out.up.off H.out.lost)).mono ?_; rintro e w7 ⟨rfl, rfl⟩)
                   | (go_at_call 39; refine H.out.start.mono ?_; rintro e w7 ⟨rfl, rfl⟩))
                 go_ret
                 exact ⟨rfl, H.out.up.keep⟩)
      · have d1 : decide ((k : Int) < (l.length : Int)) = true := by simp; omega
        have d1n : decide (k < l.length) = true := by simpa using hlt8
        have d2 : decide ((k : Int) < 10) = false := by simp; omega
        have d2n : decide (k < 10) = false := by simp; omega
        go_wp2_with (go_at_call 42; refine H.out.lose.mono ?_; rintro e w5 ⟨rfl, s, g, c, C, h⟩; have H5 := Lib.hid h; clear h)
        go_loopw [5] (fun x wr => ∃ (k : Nat), k ≤ l.length ∧ k ≤ 10 ∧ x = .int .i64 (k : Int) ∧ LUp w wr n b s m g c C { D with lost := true }) (fun x _ => l.length - (intOf x).toNat)
        case atStart => exact ⟨0, Nat.zero_le _, Nat.zero_le _, rfl, H5.out⟩
        case round =>
          obtain ⟨k2, hk2, hk210, rfl, h⟩ := hrel
          have H := Lib.hid h
          by_cases hlt2 : k2 < l.length ∧ k2 < 10
          · obtain ⟨hlt2, hlt210⟩ := hlt2
            have d1 : decide ((k2 : Int) < (l.length : Int)) = true := decide_eq_true (by omega)
            have d2 : decide ((k2 : Int) < 10) = true := decide_eq_true (by omega)
            obtain ⟨gx, o, rfl, hc⟩ := HCC.out (by intro h; rw [h] at hlt2; simp at hlt2)
            obtain ⟨vc, q⟩ := hc k2 hlt2
            obtain ⟨x0, x1, x2, x3, x4, ⟨A4, c4, rfl, -⟩, -, x7, x8, -⟩ := q.keep h.up.keep
            clear h hc q
            generalize l[k2] = a0 at *
            obtain ⟨ak, an, ai, as_, ac⟩ := a0
            simp only at x0 x1 x2 x3 x4 x7 x8
            have HLS := Lib.hid x8
            clear x8
            go_upto_region 15 with (first
              | (go_at_call 33; refine (nget_off (((H.out.grow (by repeat (first | exact Keep.refl _ _ | exact HK5.out | refine Keep.drew ?_ | refine Keep.drewN ?_ _ | refine Keep.alloc ?_ _))).up).off H.out.lost) _).mono ?_; rintro e w6 ⟨rfl, rfl⟩))
            have HBW : Hid (Blk (wr.alloc (.cells #[.int .i64 ak, .int .i64 an, .int .u64 (ai : Int), .string (bs as_), .slice A4 ac.length c4] 75)) wr.heap.size 75 #[.int .i64 ak, .int .i64 an, .int .u64 (ai : Int), .string (bs as_), .slice A4 ac.length c4]) := Blk.new wr 75 #[.int .i64 ak, .int .i64 an, .int .u64 (ai : Int), .string (bs as_), .slice A4 ac.length c4]
            have HC9 : Hid (∀ W, Keep [] (wr.alloc (.cells #[.int .i64 ak, .int .i64 an, .int .u64 (ai : Int), .string (bs as_), .slice A4 ac.length c4] 75)) W → World.cell? W ⟨wr.heap.size, 2, none⟩ = some (.int .u64 (ai : Int)) ∧ World.cell? W ⟨wr.heap.size, 3, none⟩ = some (.string (bs as_))) := fun W hW => ⟨(HBW.out.keep hW (by simp)).cell 2, (HBW.out.keep hW (by simp)).cell 3⟩
            have HK3 : Hid (Keep [] wr (wr.alloc (.cells #[.int .i64 ak, .int .i64 an, .int .u64 (ai : Int), .string (bs as_), .slice A4 ac.length c4] 75))) := (Keep.refl [] wr).alloc _
            generalize (wr.alloc (.cells #[.int .i64 ak, .int .i64 an, .int .u64 (ai : Int), .string (bs as_), .slice A4 ac.length c4] 75)) = W3 at *
            go_region_held3 (fun w' => World.cell? w' ⟨wr.heap.size, 2, none⟩ = some (.int .u64 (ai : Int)) ∧ World.cell? w' ⟨wr.heap.size, 3, none⟩ = some (.string (bs as_)))
              (first
                | (exact HC9.out _ (by repeat (first | exact Keep.refl _ _ | exact HK5.out | refine Keep.drew ?_ | refine Keep.drewN ?_ _ | refine Keep.alloc ?_ _)))
                | fail)
              (first
                | (go_at_call 32; refine (nput_off (((H.out.grow (HK3.out.trans (by repeat (first | exact Keep.refl _ _ | exact HK5.out | refine Keep.drew ?_ | refine Keep.drewN ?_ _ | refine Keep.alloc ?_ _)))).up).off H.out.lost) _ _).mono ?_; rintro e w6 ⟨rfl, rfl⟩)
                | (go_at_call 34; refine (ndrop_off (((H.out.grow (HK3.out.trans (by repeat (first | exact Keep.refl _ _ | exact HK5.out | refine Keep.drew ?_ | refine Keep.drewN ?_ _ | refine Keep.alloc ?_ _)))).up).off H.out.lost) _).mono ?_; rintro e w6 ⟨rfl, rfl⟩)
                | (go_at_call 35; refine (nhas_off (((H.out.grow (HK3.out.trans (by repeat (first | exact Keep.refl _ _ | exact HK5.out | refine Keep.drew ?_ | refine Keep.drewN ?_ _ | refine Keep.alloc ?_ _)))).up).off H.out.lost) _).mono ?_; rintro e w6 ⟨rfl, rfl⟩)
                | (go_at_call 41; refine (refSum_calls as_ HLS.out _).mono ?_; rintro e w6 ⟨rfl, hk6⟩; have HK5 : Hid (Keep [] W3 w6) := Keep.trans (M := []) (by repeat (first | exact Keep.refl _ _ | exact HK5.out | refine Keep.drew ?_ | refine Keep.drewN ?_ _ | refine Keep.alloc ?_ _)) hk6; clear hk6)
                | (go_at_call 40; refine (nsure_lost (H.out.grow (HK3.out.trans (by repeat (first | exact Keep.refl _ _ | exact HK5.out | refine Keep.drew ?_ | refine Keep.drewN ?_ _ | refine Keep.alloc ?_ _)))).up H.out.lost _ _ _).mono ?_; rintro e w7 ⟨rfl, rfl⟩)
                | fail)
            go_wp2
            go_roundw
            case rel => exact ⟨k2 + 1, by omega, by omega, by go_num, H.out.grow (HK3.out.trans HK5.out)⟩
            case measure => simp [intOf]; omega
          · have hcase : k2 = l.length ∨ k2 = 10 ∧ k2 < l.length := by omega
            have z0 : wr.cell? ⟨n, 0, none⟩ = some (.pointer (some ⟨b, 0, none⟩)) := h.up.blk.cell 0
            clear h
            rcases hcase with rfl | ⟨hk9, hlt9⟩
            · have d1 : decide ((l.length : Int) < (l.length : Int)) = false := by simp
              first
              | (exfalso; omega)
              | (go_wp2_with (first
                   | (go_at_call 43; refine H.out.upc.mono ?_; rintro e w7 ⟨rfl, rfl⟩)
                   | (go_at_call 44; refine H.out.lost_.mono ?_; rintro e w7 ⟨rfl, rfl⟩)
                   | (go_at_call 36; refine (nids_off (H.out.up.off H.out.lost)).mono ?_; rintro e w7 ⟨rfl, rfl⟩)
                   | (go_at_call 39; refine H.out.start.mono ?_; rintro e w7 ⟨rfl, rfl⟩))
                 go_ret
                 exact ⟨rfl, H.out.up.keep⟩)
            · have d1 : decide ((k2 : Int) < (l.length : Int)) = true := by simp; omega
              have d1n : decide (k2 < l.length) = true := by simpa using hlt9
              have d2 : decide ((k2 : Int) < 10) = false := by simp; omega
              have d2n : decide (k2 < 10) = false := by simp; omega
              first
              | (exfalso; omega)
              | (go_wp2_with (first
                   | (go_at_call 43; refine H.out.upc.mono ?_; rintro e w7 ⟨rfl, rfl⟩)
                   | (go_at_call 44; refine H.out.lost_.mono ?_; rintro e w7 ⟨rfl, rfl⟩)
                   | (go_at_call 36; refine (nids_off (H.out.up.off H.out.lost)).mono ?_; rintro e w7 ⟨rfl, rfl⟩)
                   | (go_at_call 39; refine H.out.start.mono ?_; rintro e w7 ⟨rfl, rfl⟩))
                 go_ret
                 exact ⟨rfl, H.out.up.keep⟩)

end Go.Proofs.YtkplffkchanipaaGreatDoor
