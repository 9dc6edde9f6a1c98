/- The walk of glaciertop.GlacierIdle. -/
import Derived.Test.YtjnenioefliggaaGreatDoorGProp
import Derived.Test.YtjnenioefliggaaGreatDoorGRaw
set_option linter.unusedVariables false
namespace Go.Proofs.YtjnenioefliggaaGreatDoor
open Go.RowKit
attribute [local go_sem] size_bs bs_append
theorem below_then {a b c : World} (h : Below a.heap.size a b) (k : Below b.heap.size b c) : Below a.heap.size a c :=
  ⟨k.os.trans h.os, k.tape.trans h.tape, k.output.trans h.output, Nat.le_trans h.size k.size, fun x hx => (k.block x (Nat.lt_of_lt_of_le hx h.size)).trans (h.block x hx)⟩
set_option maxRecDepth 100000 in
set_option maxHeartbeats 8000000 in
theorem glacierIdle_calls (W : World) {ty : Nat → Nat} (hT : Av.Tabs W ty) (v : Value) (l : List Rc) (hl : RcsAt W v l) :
    Calls Tryz.prog 3 #[v] W fun e w' => e = .returned (.bool true) ∧ Below W.heap.size W w' := by
  have HC : Hid (Av.CsOk (comms l)) := Lib.hid (comms_ok l)
  have HT := Lib.hid hT
  obtain ⟨A, cap, rfl, hcells⟩ := hl
  have HL := Lib.hid hcells
  clear hT hcells
  go_enter Tryz.func3, Tryz.ntmps3
  go_wp2_with (first
    | (go_at_call 4; refine (Av.live_calls HC.out HT.out).mono ?_; rintro e w1 ⟨rfl, h0⟩; have H0 := Lib.hid h0; clear h0)
    | (go_at_call 6; refine (Av.config_calls HC.out H0.out).mono ?_; rintro e w2 ⟨rfl, h1⟩; have H1 := Lib.hid h1; clear h1)
    | (go_at_call 5; refine (Av.new_calls HC.out H1.out).mono ?_; rintro e w3 ⟨b0, rfl, h2⟩; have H2 := Lib.hid h2; clear h2)
    | (go_at_call 7; refine (Av.service2_calls HC.out H2.out).mono ?_; rintro e w4 ⟨v4, rfl, h3⟩; have H3 := Lib.hid h3; clear h3)
    | (go_at_call 8; refine (Av.cluster2_calls HC.out H3.out).mono ?_; rintro e w5 ⟨u, rfl, h4⟩; have H4 := Lib.hid h4; clear h4))
  go_loopw [6] (fun x wr => ∃ n : Nat, n ≤ 6 ∧ x = .int .i64 (n : Int) ∧ Av.Pre2 (comms l) W (6 - n) u wr) (fun x _ => 6 - (intOf x).toNat)
  case atStart => exact ⟨0, by omega, rfl, H4.out⟩
  case round =>
    obtain ⟨n, hn, rfl, hp⟩ := hrel
    have HP := Lib.hid hp
    clear hp
    by_cases h6 : n < 6
    · have hlt : (n : Int) < 6 := by omega
      have hw : IntKind.i64.wrap ((n : Int) + 1) = (n : Int) + 1 := IntWalk.i64_in _ (by omega)
      go_wp2_with (go_at_call 9; refine (Av.round2_calls (n := 5 - n) HC.out (by rw [show 5 - n + 1 = 6 - n by omega]; exact HP.out)).mono ?_; rintro e w6 ⟨rfl, h7⟩; have H7 := Lib.hid h7; clear h7)
      go_roundw
      case rel => exact ⟨n + 1, by omega, by go_num, by rw [show 6 - (n + 1) = 5 - n by omega]; exact H7.out⟩
      case measure => simp [intOf]; omega
    · have hlt : ¬ (n : Int) < 6 := by omega
      have hp0 : Av.Pre2 (comms l) W 0 u wr := by
        have := HP.out
        rwa [show 6 - n = 0 by omega] at this
      obtain ⟨b, rfl, hn0⟩ := hp0.now
      clear hp0 hn h6
      have HN0 := Lib.hid hn0
      clear hn0
      go_wp2_with fail
      go_loopw [7] (fun x wr => ∃ i : Nat, i ≤ l.length ∧ i ≤ 10 ∧ x = .int .i64 (i : Int) ∧ Av.Now (comms l) W (told l i).length b wr) (fun x _ => 11 - (intOf x).toNat)
      case atStart => exact ⟨0, by omega, by omega, rfl, HN0.out⟩
      case round =>
        obtain ⟨i, hi, hi10, rfl, hnow⟩ := hrel
        have HNO := Lib.hid hnow
        clear hnow
        by_cases hin : i < l.length ∧ i < 10
        · obtain ⟨hil, hi9⟩ := hin
          have hli : (i : Int) < (l.length : Int) := by omega
          have hl10 : (i : Int) < 10 := by omega
          have hw : IntKind.i64.wrap ((i : Int) + 1) = (i : Int) + 1 := IntWalk.i64_in _ (by omega)
          obtain ⟨g, o, dv, rfl, hrc, hfit⟩ := HL.out i hil
          have hri : l[i]? = some l[i] := List.getElem?_eq_getElem hil
          generalize l[i] = r at hri hrc hfit
          obtain ⟨K, Cl, S, nm, B, Z, U, ds, Po, V, At⟩ := r
          obtain ⟨hrc, D, dc, rfl, hds⟩ := hrc
          have HRI := Lib.hid hri
          have HF := Lib.hid hfit
          have HDS := Lib.hid hds
          have c0 := below_cell HNO.out.below (hrc 0 _ rfl)
          have c1 := below_cell HNO.out.below (hrc 1 _ rfl)
          have c2 := below_cell HNO.out.below (hrc 2 _ rfl)
          have c3 := below_cell HNO.out.below (hrc 3 _ rfl)
          have c4 := below_cell HNO.out.below (hrc 4 _ rfl)
          have c5 := below_cell HNO.out.below (hrc 5 _ rfl)
          have c6 := below_cell HNO.out.below (hrc 6 _ rfl)
          have c7 := below_cell HNO.out.below (hrc 7 _ rfl)
          have c8 := below_cell HNO.out.below (hrc 8 _ rfl)
          have c9 := below_cell HNO.out.below (hrc 9 _ rfl)
          have c10 := below_cell HNO.out.below (hrc 10 _ rfl)
          simp only [Nat.add_zero] at c0
          clear hrc hri hfit hds
          by_cases hm : moverI K
          case neg =>
            have HM := Lib.hid hm
            have n6 : K ≠ 6 := fun h => hm (by unfold moverI; omega)
            have n7 : K ≠ 7 := fun h => hm (by unfold moverI; omega)
            have n8 : K ≠ 8 := fun h => hm (by unfold moverI; omega)
            have n9 : K ≠ 9 := fun h => hm (by unfold moverI; omega)
            have n10 : K ≠ 10 := fun h => hm (by unfold moverI; omega)
            have n14 : K ≠ 14 := fun h => hm (by unfold moverI; omega)
            have m6 : (K != 6) = true := bne_iff_ne.2 n6
            have m7 : (K != 7) = true := bne_iff_ne.2 n7
            have m8 : (K != 8) = true := bne_iff_ne.2 n8
            have m9 : (K != 9) = true := bne_iff_ne.2 n9
            have m10 : (K != 10) = true := bne_iff_ne.2 n10
            have m14 : (K != 14) = true := bne_iff_ne.2 n14
            clear hm n6 n7 n8 n9 n10 n14
            go_wp2_with fail
            go_roundw
            case rel => exact ⟨i + 1, hil, hi9, by go_num, by rw [told_none HRI.out (val_none fun h => HM.out h.1)]; exact HNO.out.grow ((Below.refl _ _).alloc (Nat.le_refl _) _)⟩
            case measure => simp [intOf]; omega
          have HM := Lib.hid hm
          rcases hm with rfl | rfl | rfl | rfl | rfl | rfl
          all_goals
            go_wp2_with fail
            go_at_call 10
            refine (disk_calls ds HF.out.len D dc _ (fun k hk => ?_)).mono ?_
            · obtain ⟨q, z, h1, h2, h3⟩ := HDS.out k hk
              exact ⟨q, z, h1, below_cell (below_then HNO.out.below ((Below.refl _ _).alloc (Nat.le_refl _) _)) h2, Nat.lt_of_lt_of_le h3 (below_then HNO.out.below ((Below.refl _ _).alloc (Nat.le_refl _) _)).size⟩
            rintro e w7 ⟨v7, rfl, hs7, hk7⟩
            have HXB : Hid (Blk w7 wr.heap.size 41 _) := Lib.hid ((Blk.new wr _ _).keep hk7 (by simp))
            have HK7 : Hid (Keep [] wr w7) := Lib.hid (((Keep.refl _ _).alloc _).trans hk7)
            have HS7 : Hid (ISl (wr.heap.size + 1) w7 v7 (diskF ds)) := Lib.hid (by rw [← World.size_alloc]; exact hs7)
            obtain ⟨A7, q7, rfl, hA7⟩ := hs7.at_
            clear hs7 hk7 hA7
            have x0 := HXB.out.cell 0
            have x1 := HXB.out.cell 1
            have x2 := HXB.out.cell 2
            have x3 := HXB.out.cell 3
            have x4 := HXB.out.cell 4
            have x5 := HXB.out.cell 5
            have x6 := HXB.out.cell 6
            have x7 := HXB.out.cell 7
            have x8 := HXB.out.cell 8
            have x9 := HXB.out.cell 9
            have x10 := HXB.out.cell 10
            have xf := HXB.out.frozen 7
            simp only [List.getElem?_toArray, List.getElem?_cons_zero, List.getElem?_cons_succ] at x0 x1 x2 x3 x4 x5 x6 x7 x8 x9 x10
            go_wp2_with fail
            go_at_call 11
            have HK8 : Hid (Keep [] wr (w7.setCell ⟨wr.heap.size, 7, none⟩ (.slice A7 (diskF ds).length q7))) := Lib.hid (HK7.out.setCell (.inr (Nat.le_refl _)) _)
            have HS8 : Hid (ISl (wr.heap.size + 1) (w7.setCell ⟨wr.heap.size, 7, none⟩ (.slice A7 (diskF ds).length q7)) (.slice A7 (diskF ds).length q7) (diskF ds)) := Lib.hid (HS7.out.far (Nat.lt_succ_self _) _)
            have HX8 := Lib.hid (HXB.out.set_ 7 (.slice A7 (diskF ds).length q7))
            clear x0 x1 x2 x3 x4 x5 x6 x7 x8 x9 x10 xf c0 c1 c2 c3 c4 c5 c6 c7 c8 c9 c10
            generalize w7.setCell ⟨wr.heap.size, 7, none⟩ (.slice A7 (diskF ds).length q7) = w8 at *
            refine (goodA_calls _ Cl S nm _ Z _ (diskF ds) Po V At (Nat.le_trans (diskF_len ds) (Nat.le_trans HF.out.len (by decide))) _ w8 HS8.out.at_).mono ?_
            rintro e w9 ⟨bb, rfl, hbb, hk9⟩
            have HBB := Lib.hid hbb
            have HK9 : Hid (Keep [] wr w9) := Lib.hid (HK8.out.trans hk9)
            have HS9 := Lib.hid (HS8.out.keep hk9)
            have HX9 := Lib.hid (HX8.out.keep hk9 (by simp))
            clear hbb hk9
            cases bb
            · go_wp2_with fail
              go_roundw
              case rel => exact ⟨i + 1, hil, hi9, by go_num, by rw [told_none HRI.out (val_none fun h => by have := HBB.out.2 h.2.1; cases this)]; exact HNO.out.grow (Av.keep_below HK9.out)⟩
              case measure => simp [intOf]; omega
            · have x0 := HX9.out.cell 0
              have x1 := HX9.out.cell 1
              have x2 := HX9.out.cell 2
              have x3 := HX9.out.cell 3
              have x4 := HX9.out.cell 4
              have x5 := HX9.out.cell 5
              have x6 := HX9.out.cell 6
              have x7 := HX9.out.cell 7
              have x8 := HX9.out.cell 8
              have x9 := HX9.out.cell 9
              have x10 := HX9.out.cell 10
              simp only [List.setIfInBounds_toArray, List.set_cons_zero, List.set_cons_succ, List.getElem?_toArray, List.getElem?_cons_zero, List.getElem?_cons_succ] at x0 x1 x2 x3 x4 x5 x6 x7 x8 x9 x10
              go_wp2_with fail
              go_at_call 12
              have hgood := HBB.out.1 (by first | rfl | trivial)
              refine (cpropose_calls (n := wr.heap.size) HC.out (HNO.out.lim.grow (Av.keep_below (HK9.out.alloc _))) (by have := told_len l i; omega) (Rc.cm ⟨_, Cl, S, nm, B, Z, U, ds, Po, V, At⟩) (comms_at hi9 HRI.out (val_some (r := ⟨_, Cl, S, nm, B, Z, U, ds, Po, V, At⟩) HM.out hgood HF.out)) (.slice A7 (diskF ds).length q7) ((isl_intSl HS9.out (fun k hk => (hgood.disk k hk).1)).alloc _) (fun q hq => Nat.le_trans (Nat.le_succ _) (HS9.out.own hq)) (blk_cm (r := ⟨_, Cl, S, nm, B, Z, U, ds, Po, V, At⟩) hgood _ w9) HK9.out.size).mono ?_
              rintro e w10 ⟨v10, rfl, h10⟩
              have H10 := Lib.hid h10
              have HGD := Lib.hid hgood
              clear h10 hgood
              go_wp2_with fail
              go_roundw
              case rel => exact ⟨i + 1, hil, hi9, by go_num, by rw [told_some HRI.out (val_some (r := ⟨_, Cl, S, nm, B, Z, U, ds, Po, V, At⟩) HM.out HGD.out HF.out), List.length_append]; exact H10.out⟩
              case measure => simp [intOf]; omega
        · have hout : ¬ ((i : Int) < (l.length : Int) ∧ (i : Int) < 10) := fun h => hin ⟨by omega, by omega⟩
          have hk := told_len l i
          by_cases hli : (i : Int) < (l.length : Int)
          · have hl10 : ¬ (i : Int) < 10 := fun h => hout ⟨hli, h⟩
            clear hout hin
            go_wp2_with (first
              | (go_at_call 13; refine (Av.furthest_calls HC.out HNO.out (by omega)).mono ?_; rintro e w6 ⟨a6, rfl, h6⟩; have H6 := Lib.hid h6; clear h6)
              | (go_at_call 14; refine (Av.catalog1_calls HC.out H6.out).mono ?_; rintro e w7 ⟨v7, rfl, h7⟩; have H7 := Lib.hid h7; clear h7 H6)
              | (go_at_call 15; refine (Av.blobs_calls HC.out H7.out).mono ?_; rintro e w8 ⟨A8, c8, rfl, h8⟩; have H8 := Lib.hid h8; clear h8)
              | (go_at_call 14; refine (Av.catalog2_calls HC.out H8.out).mono ?_; rintro e w9 ⟨v9, rfl, h9⟩; have H9 := Lib.hid h9; clear h9)
              | (go_at_call 17; refine (Av.site_calls HC.out H9.out).mono ?_; rintro e w10 ⟨v10, rfl, h10⟩; have H10 := Lib.hid h10; clear h10)
              | (go_at_call 18; refine (Av.world_calls HC.out H10.out).mono ?_; rintro e w11 ⟨v11, rfl, h11⟩; have H11 := Lib.hid h11; clear h11)
              | (go_at_call 16; refine (Av.jobs_calls HC.out H11.out).mono ?_; rintro e w12 ⟨A12, c12, rfl, h12⟩; have H12 := Lib.hid h12; clear h12))
            go_ret
            exact ⟨rfl, H12.out⟩
          · clear hout hin
            go_wp2_with (first
              | (go_at_call 13; refine (Av.furthest_calls HC.out HNO.out (by omega)).mono ?_; rintro e w6 ⟨a6, rfl, h6⟩; have H6 := Lib.hid h6; clear h6)
              | (go_at_call 14; refine (Av.catalog1_calls HC.out H6.out).mono ?_; rintro e w7 ⟨v7, rfl, h7⟩; have H7 := Lib.hid h7; clear h7 H6)
              | (go_at_call 15; refine (Av.blobs_calls HC.out H7.out).mono ?_; rintro e w8 ⟨A8, c8, rfl, h8⟩; have H8 := Lib.hid h8; clear h8)
              | (go_at_call 14; refine (Av.catalog2_calls HC.out H8.out).mono ?_; rintro e w9 ⟨v9, rfl, h9⟩; have H9 := Lib.hid h9; clear h9)
              | (go_at_call 17; refine (Av.site_calls HC.out H9.out).mono ?_; rintro e w10 ⟨v10, rfl, h10⟩; have H10 := Lib.hid h10; clear h10)
              | (go_at_call 18; refine (Av.world_calls HC.out H10.out).mono ?_; rintro e w11 ⟨v11, rfl, h11⟩; have H11 := Lib.hid h11; clear h11)
              | (go_at_call 16; refine (Av.jobs_calls HC.out H11.out).mono ?_; rintro e w12 ⟨A12, c12, rfl, h12⟩; have H12 := Lib.hid h12; clear h12))
            go_ret
            exact ⟨rfl, H12.out⟩
end Go.Proofs.YtjnenioefliggaaGreatDoor
