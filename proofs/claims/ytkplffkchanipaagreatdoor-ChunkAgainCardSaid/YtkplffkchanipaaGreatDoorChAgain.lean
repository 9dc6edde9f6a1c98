/- The contract of glacierlaw06.ChunkAgain. -/
import Derived.Test.YtkplffkchanipaaGreatDoorLawsB
import Derived.Test.YtkplffkchanipaaGreatDoorChRoom
namespace Go.Proofs.YtkplffkchanipaaGreatDoor
open Go.RowKit
attribute [local go_sem] size_bs bs_append ba_self
variable {w w' w0 : World} {s b m g : Nat} {C C' : Ck} {D D' : Dk} {X : List (Nat × List UInt8)}

theorem wrap64 (z : Int) : ∃ n : Nat, IntKind.u64.wrap z = (n : Int) ∧ n < 18446744073709551616 := by
  have h : IntKind.u64.wrap z = z % 18446744073709551616 := IntKind.wrap_u64 z
  have h0 := Int.emod_nonneg z (show (18446744073709551616 : Int) ≠ 0 by decide)
  have h1 := Int.emod_lt_of_pos z (show (0 : Int) < 18446744073709551616 by decide)
  generalize z % 18446744073709551616 = y at *
  exact ⟨y.toNat, by omega, by omega⟩
theorem Inv.rep100 (h : Inv C D X) (hs : C.seg < 100) : D.replay 100 = X := by
  have h2 := Dk.replay_above (D := D) (k := C.seg + 1) (fun j a b => h.dk.above j (by omega) b) (100 - (C.seg + 1)) (by omega)
  rw [show C.seg + 1 + (100 - (C.seg + 1)) = 100 by omega] at h2
  rw [h2, h.rep]
theorem Inv.segs_le (h : Inv C D X) : ∀ i ∈ D.segs, i < C.seg + 1 := fun i hi => by
  have h1 := segs_lt hi
  refine Decidable.byContradiction fun hge => ?_
  have := h.dk.above i (by omega) h1.1
  rw [this] at h1
  exact absurd h1.2 (by simp)
/-- A store that is opened anew. -/
theorem ChIn.reopen (h : ChIn w0 w s b m g C D X) (hs : C.seg + 1 < 100) (hS : D.Safe) (lim : Int) (hl : lim < 9223372036854775808) :
    Calls Tryz.prog 14 #[.pointer (some ⟨b, 0, none⟩), .int .i64 lim] w fun e w' => ∃ s' g' C', e = .returned (.tuple #[.pointer (some ⟨s', 0, none⟩), .int .i64 0]) ∧ ChIn w0 w' s' b m g' C' D X ∧ Keep [b, m] w w' ∧ C'.seg ≤ C.seg + 1 ∧ C'.dirty = false := by
  refine (open_in h.keep h.at_.disk h.lo.2.1 h.lo.2.2.1 h.at_.tab h.still h.inv.dk.names hS (k := C.seg + 1) (by omega) hs h.inv.segs_le lim hl).mono ?_
  rintro e w' ⟨s', g', rfl, h1, h2, h3, -, -⟩
  rw [h.inv.rep100 (by omega)] at h1
  exact ⟨s', g', _, rfl, h1, h2, h3, rfl⟩
structure AgSt (w wr : World) (s b m g : Nat) (v : Value) (C : Ck) (D : Dk) (X : List (Nat × List UInt8)) (j u : Nat) : Prop where
  at_ : ChIn w wr s b m g C D X
  own : OwnX wr w.heap.size v X
  seg : C.seg ≤ 17 + j
  room : D.room = 100000
  used : D.used ≤ 1200 + (u : Int)
  len : X.length ≤ 8 + j
def AgRel (w : World) (b m : Nat) (p v x : Value) (wr : World) : Prop :=
  ∃ (k s g : Nat) (C : Ck) (D : Dk) (X : List (Nat × List UInt8)), k ≤ 3 ∧ p = .pointer (some ⟨s, 0, none⟩) ∧ x = .int .i64 (k : Int) ∧ AgSt w wr s b m g v C D X (4 * k) (300 * k) ∧ D.Safe
def AgRel2 (w : World) (s b m g k : Nat) (lmore : Nat) (v x : Value) (wr : World) : Prop :=
  ∃ (j : Nat) (C : Ck) (D : Dk) (X : List (Nat × List UInt8)), j ≤ lmore ∧ j ≤ 3 ∧ x = .int .i64 (j : Int) ∧ AgSt w wr s b m g v C D X (4 * k + 1 + j) (300 * k + 90 * j)

set_option maxRecDepth 100000 in
set_option maxHeartbeats 4000000 in
theorem chunkAgain_calls (w : World) (hT : Tab w) (v : Value) (l : List (Nat × List UInt8)) (hv : ChsAt w v l) (hl : ∀ q ∈ l, q.1 < 18446744073709551616) (v2 : Value) (l2 : List (Nat × List UInt8)) (hv2 : ChsAt w v2 l2) (hl2 : ∀ q ∈ l2, q.1 < 18446744073709551616) (lim : Int) (_hlm : -9223372036854775808 ≤ lim) (hlim : lim ≤ 9223372036854775807) :
    Calls Tryz.prog 4 #[v, v2, .int .i64 lim] w fun e w' => e = .returned (.bool true) ∧ Keep [] w w' := by
  have HTF := Lib.hid (filled_calls w hT v l hv hl lim (by omega))
  have HTW := Lib.hid hT
  have HL : Hid (∀ W, Keep [] w W → ChsAt W v2 l2) := fun W hW => hv2.keep hW
  have HB := Lib.hid hl2
  obtain ⟨A, c, rfl, -⟩ := hv2
  clear hv hT hl hl2
  go_enter Tryz.func4, Tryz.ntmps4
  go_wp2_with (first
    | (go_at_call 20; refine HTF.out.mono ?_; rintro e w1 ⟨s, b, m, g, C, D, X, vx, rfl, hF⟩; have HF := Lib.hid hF; clear hF)
    | (go_at_call 12; refine (awake6_calls _ HF.out.at_.at_.tab).mono ?_; rintro e w2 ⟨rfl, hk2⟩; have HK2 := Lib.hid hk2; clear hk2))
  go_loopw [8, 9, 10] (fun p v x wr => AgRel w b m p v x wr) (fun _ _ x _ => 3 - (intOf x).toNat)
  case atStart => exact ⟨0, s, g, C, D, X, by omega, rfl, rfl, ⟨HF.out.at_.grow HK2.out, HF.out.own.keep2 HK2.out (by simp), HF.out.seg, HF.out.room, HF.out.used, HF.out.len⟩, HF.out.safe⟩
  case round =>
    obtain ⟨k, s', g', C', D', X', hk, rfl, rfl, hst, hsafe⟩ := hrel
    have HST := Lib.hid hst
    have hseg := hst.seg
    have hlen := hst.len
    have hroom := hst.room
    have hused := hst.used
    have HSF := Lib.hid hsafe
    clear hst hsafe HF
    by_cases hlt : k < 3
    · have d1 : decide ((k : Int) < 3) = true := by simp; omega
      go_wp2_with (first
        | (go_at_call 14; refine (HST.out.at_.reopen (by omega) HSF.out lim (by omega)).mono ?_; rintro e w3 ⟨t, gt, Ct, rfl, h3, hk3, hs3, hd3⟩; have HI3 := Lib.hid h3; have HO3 := Lib.hid (HST.out.own.disk HST.out.at_.at_.disk hk3); clear h3 hk3)
        | (go_at_call 18; refine (HI3.out.is_ HO3.out (by omega)).mono ?_; rintro e w4 ⟨rfl, h4, hk4⟩; have HI4 := Lib.hid h4; have HO4 := Lib.hid (HO3.out.disk HI3.out.at_.disk hk4); clear h4 hk4))
      clear d1
      go_loopw [9, 13] (fun v x wr => AgRel2 w t b m gt k l2.length v x wr) (fun _ x _ => 3 - (intOf x).toNat)
      case atStart => exact ⟨0, Ct, D', X', Nat.zero_le _, by omega, rfl, ⟨HI4.out, HO4.out, by omega, by omega, by omega, by omega⟩⟩
      case round =>
        obtain ⟨j, C5, D5, X5, hj1, hj2, rfl, hst5⟩ := hrel
        have HST5 := Lib.hid hst5
        have hseg5 := hst5.seg
        have hlen5 := hst5.len
        have hroom5 := hst5.room
        have hused5 := hst5.used
        by_cases hlt5 : j < l2.length ∧ j < 3
        · obtain ⟨hlt5, hlt3⟩ := hlt5
          have d1 : decide ((j : Int) < (l2.length : Int)) = true := by simp; omega
          have d1n : decide (j < l2.length) = true := by simpa using hlt5
          have d2 : decide ((j : Int) < 3) = true := by simp; omega
          have d2n : decide (j < 3) = true := by simpa using hlt3
          obtain ⟨A', c', hv', hcc⟩ := HL.out w (Keep.refl _ _)
          injection hv' with hA hz1' hz2'
          clear hz1' hz2'
          subst hA
          obtain ⟨gx, o, rfl, hcc2⟩ := hcc (by intro h0; rw [h0] at hlt5; simp at hlt5)
          obtain ⟨cx0, cx1⟩ := hcc2 j hlt5
          have hi := HB.out _ (List.getElem_mem hlt5)
          have HC9 : Hid (∀ W, Keep [] w W → W.cell? ⟨gx, o + j * 2, none⟩ = some (.int .u64 (l2[j].1 : Int)) ∧ W.cell? ⟨gx, o + j * 2 + 1, none⟩ = some (.string (bs l2[j].2))) := fun W hW => ⟨(hW.cell (World.block_lt_of_cell? _ _ cx0) (by simp)).trans cx0, (hW.cell (World.block_lt_of_cell? _ _ cx1) (by simp)).trans cx1⟩
          have HKR : Hid (Keep [] w wr) := hst5.at_.keep
          have hnw : wr.heap.size ∉ [t, b, m, gt] := by have q1 := hst5.at_.at_.blk.lt; have q2 := hst5.at_.at_.disk.blk.lt; have q3 := hst5.at_.at_.disk.map.lt; have q4 := hst5.at_.at_.map.lt; simp; omega
          have HNW := Lib.hid hnw
          clear hcc hcc2 cx0 cx1 hst5 hnw
          generalize l2[j] = pr at *
          obtain ⟨i, d0⟩ := pr
          simp only at HC9 hi
          have d40 : (d0.take 40).length ≤ 40 := by rw [List.length_take]; omega
          obtain ⟨nid, hnid, hni⟩ : ∃ n : Nat, IntKind.u64.wrap ((i : Int) + IntKind.u64.wrap (IntKind.u64.wrap (k : Int) * 4294967296)) = (n : Int) ∧ n < 18446744073709551616 := wrap64 _
          go_upto_region 14 with fail
          go_region_held3 (fun w' => w'.cell? ⟨gx, o + j * 2, none⟩ = some (.int .u64 (i : Int)) ∧ w'.cell? ⟨gx, o + j * 2 + 1, none⟩ = some (.string (bs d0)))
            (first
              | (exact HC9.out _ (HKR.out.trans (by repeat (first | exact Keep.refl _ _ | refine Keep.drew ?_ | refine Keep.drewN ?_ _ | refine Keep.alloc ?_ _ | refine Keep.setCell ?_ (.inr (by simp)) _))))
              | fail)
            (first
              | (go_at_call 15; refine (cut_calls d0 40 _).mono ?_; rintro e w6 ⟨rfl, rfl⟩)
              | fail)
          all_goals
            have HBW : Hid (Blk (wr.alloc (.cells #[.int .u64 (nid : Int), .string (bs (d0.take 40))] 32)).drew wr.heap.size 32 #[.int .u64 (nid : Int), .string (bs (d0.take 40))]) := (Blk.new wr 32 #[.int .u64 (nid : Int), .string (bs (d0.take 40))]).drew
            have HK6 : Hid (Keep [] wr (wr.alloc (.cells #[.int .u64 (nid : Int), .string (bs (d0.take 40))] 32)).drew) := ((Keep.refl [] wr).alloc _).drew
            generalize (wr.alloc (.cells #[.int .u64 (nid : Int), .string (bs (d0.take 40))] 32)).drew = W3 at *
            have HI6 := Lib.hid (HST5.out.at_.grow HK6.out)
            have HO6 := Lib.hid (HST5.out.own.keep2 HK6.out (by simp))
            have y0 : W3.cell? ⟨wr.heap.size, 0, none⟩ = some (.int .u64 (nid : Int)) := HBW.out.cell 0
            have y1 : W3.cell? ⟨wr.heap.size, 1, none⟩ = some (.string (bs (d0.take 40))) := HBW.out.cell 1
            go_wp2_with fail
            go_at_call 16
            refine (HI6.out.put (by omega) nid hni (d0.take 40) (by omega)).mono ?_
            rintro e w7 ⟨C7, D7, x, X7, rfl, hin7, hk7, hs7, -, hr7, -, hx7⟩
            have HI7 := Lib.hid hin7
            have HO7 := Lib.hid (HO6.out.store HI6.out.at_ hk7)
            have HBW7 := Lib.hid (HBW.out.keep hk7 HNW.out)
            clear hin7 hk7 y0 y1
            rcases hx7 with ⟨rfl, rfl, -, hu7⟩ | ⟨rfl, rfl, -, -, hu7⟩ | ⟨rfl, rfl, -, hu7⟩
            · go_wp2
              go_roundw
              case rel => exact ⟨j + 1, C7, D7, X7, by omega, by omega, by go_num, ⟨HI7.out, HO7.out, by omega, by omega, by omega, by omega⟩⟩
              case measure => simp [intOf]; omega
            · go_wp2
              go_roundw
              case rel => exact ⟨j + 1, C7, D7, X7, by omega, by omega, by go_num, ⟨HI7.out, HO7.out, by omega, by omega, by omega, by omega⟩⟩
              case measure => simp [intOf]; omega
            · have z0 : w7.cell? ⟨wr.heap.size, 0, none⟩ = some (.int .u64 (nid : Int)) := HBW7.out.cell 0
              have z1 : w7.cell? ⟨wr.heap.size, 1, none⟩ = some (.string (bs (d0.take 40))) := HBW7.out.cell 1
              have hpl := putX_len (nid, d0.take 40) X5
              go_wp2_with (go_at_call 17; refine (putX_calls X5 _ nid (d0.take 40) _ HO7.out.at_ (by omega)).mono ?_; rintro e w8 ⟨gp, cp, rfl, h8, hk8⟩; have HO8 := Lib.hid h8; have HI8 := Lib.hid (HI7.out.grow hk8); have HBS := Lib.hid HI7.out.keep.size; clear h8 hk8)
              go_roundw
              case rel => exact ⟨j + 1, C7, D7, _, by omega, by omega, by go_num, ⟨HI8.out, HO8.out.mono HBS.out, by omega, by omega, by omega, by omega⟩⟩
              case measure => simp [intOf]; omega
        · have hcase : j = l2.length ∨ j = 3 ∧ j < l2.length := by omega
          clear hst5
          rcases hcase with rfl | ⟨hj3, hlt8⟩
          · have d1 : decide ((l2.length : Int) < (l2.length : Int)) = false := by simp
            go_wp2_with (go_at_call 21; refine (HST5.out.at_.sync (by omega)).mono ?_; rintro e w6 ⟨D6, rfl, h6, hk6, hr6, hu6, hsf6, -⟩; have HI6 := Lib.hid h6; have HO6 := Lib.hid (HST5.out.own.store HST5.out.at_.at_ hk6); have HSF6 := Lib.hid hsf6; clear h6 hk6 hsf6)
            go_roundw
            case rel => exact ⟨k + 1, t, gt, _, D6, X5, by omega, rfl, by go_num, ⟨HI6.out, HO6.out, by simp only; omega, by omega, by omega, by omega⟩, HSF6.out⟩
            case measure => simp [intOf]; omega
          · have d1 : decide ((j : Int) < (l2.length : Int)) = true := by simp; omega
            have d1n : decide (j < l2.length) = true := by simpa using hlt8
            have d2 : decide ((j : Int) < 3) = false := by simp; omega
            have d2n : decide (j < 3) = false := by simp; omega
            go_wp2_with (go_at_call 21; refine (HST5.out.at_.sync (by omega)).mono ?_; rintro e w6 ⟨D6, rfl, h6, hk6, hr6, hu6, hsf6, -⟩; have HI6 := Lib.hid h6; have HO6 := Lib.hid (HST5.out.own.store HST5.out.at_.at_ hk6); have HSF6 := Lib.hid hsf6; clear h6 hk6 hsf6)
            go_roundw
            case rel => exact ⟨k + 1, t, gt, _, D6, X5, by omega, rfl, by go_num, ⟨HI6.out, HO6.out, by simp only; omega, by omega, by omega, by omega⟩, HSF6.out⟩
            case measure => simp [intOf]; omega
    · obtain rfl : k = 3 := by omega
      have hids := HST.out.at_.inv.says.ids HST.out.at_.inv.dk.ok.map HST.out.at_.inv.asc
      have hcast : rising (C'.map.map (·.1)) = X'.map fun p => (p.1 : Int) := by
        have h := Ck.ids_cast HST.out.at_.inv.dk.ok.map
        rw [hids, List.map_map] at h
        exact h
      have hml : C'.map.length = X'.length := by
        have h2 := C'.ids_len
        rw [hids, List.length_map] at h2
        exact h2.symm
      have TI := ids_calls HST.out.at_.at_ HST.out.at_.inv.dk.ok (by omega)
      rw [hcast] at TI
      have HTI := Lib.hid TI
      have HAS := Lib.hid HST.out.at_.inv.asc
      clear hids hcast hml TI
      have d1 : decide (((3 : Nat) : Int) < 3) = false := by decide
      go_wp2_with (go_at_call 22; refine HTI.out.mono ?_; rintro e w3 ⟨vi, rfl, hvi, hk3⟩; have HVI := Lib.hid hvi; have HK3 := Lib.hid hk3; obtain ⟨Ai, ci, rfl, -⟩ := hvi; clear hk3)
      clear d1
      go_loopw [16] (fun x wr => ∃ i : Nat, 1 ≤ i ∧ i ≤ X'.length + 1 ∧ x = .int .i64 (i : Int) ∧ Keep [] w3 wr) (fun x _ => X'.length + 1 - (intOf x).toNat)
      case atStart => exact ⟨1, by omega, by omega, rfl, Keep.refl _ _⟩
      case round =>
        obtain ⟨i, hi1, hi2, rfl, hkr⟩ := hrel
        have HKR := Lib.hid hkr
        by_cases hlti : i < X'.length
        · have d1 : decide ((i : Int) < (X'.length : Int)) = true := by simp; omega
          obtain ⟨A', c', hv', hcc⟩ := HVI.out.keep hkr
          injection hv' with hA hz1' hz2'
          clear hz1' hz2'
          subst hA
          obtain ⟨gi, rfl, hcc2⟩ := hcc (by intro h0; rw [List.map_eq_nil_iff] at h0; rw [h0] at hlti; simp at hlti)
          obtain ⟨q, rfl⟩ : ∃ q, i = q + 1 := ⟨i - 1, by omega⟩
          have ca := hcc2 q (by rw [List.length_map]; omega)
          have cb := hcc2 (q + 1) (by rw [List.length_map]; exact hlti)
          rw [List.getElem_map] at ca cb
          have hlt3 := List.pairwise_iff_getElem.1 HAS.out q (q + 1) (by omega) hlti (by omega)
          generalize X'[q].1 = na at *
          generalize X'[q + 1].1 = nb at *
          have dge : decide ((nb : Int) ≤ (na : Int)) = false := by rw [decide_eq_false_iff_not]; omega
          have dgen : decide (nb ≤ na) = false := by rw [decide_eq_false_iff_not]; omega
          have wq : IntKind.i64.wrap ((q : Int) + 1 - 1) = (q : Int) := by rw [IntWalk.i64_in _ (by omega)]; omega
          have e1 : ((q + 1 : Nat) : Int) = (q : Int) + 1 := by omega
          rw [e1] at d1 ⊢
          clear hcc hcc2 hkr hlt3 e1
          go_upto_region 23 with fail
          go_quiet (fail)
          go_wp2
          go_roundw
          case rel => exact ⟨q + 1 + 1, by omega, by omega, by go_num, HKR.out.drewN _⟩
          case measure => simp [intOf]; omega
        · have d1 : decide ((i : Int) < (X'.length : Int)) = false := by simp; omega
          clear hkr
          go_wp2_with (go_at_call 18; refine (((HST.out.at_.grow HK3.out).grow HKR.out).is_ ((HST.out.own.keep2 HK3.out (by simp)).keep2 HKR.out (by simp)) (by omega)).mono ?_; rintro e w4 ⟨rfl, h4, -⟩; have HI4 := Lib.hid h4; clear h4)
          go_ret
          exact ⟨rfl, HI4.out.keep⟩

end Go.Proofs.YtkplffkchanipaaGreatDoor
