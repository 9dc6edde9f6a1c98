/- The contract of glacierlaw06.ChunkRoom. -/
import Derived.Test.YtkplffkchanipaaGreatDoorLaw6
import Derived.Test.YtkplffkchanipaaGreatDoorNewCut
import Derived.Test.YtkplffkchanipaaGreatDoorLawsB
namespace Go.Proofs.YtkplffkchanipaaGreatDoor
open Go.RowKit
attribute [local go_sem] size_bs bs_append ba_self
variable {w w' w0 : World} {s b m g : Nat} {C C' : Ck} {D D' : Dk} {X : List (Nat × List UInt8)}

theorem ChIn.is_ (h : ChIn w0 w s b m g C D X) {v : Value} {base : Nat} (hv : OwnX w base v X) (hX : X.length ≤ 1000) :
    Calls Tryz.prog 18 #[.pointer (some ⟨s, 0, none⟩), v] w fun e w' => e = .returned (.int .i64 0) ∧ ChIn w0 w' s b m g C D X ∧ Keep [b, m] w w' := by
  refine (is_calls h.at_ h.inv.dk.ok h.still h.inv.says h.inv.asc hv hX).mono ?_
  rintro e w' ⟨rfl, h1, h2⟩
  exact ⟨rfl, h.same h1 (h2.mono (by simp)), h2⟩
def RoomRel (l : List (Nat × List UInt8)) (w : World) (s b m g : Nat) (room : Int) (v x : Value) (wr : World) : Prop :=
  ∃ (k : Nat) (C : Ck) (D : Dk) (X : List (Nat × List UInt8)), k ≤ l.length ∧ k ≤ 15 ∧ x = .int .i64 (k : Int) ∧ ChIn w wr s b m g C D X ∧ OwnX wr w.heap.size v X ∧ C.seg ≤ 1 + k ∧ D.room = room ∧ X.length ≤ k

set_option maxRecDepth 100000 in
set_option maxHeartbeats 2000000 in
theorem chunkRoom_out (w : World) (hT : Tab w) (room : Int) (h : room < 0 ∨ 400 < room) (v : Value) :
    Calls Tryz.prog 3 #[.int .i64 room, v] w fun e w' => e = .returned (.bool true) ∧ Keep [] w w' := by
  have HT := Lib.hid hT
  clear hT
  by_cases h0 : room < 0
  · have d1 : decide (room < 0) = true := by simpa using h0
    go_enter Tryz.func3, Tryz.ntmps3
    go_upto_region 2 with (go_at_call 12; refine (awake6_calls _ HT.out).mono ?_; rintro e w1 ⟨rfl, hk1⟩; have HK1 := Lib.hid hk1; clear hk1)
    go_wp2_with (go_at_call 12; refine (awake6_calls _ (HT.out.keep HK1.out (by simp))).mono ?_; rintro e w2 ⟨rfl, hk2⟩; have HK2 := Lib.hid hk2; clear hk2)
    go_ret
    exact ⟨rfl, HK1.out.trans HK2.out⟩
  · have h1 : 400 < room := by omega
    have d1 : decide (room < 0) = false := by simpa using h0
    have d2 : decide (400 < room) = true := by simpa using h1
    go_enter Tryz.func3, Tryz.ntmps3
    go_upto_region 2 with (go_at_call 12; refine (awake6_calls _ HT.out).mono ?_; rintro e w1 ⟨rfl, hk1⟩; have HK1 := Lib.hid hk1; clear hk1)
    go_wp2_with (go_at_call 12; refine (awake6_calls _ (HT.out.keep HK1.out (by simp))).mono ?_; rintro e w2 ⟨rfl, hk2⟩; have HK2 := Lib.hid hk2; clear hk2)
    go_ret
    exact ⟨rfl, HK1.out.trans HK2.out⟩

set_option maxRecDepth 100000 in
set_option maxHeartbeats 4000000 in
theorem chunkRoom_in (w : World) (hT : Tab w) (room : Int) (h0 : ¬ room < 0) (h1 : ¬ 400 < room) (v : Value) (l : List (Nat × List UInt8)) (hv : ChsAt w v l) (hl : ∀ q ∈ l, q.1 < 18446744073709551616) :
    Calls Tryz.prog 3 #[.int .i64 room, v] w fun e w' => e = .returned (.bool true) ∧ Keep [] w w' := by
  have HL : Hid (∀ W, Keep [] w W → ChsAt W v l) := fun W hW => hv.keep hW
  have HB := Lib.hid hl
  obtain ⟨A, c, rfl, -⟩ := hv
  have HT := Lib.hid hT
  have d1 : decide (room < 0) = false := by simpa using h0
  have d2 : decide (400 < room) = false := by simpa using h1
  clear hT hl
  have TO : ∀ (W : World) (b m : Nat), Keep [] w W → w.heap.size ≤ b → w.heap.size ≤ m → DiskAt W b m ⟨room, 0, false, 0, []⟩ → Calls Tryz.prog 14 #[.pointer (some ⟨b, 0, none⟩), .int .i64 100] W fun e w' => ∃ s g C, e = .returned (.tuple #[.pointer (some ⟨s, 0, none⟩), .int .i64 0]) ∧ ChIn w w' s b m g C ⟨room, 0, false, 0, []⟩ [] ∧ C.seg ≤ 1 := fun W b m hk hb hm hd => by
    refine (open_in hk hd hb hm (HT.out.keep hk (by simp)) (start_still (by omega) (by omega)) (start_names _) (fun _ => rfl) (Nat.le_refl 1) (by decide) (by rw [start_segs]; simp) 100 (by decide)).mono ?_
    rintro e w' ⟨s, g, rfl, h1, -, h3, -, -⟩
    rw [start_replay] at h1
    exact ⟨s, g, _, rfl, h1, h3⟩
  have HTO := Lib.hid TO
  clear TO
  go_enter Tryz.func3, Tryz.ntmps3
  go_wp2_with (first
    | (go_at_call 12; refine (awake6_calls _ HT.out).mono ?_; rintro e w0 ⟨rfl, hk0⟩; have HK0 := Lib.hid hk0; clear hk0)
    | (go_at_call 13; refine (new_calls room (by omega) _).mono ?_; rintro e w1 ⟨b, m, rfl, hb, hm, hD1, hk1⟩; have HD1 : Hid (DiskAt w1 b m ⟨room, 0, false, 0, []⟩) := hD1; have HK1 : Hid (Keep [] w w1) := HK0.out.trans hk1; clear hD1 hk1)
    | (go_at_call 14; refine (HTO.out _ _ _ HK1.out (Nat.le_trans HK0.out.size hb) (Nat.le_trans HK0.out.size hm) HD1.out).mono ?_; rintro e w2 ⟨s, g, C0, rfl, h2, h2s⟩; have H2 := Lib.hid h2; clear h2))
  clear d1 d2
  go_loopw [8, 9] (fun v x wr => RoomRel l w s b m g room v x wr) (fun _ x _ => 15 - (intOf x).toNat)
  case atStart => exact ⟨0, _, _, [], Nat.zero_le _, Nat.zero_le _, rfl, H2.out.grow ((Keep.refl [] w2).alloc _), OwnX.start _ _ H2.out.keep.size, by omega, rfl, Nat.le_refl _⟩
  case round =>
    obtain ⟨k, C, D, X, hk1, hk2, rfl, hI, hO, hseg, hroom, hXk⟩ := hrel
    have HI := Lib.hid hI
    have HO := Lib.hid hO
    by_cases hlt : k < l.length ∧ k < 15
    · obtain ⟨hlt, hlt8⟩ := hlt
      have d1 : decide ((k : Int) < (l.length : Int)) = true := by simp; omega
      have d1n : decide (k < l.length) = true := by simpa using hlt
      have d2 : decide ((k : Int) < 15) = true := by simp; omega
      have d2n : decide (k < 15) = true := by simpa using hlt8
      obtain ⟨A', c', hv', hcc⟩ := HL.out w (Keep.refl _ _)
      injection hv' with hA hz1' hz2'
      clear hz1' hz2'
      subst hA
      obtain ⟨gx, o, rfl, hcc2⟩ := hcc (by intro h0; rw [h0] at hlt; simp at hlt)
      obtain ⟨cx0, cx1⟩ := hcc2 k hlt
      have hi := HB.out _ (List.getElem_mem hlt)
      have HC9 : Hid (∀ W, Keep [] w W → W.cell? ⟨gx, o + k * 2, none⟩ = some (.int .u64 (l[k].1 : Int)) ∧ W.cell? ⟨gx, o + k * 2 + 1, none⟩ = some (.string (bs l[k].2))) := fun W hW => ⟨(hW.cell (World.block_lt_of_cell? _ _ cx0) (by simp)).trans cx0, (hW.cell (World.block_lt_of_cell? _ _ cx1) (by simp)).trans cx1⟩
      have HKR : Hid (Keep [] w wr) := hI.keep
      have hnw : wr.heap.size ∉ [s, b, m, g] := by have q1 := hI.at_.blk.lt; have q2 := hI.at_.disk.blk.lt; have q3 := hI.at_.disk.map.lt; have q4 := hI.at_.map.lt; simp; omega
      have HNW := Lib.hid hnw
      clear hcc hcc2 cx0 cx1 hI hO hnw
      generalize l[k] = pr at *
      obtain ⟨i, d0⟩ := pr
      simp only at HC9 hi
      have d40 : (d0.take 40).length ≤ 40 := by rw [List.length_take]; omega
      go_upto_region 11 with fail
      go_region_held3 (fun w' => w'.cell? ⟨gx, o + k * 2, none⟩ = some (.int .u64 (i : Int)) ∧ w'.cell? ⟨gx, o + k * 2 + 1, none⟩ = some (.string (bs d0)))
        (first
          | (exact HC9.out _ (HKR.out.trans (by repeat (first | exact Keep.refl _ _ | refine Keep.drew ?_ | refine Keep.drewN ?_ _ | refine Keep.alloc ?_ _ | refine Keep.setCell ?_ (.inr (by simp)) _))))
          | fail)
        (first
          | (go_at_call 15; refine (cut_calls d0 40 _).mono ?_; rintro e w3 ⟨rfl, rfl⟩)
          | fail)
      all_goals
        have HBW : Hid (Blk (wr.alloc (.cells #[.int .u64 (i : Int), .string (bs (d0.take 40))] 32)).drew wr.heap.size 32 #[.int .u64 (i : Int), .string (bs (d0.take 40))]) := (Blk.new wr 32 #[.int .u64 (i : Int), .string (bs (d0.take 40))]).drew
        have HK3 : Hid (Keep [] wr (wr.alloc (.cells #[.int .u64 (i : Int), .string (bs (d0.take 40))] 32)).drew) := ((Keep.refl [] wr).alloc _).drew
        generalize (wr.alloc (.cells #[.int .u64 (i : Int), .string (bs (d0.take 40))] 32)).drew = W3 at *
        have HI3 := Lib.hid (HI.out.grow HK3.out)
        have HO3 := Lib.hid (HO.out.keep2 HK3.out (by simp))
        have y0 : W3.cell? ⟨wr.heap.size, 0, none⟩ = some (.int .u64 (i : Int)) := HBW.out.cell 0
        have y1 : W3.cell? ⟨wr.heap.size, 1, none⟩ = some (.string (bs (d0.take 40))) := HBW.out.cell 1
        go_wp2_with fail
        go_at_call 16
        refine (HI3.out.put (by omega) i hi (d0.take 40) (by omega)).mono ?_
        rintro e w4 ⟨C', D', x, X', rfl, hin4, hk4, hs4, -, hr4, -, hx4⟩
        have HI4 := Lib.hid hin4
        have HO4 := Lib.hid (HO3.out.store HI3.out.at_ hk4)
        have HBW4 := Lib.hid (HBW.out.keep hk4 HNW.out)
        have hfit := hin4.still.good.ok.fits
        have dr : decide (room < D'.used) = false := by rw [decide_eq_false_iff_not]; omega
        clear hin4 hk4 y0 y1
        rcases hx4 with ⟨rfl, rfl, -, -⟩ | ⟨rfl, rfl, -, -, -⟩ | ⟨rfl, rfl, -, -⟩
        · go_wp2_with (first
  | (go_at_call 18; refine (HI4.out.is_ HO4.out (by omega)).mono ?_; rintro e w5 ⟨rfl, h5, hk5⟩; have HI5 := Lib.hid h5; have HO5 := Lib.hid (HO4.out.disk HI4.out.at_.disk hk5); clear h5 hk5)
  | (go_at_call 19; refine (used_calls HI5.out.at_.disk).mono ?_; rintro e w6 ⟨rfl, rfl⟩))
          go_roundw
          case rel => exact ⟨k + 1, C', D', X', by omega, by omega, by go_num, HI5.out, HO5.out, by omega, by omega, by omega⟩
          case measure => simp [intOf]; omega
        · go_wp2_with (first
  | (go_at_call 18; refine (HI4.out.is_ HO4.out (by omega)).mono ?_; rintro e w5 ⟨rfl, h5, hk5⟩; have HI5 := Lib.hid h5; have HO5 := Lib.hid (HO4.out.disk HI4.out.at_.disk hk5); clear h5 hk5)
  | (go_at_call 19; refine (used_calls HI5.out.at_.disk).mono ?_; rintro e w6 ⟨rfl, rfl⟩))
          go_roundw
          case rel => exact ⟨k + 1, C', D', X', by omega, by omega, by go_num, HI5.out, HO5.out, by omega, by omega, by omega⟩
          case measure => simp [intOf]; omega
        · have z0 : w4.cell? ⟨wr.heap.size, 0, none⟩ = some (.int .u64 (i : Int)) := HBW4.out.cell 0
          have z1 : w4.cell? ⟨wr.heap.size, 1, none⟩ = some (.string (bs (d0.take 40))) := HBW4.out.cell 1
          have hpl := putX_len (i, d0.take 40) X
          go_wp2_with (first
            | (go_at_call 17; refine (putX_calls X _ i (d0.take 40) _ HO4.out.at_ (by omega)).mono ?_; rintro e w5 ⟨gp, cp, rfl, h5, hk5⟩; have HO5 := Lib.hid h5; have HI5 := Lib.hid (HI4.out.grow hk5); have HBS := Lib.hid HI4.out.keep.size; clear h5 hk5)
            | (go_at_call 18; refine (HI5.out.is_ HO5.out (by omega)).mono ?_; rintro e w6 ⟨rfl, h6, hk6⟩; have HI6 := Lib.hid h6; have HO6 := Lib.hid (HO5.out.disk HI5.out.at_.disk hk6); clear h6 hk6)
            | (go_at_call 19; refine (used_calls HI6.out.at_.disk).mono ?_; rintro e w7 ⟨rfl, rfl⟩))
          go_roundw
          case rel => exact ⟨k + 1, C', D', _, by omega, by omega, by go_num, HI6.out, HO6.out.mono HBS.out, by omega, by omega, by omega⟩
          case measure => simp [intOf]; omega
    · have hcase : k = l.length ∨ k = 15 ∧ k < l.length := by omega
      clear hI hO
      rcases hcase with rfl | ⟨hk8, hlt8⟩
      · have d1 : decide ((l.length : Int) < (l.length : Int)) = false := by simp
        go_wp2
        go_ret
        exact ⟨rfl, HI.out.keep⟩
      · have d1 : decide ((k : Int) < (l.length : Int)) = true := by simp; omega
        have d1n : decide (k < l.length) = true := by simpa using hlt8
        have d2 : decide ((k : Int) < 15) = false := by simp; omega
        have d2n : decide (k < 15) = false := by simp; omega
        go_wp2
        go_ret
        exact ⟨rfl, HI.out.keep⟩
theorem chunkRoom_calls (w : World) (hT : Tab w) (room : Int) (_h1 : -9223372036854775808 ≤ room) (_h2 : room ≤ 9223372036854775807) (v : Value) (l : List (Nat × List UInt8)) (hv : ChsAt w v l) (hl : ∀ q ∈ l, q.1 < 18446744073709551616) :
    Calls Tryz.prog 3 #[.int .i64 room, v] w fun e w' => e = .returned (.bool true) ∧ Keep [] w w' := by
  by_cases h : room < 0 ∨ 400 < room
  · exact chunkRoom_out w hT room h v
  · exact chunkRoom_in w hT room (by omega) (by omega) v l hv hl

end Go.Proofs.YtkplffkchanipaaGreatDoor
