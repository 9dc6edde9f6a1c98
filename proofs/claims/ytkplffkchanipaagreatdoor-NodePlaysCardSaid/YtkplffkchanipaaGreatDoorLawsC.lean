/- The contract of glacierlaw06.ChunkTwice. -/
import Derived.Test.YtkplffkchanipaaGreatDoorLawsB
import Derived.Test.YtkplffkchanipaaGreatDoorChQuiet
import Derived.Test.YtkplffkchanipaaGreatDoorLaw6
import Derived.Test.YtkplffkchanipaaGreatDoorNewCut
namespace Go.Proofs.YtkplffkchanipaaGreatDoor
open Go.RowKit
attribute [local go_sem] size_bs bs_append ba_self
variable {w w' w0 : World} {s b m g : Nat} {C C' : Ck} {D D' : Dk} {X : List (Nat × List UInt8)}

/-- A durable store over a disk that doesn't fail, among a law's own blocks. -/
structure ChS (w0 w : World) (s b m g : Nat) (C : Ck) (D : Dk) (X : List (Nat × List UInt8)) : Prop where
  at_ : StoreAt w s b m g C D
  sure : Sure C D X
  quiet : D.Quiet
  lo : w0.heap.size ≤ s ∧ w0.heap.size ≤ b ∧ w0.heap.size ≤ m ∧ w0.heap.size ≤ g
  keep : Keep [] w0 w
theorem ChS.grow (h : ChS w0 w s b m g C D X) (hk : Keep [] w w') : ChS w0 w' s b m g C D X := ⟨h.at_.grow hk, h.sure, h.quiet, h.lo, h.keep.trans hk⟩
theorem ChS.still (h : ChS w0 w s b m g C D X) : D.Still := h.quiet.still h.sure.here.good
theorem Filled.data {l : List (Nat × List UInt8)} {lim : Int} {v : Value} (h : Filled l w w' s b m g lim v C D X) : ∀ p ∈ X, p.2.length ≤ 40 := fun p hp => by
  obtain ⟨k, hk, _, _, e⟩ := h.all p.1 p.2 (look_ofX h.at_.inv.asc hp)
  rw [← e, List.length_take]
  omega
theorem Filled.chS {l : List (Nat × List UInt8)} {lim : Int} {v : Value} (h : Filled l w w' s b m g lim v C D X) : ChS w w' s b m g C D X :=
  ⟨h.at_.at_, h.at_.inv.sure h.clean, ⟨h.at_.still.lost, h.at_.still.armed⟩, h.at_.lo, h.at_.keep⟩
theorem ChS.sub (h : ChS w0 w s b m g C D X) : ∀ x ∈ [s, b, m], x ∈ ([] : List Nat) ∨ w0.heap.size ≤ x := fun x hx => by
  have := h.lo
  simp only [List.mem_cons, List.not_mem_nil, or_false] at hx
  rcases hx with rfl | rfl | rfl
  · exact .inr this.1
  · exact .inr this.2.1
  · exact .inr this.2.2.1
theorem ChS.compact (h : ChS w0 w s b m g C D X) (hf : FitX X) (hd : ∀ p ∈ X, p.2.length ≤ 40) (hl : X.length ≤ 8) (hs : C.seg + 2 < 100) (hr : D.used + 900 ≤ D.room) :
    Calls Tryz.prog 26 #[.pointer (some ⟨s, 0, none⟩)] w fun e w' => ∃ g' C' D', e = .returned (.int .i64 0) ∧ ChS w0 w' s b m g' C' D' X ∧ Keep [s, b, m] w w' ∧ C'.seg = C.seg + 2 ∧ D'.segs = [C.seg + 1] ∧ D'.used = (frames (exactC X)).length ∧ D'.room = D.room := by
  have hle := exact_le hf hd (by omega)
  obtain ⟨a1, a2, a3, a4, a5, a6, a7, a8, a9⟩ := h.sure.compact_ok h.quiet hf (by omega) hs (by omega)
  refine (compact_calls h.at_ h.sure hf (by omega) hs).mono ?_
  rintro e w' ⟨g', rfl, h1, h2, h3⟩
  have hlo := h.lo
  have hsz := h.keep.size
  exact ⟨g', _, _, by rw [a1], ⟨h1, a2, a8, ⟨hlo.1, hlo.2.1, hlo.2.2.1, by rcases h2 with rfl | h2 <;> omega⟩, h.keep.trans' h3 h.sub⟩, h3, a3, a6, a7, a9⟩
theorem ChS.is_ (h : ChS w0 w s b m g C D X) {v : Value} {base : Nat} (hv : OwnX w base v X) (hX : X.length ≤ 1000) :
    Calls Tryz.prog 18 #[.pointer (some ⟨s, 0, none⟩), v] w fun e w' => e = .returned (.int .i64 0) ∧ ChS w0 w' s b m g C D X ∧ Keep [b, m] w w' := by
  refine (is_calls h.at_ h.sure.ok h.still h.sure.says h.sure.asc hv hX).mono ?_
  rintro e w' ⟨rfl, h1, h2⟩
  exact ⟨rfl, ⟨h1, h.sure, h.quiet, h.lo, h.keep.trans' h2 fun x hx => h.sub x (by simp at hx ⊢; rcases hx with hx | hx <;> simp [hx])⟩, h2⟩
theorem ChS.names (h : ChS w0 w s b m g C D X) {i : Nat} (hi : D.segs = [i]) :
    Calls Tryz.prog 27 #[.pointer (some ⟨b, 0, none⟩)] w fun e w' => ∃ A c, e = .returned (.tuple #[.slice A 1 c, .int .i64 0]) ∧ ChS w0 w' s b m g C D X ∧ Keep [b, m] w w' := by
  have hN := h.sure.here.names
  have T := names_calls h.at_.disk h.sure.here.good.ok (by have := hN.files_len; omega) hN.keys
  rw [h.still.tries] at T
  refine T.mono ?_
  rintro e w' ⟨v, rfl, h1, h2, h3⟩
  have hO := h1 rfl
  have hl : D.names.length = 1 := by rw [Dk.names_segs hN, hi]; rfl
  obtain ⟨A, c, rfl⟩ := hO.slice
  rw [hl]
  have h4 : Keep [b, m] w w' := h3.mono (by simp)
  exact ⟨A, c, rfl, ⟨h.at_.setDisk h4 h2, h.sure, h.quiet, h.lo, h.keep.trans' h4 fun x hx => h.sub x (by simp at hx ⊢; rcases hx with hx | hx <;> simp [hx])⟩, h4⟩
theorem OwnX.sbm {base : Nat} {v : Value} {l : List (Nat × List UInt8)} (h : OwnX w base v l) (hs : StoreAt w s b m g C D) (hk : Keep [s, b, m] w w') : OwnX w' base v l := h.store hs (hk.mono (by simp))

set_option maxRecDepth 100000 in
set_option maxHeartbeats 2000000 in
theorem chunkTwice_calls (w : World) (hT : Tab w) (v : Value) (l : List (Nat × List UInt8)) (hv : ChsAt w v l) (hl : ∀ q ∈ l, q.1 < 18446744073709551616) (lim : Int) (_hlm : -9223372036854775808 ≤ lim) (hlim : lim ≤ 9223372036854775807) :
    Calls Tryz.prog 6 #[v, .int .i64 lim] w fun e w' => e = .returned (.bool true) ∧ Keep [] w w' := by
  have HTF := Lib.hid (filled_calls w hT v l hv hl lim (by omega))
  have HTW := Lib.hid hT
  clear hv hT
  go_enter Tryz.func6, Tryz.ntmps6
  go_upto_region 4 with (first
    | (go_at_call 20; refine HTF.out.mono ?_; rintro e w1 ⟨s, b, m, g, C, D, X, vx, rfl, hF⟩; have HF := Lib.hid hF; have H1 := Lib.hid hF.chS; have hseg := hF.seg; have hused := hF.used; have hroom := hF.room; have HD := Lib.hid hF.data; clear hF)
    | (go_at_call 12; refine (awake6_calls _ H1.out.at_.tab).mono ?_; rintro e w2 ⟨rfl, hk2⟩; have H2 := Lib.hid (H1.out.grow hk2); have HO2 := Lib.hid (HF.out.own.keep2 hk2 (by simp)); clear hk2)
    | (go_at_call 26; refine (H2.out.compact HF.out.fit HD.out HF.out.len (by omega) (by omega)).mono ?_; rintro e w3 ⟨g3, C3, D3, rfl, h3, hk3, hs3, hg3, hu3, hr3⟩; have H3 := Lib.hid h3; have HO3 := Lib.hid (HO2.out.sbm H2.out.at_ hk3); clear h3 hk3))
  have hle := exact_le HF.out.fit HD.out (by have := HF.out.len; omega)
  have hxl := HF.out.len
  go_upto_region 7 with (first
    | (go_at_call 19; refine (used_calls H3.out.at_.disk).mono ?_; rintro e w4 ⟨rfl, rfl⟩; rw [hu3])
    | (go_at_call 26; refine (H3.out.compact HF.out.fit HD.out HF.out.len (by omega) (by omega)).mono ?_; rintro e w5 ⟨g5, C5, D5, rfl, h5, hk5, hs5, hg5, hu5, hr5⟩; have H5 := Lib.hid h5; have HO5 := Lib.hid (HO3.out.sbm H3.out.at_ hk5); clear h5 hk5))
  go_wp2_with (first
    | (go_at_call 27; refine (H5.out.names hg5).mono ?_; rintro e w6 ⟨A6, c6, rfl, h6, hk6⟩; have H6 := Lib.hid h6; have HO6 := Lib.hid (HO5.out.disk H5.out.at_.disk hk6); clear h6 hk6)
    | (go_at_call 19; refine (used_calls H6.out.at_.disk).mono ?_; rintro e w7 ⟨rfl, rfl⟩; rw [hu5])
    | (go_at_call 18; refine (H6.out.is_ HO6.out (by omega)).mono ?_; rintro e w8 ⟨rfl, h8, -⟩; have H8 := Lib.hid h8; clear h8))
  go_ret
  exact ⟨rfl, H8.out.keep⟩

end Go.Proofs.YtkplffkchanipaaGreatDoor
/- The contract of glacierlaw06.ChunkRoom. -/
namespace Go.Proofs.YtkplffkchanipaaGreatDoor
open Go.RowKit
attribute [local go_sem] size_bs bs_append ba_self
variable {w w' w0 : World} {s b m g : Nat} {C C' : Ck} {D D' : Dk} {X : List (Nat × List UInt8)}

theorem ChIn.is_ (h : ChIn w0 w s b m g C D X) {v : Value} {base : Nat} (hv : OwnX w base v X) (hX : X.length ≤ 1000) :
    Calls Tryz.prog 18 #[.pointer (some ⟨s, 0, none⟩), v] w fun e w' => e = .returned (.int .i64 0) ∧ ChIn w0 w' s b m g C D X ∧ Keep [b, m] w w' := by
  refine (is_calls h.at_ h.inv.dk.ok h.still h.inv.says h.inv.asc hv hX).mono ?_
  rintro e w' ⟨rfl, h1, h2⟩
  exact ⟨rfl, h.same h1 (h2.mono (by simp)), h2⟩
def RoomRel (l : List (Nat × List UInt8)) (w : World) (s b m g : Nat) (room : Int) (v x : Value) (wr : World) : Prop :=
  ∃ (k : Nat) (C : Ck) (D : Dk) (X : List (Nat × List UInt8)), k ≤ l.length ∧ k ≤ 15 ∧ x = .int .i64 (k : Int) ∧ ChIn w wr s b m g C D X ∧ OwnX wr w.heap.size v X ∧ C.seg ≤ 1 + k ∧ D.room = room ∧ X.length ≤ k

set_option maxRecDepth 100000 in
set_option maxHeartbeats 2000000 in
theorem chunkRoom_out (w : World) (hT : Tab w) (room : Int) (h : room < 0 ∨ 400 < room) (v : Value) :
    Calls Tryz.prog 3 #[.int .i64 room, v] w fun e w' => e = .returned (.bool true) ∧ Keep [] w w' := by
  have HT := Lib.hid hT
  clear hT
  by_cases h0 : room < 0
  · have d1 : decide (room < 0) = true := by simpa using h0
    go_enter Tryz.func3, Tryz.ntmps3
    go_upto_region 2 with (go_at_call 12; refine (awake6_calls _ HT.out).mono ?_; rintro e w1 ⟨rfl, hk1⟩; have HK1 := Lib.hid hk1; clear hk1)
    go_wp2_with (go_at_call 12; refine (awake6_calls _ (HT.out.keep HK1.out (by simp))).mono ?_; rintro e w2 ⟨rfl, hk2⟩; have HK2 := Lib.hid hk2; clear hk2)
    go_ret
    exact ⟨rfl, HK1.out.trans HK2.out⟩
  · have h1 : 400 < room := by omega
    have d1 : decide (room < 0) = false := by simpa using h0
    have d2 : decide (400 < room) = true := by simpa using h1
    go_enter Tryz.func3, Tryz.ntmps3
    go_upto_region 2 with (go_at_call 12; refine (awake6_calls _ HT.out).mono ?_; rintro e w1 ⟨rfl, hk1⟩; have HK1 := Lib.hid hk1; clear hk1)
    go_wp2_with (go_at_call 12; refine (awake6_calls _ (HT.out.keep HK1.out (by simp))).mono ?_; rintro e w2 ⟨rfl, hk2⟩; have HK2 := Lib.hid hk2; clear hk2)
    go_ret
    exact ⟨rfl, HK1.out.trans HK2.out⟩

set_option maxRecDepth 100000 in
set_option maxHeartbeats 4000000 in
theorem chunkRoom_in (w : World) (hT : Tab w) (room : Int) (h0 : ¬ room < 0) (h1 : ¬ 400 < room) (v : Value) (l : List (Nat × List UInt8)) (hv : ChsAt w v l) (hl : ∀ q ∈ l, q.1 < 18446744073709551616) :
    Calls Tryz.prog 3 #[.int .i64 room, v] w fun e w' => e = .returned (.bool true) ∧ Keep [] w w' := by
  have HL : Hid (∀ W, Keep [] w W → ChsAt W v l) := fun W hW => hv.keep hW
  have HB := Lib.hid hl
  obtain ⟨A, c, rfl, -⟩ := hv
  have HT := Lib.hid hT
  have d1 : decide (room < 0) = false := by simpa using h0
  have d2 : decide (400 < room) = false := by simpa using h1
  clear hT hl
  have TO : ∀ (W : World) (b m : Nat), Keep [] w W → w.heap.size ≤ b → w.heap.size ≤ m → DiskAt W b m ⟨room, 0, false, 0, []⟩ → Calls Tryz.prog 14 #[.pointer (some ⟨b, 0, none⟩), .int .i64 100] W fun e w' => ∃ s g C, e = .returned (.tuple #[.pointer (some ⟨s, 0, none⟩), .int .i64 0]) ∧ ChIn w w' s b m g C ⟨room, 0, false, 0, []⟩ [] ∧ C.seg ≤ 1 := fun W b m hk hb hm hd => by
    refine (open_in hk hd hb hm (HT.out.keep hk (by simp)) (start_still (by omega) (by omega)) (start_names _) (fun _ => rfl) (Nat.le_refl 1) (by decide) (by rw [start_segs]; simp) 100 (by decide)).mono ?_
    rintro e w' ⟨s, g, rfl, h1, -, h3, -, -⟩
    rw [start_replay] at h1
    exact ⟨s, g, _, rfl, h1, h3⟩
  have HTO := Lib.hid TO
  clear TO
  go_enter Tryz.func3, Tryz.ntmps3
  go_wp2_with (first
    | (go_at_call 12; refine (awake6_calls _ HT.out).mono ?_; rintro e w0 ⟨rfl, hk0⟩; have HK0 := Lib.hid hk0; clear hk0)
    | (go_at_call 13; refine (new_calls room (by omega) _).mono ?_; rintro e w1 ⟨b, m, rfl, hb, hm, hD1, hk1⟩; have HD1 : Hid (DiskAt w1 b m ⟨room, 0, false, 0, []⟩) := hD1; have HK1 : Hid (Keep [] w w1) := HK0.out.trans hk1; clear hD1 hk1)
    | (go_at_call 14; refine (HTO.out _ _ _ HK1.out (Nat.le_trans HK0.out.size hb) (Nat.le_trans HK0.out.size hm) HD1.out).mono ?_; rintro e w2 ⟨s, g, C0, rfl, h2, h2s⟩; have H2 := Lib.hid h2; clear h2))
  clear d1 d2
  go_loopw [8, 9] (fun v x wr => RoomRel l w s b m g room v x wr) (fun _ x _ => 15 - (intOf x).toNat)
  case atStart => exact ⟨0, _, _, [], Nat.zero_le _, Nat.zero_le _, rfl, H2.out.grow ((Keep.refl [] w2).alloc _), OwnX.start _ _ H2.out.keep.size, by omega, rfl, Nat.le_refl _⟩
  case round =>
    obtain ⟨k, C, D, X, hk1, hk2, rfl, hI, hO, hseg, hroom, hXk⟩ := hrel
    have HI := Lib.hid hI
    have HO := Lib.hid hO
    by_cases hlt : k < l.length ∧ k < 15
    · obtain ⟨hlt, hlt8⟩ := hlt
      have d1 : decide ((k : Int) < (l.length : Int)) = true := by simp; omega
      have d1n : decide (k < l.length) = true := by simpa using hlt
      have d2 : decide ((k : Int) < 15) = true := by simp; omega
      have d2n : decide (k < 15) = true := by simpa using hlt8
      obtain ⟨A', c', hv', hcc⟩ := HL.out w (Keep.refl _ _)
      injection hv' with hA hz1' hz2'
      clear hz1' hz2'
      subst hA
      obtain ⟨gx, o, rfl, hcc2⟩ := hcc (by intro h0; rw [h0] at hlt; simp at hlt)
      obtain ⟨cx0, cx1⟩ := hcc2 k hlt
      have hi := HB.out _ (List.getElem_mem hlt)
      have HC9 : Hid (∀ W, Keep [] w W → W.cell? ⟨gx, o + k * 2, none⟩ = some (.int .u64 (l[k].1 : Int)) ∧ W.cell? ⟨gx, o + k * 2 + 1, none⟩ = some (.string (bs l[k].2))) := fun W hW => ⟨(hW.cell (World.block_lt_of_cell? _ _ cx0) (by simp)).trans cx0, (hW.cell (World.block_lt_of_cell? _ _ cx1) (by simp)).trans cx1⟩
      have HKR : Hid (Keep [] w wr) := hI.keep
      have hnw : wr.heap.size ∉ [s, b, m, g] := by have q1 := hI.at_.blk.lt; have q2 := hI.at_.disk.blk.lt; have q3 := hI.at_.disk.map.lt; have q4 := hI.at_.map.lt; simp; omega
      have HNW := Lib.hid hnw
      clear hcc hcc2 cx0 cx1 hI hO hnw
      generalize l[k] = pr at *
      obtain ⟨i, d0⟩ := pr
      simp only at HC9 hi
      have d40 : (d0.take 40).length ≤ 40 := by rw [List.length_take]; omega
      go_upto_region 11 with fail
      go_region_held3 (fun w' => w'.cell? ⟨gx, o + k * 2, none⟩ = some (.int .u64 (i : Int)) ∧ w'.cell? ⟨gx, o + k * 2 + 1, none⟩ = some (.string (bs d0)))
        (first
          | (exact HC9.out _ (HKR.out.trans (by repeat (first | exact Keep.refl _ _ | refine Keep.drew ?_ | refine Keep.drewN ?_ _ | refine Keep.alloc ?_ _ | refine Keep.setCell ?_ (.inr (by simp)) _))))
          | fail)
        (first
          | (go_at_call 15; refine (cut_calls d0 40 _).mono ?_; rintro e w3 ⟨rfl, rfl⟩)
          | fail)
      all_goals
        have HBW : Hid (Blk (wr.alloc (.cells #[.int .u64 (i : Int), .string (bs (d0.take 40))] 32)).drew wr.heap.size 32 #[.int .u64 (i : Int), .string (bs (d0.take 40))]) := (Blk.new wr 32 #[.int .u64 (i : Int), .string (bs (d0.take 40))]).drew
        have HK3 : Hid (Keep [] wr (wr.alloc (.cells #[.int .u64 (i : Int), .string (bs (d0.take 40))] 32)).drew) := ((Keep.refl [] wr).alloc _).drew
        generalize (wr.alloc (.cells #[.int .u64 (i : Int), .string (bs (d0.take 40))] 32)).drew = W3 at *
        have HI3 := Lib.hid (HI.out.grow HK3.out)
        have HO3 := Lib.hid (HO.out.keep2 HK3.out (by simp))
        have y0 : W3.cell? ⟨wr.heap.size, 0, none⟩ = some (.int .u64 (i : Int)) := HBW.out.cell 0
        have y1 : W3.cell? ⟨wr.heap.size, 1, none⟩ = some (.string (bs (d0.take 40))) := HBW.out.cell 1
        go_wp2_with fail
        go_at_call 16
        refine (HI3.out.put (by omega) i hi (d0.take 40) (by omega)).mono ?_
        rintro e w4 ⟨C', D', x, X', rfl, hin4, hk4, hs4, -, hr4, -, hx4⟩
        have HI4 := Lib.hid hin4
        have HO4 := Lib.hid (HO3.out.store HI3.out.at_ hk4)
        have HBW4 := Lib.hid (HBW.out.keep hk4 HNW.out)
        have hfit := hin4.still.good.ok.fits
        have dr : decide (room < D'.used) = false := by rw [decide_eq_false_iff_not]; omega
        clear hin4 hk4 y0 y1
        rcases hx4 with ⟨rfl, rfl, -, -⟩ | ⟨rfl, rfl, -, -, -⟩ | ⟨rfl, rfl, -, -⟩
        · go_wp2_with (first
  | (go_at_call 18; refine (HI4.out.is_ HO4.out (by omega)).mono ?_; rintro e w5 ⟨rfl, h5, hk5⟩; have HI5 := Lib.hid h5; have HO5 := Lib.hid (HO4.out.disk HI4.out.at_.disk hk5); clear h5 hk5)
  | (go_at_call 19; refine (used_calls HI5.out.at_.disk).mono ?_; rintro e w6 ⟨rfl, rfl⟩))
          go_roundw
          case rel => exact ⟨k + 1, C', D', X', by omega, by omega, by go_num, HI5.out, HO5.out, by omega, by omega, by omega⟩
          case measure => simp [intOf]; omega
        · go_wp2_with (first
  | (go_at_call 18; refine (HI4.out.is_ HO4.out (by omega)).mono ?_; rintro e w5 ⟨rfl, h5, hk5⟩; have HI5 := Lib.hid h5; have HO5 := Lib.hid (HO4.out.disk HI4.out.at_.disk hk5); clear h5 hk5)
  | (go_at_call 19; refine (used_calls HI5.out.at_.disk).mono ?_; rintro e w6 ⟨rfl, rfl⟩))
          go_roundw
          case rel => exact ⟨k + 1, C', D', X', by omega, by omega, by go_num, HI5.out, HO5.out, by omega, by omega, by omega⟩
          case measure => simp [intOf]; omega
        · have z0 : w4.cell? ⟨wr.heap.size, 0, none⟩ = some (.int .u64 (i : Int)) := HBW4.out.cell 0
          have z1 : w4.cell? ⟨wr.heap.size, 1, none⟩ = some (.string (bs (d0.take 40))) := HBW4.out.cell 1
          have hpl := putX_len (i, d0.take 40) X
          go_wp2_with (first
            | (go_at_call 17; refine (putX_calls X _ i (d0.take 40) _ HO4.out.at_ (by omega)).mono ?_; rintro e w5 ⟨gp, cp, rfl, h5, hk5⟩; have HO5 := Lib.hid h5; have HI5 := Lib.hid (HI4.out.grow hk5); have HBS := Lib.hid HI4.out.keep.size; clear h5 hk5)
            | (go_at_call 18; refine (HI5.out.is_ HO5.out (by omega)).mono ?_; rintro e w6 ⟨rfl, h6, hk6⟩; have HI6 := Lib.hid h6; have HO6 := Lib.hid (HO5.out.disk HI5.out.at_.disk hk6); clear h6 hk6)
            | (go_at_call 19; refine (used_calls HI6.out.at_.disk).mono ?_; rintro e w7 ⟨rfl, rfl⟩))
          go_roundw
          case rel => exact ⟨k + 1, C', D', _, by omega, by omega, by go_num, HI6.out, HO6.out.mono HBS.out, by omega, by omega, by omega⟩
          case measure => simp [intOf]; omega
    · have hcase : k = l.length ∨ k = 15 ∧ k < l.length := by omega
      clear hI hO
      rcases hcase with rfl | ⟨hk8, hlt8⟩
      · have d1 : decide ((l.length : Int) < (l.length : Int)) = false := by simp
        go_wp2
        go_ret
        exact ⟨rfl, HI.out.keep⟩
      · have d1 : decide ((k : Int) < (l.length : Int)) = true := by simp; omega
        have d1n : decide (k < l.length) = true := by simpa using hlt8
        have d2 : decide ((k : Int) < 15) = false := by simp; omega
        have d2n : decide (k < 15) = false := by simp; omega
        go_wp2
        go_ret
        exact ⟨rfl, HI.out.keep⟩
theorem chunkRoom_calls (w : World) (hT : Tab w) (room : Int) (_h1 : -9223372036854775808 ≤ room) (_h2 : room ≤ 9223372036854775807) (v : Value) (l : List (Nat × List UInt8)) (hv : ChsAt w v l) (hl : ∀ q ∈ l, q.1 < 18446744073709551616) :
    Calls Tryz.prog 3 #[.int .i64 room, v] w fun e w' => e = .returned (.bool true) ∧ Keep [] w w' := by
  by_cases h : room < 0 ∨ 400 < room
  · exact chunkRoom_out w hT room h v
  · exact chunkRoom_in w hT room (by omega) (by omega) v l hv hl

end Go.Proofs.YtkplffkchanipaaGreatDoor
/- The contract of glacierlaw06.ChunkCompact. -/
namespace Go.Proofs.YtkplffkchanipaaGreatDoor
open Go.RowKit
attribute [local go_sem] size_bs bs_append ba_self
variable {w w' w0 : World} {s b m g : Nat} {C C' : Ck} {D D' : Dk} {X : List (Nat × List UInt8)}

/-- Fail arms a disk, or disarms it. -/
def armV (n : Int) : Int := if n < 0 then 0 else if 1073741824 < n then 1073741825 else n + 1
theorem armV_le (n : Int) : 0 ≤ armV n ∧ armV n ≤ 4294967296 := by
  unfold armV
  split
  · omega
  · split <;> omega
set_option maxHeartbeats 400000 in
theorem fail_big {w : World} {b m : Nat} {D : Dk} (h : DiskAt w b m D) (n : Int) (hn : 1073741824 < n) (hn2 : n ≤ 9223372036854775807) :
    Calls Tryz.prog 28 #[.pointer (some ⟨b, 2, none⟩), .int .i64 n] w fun e w' => e = .returned (.tuple #[]) ∧ DiskAt w' b m { D with armed := 1073741825 } ∧ Keep [b] w w' := by
  have c3 := h.c3
  have f3 := h.blk.frozen 3
  have H := Lib.hid h
  clear h
  go_enter Tryz.func28, Tryz.ntmps28
  go_wp2
  go_end0
  rw [show min n 1073741824 + 1 = 1073741825 from by omega]
  exact ⟨rfl, H.out.armed_ _, (Keep.refl _ _).setCell (.inl (by simp)) _⟩
theorem fail_any {w : World} {b m : Nat} {D : Dk} (h : DiskAt w b m D) (n : Int) (hn2 : n ≤ 9223372036854775807) :
    Calls Tryz.prog 28 #[.pointer (some ⟨b, 2, none⟩), .int .i64 n] w fun e w' => e = .returned (.tuple #[]) ∧ DiskAt w' b m { D with armed := armV n } ∧ Keep [b] w w' := by
  unfold armV
  by_cases h0 : n < 0
  · rw [if_pos h0]
    exact fail_off h n h0
  · rw [if_neg h0]
    by_cases h1 : 1073741824 < n
    · rw [if_pos h1]
      exact fail_big h n h1 hn2
    · rw [if_neg h1]
      exact fail_on h n (by omega) (by omega)
theorem Dk.Here.arm (h : D.Here) {n : Int} (hn : n ≤ 4294967296) : Dk.Here { D with armed := n } := ⟨⟨⟨h.good.ok.room, h.good.ok.used, h.good.ok.fits, hn⟩, h.good.clean⟩, ⟨h.names.nodup, h.names.mem⟩, h.lost⟩
/-- A crash of a disk that keeps some chunks, and what Open makes of it. -/
theorem crash_keeps {k : Nat} (hH : D.Here) (ha : D.armed = 0) (hK : D.Keeps X) (hn : ∀ i, k < i → i < 100 → lookF (segName i) D.files = Fil.none_) (ch : List Int) :
    (D.crash ch).Still ∧ (D.crash ch).Names segNames ∧ (D.crash ch).Safe ∧ (∀ i ∈ (D.crash ch).segs, i < k + 1) ∧ (D.crash ch).replay 100 = X := by
  obtain ⟨a1, a2, a3, a4⟩ := Dk.crash_safe hH.good hH.names hH.lost ha ch
  refine ⟨a1, a2, a3, fun i hi => ?_, hK _ fun n => ?_⟩
  · have h1 := segs_lt hi
    refine Decidable.byContradiction fun hge => ?_
    obtain ⟨st, h2, h3, _⟩ := a4 (segName i)
    rw [hn i (by omega) h1.1] at h3
    have h4 := may_safe (f := Fil.none_) rfl h3
    have h5 := h1.2
    unfold Dk.now at h5
    rw [h2, h4] at h5
    cases h5
  · obtain ⟨st, h2, h3, _⟩ := a4 n
    exact ⟨st, h2, h3⟩
/-- A disk, and what a crash of it would keep. -/
structure ChD (w0 w : World) (b m : Nat) (D : Dk) (X : List (Nat × List UInt8)) (k : Nat) : Prop where
  disk : DiskAt w b m D
  tab : Tab w
  here : D.Here
  armed : D.armed = 0
  keeps : D.Keeps X
  above : ∀ i, k < i → i < 100 → lookF (segName i) D.files = Fil.none_
  lo : w0.heap.size ≤ b ∧ w0.heap.size ≤ m
  keep : Keep [] w0 w
theorem ChD.crash {k : Nat} (h : ChD w0 w b m D X k) (v : Value) (ch : List Int) (hb : ∀ x ∈ ch, -9223372036854775808 ≤ x ∧ x ≤ 9223372036854775807) (hv : ∀ W, Keep [] w0 W → IntsAt W v ch) :
    Calls Tryz.prog 29 #[.pointer (some ⟨b, 0, none⟩), v] w fun e w' => ∃ D', e = .returned (.tuple #[]) ∧ DiskAt w' b m D' ∧ Keep [b, m] w w' ∧ Keep [] w0 w' ∧ Tab w' ∧ D'.Still ∧ D'.Names segNames ∧ D'.Safe ∧ (∀ i ∈ D'.segs, i < k + 1) ∧ D'.replay 100 = X := by
  have hsub : ∀ x ∈ [b, m], x ∈ ([] : List Nat) ∨ w0.heap.size ≤ x := fun x hx => by
    have := h.lo
    simp only [List.mem_cons, List.not_mem_nil, or_false] at hx
    rcases hx with rfl | rfl
    · exact .inr this.1
    · exact .inr this.2
  refine (crash_calls h.disk h.here.good (by have := h.here.names.files_len; omega) h.here.names.keys v ch hb (fun V hV => hv V (h.keep.trans' hV hsub))).mono ?_
  rintro e w' ⟨rfl, h1, h2⟩
  obtain ⟨a1, a2, a3, a4, a5⟩ := crash_keeps h.here h.armed h.keeps h.above ch
  exact ⟨_, rfl, h1, h2, h.keep.trans' h2 hsub, h.tab.disk h.disk h2, a1, a2, a3, a4, a5⟩

set_option maxRecDepth 100000 in
set_option maxHeartbeats 4000000 in
theorem chunkCompact_calls (w : World) (hT : Tab w) (v : Value) (l : List (Nat × List UInt8)) (hv : ChsAt w v l) (hl : ∀ q ∈ l, q.1 < 18446744073709551616) (lim : Int) (_hlm : -9223372036854775808 ≤ lim) (hlim : lim ≤ 9223372036854775807) (fl : Int) (_hfm : -9223372036854775808 ≤ fl) (hfl : fl ≤ 9223372036854775807) (vc : Value) (ch : List Int) (hc : IntsAt w vc ch) (hb : ∀ x ∈ ch, -9223372036854775808 ≤ x ∧ x ≤ 9223372036854775807) :
    Calls Tryz.prog 7 #[v, .int .i64 lim, .int .i64 fl, vc] w fun e w' => e = .returned (.bool true) ∧ Keep [] w w' := by
  have HTF := Lib.hid (filled_calls w hT v l hv hl lim (by omega))
  have HIC : Hid (∀ W, Keep [] w W → IntsAt W vc ch) := fun W hW => hc.keep hW
  have HCB := Lib.hid hb
  clear hv hT hl hc hb
  go_enter Tryz.func7, Tryz.ntmps7
  go_upto_region 5 with (first
    | (go_at_call 20; refine HTF.out.mono ?_; rintro e w1 ⟨s, b, m, g, C, D, X, vx, rfl, hF⟩; have HF := Lib.hid hF; have H1 := Lib.hid hF.chS; have hseg := hF.seg; have hused := hF.used; have hroom := hF.room; have HD := Lib.hid hF.data; clear hF)
    | (go_at_call 12; refine (awake6_calls _ H1.out.at_.tab).mono ?_; rintro e w2 ⟨rfl, hk2⟩; have H2 := Lib.hid (H1.out.grow hk2); have HO2 := Lib.hid (HF.out.own.keep2 hk2 (by simp)); clear hk2)
    | (go_at_call 28; refine (fail_any H2.out.at_.disk fl hfl).mono ?_; rintro e w3 ⟨rfl, hd3, hk3⟩; have HD3 := Lib.hid hd3; have HK3 := Lib.hid hk3; clear hd3 hk3))
  have hxl := HF.out.len
  have HS3 := Lib.hid (H2.out.at_.setDisk (HK3.out.mono (by simp)) HD3.out)
  have HU3 := Lib.hid (H2.out.sure.arm (armV_le fl).2)
  have HK3' : Hid (Keep [] w w3) := H2.out.keep.trans' HK3.out (by have := H2.out.lo; simp; omega)
  have HO3 := Lib.hid (HO2.out.disk H2.out.at_.disk (HK3.out.mono (by simp)))
  have hle := exact_le HF.out.fit HD.out (by omega)
  have TC := compact_calls HS3.out HU3.out HF.out.fit (by omega) (by omega)
  have hcmp := HU3.out.compact HF.out.fit (by omega) (by omega)
  have hab : ∀ i, C.seg + 1 < i → i < 100 → lookF (segName i) (C.compact { D with armed := armV fl }).2.1.files = Fil.none_ := fun i a b => HU3.out.compact_ne a b
  have hlo := H2.out.lo
  have hns := HS3.out.ne_
  generalize C.compact { D with armed := armV fl } = R at *
  obtain ⟨C', D', e'⟩ := R
  simp only at TC hcmp hab
  have HTC := Lib.hid TC
  have HAB := Lib.hid hab
  obtain ⟨q1, q2, q3, q4, q5⟩ := hcmp
  have HQ1 := Lib.hid q1
  have HQ3 := Lib.hid q3
  clear TC hab q1 q3
  go_upto_region 7 with (first
    | (go_at_call 26; refine HTC.out.mono ?_; rintro e w4 ⟨g4, rfl, hs4, hg4, hk4⟩; have HS4 := Lib.hid hs4; have HK4 := Lib.hid hk4; have HO4 := Lib.hid (HO3.out.sbm HS3.out hk4); clear hs4 hk4)
    | (go_at_call 28; refine (fail_any HS4.out.disk (-1) (by decide)).mono ?_; rintro e w5 ⟨rfl, hd5, hk5⟩; have HD5 : Hid (DiskAt w5 b m { D' with armed := 0 }) := hd5; have HK5 := Lib.hid hk5; clear hd5 hk5))
  have hK5 : Keep [] w w5 := (HK3'.out.trans' HK4.out (by simp; omega)).trans' HK5.out (by simp; omega)
  have HCD5 : Hid (ChD w w5 b m { D' with armed := 0 } X (C.seg + 1)) := ⟨HD5.out, HS4.out.tab.disk HS4.out.disk (HK5.out.mono (by simp)), HQ1.out.arm (by decide), rfl, HQ3.out, HAB.out, ⟨hlo.2.1, hlo.2.2.1⟩, hK5⟩
  have HO5 := Lib.hid (HO4.out.disk HS4.out.disk (HK5.out.mono (by simp)))
  have HK5w := Lib.hid hK5
  clear hK5
  rcases q5 with rfl | ⟨-, -, -, hr7⟩ | ⟨rfl, hsu, -, -, -, hsg, -⟩
  · go_wp2_with (first
      | (go_at_call 29; refine (HCD5.out.crash vc ch HCB.out HIC.out).mono ?_; rintro e w8 ⟨D8, rfl, hd8, hk8, hw8, ht8, hs8, hn8, hf8, hg8, hr8⟩; have HD8 := Lib.hid hd8; have HW8 := Lib.hid hw8; have HT8 := Lib.hid ht8; have HS8 := Lib.hid hs8; have HN8 := Lib.hid hn8; have HF8 := Lib.hid hf8; have HG8 := Lib.hid hg8; have HR8 := Lib.hid hr8; have HO8 := Lib.hid (HO5.out.disk HCD5.out.disk hk8); clear hd8 hk8 hw8 ht8 hs8 hn8 hf8 hg8 hr8)
      | (go_at_call 14; refine (open_in HW8.out HD8.out hlo.2.1 hlo.2.2.1 HT8.out HS8.out HN8.out HF8.out (k := C.seg + 2) (by omega) (by omega) HG8.out lim (by omega)).mono ?_; rintro e w9 ⟨t, gt, rfl, h9, hk9, -, -, -⟩; rw [HR8.out] at h9; have HI9 := Lib.hid h9; have HO9 := Lib.hid (HO8.out.disk HD8.out hk9); clear h9 hk9)
      | (go_at_call 18; refine (HI9.out.is_ HO9.out (by omega)).mono ?_; rintro e wz ⟨rfl, hz, -⟩; have HI8 := Lib.hid hz; clear hz))
    go_ret
    exact ⟨rfl, HI8.out.keep⟩
  · exfalso
    omega
  · have hq : Dk.Quiet { D' with armed := 0 } := ⟨HQ1.out.lost, rfl⟩
    have HCS5 : Hid (ChS w w5 s b m g4 C' { D' with armed := 0 } X) := ⟨HS4.out.setDisk (HK5.out.mono (by simp)) HD5.out, hsu.arm (by decide), hq, ⟨hlo.1, hlo.2.1, hlo.2.2.1, by have := HK3'.out.size; rcases hg4 with rfl | hg4 <;> omega⟩, HK5w.out⟩
    have hsg5 : Dk.segs { D' with armed := 0 } = [C.seg + 1] := hsg
    clear hsu hsg hq
    go_upto_region 13 with (first
      | (go_at_call 27; refine (HCS5.out.names hsg5).mono ?_; rintro e w6 ⟨A6, c6, rfl, h6, hk6⟩; have H6 := Lib.hid h6; have HO6 := Lib.hid (HO5.out.disk HCS5.out.at_.disk hk6); clear h6 hk6)
      | (go_at_call 18; refine (H6.out.is_ HO6.out (by omega)).mono ?_; rintro e w7 ⟨rfl, h7, hk7⟩; have H7 := Lib.hid h7; have HO7 := Lib.hid (HO6.out.disk H6.out.at_.disk hk7); clear h7 hk7))
    have HCD7 : Hid (ChD w w7 b m { D' with armed := 0 } X (C.seg + 1)) := ⟨H7.out.at_.disk, H7.out.at_.tab, HQ1.out.arm (by decide), rfl, HQ3.out, HAB.out, ⟨hlo.2.1, hlo.2.2.1⟩, H7.out.keep⟩
    go_wp2_with (first
      | (go_at_call 29; refine (HCD7.out.crash vc ch HCB.out HIC.out).mono ?_; rintro e w8 ⟨D8, rfl, hd8, hk8, hw8, ht8, hs8, hn8, hf8, hg8, hr8⟩; have HD8 := Lib.hid hd8; have HW8 := Lib.hid hw8; have HT8 := Lib.hid ht8; have HS8 := Lib.hid hs8; have HN8 := Lib.hid hn8; have HF8 := Lib.hid hf8; have HG8 := Lib.hid hg8; have HR8 := Lib.hid hr8; have HO8 := Lib.hid (HO7.out.disk HCD7.out.disk hk8); clear hd8 hk8 hw8 ht8 hs8 hn8 hf8 hg8 hr8)
      | (go_at_call 14; refine (open_in HW8.out HD8.out hlo.2.1 hlo.2.2.1 HT8.out HS8.out HN8.out HF8.out (k := C.seg + 2) (by omega) (by omega) HG8.out lim (by omega)).mono ?_; rintro e w9 ⟨t, gt, rfl, h9, hk9, -, -, -⟩; rw [HR8.out] at h9; have HI9 := Lib.hid h9; have HO9 := Lib.hid (HO8.out.disk HD8.out hk9); clear h9 hk9)
      | (go_at_call 18; refine (HI9.out.is_ HO9.out (by omega)).mono ?_; rintro e wz ⟨rfl, hz, -⟩; have HI8 := Lib.hid hz; clear hz))
    go_ret
    exact ⟨rfl, HI8.out.keep⟩

end Go.Proofs.YtkplffkchanipaaGreatDoor
