/- The contract of glacierlaw06.filled. -/
import Derived.Test.YtkplffkchanipaaGreatDoorLaw6
import Derived.Test.YtkplffkchanipaaGreatDoorChIn
import Derived.Test.YtkplffkchanipaaGreatDoorNewCut
import Derived.Test.YtkplffkchanipaaGreatDoorCrashes
namespace Go.Proofs.YtkplffkchanipaaGreatDoor
open Go.RowKit
attribute [local go_sem] size_bs bs_append ba_self
variable {w w' w0 : World} {s b m g : Nat} {C C' : Ck} {D D' : Dk} {X : List (Nat × List UInt8)}

/-- The chunks that a list names: the first eight, of forty bytes. -/
def Named (l : List (Nat × List UInt8)) (i : Nat) (d : List UInt8) : Prop := ∃ k, ∃ h : k < l.length, k < 8 ∧ l[k].1 = i ∧ l[k].2.take 40 = d
structure FillSt (l : List (Nat × List UInt8)) (w wr : World) (s b m g : Nat) (lim : Int) (v : Value) (C : Ck) (D : Dk) (X : List (Nat × List UInt8)) (j u : Nat) : Prop where
  at_ : ChIn w wr s b m g C D X
  own : OwnX wr w.heap.size v X
  seg : C.seg ≤ 1 + j
  lim : C.limit = lim
  room : D.room = 100000
  used : D.used ≤ u
  recd : D.Recd (Named l)
  all : AllP (Named l) X
  fit : FitX X
  len : X.length ≤ 8
def Fill1 (l : List (Nat × List UInt8)) (w : World) (s b m g : Nat) (lim : Int) (v x : Value) (wr : World) : Prop :=
  ∃ (k : Nat) (C : Ck) (D : Dk) (X : List (Nat × List UInt8)), k ≤ l.length ∧ k ≤ 8 ∧ x = .int .i64 (k : Int) ∧ FillSt l w wr s b m g lim v C D X k (k * 90) ∧ X.length ≤ k
def Fill2 (l : List (Nat × List UInt8)) (w : World) (s b m g : Nat) (lim : Int) (v x : Value) (wr : World) : Prop :=
  ∃ (k : Nat) (C : Ck) (D : Dk) (X : List (Nat × List UInt8)), k ≤ l.length ∧ k ≤ 8 ∧ x = .int .i64 (k : Int) ∧ FillSt l w wr s b m g lim v C D X (8 + k) (720 + k * 50)
/-- What filled leaves. -/
structure Filled (l : List (Nat × List UInt8)) (w wr : World) (s b m g : Nat) (lim : Int) (v : Value) (C : Ck) (D : Dk) (X : List (Nat × List UInt8)) : Prop where
  at_ : ChIn w wr s b m g C D X
  own : OwnX wr w.heap.size v X
  clean : C.dirty = false
  safe : D.Safe
  seg : C.seg ≤ 17
  lim : C.limit = if lim < 1 then 1 else lim
  room : D.room = 100000
  used : D.used ≤ 1200
  recd : D.Recd (Named l)
  all : AllP (Named l) X
  fit : FitX X
  len : X.length ≤ 8

set_option maxRecDepth 100000 in
set_option maxHeartbeats 4000000 in
theorem filled_calls (w : World) (hT : Tab w) (v : Value) (l : List (Nat × List UInt8)) (hv : ChsAt w v l) (hl : ∀ q ∈ l, q.1 < 18446744073709551616) (lim : Int) (hlim : lim < 9223372036854775808) :
    Calls Tryz.prog 20 #[v, .int .i64 lim, .int .i64 100000] w fun e w' => ∃ s b m g C D X v', e = .returned (.tuple #[.pointer (some ⟨b, 0, none⟩), .pointer (some ⟨s, 0, none⟩), v']) ∧ Filled l w w' s b m g lim v' C D X := by
  have HL : Hid (∀ W, Keep [] w W → ChsAt W v l) := fun W hW => hv.keep hW
  have HB := Lib.hid hl
  obtain ⟨A, c, rfl, -⟩ := hv
  have HT := Lib.hid hT
  clear hT hl
  have TO : ∀ (W : World) (b m : Nat), Keep [] w W → w.heap.size ≤ b → w.heap.size ≤ m → DiskAt W b m ⟨100000, 0, false, 0, []⟩ → Calls Tryz.prog 14 #[.pointer (some ⟨b, 0, none⟩), .int .i64 lim] W fun e w' => ∃ s g, e = .returned (.tuple #[.pointer (some ⟨s, 0, none⟩), .int .i64 0]) ∧ ChIn w w' s b m g (Dk.opens ⟨100000, 0, false, 0, []⟩ lim) ⟨100000, 0, false, 0, []⟩ [] ∧ (Dk.opens ⟨100000, 0, false, 0, []⟩ lim).seg ≤ 1 := fun W b m hk hb hm hd => by
    refine (open_in hk hd hb hm (HT.out.keep hk (by simp)) (start_still (by decide) (by decide)) (start_names _) (fun _ => rfl) (Nat.le_refl 1) (by decide) (by rw [start_segs]; simp) lim hlim).mono ?_
    rintro e w' ⟨s, g, rfl, h1, -, h3, -, -⟩
    rw [start_replay] at h1
    exact ⟨s, g, rfl, h1, h3⟩
  have HTO := Lib.hid TO
  clear TO
  obtain ⟨lm, hlm⟩ : ∃ lm, lm = (if lim < 1 then 1 else lim) := ⟨_, rfl⟩
  have HLM := Lib.hid hlm
  clear hlm
  go_enter Tryz.func20, Tryz.ntmps20
  go_wp2_with (first
    | (go_at_call 13; refine (new_calls 100000 (by decide) w).mono ?_; rintro e w1 ⟨b, m, rfl, hb, hm, hD1, hk1⟩; have HD1 : Hid (DiskAt w1 b m ⟨100000, 0, false, 0, []⟩) := hD1; have HK1 := Lib.hid hk1; clear hD1 hk1)
    | (go_at_call 14; refine (HTO.out _ _ _ HK1.out hb hm HD1.out).mono ?_; rintro e w2 ⟨s, g, rfl, h2, h2s⟩; have H2 := Lib.hid h2; clear h2))
  go_loopw [12, 13] (fun v x wr => Fill1 l w s b m g lm v x wr) (fun _ x _ => 8 - (intOf x).toNat)
  case atStart =>
    refine ⟨0, _, _, [], Nat.zero_le _, Nat.zero_le _, rfl, ⟨H2.out.grow ((Keep.refl [] w2).alloc _), ?_, by omega, HLM.out.symm, rfl, by simp, Dk.Recd.start _ _, fun i d h => by simp [lookX] at h, by simp [FitX], by simp⟩, Nat.le_refl _⟩
    exact OwnX.start _ _ H2.out.keep.size
  case round =>
    obtain ⟨k, C, D, X, hk1, hk2, rfl, hF, hXk⟩ := hrel
    have HF := Lib.hid hF
    by_cases hlt : k < l.length ∧ k < 8
    · obtain ⟨hlt, hlt8⟩ := hlt
      have d1 : decide ((k : Int) < (l.length : Int)) = true := by simp; omega
      have d1n : decide (k < l.length) = true := by simpa using hlt
      have d2 : decide ((k : Int) < 8) = true := by simp; omega
      have d2n : decide (k < 8) = true := by simpa using hlt8
      obtain ⟨A', c', hv', hcc⟩ := HL.out w (Keep.refl _ _)
      injection hv' with hA hz1' hz2'
      clear hz1' hz2'
      subst hA
      obtain ⟨gx, o, rfl, hcc2⟩ := hcc (by intro h0; rw [h0] at hlt; simp at hlt)
      obtain ⟨cx0, cx1⟩ := hcc2 k hlt
      have hNM : Named l l[k].1 (l[k].2.take 40) := ⟨k, hlt, hlt8, rfl, rfl⟩
      have hi := HB.out _ (List.getElem_mem hlt)
      have HC9 : Hid (∀ W, Keep [] w W → W.cell? ⟨gx, o + k * 2, none⟩ = some (.int .u64 (l[k].1 : Int)) ∧ W.cell? ⟨gx, o + k * 2 + 1, none⟩ = some (.string (bs l[k].2))) := fun W hW => ⟨(hW.cell (World.block_lt_of_cell? _ _ cx0) (by simp)).trans cx0, (hW.cell (World.block_lt_of_cell? _ _ cx1) (by simp)).trans cx1⟩
      have HNM := Lib.hid hNM
      have HKR : Hid (Keep [] w wr) := hF.at_.keep
      clear hcc hcc2 cx0 cx1 hNM hF
      generalize l[k] = pr at *
      obtain ⟨i, d0⟩ := pr
      simp only at HC9 HNM hi
      have d40 : (d0.take 40).length ≤ 40 := by rw [List.length_take]; omega
      go_upto_region 9 with fail
      go_region_held3 (fun w' => w'.cell? ⟨gx, o + k * 2, none⟩ = some (.int .u64 (i : Int)) ∧ w'.cell? ⟨gx, o + k * 2 + 1, none⟩ = some (.string (bs d0)))
        (first
          | (exact HC9.out _ (HKR.out.trans (by repeat (first | exact Keep.refl _ _ | refine Keep.drew ?_ | refine Keep.drewN ?_ _ | refine Keep.alloc ?_ _ | refine Keep.setCell ?_ (.inr (by simp)) _))))
          | fail)
        (first
          | (go_at_call 15; refine (cut_calls d0 40 _).mono ?_; rintro e w3 ⟨rfl, rfl⟩)
          | fail)
      all_goals
        have HBW : Hid (Blk (wr.alloc (.cells #[.int .u64 (i : Int), .string (bs (d0.take 40))] 32)).drew wr.heap.size 32 #[.int .u64 (i : Int), .string (bs (d0.take 40))]) := (Blk.new wr 32 #[.int .u64 (i : Int), .string (bs (d0.take 40))]).drew
        have HK3 : Hid (Keep [] wr (wr.alloc (.cells #[.int .u64 (i : Int), .string (bs (d0.take 40))] 32)).drew) := ((Keep.refl [] wr).alloc _).drew
        generalize (wr.alloc (.cells #[.int .u64 (i : Int), .string (bs (d0.take 40))] 32)).drew = W3 at *
        have HI3 := Lib.hid (HF.out.at_.grow HK3.out)
        have HO3 := Lib.hid (HF.out.own.keep2 HK3.out (by simp))
        have y0 : W3.cell? ⟨wr.heap.size, 0, none⟩ = some (.int .u64 (i : Int)) := HBW.out.cell 0
        have y1 : W3.cell? ⟨wr.heap.size, 1, none⟩ = some (.string (bs (d0.take 40))) := HBW.out.cell 1
        go_wp2_with fail
        go_at_call 16
        refine (HI3.out.put (by have := HF.out.seg; omega) i hi (d0.take 40) (by omega)).mono ?_
        rintro e w4 ⟨C', D', x, X', rfl, hin4, hk4, hs4, hl4, hr4, hP4, hx4⟩
        have HI4 := Lib.hid hin4
        have HK4 := Lib.hid hk4
        have HP4 := Lib.hid hP4
        have HO4 := Lib.hid (HO3.out.store HI3.out.at_ hk4)
        have HBW4 := Lib.hid (HBW.out.keep hk4 (by have q1 := HF.out.at_.at_.blk.lt; have q2 := HF.out.at_.at_.disk.blk.lt; have q3 := HF.out.at_.at_.disk.map.lt; have q4 := HF.out.at_.at_.map.lt; simp; omega))
        have hseg := HF.out.seg
        have hroom := HF.out.room
        have hused := HF.out.used
        clear hin4 hk4 hP4 y0 y1
        rcases hx4 with ⟨rfl, rfl, hsome, hu⟩ | ⟨rfl, rfl, -, hfull, -⟩ | ⟨rfl, rfl, hnone, hu⟩
        · go_wp2
          go_roundw
          case rel => exact ⟨k + 1, C', D', X', by omega, by omega, by go_num, ⟨HI4.out, HO4.out, by omega, hl4.trans HF.out.lim, by omega, by omega, HP4.out _ HF.out.recd HNM.out, HF.out.all, HF.out.fit, HF.out.len⟩, by omega⟩
          case measure => simp [intOf]; omega
        · exfalso
          omega
        · have z0 : w4.cell? ⟨wr.heap.size, 0, none⟩ = some (.int .u64 (i : Int)) := HBW4.out.cell 0
          have z1 : w4.cell? ⟨wr.heap.size, 1, none⟩ = some (.string (bs (d0.take 40))) := HBW4.out.cell 1
          go_wp2_with (go_at_call 17; refine (putX_calls X _ i (d0.take 40) _ HO4.out.at_ (by omega)).mono ?_; rintro e w5 ⟨gp, cp, rfl, h5, hk5⟩; have HO5 := Lib.hid h5; have HK5 := Lib.hid hk5; clear h5 hk5)
          go_roundw
          case rel =>
            have hpl := putX_len (i, d0.take 40) X
            refine ⟨k + 1, C', D', _, by omega, by omega, by go_num, ⟨HI4.out.grow HK5.out, HO5.out.mono HI4.out.keep.size, by omega, hl4.trans HF.out.lim, by omega, by omega, HP4.out _ HF.out.recd HNM.out, allP_put HF.out.all HNM.out, fit_put HF.out.fit hi (by omega), by omega⟩, by omega⟩
          case measure => simp [intOf]; omega
    · have hcase : k = l.length ∨ k = 8 ∧ k < l.length := by omega
      have HLL : Hid (∀ W, Keep [] w W → ∀ (j : Nat) (h : j < l.length), ∃ gx o, A = some ⟨gx, o, none⟩ ∧ W.cell? ⟨gx, o + j * 2, none⟩ = some (.int .u64 (l[j].1 : Int))) := fun W hW j hj => by
        obtain ⟨A', c', hv', hcc⟩ := HL.out W hW
        injection hv' with hA hz1' hz2'
        obtain ⟨gx, o, hA2, hcc2⟩ := hcc (by intro h0; rw [h0] at hj; simp at hj)
        exact ⟨gx, o, hA.trans hA2, (hcc2 j hj).1⟩
      have hst : FillSt l w wr s b m g lm u12 C D X (8 + 0) (720 + 0 * 50) := ⟨hF.at_, hF.own, by have := hF.seg; omega, hF.lim, hF.room, by have := hF.used; omega, hF.recd, hF.all, hF.fit, hF.len⟩
      have HST := Lib.hid hst
      clear hF HF hst
      rcases hcase with rfl | ⟨hk8, hlt8⟩
      · have d1 : decide ((l.length : Int) < (l.length : Int)) = false := by simp
        go_wp2
        go_loopw [12, 15] (fun v x wr => Fill2 l w s b m g lm v x wr) (fun _ x _ => 8 - (intOf x).toNat)
        case atStart => exact ⟨0, C, D, X, Nat.zero_le _, Nat.zero_le _, rfl, HST.out⟩
        case round =>
          obtain ⟨k, C, D, X, hk1, hk2, rfl, hF⟩ := hrel
          have HF := Lib.hid hF
          by_cases hlt : k < l.length ∧ k < 8
          · obtain ⟨hlt, hl8⟩ := hlt
            have d1 : decide ((k : Int) < (l.length : Int)) = true := by simp; omega
            have d1n : decide (k < l.length) = true := by simpa using hlt
            have d2 : decide ((k : Int) < 8) = true := by simp; omega
            have d2n : decide (k < 8) = true := by simpa using hl8
            obtain ⟨gx, o, rfl, cx0⟩ := HLL.out wr hF.at_.keep k hlt
            have hi := HB.out _ (List.getElem_mem hlt)
            have HCX : Hid (∀ W, Keep [] w W → W.cell? ⟨gx, o + k * 2, none⟩ = some (.int .u64 (l[k].1 : Int))) := fun W hW => by
              obtain ⟨gx', o', hA, hc⟩ := HLL.out W hW k hlt
              simp only [Option.some.injEq, Addr.mk.injEq, and_true] at hA
              obtain ⟨rfl, rfl⟩ := hA
              exact hc
            have hseg := HF.out.seg
            have hroom := HF.out.room
            have hused := HF.out.used
            clear hF
            generalize l[k].1 = i at *
            by_cases hodd : i % 2 = 1
            · have q1 : ((i : Int) % 2 == 1) = true := by rw [beq_iff_eq]; omega
              go_wp2_with fail
              go_at_call 55
              refine (HF.out.at_.drop (by omega) i hi).mono ?_
              rintro e w4 ⟨C', D', x, X', rfl, hin4, hk4, hs4, hl4, hr4, hP4, hx4⟩
              have HI4 := Lib.hid hin4
              have HP4 := Lib.hid hP4
              have HO4 := Lib.hid (HF.out.own.store HF.out.at_.at_ hk4)
              clear hin4 hk4 hP4
              rcases hx4 with ⟨rfl, rfl, -, hu⟩ | ⟨rfl, rfl, -, hfull, -⟩ | ⟨rfl, rfl, -, hu⟩
              · go_wp2
                go_roundw
                case rel => exact ⟨k + 1, C', D', X', by omega, by omega, by go_num, ⟨HI4.out, HO4.out, by omega, hl4.trans HF.out.lim, by omega, by omega, HP4.out _ HF.out.recd, HF.out.all, HF.out.fit, HF.out.len⟩⟩
                case measure => simp [intOf]; omega
              · exfalso
                omega
              · have cx4 := HCX.out w4 HI4.out.keep
                go_wp2_with (go_at_call 37; refine (dropX_calls X _ i _ HO4.out.at_ (by have := HF.out.len; omega)).mono ?_; rintro e w5 ⟨gp, cp, rfl, h5, hk5⟩; have HO5 := Lib.hid h5; have HK5 := Lib.hid hk5; clear h5 hk5)
                go_roundw
                case rel =>
                  have hdl := drop_len i X
                  have hXl := HF.out.len
                  exact ⟨k + 1, C', D', _, by omega, by omega, by go_num, ⟨HI4.out.grow HK5.out, HO5.out.mono HI4.out.keep.size, by omega, hl4.trans HF.out.lim, by omega, by omega, HP4.out _ HF.out.recd, allP_drop HF.out.all i, fit_drop HF.out.fit i, by omega⟩⟩
                case measure => simp [intOf]; omega
            · have q1 : ((i : Int) % 2 == 1) = false := by rw [beq_eq_false_iff_ne]; omega
              go_wp2
              go_roundw
              case rel => exact ⟨k + 1, C, D, X, by omega, by omega, by go_num, ⟨HF.out.at_, HF.out.own, by omega, HF.out.lim, HF.out.room, by omega, HF.out.recd, HF.out.all, HF.out.fit, HF.out.len⟩⟩
              case measure => simp [intOf]; omega
          · have hcase2 : k = l.length ∨ k = 8 ∧ k < l.length := by omega
            have hseg := hF.seg
            have hused := hF.used
            clear hF
            rcases hcase2 with rfl | ⟨rfl, hlt9⟩
            · have d1 : decide ((l.length : Int) < (l.length : Int)) = false := by simp
              go_wp2_with (go_at_call 21; refine (HF.out.at_.sync (by omega)).mono ?_; rintro e w4 ⟨D', rfl, hin4, hk4, hr4, hu4, hsf4, hP4⟩; have HI4 := Lib.hid hin4; have HO4 := Lib.hid (HF.out.own.store HF.out.at_.at_ hk4); have HP4 := Lib.hid hP4; have HSF := Lib.hid hsf4; clear hin4 hk4 hP4 hsf4)
              go_ret3
              exact ⟨s, b, m, g, _, D', X, _, rfl, ⟨HI4.out, HO4.out, rfl, HSF.out, by simp only; omega, HF.out.lim.trans HLM.out, hr4.trans HF.out.room, by omega, HP4.out _ HF.out.recd, HF.out.all, HF.out.fit, HF.out.len⟩⟩
            · have d1 : decide ((8 : Int) < (l.length : Int)) = true := by simp; omega
              have d1n : decide (8 < l.length) = true := by simpa using hlt9
              go_wp2_with (go_at_call 21; refine (HF.out.at_.sync (by omega)).mono ?_; rintro e w4 ⟨D', rfl, hin4, hk4, hr4, hu4, hsf4, hP4⟩; have HI4 := Lib.hid hin4; have HO4 := Lib.hid (HF.out.own.store HF.out.at_.at_ hk4); have HP4 := Lib.hid hP4; have HSF := Lib.hid hsf4; clear hin4 hk4 hP4 hsf4)
              go_ret3
              exact ⟨s, b, m, g, _, D', X, _, rfl, ⟨HI4.out, HO4.out, rfl, HSF.out, by simp only; omega, HF.out.lim.trans HLM.out, hr4.trans HF.out.room, by omega, HP4.out _ HF.out.recd, HF.out.all, HF.out.fit, HF.out.len⟩⟩
      · have d1 : decide ((k : Int) < (l.length : Int)) = true := by simp; omega
        have d1n : decide (k < l.length) = true := by simpa using hlt8
        have d2 : decide ((k : Int) < 8) = false := by simp; omega
        have d2n : decide (k < 8) = false := by simp; omega
        go_wp2
        clear d1 d1n d2 d2n hlt8 hlt hXk hk1 hk2 hk8
        go_loopw [12, 15] (fun v x wr => Fill2 l w s b m g lm v x wr) (fun _ x _ => 8 - (intOf x).toNat)
        case atStart => exact ⟨0, C, D, X, Nat.zero_le _, Nat.zero_le _, rfl, HST.out⟩
        case round =>
          obtain ⟨k, C, D, X, hk1, hk2, rfl, hF⟩ := hrel
          have HF := Lib.hid hF
          by_cases hlt : k < l.length ∧ k < 8
          · obtain ⟨hlt, hl8⟩ := hlt
            have d1 : decide ((k : Int) < (l.length : Int)) = true := by simp; omega
            have d1n : decide (k < l.length) = true := by simpa using hlt
            have d2 : decide ((k : Int) < 8) = true := by simp; omega
            have d2n : decide (k < 8) = true := by simpa using hl8
            obtain ⟨gx, o, rfl, cx0⟩ := HLL.out wr hF.at_.keep k hlt
            have hi := HB.out _ (List.getElem_mem hlt)
            have HCX : Hid (∀ W, Keep [] w W → W.cell? ⟨gx, o + k * 2, none⟩ = some (.int .u64 (l[k].1 : Int))) := fun W hW => by
              obtain ⟨gx', o', hA, hc⟩ := HLL.out W hW k hlt
              simp only [Option.some.injEq, Addr.mk.injEq, and_true] at hA
              obtain ⟨rfl, rfl⟩ := hA
              exact hc
            have hseg := HF.out.seg
            have hroom := HF.out.room
            have hused := HF.out.used
            clear hF
            generalize l[k].1 = i at *
            by_cases hodd : i % 2 = 1
            · have q1 : ((i : Int) % 2 == 1) = true := by rw [beq_iff_eq]; omega
              go_wp2_with fail
              go_at_call 55
              refine (HF.out.at_.drop (by omega) i hi).mono ?_
              rintro e w4 ⟨C', D', x, X', rfl, hin4, hk4, hs4, hl4, hr4, hP4, hx4⟩
              have HI4 := Lib.hid hin4
              have HP4 := Lib.hid hP4
              have HO4 := Lib.hid (HF.out.own.store HF.out.at_.at_ hk4)
              clear hin4 hk4 hP4
              rcases hx4 with ⟨rfl, rfl, -, hu⟩ | ⟨rfl, rfl, -, hfull, -⟩ | ⟨rfl, rfl, -, hu⟩
              · go_wp2
                go_roundw
                case rel => exact ⟨k + 1, C', D', X', by omega, by omega, by go_num, ⟨HI4.out, HO4.out, by omega, hl4.trans HF.out.lim, by omega, by omega, HP4.out _ HF.out.recd, HF.out.all, HF.out.fit, HF.out.len⟩⟩
                case measure => simp [intOf]; omega
              · exfalso
                omega
              · have cx4 := HCX.out w4 HI4.out.keep
                go_wp2_with (go_at_call 37; refine (dropX_calls X _ i _ HO4.out.at_ (by have := HF.out.len; omega)).mono ?_; rintro e w5 ⟨gp, cp, rfl, h5, hk5⟩; have HO5 := Lib.hid h5; have HK5 := Lib.hid hk5; clear h5 hk5)
                go_roundw
                case rel =>
                  have hdl := drop_len i X
                  have hXl := HF.out.len
                  exact ⟨k + 1, C', D', _, by omega, by omega, by go_num, ⟨HI4.out.grow HK5.out, HO5.out.mono HI4.out.keep.size, by omega, hl4.trans HF.out.lim, by omega, by omega, HP4.out _ HF.out.recd, allP_drop HF.out.all i, fit_drop HF.out.fit i, by omega⟩⟩
                case measure => simp [intOf]; omega
            · have q1 : ((i : Int) % 2 == 1) = false := by rw [beq_eq_false_iff_ne]; omega
              go_wp2
              go_roundw
              case rel => exact ⟨k + 1, C, D, X, by omega, by omega, by go_num, ⟨HF.out.at_, HF.out.own, by omega, HF.out.lim, HF.out.room, by omega, HF.out.recd, HF.out.all, HF.out.fit, HF.out.len⟩⟩
              case measure => simp [intOf]; omega
          · have hcase2 : k = l.length ∨ k = 8 ∧ k < l.length := by omega
            have hseg := hF.seg
            have hused := hF.used
            clear hF
            rcases hcase2 with rfl | ⟨rfl, hlt9⟩
            · have d1 : decide ((l.length : Int) < (l.length : Int)) = false := by simp
              go_wp2_with (go_at_call 21; refine (HF.out.at_.sync (by omega)).mono ?_; rintro e w4 ⟨D', rfl, hin4, hk4, hr4, hu4, hsf4, hP4⟩; have HI4 := Lib.hid hin4; have HO4 := Lib.hid (HF.out.own.store HF.out.at_.at_ hk4); have HP4 := Lib.hid hP4; have HSF := Lib.hid hsf4; clear hin4 hk4 hP4 hsf4)
              go_ret3
              exact ⟨s, b, m, g, _, D', X, _, rfl, ⟨HI4.out, HO4.out, rfl, HSF.out, by simp only; omega, HF.out.lim.trans HLM.out, hr4.trans HF.out.room, by omega, HP4.out _ HF.out.recd, HF.out.all, HF.out.fit, HF.out.len⟩⟩
            · have d1 : decide ((8 : Int) < (l.length : Int)) = true := by simp; omega
              have d1n : decide (8 < l.length) = true := by simpa using hlt9
              go_wp2_with (go_at_call 21; refine (HF.out.at_.sync (by omega)).mono ?_; rintro e w4 ⟨D', rfl, hin4, hk4, hr4, hu4, hsf4, hP4⟩; have HI4 := Lib.hid hin4; have HO4 := Lib.hid (HF.out.own.store HF.out.at_.at_ hk4); have HP4 := Lib.hid hP4; have HSF := Lib.hid hsf4; clear hin4 hk4 hP4 hsf4)
              go_ret3
              exact ⟨s, b, m, g, _, D', X, _, rfl, ⟨HI4.out, HO4.out, rfl, HSF.out, by simp only; omega, HF.out.lim.trans HLM.out, hr4.trans HF.out.room, by omega, HP4.out _ HF.out.recd, HF.out.all, HF.out.fit, HF.out.len⟩⟩

end Go.Proofs.YtkplffkchanipaaGreatDoor
/- The contract of glacierlaw06.awake; what a crash leaves of a store's disk. -/
namespace Go.Proofs.YtkplffkchanipaaGreatDoor
open Go.RowKit
attribute [local go_sem] size_bs bs_append ba_self
variable {w w' w0 : World} {s b m g : Nat} {C C' : Ck} {D D' : Dk} {X : List (Nat × List UInt8)}

theorem Dk.Names.keys {D : Dk} (h : D.Names segNames) : ∀ p ∈ D.files, p.1.length ≤ 1000000000 := fun p hp => by
  obtain ⟨i, _, _, h3⟩ := mem_segNames.1 (h.mem p.1 (List.mem_map.2 ⟨p, hp, rfl⟩))
  rw [h3]
  exact Nat.le_of_ble_eq_true rfl
/-- A crash of a disk in order. -/
theorem Dk.crash_safe {D : Dk} (hg : D.Good) (hN : D.Names segNames) (hl : D.lost = false) (ha : D.armed = 0) (ch : List Int) :
    (D.crash ch).Still ∧ (D.crash ch).Names segNames ∧ (D.crash ch).Safe ∧ ∀ n, ∃ s, lookF n (D.crash ch).files = ⟨s, s⟩ ∧ (lookF n D.files).May s ∧ (ch = [] → s = (lookF n D.files).sure) := by
  obtain ⟨a1, a2, a3, a4, _, _, a7⟩ := Dk.crash_look hg hN ch
  refine ⟨⟨a1, a3.trans hl, a4.trans ha⟩, a2, fun n => ?_, a7⟩
  obtain ⟨s, h1, _⟩ := a7 n
  rw [h1]
theorem Dk.append_sure {D : Dk} (h : D.Still) (n name : List UInt8) (hn : name ≠ []) (x : List UInt8) : (lookF n (D.append name x).1.files).sure = (lookF n D.files).sure := by
  rcases h.append name hn x with ⟨_, h2⟩ | ⟨D', h1, _, _, _, h5, h6⟩
  · rw [h2]
  · rw [h1]
    by_cases e : n = name
    · subst e; simp only; rw [h5]
    · simp only; rw [h6 n e]
theorem Ck.putK_sure {C : Ck} {D : Dk} (h : D.Still) (hd : C.dirty = false) (i : Nat) (d n : List UInt8) : (lookF n (C.putK D i d).2.1.files).sure = (lookF n D.files).sure := by
  have hcs : C.sync D = (C, D, 0) := by
    unfold Ck.sync
    rw [hd]
    simp
  have hput : ∀ C1 : Ck, (lookF n (C1.put D (frame (encRec 1 i d))).2.1.files).sure = (lookF n D.files).sure := fun C1 => by
    have := D.append_sure h n (segName C1.seg) (segName_ne _) (frame (encRec 1 i d))
    unfold Ck.put
    split <;> exact this
  have hadd : (lookF n (C.add D (frame (encRec 1 i d))).2.1.files).sure = (lookF n D.files).sure := by
    unfold Ck.add
    rw [hcs]
    split
    · simp only [if_true]
      exact hput _
    · exact hput _
  unfold Ck.putK
  split
  · rfl
  · split
    · rfl
    · split <;> exact hadd
theorem ChIn.put2 (h : ChIn w0 w s b m g C D X) (hd0 : C.dirty = false) (hs : C.seg + 1 < 100) (i : Nat) (hi : i < 18446744073709551616) (d : List UInt8) (hd : d.length ≤ 4000) (hn : lookX i X = none) (hr : D.used + (d.length + 50) ≤ D.room) :
    Calls Tryz.prog 16 #[.pointer (some ⟨s, 0, none⟩), .int .u64 (i : Int), .string (bs d)] w fun e w' => ∃ C' D', e = .returned (.int .i64 0) ∧ ChIn w0 w' s b m g C' D' (putX (i, d) X) ∧ C'.seg ≤ C.seg + 1 ∧ D'.room = D.room ∧ D'.used ≤ D.used + (d.length + 50) ∧ ∀ n, (lookF n D'.files).sure = (lookF n D.files).sure := by
  have hI := h.inv
  refine (sput_calls h.at_ hI.dk.ok hI.dk.still.good hI.dk.seg hs (by have := hI.dk.size_le; omega) i hi d hd).mono ?_
  rintro e w' ⟨rfl, h2, h3⟩
  obtain ⟨C', D', x, a1, a2, a3, a4, a5, a6⟩ := hI.putK hs hi hd
  have hP := fun n => Ck.putK_sure hI.dk.still hd0 i d n
  rw [a1] at h2 hP ⊢
  simp only at h2 hP ⊢
  rcases a6 with ⟨rfl, b1, rfl, rfl⟩ | ⟨rfl, b1, b2, b3, b4⟩ | ⟨rfl, b1, b2, b3⟩
  · rw [hn] at b1; cases b1
  · omega
  · exact ⟨C', D', rfl, ⟨h2, b2, h.lo, h.keep.trans' h3 h.sub⟩, a3, a5, b3, hP⟩
/-- A store that was durable, one Put that is not, a crash. -/
theorem crash_back {D2 D3 : Dk} {C2 : Ck} (hI : Inv C2 D2 X) (hS : D2.Safe) (hs : C2.seg < 60) (hg : D3.Good) (hN : D3.Names segNames) (hl : D3.lost = false) (ha : D3.armed = 0) (hsu : ∀ n, (lookF n D3.files).sure = (lookF n D2.files).sure) :
    (D3.crash []).Still ∧ (D3.crash []).Names segNames ∧ (D3.crash []).Safe ∧ (∀ i ∈ (D3.crash []).segs, i < 61) ∧ (D3.crash []).replay 100 = X := by
  obtain ⟨a1, a2, a3, a4⟩ := Dk.crash_safe hg hN hl ha []
  have hnow : ∀ i, (D3.crash []).now i = D2.now i := fun i => by
    obtain ⟨st, h1, _, h3⟩ := a4 (segName i)
    unfold Dk.now
    rw [h1, h3 rfl, hsu, hS]
  refine ⟨a1, a2, a3, fun i hi => ?_, ?_⟩
  · have h1 := segs_lt hi
    rw [hnow] at h1
    refine Decidable.byContradiction fun hge => ?_
    have := hI.dk.above i (by omega) h1.1
    rw [this] at h1
    exact absurd h1.2 (by simp)
  · rw [Dk.replay_congr (D := D2) 100 fun i _ => hnow i]
    have h2 := Dk.replay_above (D := D2) (k := C2.seg + 1) (fun j p q => hI.dk.above j (by omega) q) (100 - (C2.seg + 1)) (by omega)
    rw [show C2.seg + 1 + (100 - (C2.seg + 1)) = 100 by omega] at h2
    rw [h2, hI.rep]

set_option maxRecDepth 100000 in
set_option maxHeartbeats 2000000 in
theorem awake6_calls (w : World) (hT : Tab w) : Calls Tryz.prog 12 #[] w fun e w' => e = .returned (.bool true) ∧ Keep [] w w' := by
  have TO : ∀ (W : World) (b m : Nat), Keep [] w W → w.heap.size ≤ b → w.heap.size ≤ m → DiskAt W b m ⟨1000, 0, false, 0, []⟩ → Calls Tryz.prog 14 #[.pointer (some ⟨b, 0, none⟩), .int .i64 100] W fun e w' => ∃ s g C, e = .returned (.tuple #[.pointer (some ⟨s, 0, none⟩), .int .i64 0]) ∧ ChIn w w' s b m g C ⟨1000, 0, false, 0, []⟩ [] ∧ C.seg ≤ 1 ∧ C.dirty = false := fun W b m hk hb hm hd => by
    refine (open_in hk hd hb hm (hT.keep hk (by simp)) (start_still (by decide) (by decide)) (start_names _) (fun _ => rfl) (Nat.le_refl 1) (by decide) (by rw [start_segs]; simp) 100 (by decide)).mono ?_
    rintro e w' ⟨s, g, rfl, h1, -, h3, -, -⟩
    rw [start_replay] at h1
    exact ⟨s, g, _, rfl, h1, h3, rfl⟩
  have TP1 : ∀ (W : World) (s b m g : Nat) (C : Ck), C.seg ≤ 1 → C.dirty = false → ChIn w W s b m g C ⟨1000, 0, false, 0, []⟩ [] → Calls Tryz.prog 16 #[.pointer (some ⟨s, 0, none⟩), .int .u64 7, .string { data := #[97] }] W fun e w' => ∃ C' D', e = .returned (.int .i64 0) ∧ ChIn w w' s b m g C' D' [(7, [97])] ∧ C'.seg ≤ 2 ∧ D'.room = 1000 ∧ D'.used ≤ 51 := fun W s b m g C h1 h2 h => by
    refine (h.put2 h2 (by omega) 7 (by decide) [97] (by decide) rfl (by decide)).mono ?_
    rintro e w' ⟨C', D', rfl, h3, h4, h5, h6, -⟩
    exact ⟨C', D', rfl, h3, by omega, h5, h6⟩
  have TS : ∀ (W : World) (s b m g : Nat) (C : Ck) (D : Dk), C.seg ≤ 2 → D.room = 1000 → D.used ≤ 51 → ChIn w W s b m g C D [(7, [97])] → Calls Tryz.prog 21 #[.pointer (some ⟨s, 0, none⟩)] W fun e w' => ∃ C' D', e = .returned (.int .i64 0) ∧ ChIn w w' s b m g C' D' [(7, [97])] ∧ C'.seg ≤ 2 ∧ C'.dirty = false ∧ D'.Safe ∧ D'.room = 1000 ∧ D'.used ≤ 51 := fun W s b m g C D h1 h2 h3 h => by
    refine (h.sync (by omega)).mono ?_
    rintro e w' ⟨D', rfl, h4, -, h5, h6, h7, -⟩
    exact ⟨_, D', rfl, h4, h1, rfl, h7, h5.trans h2, by omega⟩
  have TP2 : ∀ (W : World) (s b m g : Nat) (C : Ck) (D : Dk), C.seg ≤ 2 → C.dirty = false → D.Safe → D.room = 1000 → D.used ≤ 51 → ChIn w W s b m g C D [(7, [97])] → Calls Tryz.prog 16 #[.pointer (some ⟨s, 0, none⟩), .int .u64 8, .string { data := #[98] }] W fun e w' => ∃ C' D' X', e = .returned (.int .i64 0) ∧ ChIn w w' s b m g C' D' X' ∧ ∀ n, (lookF n D'.files).sure = (lookF n D.files).sure := fun W s b m g C D h1 h2 h3 h4 h5 h => by
    refine (h.put2 h2 (by omega) 8 (by decide) [98] (by decide) rfl (by simp; omega)).mono ?_
    rintro e w' ⟨C', D', rfl, h6, -, -, -, h7⟩
    exact ⟨C', D', _, rfl, h6, h7⟩
  have TC : ∀ (W : World) (s b m g : Nat) (C : Ck) (D : Dk) (X : List (Nat × List UInt8)), ChIn w W s b m g C D X → Calls Tryz.prog 29 #[.pointer (some ⟨b, 0, none⟩), .slice none 0 0] W fun e w' => e = .returned (.tuple #[]) ∧ DiskAt w' b m (D.crash []) ∧ Keep [] w w' := fun W s b m g C D X h => by
    refine (crash_calls h.at_.disk h.still.good (by have := h.inv.dk.names.files_len; omega) h.inv.dk.names.keys (.slice none 0 0) [] (by simp) (fun V _ => ⟨none, 0, rfl, fun h => absurd rfl h⟩)).mono ?_
    rintro e w' ⟨rfl, h1, h2⟩
    exact ⟨rfl, h1, h.keep.trans' h2 (fun x hx => h.sub x (by simp at hx ⊢; rcases hx with hx | hx <;> simp [hx]))⟩
  have TO2 : ∀ (W : World) (b m : Nat) (C2 : Ck) (D2 D3 : Dk), Keep [] w W → w.heap.size ≤ b → w.heap.size ≤ m → DiskAt W b m (D3.crash []) → Inv C2 D2 [(7, [97])] → D2.Safe → C2.seg ≤ 2 → D3.Still → D3.Names segNames → (∀ n, (lookF n D3.files).sure = (lookF n D2.files).sure) → Calls Tryz.prog 14 #[.pointer (some ⟨b, 0, none⟩), .int .i64 100] W fun e w' => ∃ s g C D, e = .returned (.tuple #[.pointer (some ⟨s, 0, none⟩), .int .i64 0]) ∧ ChIn w w' s b m g C D [(7, [97])] := fun W b m C2 D2 D3 hk hb hm hd hI hS hs h3 hN hsu => by
    obtain ⟨a1, a2, a3, a4, a5⟩ := crash_back hI hS (by omega) h3.good hN h3.lost h3.armed hsu
    refine (open_in hk hd hb hm (hT.keep hk (by simp)) a1 a2 a3 (by decide) (by decide) a4 100 (by decide)).mono ?_
    rintro e w' ⟨s, g, rfl, h1, -, -, -, -⟩
    rw [a5] at h1
    exact ⟨s, g, _, _, rfl, h1⟩
  have TG : ∀ (W : World) (s b m g : Nat) (C : Ck) (D : Dk), ChIn w W s b m g C D [(7, [97])] → Calls Tryz.prog 25 #[.pointer (some ⟨s, 0, none⟩), .int .u64 7] W fun e w' => e = .returned (.tuple #[.string { data := #[97] }, .int .i64 0]) ∧ ChIn w w' s b m g C D [(7, [97])] := fun W s b m g C D h => by
    have hg := h.inv.says.get h.still (i := 7) (d := [97]) rfl
    have T := sget_calls h.at_ h.inv.dk.ok h.still.good 7
    rw [hg, Ck.got_still h.still] at T
    refine T.mono ?_
    rintro e w' ⟨rfl, h1, h2⟩
    exact ⟨rfl, h.same h1 (h2.mono (by simp))⟩
  have TH : ∀ (W : World) (s b m g : Nat) (C : Ck) (D : Dk), ChIn w W s b m g C D [(7, [97])] → Calls Tryz.prog 49 #[.pointer (some ⟨s, 0, none⟩), .int .u64 8] W fun e w' => e = .returned (.bool false) ∧ Keep [] w w' := fun W s b m g C D h => by
    have T := has_calls h.at_ h.inv.dk.ok 8
    have hh := h.inv.has 8
    have h2 : (lookC (8 : Int) C.map).isSome = false := hh
    rw [h2] at T
    refine T.mono ?_
    rintro e w' ⟨rfl, h1⟩
    exact ⟨rfl, h.keep.trans h1⟩
  have TN : ∀ W : World, Calls Tryz.prog 24 #[.int .i64 12] W fun e w' => e = .returned (.string { data := #[115, 101, 103, 45, 48, 48, 48, 48, 48, 49, 50] }) ∧ Keep [] W w' := fun W => name_calls 12 (by decide) (by decide) W
  have HTN := Lib.hid TN
  have HTO := Lib.hid TO
  have HTP1 := Lib.hid TP1
  have HTS := Lib.hid TS
  have HTP2 := Lib.hid TP2
  have HTC := Lib.hid TC
  have HTO2 := Lib.hid TO2
  have HTG := Lib.hid TG
  have HTH := Lib.hid TH
  clear TN TO TP1 TS TP2 TC TO2 TG TH hT
  go_enter Tryz.func12, Tryz.ntmps12
  go_upto_region 5 with (first
    | (go_at_call 13; refine (new_calls 1000 (by decide) w).mono ?_; rintro e w1 ⟨b, m, rfl, hb, hm, hD1, hk1⟩; have HD1 : Hid (DiskAt w1 b m ⟨1000, 0, false, 0, []⟩) := hD1; have HK1 := Lib.hid hk1; clear hD1 hk1)
    | (go_at_call 14; refine (HTO.out _ _ _ HK1.out hb hm HD1.out).mono ?_; rintro e w2 ⟨s, g, C0, rfl, h2, hs0, hd0⟩; have H2 := Lib.hid h2; clear h2)
    | (go_at_call 16; (with_reducible refine (HTP1.out _ _ _ _ _ _ hs0 hd0 H2.out).mono ?_); rintro e w3 ⟨C1, D1, rfl, h3, hs1, hr1, hu1⟩; have H3 := Lib.hid h3; clear h3)
    | (go_at_call 21; refine (HTS.out _ _ _ _ _ _ _ hs1 hr1 hu1 H3.out).mono ?_; rintro e w4 ⟨C2, D2, rfl, h4, hs2, hd2, hsf2, hr2, hu2⟩; have H4 := Lib.hid h4; have HSF := Lib.hid hsf2; clear h4 hsf2)
    | (go_at_call 16; (with_reducible refine (HTP2.out _ _ _ _ _ _ _ hs2 hd2 HSF.out hr2 hu2 H4.out).mono ?_); rintro e w5 ⟨C3, D3, X3, rfl, h5, hsu⟩; have H5 := Lib.hid h5; have HSU := Lib.hid hsu; clear h5 hsu))
  go_wp2_with (first
    | (go_at_call 29; refine (HTC.out _ _ _ _ _ _ _ _ H5.out).mono ?_; rintro e w6 ⟨rfl, hd6, hk6⟩; have HD6 := Lib.hid hd6; have HK6 := Lib.hid hk6; clear hd6 hk6)
    | (go_at_call 14; refine (HTO2.out _ _ _ _ _ _ HK6.out hb hm HD6.out H4.out.inv HSF.out hs2 H5.out.still H5.out.inv.dk.names HSU.out).mono ?_; rintro e w7 ⟨t, gt, C7, D7, rfl, h7⟩; have H7 := Lib.hid h7; clear h7)
    | (go_at_call 25; refine (HTG.out _ _ _ _ _ _ _ H7.out).mono ?_; rintro e w8 ⟨rfl, h8⟩; have H8 := Lib.hid h8; clear h8)
    | (go_at_call 49; refine (HTH.out _ _ _ _ _ _ _ H8.out).mono ?_; rintro e w9 ⟨rfl, hk9⟩; have HK9 := Lib.hid hk9; clear hk9)
    | (go_at_call 24; refine (HTN.out _).mono ?_; rintro e w10 ⟨rfl, hk10⟩; have HK10 := Lib.hid hk10; clear hk10))
  go_ret
  exact ⟨rfl, HK9.out.trans HK10.out⟩

end Go.Proofs.YtkplffkchanipaaGreatDoor
