/- The contract of glacierlaw19.NodePlays. -/
import Derived.Test.YtkplffkchanipaaGreatDoorPlaySts
import Derived.Deep.CutBlock
import Derived.Outline
namespace Go.Proofs.YtkplffkchanipaaGreatDoor
open Go.RowKit
attribute [local go_sem] size_bs bs_append ba_self
variable {w w' w0 : World} {n s b m g c k : Nat} {C C' : Ck} {D D' : Dk} {X : List (Nat × List UInt8)} {u : Bool}

set_option maxRecDepth 100000 in
set_option maxHeartbeats 4000000 in
theorem nodePlays_calls (w : World) (hT : Tab w) (v : Value) (l : List Na) (hv : NActsAt w v l) :
    Calls Tryz.prog 11 #[v] w fun e w' => e = .returned (.bool true) ∧ Keep [] w w' := by
  have HTN := Lib.hid (NdS.new (Keep.refl [] w) hT 1048576 (by decide) (by decide))
  obtain ⟨A0, c0, rfl, hcc⟩ := hv
  have HCC := Lib.hid hcc
  clear hcc hT
  go_enter Tryz.func11, Tryz.ntmps11
  go_wp2_with (first
    | (go_at_call 30; refine HTN.out.mono ?_; rintro e w1 ⟨n, b, m, rfl, h, -⟩; have H1 := Lib.hid h; clear h)
    | (go_at_call 31; refine (nawake_calls _ (H1.out.tab.keep ((Keep.refl [] _).alloc _) (by simp))).mono ?_; rintro e w2 ⟨rfl, hk⟩; have hk2 : Keep [] w1 w2 := ((Keep.refl [] _).alloc _).trans hk; have HXB : Hid (Blk w2 w1.heap.size 84 #[.slice none 0 0, .bool true, .bool false]) := (Blk.new w1 _ _).keep hk (by simp); have h2 := H1.out.grow hk2; have z0 := h2.c0; have H2 := Lib.hid h2; clear hk hk2 h2))
  have hpx := H1.out.keep.size
  have HS0 : Hid (PSt w w2 n b m w1.heap.size 2 true false ⟨1048576, 0, false, 0, []⟩ [] (.slice none 0 0)) :=
    ⟨⟨H2.out, rfl, rfl, by decide⟩, H2.out.1, ⟨⟨by simp [xsV], .inl ⟨rfl, rfl⟩⟩⟩, HXB.out⟩
  generalize w1.heap.size = px at *
  go_loopw [5] (fun x wr => ∃ (k : Nat) (uu ll : Bool) (D : Dk) (X : List (Nat × List UInt8)) (vx : Value), k ≤ l.length ∧ k ≤ 30 ∧ x = .int .i64 (k : Int) ∧ PSt w wr n b m px (2 + 3 * k) uu ll D X vx) (fun x _ => l.length - (intOf x).toNat)
  case atStart => exact ⟨0, true, false, _, _, _, Nat.zero_le _, Nat.zero_le _, rfl, HS0.out⟩
  case round =>
    obtain ⟨k, uu, ll, D, X, vx, hk, hk30, rfl, h⟩ := hrel
    have H := Lib.hid h
    by_cases hlt : k < l.length ∧ k < 30
    · obtain ⟨hlt, hlt30⟩ := hlt
      have d1 : decide ((k : Int) < (l.length : Int)) = true := decide_eq_true (by omega)
      have d2 : decide ((k : Int) < 30) = true := decide_eq_true (by omega)
      obtain ⟨gx, o, rfl, hc⟩ := HCC.out (by intro h; rw [h] at hlt; simp at hlt)
      obtain ⟨vc, q⟩ := hc k hlt
      obtain ⟨x0, x1, x2, x3, x4, -⟩ := q.keep h.pn.keep
      obtain ⟨-, -, -, -, -, hci, hcb, hai, -, -⟩ := q
      have hlen : (l[k].s.take 40).length ≤ 40 := by rw [List.length_take]; omega
      clear h hc
      generalize l[k] = a0 at *
      obtain ⟨ak, an, ai, as_, ac⟩ := a0
      simp only at x0 x1 x2 x3 hlen hci hcb hai
      have HCI : Hid (∀ W, Keep [] w W → IntsAt W vc ac) := fun W hW => hci.keep hW
      obtain ⟨A4, c4, rfl, -⟩ := hci
      have HLEN := Lib.hid hlen
      have HCB := Lib.hid (And.intro hcb hai)
      clear hlen hcb hai
      go_upto_block 2 with (go_at_call 15; refine (cut_calls as_ 40 _).mono ?_; rintro e w3 ⟨rfl, rfl⟩)
      have HS1 : Hid (PSt w (wr.alloc (.cells #[.int .i64 ak, .int .i64 an, .int .u64 (ai : Int), .string (bs as_), .slice A4 ac.length c4] 75)) n b m px (2 + 3 * k) uu ll D X vx) := H.out.grow ((Keep.refl _ _).alloc _)
      have HAB : Hid (Blk (wr.alloc (.cells #[.int .i64 ak, .int .i64 an, .int .u64 (ai : Int), .string (bs as_), .slice A4 ac.length c4] 75)) wr.heap.size 75 #[.int .i64 ak, .int .i64 an, .int .u64 (ai : Int), .string (bs as_), .slice A4 ac.length c4]) := Blk.new wr 75 #[.int .i64 ak, .int .i64 an, .int .u64 (ai : Int), .string (bs as_), .slice A4 ac.length c4]
      generalize (wr.alloc (.cells #[.int .i64 ak, .int .i64 an, .int .u64 (ai : Int), .string (bs as_), .slice A4 ac.length c4] 75)) = W3 at *
      generalize wr.heap.size = pb at *
      clear H x0 x1 x2 x3 x4
      obtain ⟨Ax, cx, hvx⟩ := HS1.out.own.slice
      subst hvx
      have hxl : X.length ≤ 92 := by have := HS1.out.fit.len; omega
      go_cut [8, 9] (fun s8 s9 wx => ∃ (y : Int) (uu ll : Bool) (D : Dk) (X : List (Nat × List UInt8)) (vx : Value), s8 = .int .i64 y ∧ s9 = .int .i64 y ∧ PSt w wx n b m px (2 + 3 * (k + 1)) uu ll D X vx ∧ Blk wx pb 75 #[.int .i64 ak, .int .i64 an, .int .u64 (ai : Int), .string (bs as_), .slice A4 ac.length c4])
      case first =>
        have p0 : World.cell? W3 ⟨pb, 0, none⟩ = some (.int .i64 ak) := HAB.out.cell 0; have p1 : World.cell? W3 ⟨pb, 1, none⟩ = some (.int .i64 an) := HAB.out.cell 1; have p2 : World.cell? W3 ⟨pb, 2, none⟩ = some (.int .u64 (ai : Int)) := HAB.out.cell 2; have p4 : World.cell? W3 ⟨pb, 4, none⟩ = some (.slice A4 ac.length c4) := HAB.out.cell 4
        have hxb := HS1.out.xb
        have y0 : World.cell? W3 ⟨px, 0, none⟩ = some (.slice Ax X.length cx) := hxb.cell 0; have y1 : World.cell? W3 ⟨px, 1, none⟩ = some (.bool uu) := hxb.cell 1; have y2 : World.cell? W3 ⟨px, 2, none⟩ = some (.bool ll) := hxb.cell 2; have f0 := hxb.frozen 0; have f1 := hxb.frozen 1; have f2 := hxb.frozen 2
        by_cases hk1 : ak = 1
        · have e1 : (ak == 1) = true := beq_iff_eq.2 hk1
          clear hk1
          go_wp2_with fail
          go_at_call 32
          refine (HS1.out.pn.put (by omega) HCB.out.2 HLEN.out).mono ?_
          rintro e w4 ⟨rfl, hst, D4, hn⟩
          have HN4 := Lib.hid hn
          have HAB4 := Lib.hid (hst.blk _ _ _ (by decide) (by decide) (by decide) HAB.out)
          have HXB4 := Lib.hid (hst.blk _ _ _ (by decide) (by decide) (by decide) HS1.out.xb)
          have HO4 := Lib.hid (hst.own _ _ _ HS1.out.own)
          have HR := Lib.hid (rput_calls HO4.out hn.keep.size (by omega) uu ll ai (as_.take 40))
          have HF := Lib.hid (HS1.out.fit.putS (uu && !ll) HCB.out.2 HLEN.out)
          clear hst hn
          have p2 : w4.cell? ⟨pb, 2, none⟩ = some (.int .u64 (ai : Int)) := HAB4.out.cell 2
          clear y0 y1 y2 f0 f1 f2 hxb
          have hxb := HXB4.out
          have y0 : World.cell? w4 ⟨px, 0, none⟩ = some (.slice Ax X.length cx) := hxb.cell 0; have y1 : World.cell? w4 ⟨px, 1, none⟩ = some (.bool uu) := hxb.cell 1; have y2 : World.cell? w4 ⟨px, 2, none⟩ = some (.bool ll) := hxb.cell 2; have f0 := hxb.frozen 0; have f1 := hxb.frozen 1; have f2 := hxb.frozen 2
          generalize putE (uu && !ll) X ai (as_.take 40) = y at *
          generalize putS (uu && !ll) X ai (as_.take 40) = X4 at *
          go_wp2_with (go_at_call 45; refine HR.out.mono ?_; rintro e w5 ⟨A5, c5, rfl, hO, hk⟩; have HK5 := Lib.hid hk; have HO5 := Lib.hid hO; have hxb := (HXB4.out.keep hk (by simp)).alloc (.cells #[.slice A5 X4.length c5, .bool uu, .bool ll] 84); have y0 : World.cell? (w5.alloc (.cells #[.slice A5 X4.length c5, .bool uu, .bool ll] 84)) ⟨px, 0, none⟩ = some (.slice Ax X.length cx) := hxb.cell 0; have y1 : World.cell? (w5.alloc (.cells #[.slice A5 X4.length c5, .bool uu, .bool ll] 84)) ⟨px, 1, none⟩ = some (.bool uu) := hxb.cell 1; have y2 : World.cell? (w5.alloc (.cells #[.slice A5 X4.length c5, .bool uu, .bool ll] 84)) ⟨px, 2, none⟩ = some (.bool ll) := hxb.cell 2; have f0 := hxb.frozen 0; have f1 := hxb.frozen 1; have f2 := hxb.frozen 2; have HXB5 := Lib.hid hxb; clear hO hk hxb)
          have hne : pb ≠ px := HAB4.out.ne_ HXB4.out (by decide)
          have hk6 : Keep [px] (w5.alloc (.cells #[.slice A5 X4.length c5, .bool uu, .bool ll] 84)) ((((w5.alloc (.cells #[.slice A5 X4.length c5, .bool uu, .bool ll] 84)).setCell ⟨px, 0, none⟩ (.slice A5 X4.length c5)).setCell ⟨px, 1, none⟩ (.bool uu)).setCell ⟨px, 2, none⟩ (.bool ll)) := (((Keep.refl _ _).setCell (.inl (by simp)) _).setCell (.inl (by simp)) _).setCell (.inl (by simp)) _
          have hb6 : Blk ((((w5.alloc (.cells #[.slice A5 X4.length c5, .bool uu, .bool ll] 84)).setCell ⟨px, 0, none⟩ (.slice A5 X4.length c5)).setCell ⟨px, 1, none⟩ (.bool uu)).setCell ⟨px, 2, none⟩ (.bool ll)) px 84 #[.slice A5 X4.length c5, .bool uu, .bool ll] := ((HXB5.out.set_ 0 _).set_ 1 _).set_ 2 _
          have hka : Keep [] w4 (w5.alloc (.cells #[.slice A5 X4.length c5, .bool uu, .bool ll] 84)) := HK5.out.alloc _
          go_meet
          exact ⟨y, uu, ll, D4, X4, _, rfl, rfl, PSt.put_ ((HN4.out.grow hka).mono (by omega)) (HF.out.mono (by omega)) (HO5.out.keep2 ((Keep.refl [] w5).alloc _) (by simp)) HXB5.out (by simp) hpx hk6 hb6, (HAB4.out.keep hka (by simp)).keep hk6 (by simpa using hne)⟩
        · have e1 : (ak == 1) = false := beq_eq_false_iff_ne.2 hk1
          clear hk1
          by_cases hk2 : ak = 2
          · have e2 : (ak == 2) = true := beq_iff_eq.2 hk2
            clear hk2
            go_wp2_with fail
            go_at_call 34
            refine (HS1.out.pn.drop (by omega) HCB.out.2).mono ?_
            rintro e w4 ⟨rfl, hst, D4, hn⟩
            have HN4 := Lib.hid hn
            have HAB4 := Lib.hid (hst.blk _ _ _ (by decide) (by decide) (by decide) HAB.out)
            have HXB4 := Lib.hid (hst.blk _ _ _ (by decide) (by decide) (by decide) HS1.out.xb)
            have HO4 := Lib.hid (hst.own _ _ _ HS1.out.own)
            have HR := Lib.hid (rdrop_calls HO4.out hn.keep.size (by omega) uu ll ai)
            have HF := Lib.hid (HS1.out.fit.dropS (uu && !ll) ai)
            clear hst hn
            have p2 : w4.cell? ⟨pb, 2, none⟩ = some (.int .u64 (ai : Int)) := HAB4.out.cell 2
            clear y0 y1 y2 f0 f1 f2 hxb
            have hxb := HXB4.out
            have y0 : World.cell? w4 ⟨px, 0, none⟩ = some (.slice Ax X.length cx) := hxb.cell 0; have y1 : World.cell? w4 ⟨px, 1, none⟩ = some (.bool uu) := hxb.cell 1; have y2 : World.cell? w4 ⟨px, 2, none⟩ = some (.bool ll) := hxb.cell 2; have f0 := hxb.frozen 0; have f1 := hxb.frozen 1; have f2 := hxb.frozen 2
            generalize dropE (uu && !ll) X ai = y at *
            generalize dropS (uu && !ll) X ai = X4 at *
            go_wp2_with (go_at_call 46; refine HR.out.mono ?_; rintro e w5 ⟨A5, c5, rfl, hO, hk⟩; have HK5 := Lib.hid hk; have HO5 := Lib.hid hO; have hxb := (HXB4.out.keep hk (by simp)).alloc (.cells #[.slice A5 X4.length c5, .bool uu, .bool ll] 84); have y0 : World.cell? (w5.alloc (.cells #[.slice A5 X4.length c5, .bool uu, .bool ll] 84)) ⟨px, 0, none⟩ = some (.slice Ax X.length cx) := hxb.cell 0; have y1 : World.cell? (w5.alloc (.cells #[.slice A5 X4.length c5, .bool uu, .bool ll] 84)) ⟨px, 1, none⟩ = some (.bool uu) := hxb.cell 1; have y2 : World.cell? (w5.alloc (.cells #[.slice A5 X4.length c5, .bool uu, .bool ll] 84)) ⟨px, 2, none⟩ = some (.bool ll) := hxb.cell 2; have f0 := hxb.frozen 0; have f1 := hxb.frozen 1; have f2 := hxb.frozen 2; have HXB5 := Lib.hid hxb; clear hO hk hxb)
            have hne : pb ≠ px := HAB4.out.ne_ HXB4.out (by decide)
            have hk6 : Keep [px] (w5.alloc (.cells #[.slice A5 X4.length c5, .bool uu, .bool ll] 84)) ((((w5.alloc (.cells #[.slice A5 X4.length c5, .bool uu, .bool ll] 84)).setCell ⟨px, 0, none⟩ (.slice A5 X4.length c5)).setCell ⟨px, 1, none⟩ (.bool uu)).setCell ⟨px, 2, none⟩ (.bool ll)) := (((Keep.refl _ _).setCell (.inl (by simp)) _).setCell (.inl (by simp)) _).setCell (.inl (by simp)) _
            have hb6 : Blk ((((w5.alloc (.cells #[.slice A5 X4.length c5, .bool uu, .bool ll] 84)).setCell ⟨px, 0, none⟩ (.slice A5 X4.length c5)).setCell ⟨px, 1, none⟩ (.bool uu)).setCell ⟨px, 2, none⟩ (.bool ll)) px 84 #[.slice A5 X4.length c5, .bool uu, .bool ll] := ((HXB5.out.set_ 0 _).set_ 1 _).set_ 2 _
            have hka : Keep [] w4 (w5.alloc (.cells #[.slice A5 X4.length c5, .bool uu, .bool ll] 84)) := HK5.out.alloc _
            go_meet
            exact ⟨y, uu, ll, D4, X4, _, rfl, rfl, PSt.put_ ((HN4.out.grow hka).mono (by omega)) (HF.out.mono (by omega)) (HO5.out.keep2 ((Keep.refl [] w5).alloc _) (by simp)) HXB5.out (by simp) hpx hk6 hb6, (HAB4.out.keep hka (by simp)).keep hk6 (by simpa using hne)⟩
          · have e2 : (ak == 2) = false := beq_eq_false_iff_ne.2 hk2
            clear hk2
            by_cases hk3 : ak = 3
            · have e3 : (ak == 3) = true := beq_iff_eq.2 hk3
              clear hk3
              go_wp2_with fail
              go_at_call 33
              refine (HS1.out.pn.get ai).mono ?_
              rintro e w4 ⟨rfl, hst, hn⟩
              have HN4 := Lib.hid hn
              have HAB4 := Lib.hid (hst.blk _ _ _ (by decide) (by decide) (by decide) HAB.out)
              have HXB4 := Lib.hid (hst.blk _ _ _ (by decide) (by decide) (by decide) HS1.out.xb)
              have HO4 := Lib.hid (hst.own _ _ _ HS1.out.own)
              have HR := Lib.hid (rget_calls HO4.out (by omega) uu ll ai)
              clear hst hn
              have p2 : w4.cell? ⟨pb, 2, none⟩ = some (.int .u64 (ai : Int)) := HAB4.out.cell 2
              clear y0 y1 y2 f0 f1 f2 hxb
              have hxb := HXB4.out
              have y0 : World.cell? w4 ⟨px, 0, none⟩ = some (.slice Ax X.length cx) := hxb.cell 0; have y1 : World.cell? w4 ⟨px, 1, none⟩ = some (.bool uu) := hxb.cell 1; have y2 : World.cell? w4 ⟨px, 2, none⟩ = some (.bool ll) := hxb.cell 2; have f0 := hxb.frozen 0; have f1 := hxb.frozen 1; have f2 := hxb.frozen 2
              generalize getE (uu && !ll) X ai = yy at *
              obtain ⟨ys, y⟩ := yy
              simp only at HR
              go_wp2_with (go_at_call 47; refine HR.out.mono ?_; rintro e w5 ⟨rfl, hk⟩; have HK5 := Lib.hid hk; clear hk)
              go_meet
              exact ⟨y, uu, ll, D, X, _, rfl, rfl, ⟨(HN4.out.grow HK5.out).mono (by omega), HS1.out.fit.mono (by omega), HO4.out.keep2 HK5.out (by simp), HXB4.out.keep HK5.out (by simp)⟩, HAB4.out.keep HK5.out (by simp)⟩
            · have e3 : (ak == 3) = false := beq_eq_false_iff_ne.2 hk3
              clear hk3
              by_cases hk4 : ak = 4
              · have e4 : (ak == 4) = true := beq_iff_eq.2 hk4
                clear hk4
                cases uu
                case false =>
                  go_wp2_with (go_at_call 38; refine (HS1.out.pn.stop (by omega) _ ac HCB.out.1 (fun W hW => HCI.out W hW)).mono ?_; rintro e w4 ⟨rfl, hst, D4, hn⟩; have HN4 := Lib.hid hn; have HAB4 := Lib.hid (hst.blk _ _ _ (by decide) (by decide) (by decide) HAB.out); have HXB4 := Lib.hid (hst.blk _ _ _ (by decide) (by decide) (by decide) HS1.out.xb); have HO4 := Lib.hid (hst.own _ _ _ HS1.out.own); clear hst hn; have f1 := HXB4.out.frozen 1; have y1 : w4.cell? ⟨px, 1, none⟩ = some (.bool false) := HXB4.out.cell 1)
                  have hne : pb ≠ px := HAB4.out.ne_ HXB4.out (by decide)
                  have hk6 : Keep [px] w4 (w4.setCell ⟨px, 1, none⟩ (.bool false)) := (Keep.refl _ _).setCell (.inl (by simp)) _
                  have hb6 : Blk (w4.setCell ⟨px, 1, none⟩ (.bool false)) px 84 #[.slice Ax X.length cx, .bool false, .bool ll] := HXB4.out.set_ 1 _
                  go_meet
                  exact ⟨_, false, ll, D4, X, _, rfl, rfl, PSt.put_ (HN4.out.mono (by omega)) (HS1.out.fit.mono (by omega)) HO4.out HXB4.out (by simp) hpx hk6 hb6, HAB4.out.keep hk6 (by simpa using hne)⟩
                case true =>
                  go_wp2_with (go_at_call 38; refine (HS1.out.pn.stop (by omega) _ ac HCB.out.1 (fun W hW => HCI.out W hW)).mono ?_; rintro e w4 ⟨rfl, hst, D4, hn⟩; have HN4 := Lib.hid hn; have HAB4 := Lib.hid (hst.blk _ _ _ (by decide) (by decide) (by decide) HAB.out); have HXB4 := Lib.hid (hst.blk _ _ _ (by decide) (by decide) (by decide) HS1.out.xb); have HO4 := Lib.hid (hst.own _ _ _ HS1.out.own); clear hst hn; have f1 := HXB4.out.frozen 1; have y1 : w4.cell? ⟨px, 1, none⟩ = some (.bool true) := HXB4.out.cell 1)
                  have hne : pb ≠ px := HAB4.out.ne_ HXB4.out (by decide)
                  have hk6 : Keep [px] w4 (w4.setCell ⟨px, 1, none⟩ (.bool false)) := (Keep.refl _ _).setCell (.inl (by simp)) _
                  have hb6 : Blk (w4.setCell ⟨px, 1, none⟩ (.bool false)) px 84 #[.slice Ax X.length cx, .bool false, .bool ll] := HXB4.out.set_ 1 _
                  go_meet
                  exact ⟨_, false, ll, D4, X, _, rfl, rfl, PSt.put_ (HN4.out.mono (by omega)) (HS1.out.fit.mono (by omega)) HO4.out HXB4.out (by simp) hpx hk6 hb6, HAB4.out.keep hk6 (by simpa using hne)⟩
              · have e4 : (ak == 4) = false := beq_eq_false_iff_ne.2 hk4
                clear hk4
                by_cases hk5 : ak = 5
                · have e5 : (ak == 5) = true := beq_iff_eq.2 hk5
                  clear hk5
                  cases uu
                  case false =>
                    cases ll
                    case false =>
                      go_wp2_with (go_at_call 39; refine (HS1.out.pn.start (by omega) (by omega)).mono ?_; rintro e w4 ⟨rfl, hst, D4, hn⟩; have HN4 := Lib.hid hn; have HAB4 := Lib.hid (hst.blk _ _ _ (by decide) (by decide) (by decide) HAB.out); have HXB4 := Lib.hid (hst.blk _ _ _ (by decide) (by decide) (by decide) HS1.out.xb); have HO4 := Lib.hid (hst.own _ _ _ HS1.out.own); clear hst hn; have f1 := HXB4.out.frozen 1; have y1 : w4.cell? ⟨px, 1, none⟩ = some (.bool false) := HXB4.out.cell 1; have y2 : w4.cell? ⟨px, 2, none⟩ = some (.bool false) := HXB4.out.cell 2)
                      have hne : pb ≠ px := HAB4.out.ne_ HXB4.out (by decide)
                      have hk6 : Keep [px] w4 (w4.setCell ⟨px, 1, none⟩ (.bool true)) := (Keep.refl _ _).setCell (.inl (by simp)) _
                      have hb6 : Blk (w4.setCell ⟨px, 1, none⟩ (.bool true)) px 84 #[.slice Ax X.length cx, .bool true, .bool false] := HXB4.out.set_ 1 _
                      go_meet
                      exact ⟨_, true, false, D4, X, _, rfl, rfl, PSt.put_ (HN4.out.mono (by omega)) (HS1.out.fit.mono (by omega)) HO4.out HXB4.out (by simp) hpx hk6 hb6, HAB4.out.keep hk6 (by simpa using hne)⟩
                    case true =>
                      go_wp2_with (go_at_call 39; refine (HS1.out.pn.start (by omega) (by omega)).mono ?_; rintro e w4 ⟨rfl, hst, D4, hn⟩; have HN4 := Lib.hid hn; have HAB4 := Lib.hid (hst.blk _ _ _ (by decide) (by decide) (by decide) HAB.out); have HXB4 := Lib.hid (hst.blk _ _ _ (by decide) (by decide) (by decide) HS1.out.xb); have HO4 := Lib.hid (hst.own _ _ _ HS1.out.own); clear hst hn; have f1 := HXB4.out.frozen 1; have y1 : w4.cell? ⟨px, 1, none⟩ = some (.bool false) := HXB4.out.cell 1; have y2 : w4.cell? ⟨px, 2, none⟩ = some (.bool true) := HXB4.out.cell 2)
                      have hne : pb ≠ px := HAB4.out.ne_ HXB4.out (by decide)
                      have hk6 : Keep [px] w4 (w4.setCell ⟨px, 1, none⟩ (.bool false)) := (Keep.refl _ _).setCell (.inl (by simp)) _
                      have hb6 : Blk (w4.setCell ⟨px, 1, none⟩ (.bool false)) px 84 #[.slice Ax X.length cx, .bool false, .bool true] := HXB4.out.set_ 1 _
                      go_meet
                      exact ⟨_, false, true, D4, X, _, rfl, rfl, PSt.put_ (HN4.out.mono (by omega)) (HS1.out.fit.mono (by omega)) HO4.out HXB4.out (by simp) hpx hk6 hb6, HAB4.out.keep hk6 (by simpa using hne)⟩
                  case true =>
                    cases ll
                    case false =>
                      go_wp2_with (go_at_call 39; refine (HS1.out.pn.start (by omega) (by omega)).mono ?_; rintro e w4 ⟨rfl, hst, D4, hn⟩; have HN4 := Lib.hid hn; have HAB4 := Lib.hid (hst.blk _ _ _ (by decide) (by decide) (by decide) HAB.out); have HXB4 := Lib.hid (hst.blk _ _ _ (by decide) (by decide) (by decide) HS1.out.xb); have HO4 := Lib.hid (hst.own _ _ _ HS1.out.own); clear hst hn; have f1 := HXB4.out.frozen 1; have y1 : w4.cell? ⟨px, 1, none⟩ = some (.bool true) := HXB4.out.cell 1; have y2 : w4.cell? ⟨px, 2, none⟩ = some (.bool false) := HXB4.out.cell 2)
                      have hne : pb ≠ px := HAB4.out.ne_ HXB4.out (by decide)
                      have hk6 : Keep [px] w4 (w4.setCell ⟨px, 1, none⟩ (.bool true)) := (Keep.refl _ _).setCell (.inl (by simp)) _
                      have hb6 : Blk (w4.setCell ⟨px, 1, none⟩ (.bool true)) px 84 #[.slice Ax X.length cx, .bool true, .bool false] := HXB4.out.set_ 1 _
                      go_meet
                      exact ⟨_, true, false, D4, X, _, rfl, rfl, PSt.put_ (HN4.out.mono (by omega)) (HS1.out.fit.mono (by omega)) HO4.out HXB4.out (by simp) hpx hk6 hb6, HAB4.out.keep hk6 (by simpa using hne)⟩
                    case true =>
                      go_wp2_with (go_at_call 39; refine (HS1.out.pn.start (by omega) (by omega)).mono ?_; rintro e w4 ⟨rfl, hst, D4, hn⟩; have HN4 := Lib.hid hn; have HAB4 := Lib.hid (hst.blk _ _ _ (by decide) (by decide) (by decide) HAB.out); have HXB4 := Lib.hid (hst.blk _ _ _ (by decide) (by decide) (by decide) HS1.out.xb); have HO4 := Lib.hid (hst.own _ _ _ HS1.out.own); clear hst hn; have f1 := HXB4.out.frozen 1; have y1 : w4.cell? ⟨px, 1, none⟩ = some (.bool true) := HXB4.out.cell 1; have y2 : w4.cell? ⟨px, 2, none⟩ = some (.bool true) := HXB4.out.cell 2)
                      have hne : pb ≠ px := HAB4.out.ne_ HXB4.out (by decide)
                      have hk6 : Keep [px] w4 (w4.setCell ⟨px, 1, none⟩ (.bool true)) := (Keep.refl _ _).setCell (.inl (by simp)) _
                      have hb6 : Blk (w4.setCell ⟨px, 1, none⟩ (.bool true)) px 84 #[.slice Ax X.length cx, .bool true, .bool true] := HXB4.out.set_ 1 _
                      go_meet
                      exact ⟨_, true, true, D4, X, _, rfl, rfl, PSt.put_ (HN4.out.mono (by omega)) (HS1.out.fit.mono (by omega)) HO4.out HXB4.out (by simp) hpx hk6 hb6, HAB4.out.keep hk6 (by simpa using hne)⟩
                · have e5 : (ak == 5) = false := beq_eq_false_iff_ne.2 hk5
                  clear hk5
                  by_cases hk6 : ak = 6
                  · have e6 : (ak == 6) = true := beq_iff_eq.2 hk6
                    clear hk6
                    have z0 := HS1.out.pn.c0
                    go_wp2_with (go_at_call 42; refine HS1.out.pn.lose.mono ?_; rintro e w4 ⟨rfl, hst, D4, hn⟩; have HN4 := Lib.hid hn; have HAB4 := Lib.hid (hst.blk _ _ _ (by decide) (by decide) (by decide) HAB.out); have HXB4 := Lib.hid (hst.blk _ _ _ (by decide) (by decide) (by decide) HS1.out.xb); have HO4 := Lib.hid (hst.own _ _ _ HS1.out.own); clear hst hn; have f2 := HXB4.out.frozen 2; have y2 : w4.cell? ⟨px, 2, none⟩ = some (.bool ll) := HXB4.out.cell 2)
                    have hne : pb ≠ px := HAB4.out.ne_ HXB4.out (by decide)
                    have hk6 : Keep [px] w4 (w4.setCell ⟨px, 2, none⟩ (.bool true)) := (Keep.refl _ _).setCell (.inl (by simp)) _
                    have hb6 : Blk (w4.setCell ⟨px, 2, none⟩ (.bool true)) px 84 #[.slice Ax X.length cx, .bool uu, .bool true] := HXB4.out.set_ 2 _
                    go_meet
                    exact ⟨0, uu, true, D4, X, _, rfl, rfl, PSt.put_ (HN4.out.mono (by omega)) (HS1.out.fit.mono (by omega)) HO4.out HXB4.out (by simp) hpx hk6 hb6, HAB4.out.keep hk6 (by simpa using hne)⟩
                  · have e6 : (ak == 6) = false := beq_eq_false_iff_ne.2 hk6
                    clear hk6
                    go_wp2
                    go_meet
                    exact ⟨0, uu, ll, D, X, _, rfl, rfl, ⟨HS1.out.pn.mono (by omega), HS1.out.fit.mono (by omega), HS1.out.own, HS1.out.xb⟩, HAB.out⟩
      case rest =>
        obtain ⟨y, uu2, ll2, D2, X2, vx2, rfl, rfl, hS, hab⟩ := hcut
        clear HS1 HAB
        obtain ⟨A2, c2, hvx2⟩ := hS.own.slice
        subst hvx2
        have HS2 := Lib.hid hS
        have HAB := Lib.hid hab
        clear hS hab
        cases uu2
        case false =>
          have HC9 : Hid (∀ W, Keep [] wc W → World.cell? W ⟨px, 0, none⟩ = some (.slice A2 X2.length c2) ∧ World.cell? W ⟨px, 1, none⟩ = some (.bool false) ∧ World.cell? W ⟨px, 2, none⟩ = some (.bool ll2) ∧ World.cell? W ⟨pb, 2, none⟩ = some (.int .u64 (ai : Int))) := fun W hW => by
            have h1 := HS2.out.xb.keep hW (by simp)
            exact ⟨h1.cell 0, h1.cell 1, h1.cell 2, (HAB.out.keep hW (by simp)).cell 2⟩
          have TU : Hid (∀ W, Keep [] wc W → Calls Tryz.prog 43 #[.pointer (some ⟨n, 0, none⟩)] W fun e w' => e = .returned (.bool false) ∧ W = w') := fun W hW => (HS2.out.pn.grow hW).up
          have TS : Hid (∀ W, Keep [] wc W → Calls Tryz.prog 48 #[.pointer (some ⟨n, 0, none⟩), .agg #[.slice A2 X2.length c2, .bool false, .bool ll2], .int .u64 (ai : Int)] W fun e w' => e = .returned (.bool true) ∧ Stay W w' ∧ PN false ll2 w w' n b m (2 + 3 * (k + 1)) D2 X2) := fun W hW => shows_calls (HS2.out.pn.grow hW) (HS2.out.own.keep2 hW (by simp)) (by omega) ai
          go_upto_region 44 with fail
          refine wp_region_held_drew (S := fun w' => World.cell? w' ⟨px, 0, none⟩ = some (.slice A2 X2.length c2) ∧ World.cell? w' ⟨px, 1, none⟩ = some (.bool false) ∧ World.cell? w' ⟨px, 2, none⟩ = some (.bool ll2) ∧ World.cell? w' ⟨pb, 2, none⟩ = some (.int .u64 (ai : Int))) (by kernel_rfl) (HC9.out _ (Keep.refl _ _).drew) (fun hHeld => ?_)
          refine wpAnyH_take (i := 0) (v := ?_) (by simp only [List.getElem?_toArray, List.getElem?_cons_zero]; rfl) (by kernel_rfl) (by kernel_rfl) (by kernel_rfl) (by exact fun _ _ _ h => h) ?_ hHeld ?_
          rotate_left
          · refine Or.inl ⟨by rfl, ?_⟩
            rintro W ⟨s0, s1, s2, s3⟩
            go_simp
            with_reducible rfl
          try simp only [Act.put, List.setIfInBounds_toArray, List.set_cons_zero, List.set_cons_succ]
          refine wpAnyH_take (i := 1) (v := ?_) (by simp only [List.getElem?_toArray, List.getElem?_cons_succ, List.getElem?_cons_zero]; rfl) (by kernel_rfl) (by kernel_rfl) (by kernel_rfl) (by exact fun _ _ _ h => h) ?_ hHeld ?_
          rotate_left
          · refine Or.inl ⟨by rfl, ?_⟩
            rintro W ⟨s0, s1, s2, s3⟩
            go_simp
            with_reducible rfl
          try simp only [Act.put, List.setIfInBounds_toArray, List.set_cons_zero, List.set_cons_succ]
          refine wpAnyH_take (i := 2) (v := ?_) (by simp only [List.getElem?_toArray, List.getElem?_cons_succ, List.getElem?_cons_zero]; rfl) (by kernel_rfl) (by kernel_rfl) (by kernel_rfl) (by exact fun _ _ _ h => h) ?_ hHeld ?_
          rotate_left
          · refine Or.inl ⟨by rfl, ?_⟩
            rintro W ⟨s0, s1, s2, s3⟩
            go_simp
            with_reducible rfl
          try simp only [Act.put, List.setIfInBounds_toArray, List.set_cons_zero, List.set_cons_succ]
          refine wpAnyH_take (i := 3) (v := ?_) (by simp only [List.getElem?_toArray, List.getElem?_cons_succ, List.getElem?_cons_zero]; rfl) (by kernel_rfl) (by kernel_rfl) (by kernel_rfl) (by exact fun _ _ _ h => h) ?_ hHeld ?_
          rotate_left
          · refine Or.inl ⟨by rfl, ?_⟩
            rintro W ⟨s0, s1, s2, s3⟩
            go_simp
            with_reducible rfl
          try simp only [Act.put, List.setIfInBounds_toArray, List.set_cons_zero, List.set_cons_succ]
          refine wpAnyH_take (i := 4) (v := ?_) (by simp only [List.getElem?_toArray, List.getElem?_cons_succ, List.getElem?_cons_zero]; rfl) (by kernel_rfl) (by kernel_rfl) (by kernel_rfl) (by exact fun _ _ _ h => h) ?_ hHeld ?_
          rotate_left
          · refine Or.inl ⟨by rfl, ?_⟩
            rintro W ⟨s0, s1, s2, s3⟩
            go_simp
            with_reducible rfl
          try simp only [Act.put, List.setIfInBounds_toArray, List.set_cons_zero, List.set_cons_succ]
          refine wpAnyH_take (i := 6) (v := ?_) (by simp only [List.getElem?_toArray, List.getElem?_cons_succ, List.getElem?_cons_zero]; rfl) (by kernel_rfl) (by kernel_rfl) (by kernel_rfl) (by exact fun _ _ _ h => h) ?_ hHeld ?_
          rotate_left
          · refine Or.inl ⟨by rfl, ?_⟩
            rintro W ⟨s0, s1, s2, s3⟩
            go_simp
            with_reducible rfl
          try simp only [Act.put, List.setIfInBounds_toArray, List.set_cons_zero, List.set_cons_succ]
          refine wpAnyH_take (i := 7) (v := ?_) (by simp only [List.getElem?_toArray, List.getElem?_cons_succ, List.getElem?_cons_zero]; rfl) (by kernel_rfl) (by kernel_rfl) (by kernel_rfl) (by exact fun _ _ _ h => h) ?_ hHeld ?_
          rotate_left
          · refine Or.inl ⟨by rfl, ?_⟩
            rintro W ⟨s0, s1, s2, s3⟩
            go_simp
            with_reducible rfl
          try simp only [Act.put, List.setIfInBounds_toArray, List.set_cons_zero, List.set_cons_succ]
          refine wpAnyH_ready (rs := [5]) (by kernel_rfl) (by simp) (AllReadyH.cons rfl (fun K hK => ?_) AllReadyH.nil)
          go_simp
          go_at_call 43
          refine (TU.out _ (by repeat (first | exact Keep.refl _ _ | refine Keep.drew ?_ | refine Keep.drewN ?_ _))).mono ?_
          rintro e w5 ⟨rfl, rfl⟩
          go_simp
          refine hK.out _ _ hHeld (fun _ => ?_)
          clear hK K
          try simp only [Act.put, List.setIfInBounds_toArray, List.set_cons_zero, List.set_cons_succ]
          refine wpAnyH_take (i := 8) (v := ?_) (by simp only [List.getElem?_toArray, List.getElem?_cons_succ, List.getElem?_cons_zero]; rfl) (by kernel_rfl) (by kernel_rfl) (by kernel_rfl) (by exact fun _ _ _ h => h) ?_ hHeld ?_
          rotate_left
          · refine Or.inl ⟨by rfl, ?_⟩
            rintro W ⟨s0, s1, s2, s3⟩
            go_simp
            with_reducible rfl
          try simp only [Act.put, List.setIfInBounds_toArray, List.set_cons_zero, List.set_cons_succ]
          refine wpAnyH_take (i := 9) (v := _) (by simp only [List.getElem?_toArray, List.getElem?_cons_succ, List.getElem?_cons_zero]; rfl) (by kernel_rfl) (by kernel_rfl) (by kernel_rfl) (by exact fun _ _ _ h => h) (Or.inr ⟨by rfl, by rfl⟩) hHeld ?_
          try simp only [Act.put, List.setIfInBounds_toArray, List.set_cons_zero, List.set_cons_succ]
          refine wpAnyH_take (i := 10) (v := _) (by simp only [List.getElem?_toArray, List.getElem?_cons_succ, List.getElem?_cons_zero]; rfl) (by kernel_rfl) (by kernel_rfl) (by kernel_rfl) (by exact fun _ _ _ h => h) (Or.inr ⟨by rfl, by rfl⟩) hHeld ?_
          try simp only [Act.put, List.setIfInBounds_toArray, List.set_cons_zero, List.set_cons_succ]
          refine wpAnyH_take (i := 11) (v := _) (by simp only [List.getElem?_toArray, List.getElem?_cons_succ, List.getElem?_cons_zero]; rfl) (by kernel_rfl) (by kernel_rfl) (by kernel_rfl) (by exact fun _ _ _ h => h) (Or.inr ⟨by rfl, by rfl⟩) hHeld ?_
          try simp only [Act.put, List.setIfInBounds_toArray, List.set_cons_zero, List.set_cons_succ]
          refine wpAnyH_take (i := 12) (v := ?_) (by simp only [List.getElem?_toArray, List.getElem?_cons_succ, List.getElem?_cons_zero]; rfl) (by kernel_rfl) (by kernel_rfl) (by kernel_rfl) (by exact fun _ _ _ h => h) ?_ hHeld ?_
          rotate_left
          · refine Or.inl ⟨by rfl, ?_⟩
            rintro W ⟨s0, s1, s2, s3⟩
            go_simp
            with_reducible rfl
          try simp only [Act.put, List.setIfInBounds_toArray, List.set_cons_zero, List.set_cons_succ]
          refine wpAnyH_take (i := 13) (v := ?_) (by simp only [List.getElem?_toArray, List.getElem?_cons_succ, List.getElem?_cons_zero]; rfl) (by kernel_rfl) (by kernel_rfl) (by kernel_rfl) (by exact fun _ _ _ h => h) ?_ hHeld ?_
          rotate_left
          · refine Or.inl ⟨by rfl, ?_⟩
            rintro W ⟨s0, s1, s2, s3⟩
            go_simp
            with_reducible rfl
          try simp only [Act.put, List.setIfInBounds_toArray, List.set_cons_zero, List.set_cons_succ]
          refine wpAnyH_take (i := 14) (v := ?_) (by simp only [List.getElem?_toArray, List.getElem?_cons_succ, List.getElem?_cons_zero]; rfl) (by kernel_rfl) (by kernel_rfl) (by kernel_rfl) (by exact fun _ _ _ h => h) ?_ hHeld ?_
          rotate_left
          · refine Or.inl ⟨by rfl, ?_⟩
            rintro W ⟨s0, s1, s2, s3⟩
            go_simp
            with_reducible rfl
          try simp only [Act.put, List.setIfInBounds_toArray, List.set_cons_zero, List.set_cons_succ]
          refine wpAnyH_take (i := 15) (v := ?_) (by simp only [List.getElem?_toArray, List.getElem?_cons_succ, List.getElem?_cons_zero]; rfl) (by kernel_rfl) (by kernel_rfl) (by kernel_rfl) (by exact fun _ _ _ h => h) ?_ hHeld ?_
          rotate_left
          · refine Or.inl ⟨by rfl, ?_⟩
            rintro W ⟨s0, s1, s2, s3⟩
            go_simp
            with_reducible rfl
          try simp only [Act.put, List.setIfInBounds_toArray, List.set_cons_zero, List.set_cons_succ]
          refine wpAnyH_take (i := 16) (v := ?_) (by simp only [List.getElem?_toArray, List.getElem?_cons_succ, List.getElem?_cons_zero]; rfl) (by kernel_rfl) (by kernel_rfl) (by kernel_rfl) (by exact fun _ _ _ h => h) ?_ hHeld ?_
          rotate_left
          · refine Or.inl ⟨by rfl, ?_⟩
            rintro W ⟨s0, s1, s2, s3⟩
            go_simp
            with_reducible rfl
          try simp only [Act.put, List.setIfInBounds_toArray, List.set_cons_zero, List.set_cons_succ]
          refine wpAnyH_take (i := 17) (v := ?_) (by simp only [List.getElem?_toArray, List.getElem?_cons_succ, List.getElem?_cons_zero]; rfl) (by kernel_rfl) (by kernel_rfl) (by kernel_rfl) (by exact fun _ _ _ h => h) ?_ hHeld ?_
          rotate_left
          · refine Or.inl ⟨by rfl, ?_⟩
            rintro W ⟨s0, s1, s2, s3⟩
            go_simp
            with_reducible rfl
          try simp only [Act.put, List.setIfInBounds_toArray, List.set_cons_zero, List.set_cons_succ]
          refine wpAnyH_take (i := 18) (v := ?_) (by simp only [List.getElem?_toArray, List.getElem?_cons_succ, List.getElem?_cons_zero]; rfl) (by kernel_rfl) (by kernel_rfl) (by kernel_rfl) (by exact fun _ _ _ h => h) ?_ hHeld ?_
          rotate_left
          · refine Or.inl ⟨by rfl, ?_⟩
            rintro W ⟨s0, s1, s2, s3⟩
            go_simp
            with_reducible rfl
          try simp only [Act.put, List.setIfInBounds_toArray, List.set_cons_zero, List.set_cons_succ]
          refine wpAnyH_take (i := 19) (v := ?_) (by simp only [List.getElem?_toArray, List.getElem?_cons_succ, List.getElem?_cons_zero]; rfl) (by kernel_rfl) (by kernel_rfl) (by kernel_rfl) (by exact fun _ _ _ h => h) ?_ hHeld ?_
          rotate_left
          · refine Or.inl ⟨by rfl, ?_⟩
            rintro W ⟨s0, s1, s2, s3⟩
            go_simp
            with_reducible rfl
          try simp only [Act.put, List.setIfInBounds_toArray, List.set_cons_zero, List.set_cons_succ]
          refine wpAnyH_ready (rs := [20]) (by kernel_rfl) (by simp) (AllReadyH.cons rfl (fun K hK => ?_) AllReadyH.nil)
          go_simp
          go_at_call 48
          refine (TS.out _ (by repeat (first | exact Keep.refl _ _ | refine Keep.drew ?_ | refine Keep.drewN ?_ _))).mono ?_
          rintro e w6 ⟨rfl, hst, hn⟩
          have HST6 : Hid (Stay wc w6) := Stay.trans (Stay.keep (by repeat (first | exact Keep.refl _ _ | refine Keep.drew ?_ | refine Keep.drewN ?_ _))) hst
          have HN6 := Lib.hid hn
          clear hst hn
          have HX6 := Lib.hid (HST6.out.blk _ _ _ (by decide) (by decide) (by decide) HS2.out.xb)
          have HA6 := Lib.hid (HST6.out.blk _ _ _ (by decide) (by decide) (by decide) HAB.out)
          clear hHeld
          have hHeld : World.cell? w6 ⟨px, 0, none⟩ = some (.slice A2 X2.length c2) ∧ World.cell? w6 ⟨px, 1, none⟩ = some (.bool false) ∧ World.cell? w6 ⟨px, 2, none⟩ = some (.bool ll2) ∧ World.cell? w6 ⟨pb, 2, none⟩ = some (.int .u64 (ai : Int)) := ⟨HX6.out.cell 0, HX6.out.cell 1, HX6.out.cell 2, HA6.out.cell 2⟩
          go_simp
          refine hK.out _ _ hHeld (fun _ => ?_)
          clear hK K
          try simp only [Act.put, List.setIfInBounds_toArray, List.set_cons_zero, List.set_cons_succ]
          refine wpAnyH_take (i := 21) (v := ?_) (by simp only [List.getElem?_toArray, List.getElem?_cons_succ, List.getElem?_cons_zero]; rfl) (by kernel_rfl) (by kernel_rfl) (by kernel_rfl) (by exact fun _ _ _ h => h) ?_ hHeld ?_
          rotate_left
          · refine Or.inl ⟨by rfl, ?_⟩
            rintro W ⟨s0, s1, s2, s3⟩
            go_simp
            with_reducible rfl
          try simp only [Act.put, List.setIfInBounds_toArray, List.set_cons_zero, List.set_cons_succ]
          refine wpAnyH_take (i := 22) (v := ?_) (by simp only [List.getElem?_toArray, List.getElem?_cons_succ, List.getElem?_cons_zero]; rfl) (by kernel_rfl) (by kernel_rfl) (by kernel_rfl) (by exact fun _ _ _ h => h) ?_ hHeld ?_
          rotate_left
          · refine Or.inl ⟨by rfl, ?_⟩
            rintro W ⟨s0, s1, s2, s3⟩
            go_simp
            with_reducible rfl
          try simp only [Act.put, List.setIfInBounds_toArray, List.set_cons_zero, List.set_cons_succ]
          refine wpAnyH_done (by kernel_rfl) ?_ _
          clear hHeld
          go_wp2
          go_roundw
          case rel => exact ⟨k + 1, false, ll2, D2, X2, _, by omega, by omega, by go_num, HN6.out, HS2.out.fit, HST6.out.own _ _ _ HS2.out.own, HX6.out⟩
          case measure => simp [intOf]; omega
        case true =>
          cases ll2
          case false =>
            have HC9 : Hid (∀ W, Keep [] wc W → World.cell? W ⟨px, 0, none⟩ = some (.slice A2 X2.length c2) ∧ World.cell? W ⟨px, 1, none⟩ = some (.bool true) ∧ World.cell? W ⟨px, 2, none⟩ = some (.bool false) ∧ World.cell? W ⟨pb, 2, none⟩ = some (.int .u64 (ai : Int))) := fun W hW => by
              have h1 := HS2.out.xb.keep hW (by simp)
              exact ⟨h1.cell 0, h1.cell 1, h1.cell 2, (HAB.out.keep hW (by simp)).cell 2⟩
            have TU : Hid (∀ W, Keep [] wc W → Calls Tryz.prog 43 #[.pointer (some ⟨n, 0, none⟩)] W fun e w' => e = .returned (.bool true) ∧ W = w') := fun W hW => (HS2.out.pn.grow hW).up
            have TS : Hid (∀ W, Keep [] wc W → Calls Tryz.prog 48 #[.pointer (some ⟨n, 0, none⟩), .agg #[.slice A2 X2.length c2, .bool true, .bool false], .int .u64 (ai : Int)] W fun e w' => e = .returned (.bool true) ∧ Stay W w' ∧ PN true false w w' n b m (2 + 3 * (k + 1)) D2 X2) := fun W hW => shows_calls (HS2.out.pn.grow hW) (HS2.out.own.keep2 hW (by simp)) (by omega) ai
            go_upto_region 44 with fail
            go_region_held3 (fun w' => World.cell? w' ⟨px, 0, none⟩ = some (.slice A2 X2.length c2) ∧ World.cell? w' ⟨px, 1, none⟩ = some (.bool true) ∧ World.cell? w' ⟨px, 2, none⟩ = some (.bool false) ∧ World.cell? w' ⟨pb, 2, none⟩ = some (.int .u64 (ai : Int)))
              (first
                | (exact ⟨HX6.out.cell 0, HX6.out.cell 1, HX6.out.cell 2, HA6.out.cell 2⟩)
                | (exact HC9.out _ (by repeat (first | exact Keep.refl _ _ | refine Keep.drew ?_ | refine Keep.drewN ?_ _)))
                | fail)
              (first
                | (go_at_call 43; refine (TU.out _ (by repeat (first | exact Keep.refl _ _ | refine Keep.drew ?_ | refine Keep.drewN ?_ _))).mono ?_; rintro e w5 ⟨rfl, rfl⟩)
                | (go_at_call 48; refine (TS.out _ (by repeat (first | exact Keep.refl _ _ | refine Keep.drew ?_ | refine Keep.drewN ?_ _))).mono ?_; rintro e w6 ⟨rfl, hst, hn⟩; have HST6 : Hid (Stay wc w6) := Stay.trans (Stay.keep (by repeat (first | exact Keep.refl _ _ | refine Keep.drew ?_ | refine Keep.drewN ?_ _))) hst; have HN6 := Lib.hid hn; have HX6 := Lib.hid (HST6.out.blk _ _ _ (by decide) (by decide) (by decide) HS2.out.xb); have HA6 := Lib.hid (HST6.out.blk _ _ _ (by decide) (by decide) (by decide) HAB.out); clear hst hn)
                | fail)
            all_goals
              go_wp2
              go_roundw
              case rel => exact ⟨k + 1, true, false, D2, X2, _, by omega, by omega, by go_num, HN6.out, HS2.out.fit, HST6.out.own _ _ _ HS2.out.own, HX6.out⟩
              case measure => simp [intOf]; omega
          case true =>
            have HC9 : Hid (∀ W, Keep [] wc W → World.cell? W ⟨px, 0, none⟩ = some (.slice A2 X2.length c2) ∧ World.cell? W ⟨px, 1, none⟩ = some (.bool true) ∧ World.cell? W ⟨px, 2, none⟩ = some (.bool true) ∧ World.cell? W ⟨pb, 2, none⟩ = some (.int .u64 (ai : Int))) := fun W hW => by
              have h1 := HS2.out.xb.keep hW (by simp)
              exact ⟨h1.cell 0, h1.cell 1, h1.cell 2, (HAB.out.keep hW (by simp)).cell 2⟩
            have TU : Hid (∀ W, Keep [] wc W → Calls Tryz.prog 43 #[.pointer (some ⟨n, 0, none⟩)] W fun e w' => e = .returned (.bool false) ∧ W = w') := fun W hW => (HS2.out.pn.grow hW).up
            have TS : Hid (∀ W, Keep [] wc W → Calls Tryz.prog 48 #[.pointer (some ⟨n, 0, none⟩), .agg #[.slice A2 X2.length c2, .bool true, .bool true], .int .u64 (ai : Int)] W fun e w' => e = .returned (.bool true) ∧ Stay W w' ∧ PN true true w w' n b m (2 + 3 * (k + 1)) D2 X2) := fun W hW => shows_calls (HS2.out.pn.grow hW) (HS2.out.own.keep2 hW (by simp)) (by omega) ai
            go_upto_region 44 with fail
            go_region_held3 (fun w' => World.cell? w' ⟨px, 0, none⟩ = some (.slice A2 X2.length c2) ∧ World.cell? w' ⟨px, 1, none⟩ = some (.bool true) ∧ World.cell? w' ⟨px, 2, none⟩ = some (.bool true) ∧ World.cell? w' ⟨pb, 2, none⟩ = some (.int .u64 (ai : Int)))
              (first
                | (exact ⟨HX6.out.cell 0, HX6.out.cell 1, HX6.out.cell 2, HA6.out.cell 2⟩)
                | (exact HC9.out _ (by repeat (first | exact Keep.refl _ _ | refine Keep.drew ?_ | refine Keep.drewN ?_ _)))
                | fail)
              (first
                | (go_at_call 43; refine (TU.out _ (by repeat (first | exact Keep.refl _ _ | refine Keep.drew ?_ | refine Keep.drewN ?_ _))).mono ?_; rintro e w5 ⟨rfl, rfl⟩)
                | (go_at_call 48; refine (TS.out _ (by repeat (first | exact Keep.refl _ _ | refine Keep.drew ?_ | refine Keep.drewN ?_ _))).mono ?_; rintro e w6 ⟨rfl, hst, hn⟩; have HST6 : Hid (Stay wc w6) := Stay.trans (Stay.keep (by repeat (first | exact Keep.refl _ _ | refine Keep.drew ?_ | refine Keep.drewN ?_ _))) hst; have HN6 := Lib.hid hn; have HX6 := Lib.hid (HST6.out.blk _ _ _ (by decide) (by decide) (by decide) HS2.out.xb); have HA6 := Lib.hid (HST6.out.blk _ _ _ (by decide) (by decide) (by decide) HAB.out); clear hst hn)
                | fail)
            all_goals
              go_wp2
              go_roundw
              case rel => exact ⟨k + 1, true, true, D2, X2, _, by omega, by omega, by go_num, HN6.out, HS2.out.fit, HST6.out.own _ _ _ HS2.out.own, HX6.out⟩
              case measure => simp [intOf]; omega
    · have hcase : k = l.length ∨ k = 30 ∧ k < l.length := by omega
      clear h
      rcases hcase with rfl | ⟨hk8, hlt8⟩
      · have d1 : decide ((l.length : Int) < (l.length : Int)) = false := by simp
        go_wp2
        go_ret
        exact ⟨rfl, H.out.pn.keep⟩
      · have d1 : decide ((k : Int) < (l.length : Int)) = true := by simp; omega
        have d1n : decide (k < l.length) = true := by simpa using hlt8
        have d2 : decide ((k : Int) < 30) = false := by simp; omega
        have d2n : decide (k < 30) = false := by simp; omega
        go_wp2
        go_ret
        exact ⟨rfl, H.out.pn.keep⟩

end Go.Proofs.YtkplffkchanipaaGreatDoor
