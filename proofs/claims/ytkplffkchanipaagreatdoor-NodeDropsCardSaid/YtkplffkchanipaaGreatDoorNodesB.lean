/- A node's Drop. -/
import Derived.Test.YtkplffkchanipaaGreatDoorNodesA
namespace Go.Proofs.YtkplffkchanipaaGreatDoor
open Go.RowKit
attribute [local go_sem] size_bs bs_append ba_self
variable {w w' w0 : World} {n s b m g c : Nat} {C C' : Ck} {D D' : Dk} {X : List (Nat × List UInt8)}

theorem NdUp.setc (h : NdUp w0 w n s b m g c C D) (k : Nat) :
    NdUp w0 (w.setCell ⟨n, 2, none⟩ (.int .i64 (k : Int))) n s b m g k C D ∧ Keep [n] w (w.setCell ⟨n, 2, none⟩ (.int .i64 (k : Int))) := by
  have hk : Keep [n] w (w.setCell ⟨n, 2, none⟩ (.int .i64 (k : Int))) := (Keep.refl _ _).setCell (.inl (by simp)) _
  have hb : Blk (w.setCell ⟨n, 2, none⟩ (.int .i64 (k : Int))) n 69 (nodeV b (.pointer (some ⟨s, 0, none⟩)) k) := h.blk.set_ 2 _
  obtain ⟨h1, h2, h3, h4⟩ := h.ne_
  refine ⟨⟨hb, h.at_.keep hk fun x hx => ?_, h.lo, h.keep.trans' hk fun x hx => h.sub x (by simp at hx ⊢; simp [hx])⟩, hk⟩
  simp only [List.mem_cons, List.not_mem_nil, or_false] at hx
  subst hx
  exact ⟨by simp [h1, h2, h3, h4], (h.at_.tab.ne_node h.blk).symm⟩
theorem NdUp.ids_ (h : NdUp w0 w n s b m g c C D) (hH : Hot C D X) (hX : X.length ≤ 1000) :
    Calls Tryz.prog 22 #[.pointer (some ⟨s, 0, none⟩)] w fun e w' => ∃ A cap, e = .returned (.slice A X.length cap) ∧ NdUp w0 w' n s b m g c C D ∧ Keep [] w w' := by
  have T := ids_calls h.at_ hH.sure.ok (by rw [hH.maplen]; omega)
  rw [hH.keys] at T
  refine T.mono ?_
  rintro e w' ⟨v, rfl, ⟨A, cap, rfl, _⟩, hk⟩
  exact ⟨A, cap, by rw [List.length_map], h.grow hk, hk⟩
theorem NdUp.compact_ (h : NdUp w0 w n s b m g c C D) (hH : Hot C D X) (hf : FitX X) (hX : X.length ≤ 1000) (hs : C.seg + 2 < 100) :
    Calls Tryz.prog 26 #[.pointer (some ⟨s, 0, none⟩)] w fun e w' => ∃ g', e = .returned (.int .i64 (C.compact D).2.2) ∧ NdUp w0 w' n s b m g' c (C.compact D).1 (C.compact D).2.1 ∧ Keep [n, s, b, m, g] w w' := by
  refine (compact_calls h.at_ hH.sure hf hX hs).mono ?_
  rintro e w' ⟨g', rfl, h1, h2, h3⟩
  obtain ⟨n1, n2, n3, n4⟩ := h.ne_
  have hsz := h.keep.size
  have hlo := h.lo
  exact ⟨g', rfl, ⟨h.blk.keep h3 (by simp [n1, n2, n3]), h1, ⟨hlo.1, hlo.2.1, hlo.2.2.1, hlo.2.2.2.1, by rcases h2 with rfl | h2 <;> omega⟩, h.keep.trans' h3 fun x hx => h.sub x (by simp at hx ⊢; rcases hx with hx | hx | hx <;> simp [hx])⟩, h3.mono (by simp)⟩

set_option maxRecDepth 100000 in
set_option maxHeartbeats 400000 in
theorem ndrop_none (h : NdUp w0 w n s b m g c C D) (hH : Hot C D X) (hs : C.seg + 1 < 100) {i : Nat} (hi : i < 18446744073709551616) (hx : lookX i X = none) :
    Calls Tryz.prog 34 #[.pointer (some ⟨n, 0, none⟩), .int .u64 (i : Int)] w fun e w' => e = .returned (.int .i64 5) ∧ NdUp w0 w' n s b m g c C D ∧ Keep [n, s, b, m, g] w w' := by
  have hS := hH.sure
  have HU := Lib.hid (h.up_ hH.lost)
  have z1 : w.cell? ⟨n, 1, none⟩ = some (.pointer (some ⟨s, 0, none⟩)) := h.blk.cell 1
  have TD := h.drop_ hS.ok hS.here.good hS.seg hs hH.size_le i hi
  rw [hH.dropK_none hx] at TD
  have HD := Lib.hid TD
  clear h hH hx hS TD
  go_enter Tryz.func34, Tryz.ntmps34
  go_wp2_with (first
    | (go_at_call 43; refine HU.out.mono ?_; rintro e w1 ⟨rfl, rfl⟩)
    | (go_at_call 55; refine HD.out.mono ?_; rintro e w2 ⟨rfl, hu, hk⟩; have HU2 := Lib.hid (And.intro hu hk); clear hu hk)
    | (go_at_call 73; refine (nafter_id _ n 5 rfl rfl).mono ?_; rintro e w3 ⟨rfl, rfl⟩))
  go_ret
  exact ⟨rfl, HU2.out⟩

/-- What a Drop leaves of a chunk's node. -/
def NDropRel (w0 : World) (n s b m c : Nat) (C : Ck) (D : Dk) (X X1 : List (Nat × List UInt8)) (e : Ending) (w' : World) : Prop :=
  ∃ g' c' C' D' X', c' ≤ 1000 ∧
    ((e = .returned (.int .i64 8) ∧ D.armed ≠ 0 ∧ NdDown w0 w' n b m c' D' ∧ Cold D' X' (C.seg + 3) ∧ (X' = X ∨ X' = X1) ∧ D'.room = D.room) ∨
     (e = .returned (.int .i64 7) ∧ NdUp w0 w' n s b m g' c' C' D' ∧ Hot C' D' X ∧ Grown C D C' D' 50 ∧ D.room < D.used + 50) ∨
     (e = .returned (.int .i64 0) ∧ NdUp w0 w' n s b m g' c' C' D' ∧ Hot C' D' X1 ∧ C'.seg ≤ C.seg + 3 ∧ C'.limit = C.limit ∧ D'.room = D.room ∧ (D.armed = 0 → D'.armed = 0) ∧
       ∃ C2 D2, Hot C2 D2 X1 ∧ Grown C D C2 D2 50 ∧ ((c + 1 ≤ X1.length ∧ C' = C2 ∧ D' = D2) ∨ (X1.length < c + 1 ∧ C' = (C2.compact D2).1 ∧ D' = (C2.compact D2).2.1))))

set_option maxRecDepth 100000 in
set_option maxHeartbeats 1600000 in
theorem ndrop_there (h : NdUp w0 w n s b m g c C D) (hH : Hot C D X) (hs : C.seg + 3 < 100) {i : Nat} (hi : i < 18446744073709551616) (hx : (lookX i X).isSome = true) (hf : FitX X) (hX : X.length ≤ 1000) (hc : c ≤ 1000) :
    Calls Tryz.prog 34 #[.pointer (some ⟨n, 0, none⟩), .int .u64 (i : Int)] w fun e w' => Keep [n, s, b, m, g] w w' ∧ NDropRel w0 n s b m c C D X (dropX i X) e w' := by
  have hS := hH.sure
  have HU := Lib.hid (h.up_ hH.lost)
  have z1 : w.cell? ⟨n, 1, none⟩ = some (.pointer (some ⟨s, 0, none⟩)) := h.blk.cell 1
  have TP := h.drop_ hS.ok hS.here.good hS.seg (by omega) hH.size_le i hi
  have hst := hH.dropK (by omega) hi hx
  have hf1 := fit_drop hf i
  have hX1 : (dropX i X).length ≤ 1000 := Nat.le_trans (List.length_filter_le _ _) hX
  generalize dropX i X = X1 at *
  generalize C.dropK D i = r at *
  obtain ⟨C1, D1, e1⟩ := r
  simp only at TP
  have HP := Lib.hid TP
  clear h hH hx TP hf
  rcases hst with ⟨a1, a2, a3, a4, a5⟩ | ⟨a1, a2, a3, a4⟩ | ⟨a1, a2, a3, a4, a5⟩
  · simp only at a1 a3 a4 a5
    subst a1
    have HA : Hid (∀ W, NdUp w0 W n s b m g c C1 D1 → _) := fun W hW => nafter_stop hW a3
    have HE := Lib.hid (And.intro a2 (And.intro (a4.mono (Nat.add_le_add_left (show 1 ≤ 3 by decide) C.seg)) a5))
    clear a2 a3 a4 a5 hS
    go_enter Tryz.func34, Tryz.ntmps34
    go_wp2_with (first
      | (go_at_call 43; refine HU.out.mono ?_; rintro e w1 ⟨rfl, rfl⟩)
      | (go_at_call 55; refine HP.out.mono ?_; rintro e w2 ⟨rfl, hu, hk⟩; have HU2 := Lib.hid hu; have HK2 := Lib.hid hk; clear hu hk)
      | (go_at_call 73; refine (HA.out _ HU2.out).mono ?_; rintro e w3 ⟨rfl, hu, hk⟩; have HU3 := Lib.hid hu; have HK3 := Lib.hid hk; clear hu hk))
    go_ret
    exact ⟨HK2.out.trans (HK3.out.mono (by simp)), g, c, C1, _, X, hc, .inl ⟨rfl, by rw [HE.out.1]; decide, HU3.out, HE.out.2.1, .inl rfl, HE.out.2.2⟩⟩
  · simp only at a1 a2 a3
    subst a1
    have HE := Lib.hid (And.intro a2 (And.intro a3 a4))
    clear a2 a3 a4 hS
    go_enter Tryz.func34, Tryz.ntmps34
    go_wp2_with (first
      | (go_at_call 43; refine HU.out.mono ?_; rintro e w1 ⟨rfl, rfl⟩)
      | (go_at_call 55; refine HP.out.mono ?_; rintro e w2 ⟨rfl, hu, hk⟩; have HU2 := Lib.hid hu; have HK2 := Lib.hid hk; clear hu hk)
      | (go_at_call 73; refine (nafter_id _ n 7 rfl rfl).mono ?_; rintro e w3 ⟨rfl, rfl⟩))
    go_ret
    exact ⟨HK2.out, g, c, C1, D1, X, hc, .inr (.inl ⟨rfl, HU2.out, HE.out⟩)⟩
  · simp only at a1 a2 a3 a4 a5
    subst a1
    have TS := fun (W : World) (hW : NdUp w0 W n s b m g c C1 D1) => hW.sync_ a2.ok a3 a4
    generalize C1.sync D1 = q at *
    obtain ⟨C2, D2, e2⟩ := q
    simp only at TS a5
    have HS := Lib.hid TS
    clear TS a2 a3 a4 hS
    rcases a5 with ⟨b1, b2, b3, b4, b5⟩ | ⟨b1, b2, b3⟩
    · subst b1
      have HA : Hid (∀ W, NdUp w0 W n s b m g c C2 D2 → _) := fun W hW => nafter_stop hW b3
      have HE := Lib.hid (And.intro b2 (And.intro (b4.mono (Nat.add_le_add_left (show 1 ≤ 3 by decide) C.seg)) b5))
      clear b2 b3 b4 b5
      go_enter Tryz.func34, Tryz.ntmps34
      go_wp2_with (first
        | (go_at_call 43; refine HU.out.mono ?_; rintro e w1 ⟨rfl, rfl⟩)
        | (go_at_call 55; refine HP.out.mono ?_; rintro e w2 ⟨rfl, hu, hk⟩; have z1b : w2.cell? ⟨n, 1, none⟩ = some (.pointer (some ⟨s, 0, none⟩)) := hu.blk.cell 1; have HU2 := Lib.hid hu; have HK2 := Lib.hid hk; clear hu hk)
        | (go_at_call 21; refine (HS.out _ HU2.out).mono ?_; rintro e w3 ⟨rfl, hu, hk⟩; have HU3 := Lib.hid hu; have HK3 := Lib.hid hk; clear hu hk)
        | (go_at_call 73; refine (HA.out _ HU3.out).mono ?_; rintro e w4 ⟨rfl, hu, hk⟩; have HU4 := Lib.hid hu; have HK4 := Lib.hid hk; clear hu hk))
      go_ret
      exact ⟨(HK2.out.trans HK3.out).trans (HK4.out.mono (by simp)), g, c, C1, _, X, hc, .inl ⟨rfl, by have := HE.out.1; omega, HU4.out, HE.out.2.1, .inl rfl, HE.out.2.2⟩⟩
    · subst b1
      have hcp := b2.compact hf1 hX1 (by have := b3.seg; omega)
      have TC := fun (W : World) (k : Nat) (hW : NdUp w0 W n s b m g k C2 D2) => hW.compact_ b2 hf1 hX1 (by have := b3.seg; omega)
      have TI := fun (W : World) (k : Nat) (hW : NdUp w0 W n s b m g k C2 D2) => hW.ids_ b2 hX1
      have HI := Lib.hid TI
      clear TI
      have hsg := b3.seg
      have HB2 := Lib.hid (And.intro b2 b3)
      clear b2 b3
      obtain ⟨R, hR⟩ : ∃ R, R = C2.compact D2 := ⟨_, rfl⟩
      rw [← hR] at hcp TC
      have HRE := Lib.hid hR
      clear hR
      obtain ⟨C3, D3, e3⟩ := R
      simp only at hcp TC
      have HTC := Lib.hid TC
      have HCP := Lib.hid hcp
      clear TC hcp hf1
      go_enter Tryz.func34, Tryz.ntmps34
      go_upto_region 10 with (first
        | (go_at_call 43; refine HU.out.mono ?_; rintro e w1 ⟨rfl, rfl⟩)
        | (go_at_call 55; refine HP.out.mono ?_; rintro e w2 ⟨rfl, hu, hk⟩; have z1b : w2.cell? ⟨n, 1, none⟩ = some (.pointer (some ⟨s, 0, none⟩)) := hu.blk.cell 1; have HU2 := Lib.hid hu; have HK2 := Lib.hid hk; clear hu hk)
        | (go_at_call 21; refine (HS.out _ HU2.out).mono ?_; rintro e w3 ⟨rfl, hu, hk⟩; have z2c : w3.cell? ⟨n, 2, none⟩ = some (.int .i64 (c : Int)) := hu.blk.cell 2; have f2c := hu.blk.frozen 2; have HU3 := Lib.hid hu; have HK3 := Lib.hid hk; clear hu hk))
      have hsc : NdUp w0 (w3.setCell ⟨n, 2, none⟩ (.int .i64 ((c : Int) + 1))) n s b m g (c + 1) C2 D2 ∧ Keep [n] w3 (w3.setCell ⟨n, 2, none⟩ (.int .i64 ((c : Int) + 1))) := HU3.out.setc (c + 1)
      generalize w3.setCell ⟨n, 2, none⟩ (.int .i64 ((c : Int) + 1)) = wa at *
      obtain ⟨hua, hka⟩ := hsc
      have HKA : Hid (Keep [n, s, b, m, g] w wa) := (HK2.out.trans HK3.out).trans (hka.mono (by simp))
      have HUA := Lib.hid hua
      have HC9 : Hid (∀ W, Keep [] wa W → W.cell? ⟨n, 1, none⟩ = some (.pointer (some ⟨s, 0, none⟩)) ∧ W.cell? ⟨n, 2, none⟩ = some (.int .i64 ((c : Int) + 1))) := fun W hW => ⟨(hua.blk.keep hW (by simp)).cell 1, (hua.blk.keep hW (by simp)).cell 2⟩
      clear hua hka z1b z2c f2c
      go_region_held3 (fun w' => w'.cell? ⟨n, 1, none⟩ = some (.pointer (some ⟨s, 0, none⟩)) ∧ w'.cell? ⟨n, 2, none⟩ = some (.int .i64 ((c : Int) + 1)))
        (first
          | (exact HC9.out _ (by repeat (first | exact Keep.refl _ _ | exact HK4.out | refine Keep.drew ?_ | refine Keep.drewN ?_ _ | refine Keep.alloc ?_ _)))
          | fail)
        (first
          | (go_at_call 22; refine (HI.out _ _ (HUA.out.grow (by repeat (first | exact Keep.refl _ _ | exact HK4.out | refine Keep.drew ?_ | refine Keep.drewN ?_ _ | refine Keep.alloc ?_ _)))).mono ?_; rintro e w4 ⟨A, cap, rfl, hu4, hk4⟩; have HK4 : Hid (Keep [] wa w4) := Keep.trans (M := []) (by repeat (first | exact Keep.refl _ _ | exact HK4.out | refine Keep.drew ?_ | refine Keep.drewN ?_ _ | refine Keep.alloc ?_ _)) hk4; have HU4 := Lib.hid hu4; clear hu4 hk4)
          | fail)
      by_cases hle : c + 1 ≤ X1.length
      · have d1 : decide ((c : Int) + 1 ≤ (X1.length : Int)) = true := decide_eq_true (by omega)
        go_wp2
        go_ret
        have hG := HB2.out.2
        exact ⟨HKA.out.trans (HK4.out.mono (by simp)), g, c + 1, C2, D2, X1, by omega, .inr (.inr ⟨rfl, HU4.out, HB2.out.1, by have := hG.seg; omega, hG.limit, hG.room, hG.luck, C2, D2, HB2.out.1, hG, .inl ⟨hle, rfl, rfl⟩⟩)⟩
      · have d1 : decide ((c : Int) + 1 ≤ (X1.length : Int)) = false := decide_eq_false (by omega)
        have z1d : w4.cell? ⟨n, 1, none⟩ = some (.pointer (some ⟨s, 0, none⟩)) := HU4.out.blk.cell 1
        have f2d := HU4.out.blk.frozen 2
        have h0 : NdUp w0 (w4.setCell ⟨n, 2, none⟩ (.int .i64 0)) n s b m g 0 C2 D2 ∧ Keep [n] w4 (w4.setCell ⟨n, 2, none⟩ (.int .i64 0)) := HU4.out.setc 0
        have HU5 := Lib.hid h0.1
        have HK5 : Hid (Keep [n, s, b, m, g] w (w4.setCell ⟨n, 2, none⟩ (.int .i64 0))) := (HKA.out.trans (HK4.out.mono (by simp))).trans (h0.2.mono (by simp))
        have hle2 : X1.length < c + 1 := by omega
        have HL := Lib.hid hle2
        clear h0 HI HC9
        obtain ⟨hh, hcp⟩ := HCP.out
        rcases hcp with ⟨e8, p1, p2, p3⟩ | ⟨e7, p1, p2, p3, p4, p5⟩
        · subst e8
          have HA : Hid (∀ W g, NdUp w0 W n s b m g 0 C3 D3 → _) := fun W g hW => nafter_stop hW hh
          have HE := Lib.hid (And.intro p1 (And.intro p2 p3))
          clear p1 p2 p3 hh
          go_wp2_with (first
            | (go_at_call 26; refine (HTC.out _ 0 HU5.out).mono ?_; rintro e w6 ⟨g', rfl, hu, hk⟩; have HU6 := Lib.hid hu; have HK6 := Lib.hid hk; clear hu hk)
            | (go_at_call 73; refine (HA.out _ _ HU6.out).mono ?_; rintro e w7 ⟨rfl, hu, hk⟩; have HU7 := Lib.hid hu; have HK7 := Lib.hid hk; clear hu hk))
          go_ret
          have hG := HB2.out.2
          exact ⟨(HK5.out.trans HK6.out).trans (HK7.out.mono (by simp)), g, 0, C3, _, X1, by omega, .inl ⟨rfl, fun e => HE.out.1 (hG.luck e), HU7.out, HE.out.2.1.mono (by have := hG.seg; omega), .inr rfl, HE.out.2.2.trans hG.room⟩⟩
        · have HE := Lib.hid (And.intro p1 (And.intro p2 (And.intro p3 (And.intro p4 p5))))
          clear p1 p2 p3 p4 p5 hh
          rcases e7 with e7 | e7
          all_goals
            subst e7
            go_wp2_with (first
              | (go_at_call 26; refine (HTC.out _ 0 HU5.out).mono ?_; rintro e w6 ⟨g', rfl, hu, hk⟩; have HU6 := Lib.hid hu; have HK6 := Lib.hid hk; clear hu hk))
            go_ret
            have hG := HB2.out.2
            obtain ⟨p1, p2, p3, p4, p5⟩ := HE.out
            have hR := HRE.out
            exact ⟨HK5.out.trans HK6.out, g', 0, C3, D3, X1, by omega, .inr (.inr ⟨rfl, HU6.out, p1, by have := hG.seg; omega, p3.trans hG.limit, p4.trans hG.room, fun e => p5 (hG.luck e), C2, D2, HB2.out.1, hG, .inr ⟨HL.out, by rw [← hR], by rw [← hR]⟩⟩)⟩

end Go.Proofs.YtkplffkchanipaaGreatDoor
/- A node's Verified and Sure. -/
namespace Go.Proofs.YtkplffkchanipaaGreatDoor
open Go.RowKit
attribute [local go_sem] size_bs bs_append ba_self
variable {w w' w0 : World} {n s b m g c : Nat} {C C' : Ck} {D D' : Dk} {X : List (Nat × List UInt8)}

theorem Dk.arm_id (h : D.armed = 0) : D.arm 0 = D := by
  cases D
  simp only at h
  subst h
  rfl
theorem nget_calm (h : NdUp w0 w n s b m g c C D) (hH : Hot C D X) (ha : D.armed = 0) {i : Nat} {d0 : List UInt8} (hi : lookX i X = some d0) :
    Calls Tryz.prog 33 #[.pointer (some ⟨n, 0, none⟩), .int .u64 (i : Int)] w fun e w' => e = .returned (.tuple #[.string (bs d0), .int .i64 0]) ∧ NdUp w0 w' n s b m g c C D ∧ Keep [n, s, b, m, g] w w' := by
  refine (nget_there h hH hi).mono ?_
  rintro e w' ⟨hk, ⟨_, h1, _⟩ | ⟨a, h1, h2, h3, _⟩⟩
  · rw [ha] at h1
    exact absurd h1 (by decide)
  · rw [h3 ha, Dk.arm_id ha] at h2
    exact ⟨h1, h2, hk⟩

set_option maxRecDepth 100000 in
set_option maxHeartbeats 400000 in
theorem nver_ok (h : NdUp w0 w n s b m g c C D) (hH : Hot C D X) (ha : D.armed = 0) {i : Nat} {d0 : List UInt8} (hi : lookX i X = some d0) (hd : d0.length ≤ 4611686018427387904) :
    Calls Tryz.prog 77 #[.pointer (some ⟨n, 0, none⟩), .int .u64 (i : Int), .int .i64 (d0.length : Int), .int .u32 (crc d0)] w fun e w' => e = .returned (.tuple #[.string (bs d0), .int .i64 0]) ∧ NdUp w0 w' n s b m g c C D ∧ Keep [n, s, b, m, g] w w' := by
  have HG := Lib.hid (nget_calm h hH ha hi)
  clear h hH hi ha
  go_enter Tryz.func77, Tryz.ntmps77
  go_wp2_with (first | (go_at_call 33; refine HG.out.mono ?_; rintro e w1 ⟨rfl, hu, hk⟩; have HU1 := Lib.hid hu; have HK1 := Lib.hid hk; clear hu hk) | (go_at_call 74; refine (sum1_calls d0 _ _ (HU1.out.at_.tab.keep ((Keep.refl [] _).alloc _) (by simp)) (Blk.new _ _ _) hd).mono ?_; rintro e w2 ⟨rfl, rfl⟩))
  go_ret2
  exact ⟨rfl, HU1.out.grow ((Keep.refl _ _).alloc _), HK1.out.trans (((Keep.refl [] _).alloc _).mono (by simp))⟩
set_option maxRecDepth 100000 in
set_option maxHeartbeats 400000 in
theorem nver_bad (h : NdUp w0 w n s b m g c C D) (hH : Hot C D X) (ha : D.armed = 0) {i : Nat} {d0 : List UInt8} (hi : lookX i X = some d0) (hd : d0.length ≤ 4611686018427387904) (q : Int) (hq : (crc d0 == q) = false) :
    Calls Tryz.prog 77 #[.pointer (some ⟨n, 0, none⟩), .int .u64 (i : Int), .int .i64 (d0.length : Int), .int .u32 q] w fun e w' => e = .returned (.tuple #[.string (bs []), .int .i64 4]) ∧ NdUp w0 w' n s b m g c C D ∧ Keep [n, s, b, m, g] w w' := by
  have HG := Lib.hid (nget_calm h hH ha hi)
  clear h hH hi ha
  go_enter Tryz.func77, Tryz.ntmps77
  go_wp2_with (first | (go_at_call 33; refine HG.out.mono ?_; rintro e w1 ⟨rfl, hu, hk⟩; have HU1 := Lib.hid hu; have HK1 := Lib.hid hk; clear hu hk) | (go_at_call 74; refine (sum1_calls d0 _ _ (HU1.out.at_.tab.keep ((Keep.refl [] _).alloc _) (by simp)) (Blk.new _ _ _) hd).mono ?_; rintro e w2 ⟨rfl, rfl⟩))
  go_ret2
  exact ⟨rfl, HU1.out.grow ((Keep.refl _ _).alloc _), HK1.out.trans (((Keep.refl [] _).alloc _).mono (by simp))⟩

theorem NdUp.sget (h : NdUp w0 w n s b m g c C D) (hH : Hot C D X) (ha : D.armed = 0) {i : Nat} {d0 : List UInt8} (hi : lookX i X = some d0) :
    Calls Tryz.prog 25 #[.pointer (some ⟨s, 0, none⟩), .int .u64 (i : Int)] w fun e w' => e = .returned (.tuple #[.string (bs d0), .int .i64 0]) ∧ NdUp w0 w' n s b m g c C D ∧ Keep [n, s, b, m, g] w w' := by
  have hS := hH.sure
  have T := h.get_ hS.ok hS.here.good i
  rcases hH.get hi with ⟨g1, g2, g3⟩ | ⟨a, g1, g2, g3, g4, g5⟩
  · rw [ha] at g2
    exact absurd g2 (by decide)
  · rw [g1, g2, g3 ha, Dk.arm_id ha] at T
    exact T
set_option maxRecDepth 100000 in
set_option maxHeartbeats 400000 in
theorem nsure_lost (h : NdUp w0 w n s b m g c C D) (hl : D.lost = true) (x y z : Int) :
    Calls Tryz.prog 40 #[.pointer (some ⟨n, 0, none⟩), .int .u64 x, .int .i64 y, .int .u32 z] w fun e w' => e = .returned (.bool false) ∧ w = w' := by
  have z0 : w.cell? ⟨n, 0, none⟩ = some (.pointer (some ⟨b, 0, none⟩)) := h.blk.cell 0
  have T := lost_calls h.at_.disk
  rw [hl] at T
  have HL := Lib.hid T
  clear h T hl
  go_enter Tryz.func40, Tryz.ntmps40
  go_wp2_with (go_at_call 44; refine HL.out.mono ?_; rintro e w0 ⟨rfl, rfl⟩)
  go_ret
  exact ⟨rfl, rfl⟩
set_option maxRecDepth 100000 in
set_option maxHeartbeats 400000 in
theorem nsure_up (h : NdUp w0 w n s b m g c C D) (hH : Hot C D X) (ha : D.armed = 0) {i : Nat} {d0 : List UInt8} (hi : lookX i X = some d0) (hd : d0.length ≤ 4611686018427387904) :
    Calls Tryz.prog 40 #[.pointer (some ⟨n, 0, none⟩), .int .u64 (i : Int), .int .i64 (d0.length : Int), .int .u32 (crc d0)] w fun e w' => e = .returned (.bool true) ∧ NdUp w0 w' n s b m g c C D ∧ Keep [n, s, b, m, g] w w' := by
  have z0 : w.cell? ⟨n, 0, none⟩ = some (.pointer (some ⟨b, 0, none⟩)) := h.blk.cell 0
  have z1 : w.cell? ⟨n, 1, none⟩ = some (.pointer (some ⟨s, 0, none⟩)) := h.blk.cell 1
  have T := lost_calls h.at_.disk
  rw [hH.lost] at T
  have HL := Lib.hid T
  have HG := Lib.hid (h.sget hH ha hi)
  clear h hH hi ha T
  go_enter Tryz.func40, Tryz.ntmps40
  go_wp2_with (first | (go_at_call 44; refine HL.out.mono ?_; rintro e w0 ⟨rfl, rfl⟩) | (go_at_call 25; refine HG.out.mono ?_; rintro e w1 ⟨rfl, hu, hk⟩; have HU1 := Lib.hid hu; have HK1 := Lib.hid hk; clear hu hk) | (go_at_call 74; refine (sum1_calls d0 _ _ (HU1.out.at_.tab.keep ((Keep.refl [] _).alloc _) (by simp)) (Blk.new _ _ _) hd).mono ?_; rintro e w2 ⟨rfl, rfl⟩))
  go_ret
  exact ⟨rfl, HU1.out.grow ((Keep.refl _ _).alloc _), HK1.out.trans (((Keep.refl [] _).alloc _).mono (by simp))⟩
set_option maxRecDepth 100000 in
set_option maxHeartbeats 400000 in
theorem nsure_long (h : NdUp w0 w n s b m g c C D) (hH : Hot C D X) (ha : D.armed = 0) {i : Nat} {d0 : List UInt8} (hi : lookX i X = some d0) (q y : Int) (hq : ((d0.length : Int) == q) = false) :
    Calls Tryz.prog 40 #[.pointer (some ⟨n, 0, none⟩), .int .u64 (i : Int), .int .i64 q, .int .u32 y] w fun e w' => e = .returned (.bool false) ∧ NdUp w0 w' n s b m g c C D ∧ Keep [n, s, b, m, g] w w' := by
  have z0 : w.cell? ⟨n, 0, none⟩ = some (.pointer (some ⟨b, 0, none⟩)) := h.blk.cell 0
  have z1 : w.cell? ⟨n, 1, none⟩ = some (.pointer (some ⟨s, 0, none⟩)) := h.blk.cell 1
  have T := lost_calls h.at_.disk
  rw [hH.lost] at T
  have HL := Lib.hid T
  have HG := Lib.hid (h.sget hH ha hi)
  clear h hH hi ha T
  go_enter Tryz.func40, Tryz.ntmps40
  go_wp2_with (first | (go_at_call 44; refine HL.out.mono ?_; rintro e w0 ⟨rfl, rfl⟩) | (go_at_call 25; refine HG.out.mono ?_; rintro e w1 ⟨rfl, hu, hk⟩; have HU1 := Lib.hid hu; have HK1 := Lib.hid hk; clear hu hk))
  go_ret
  exact ⟨rfl, HU1.out, HK1.out⟩
theorem NdDown.setd (h : NdDown w0 w n b m c D) (hk : Keep [b, m] w w') (hd : DiskAt w' b m D') : NdDown w0 w' n b m c D' := by
  obtain ⟨n1, n2⟩ := h.ne_
  exact ⟨h.blk.keep hk (by simp [n1, n2]), hd, h.tab.disk h.disk hk, h.lo, h.keep.trans' hk fun x hx => h.sub x (by simp at hx ⊢; rcases hx with hx | hx <;> simp [hx])⟩
set_option maxRecDepth 100000 in
set_option maxHeartbeats 800000 in
theorem nsure_down {k : Nat} (h : NdDown w0 w n b m c D) (hC : Cold D X k) (h1 : 1 ≤ k) (h2 : k < 100) (ha : D.armed = 0) {i : Nat} {d0 : List UInt8} (hi : lookX i X = some d0) (hd : d0.length ≤ 4611686018427387904) :
    Calls Tryz.prog 40 #[.pointer (some ⟨n, 0, none⟩), .int .u64 (i : Int), .int .i64 (d0.length : Int), .int .u32 (crc d0)] w fun e w' => e = .returned (.bool true) ∧ NdDown w0 w' n b m c D ∧ Keep [n, b, m] w w' := by
  have z0 : w.cell? ⟨n, 0, none⟩ = some (.pointer (some ⟨b, 0, none⟩)) := h.blk.cell 0
  have z1 : w.cell? ⟨n, 1, none⟩ = some (.pointer none) := h.blk.cell 1
  have T := lost_calls h.disk
  rw [hC.here.lost] at T
  have HL := Lib.hid T
  obtain ⟨hS, hN, hH, _⟩ := hC.opens h1 h2
  rw [Dk.arm_id ha] at hS hN hH
  have HT := Lib.hid (copen_calls h.disk h.tab hS hN (by have := hN.files_len; omega) 2000)
  have HG : Hid (∀ W s g, StoreAt W s b m g (D.opens 2000) D → Calls Tryz.prog 25 #[.pointer (some ⟨s, 0, none⟩), .int .u64 (i : Int)] W fun e w' => e = .returned (.tuple #[.string (bs d0), .int .i64 0]) ∧ StoreAt w' s b m g (D.opens 2000) D ∧ Keep [b, m] W w') := fun W s g hW => by
    have T := sget_calls hW hH.sure.ok hH.sure.here.good i
    rcases hH.get hi with ⟨g1, g2, g3⟩ | ⟨a, g1, g2, g3, g4, g5⟩
    · rw [ha] at g2
      exact absurd g2 (by decide)
    · rw [g1, g2, g3 ha, Dk.arm_id ha] at T
      exact T
  have H := Lib.hid h
  clear h hC hi ha T hS hN hH
  go_enter Tryz.func40, Tryz.ntmps40
  go_wp2_with (first
    | (go_at_call 44; refine HL.out.mono ?_; rintro e w0 ⟨rfl, rfl⟩)
    | (go_at_call 14; refine HT.out.mono ?_; rintro e w1 ⟨s, g, rfl, hs, -, -, hk⟩; have HS1 := Lib.hid hs; have HK1 := Lib.hid hk; clear hs hk)
    | (go_at_call 25; refine (HG.out _ _ _ HS1.out).mono ?_; rintro e w2 ⟨rfl, hs, hk⟩; have HS2 := Lib.hid hs; have HK2 : Hid (Keep [b, m] w w2) := HK1.out.trans hk; clear hs hk)
    | (go_at_call 74; refine (sum1_calls d0 _ _ (HS2.out.tab.keep ((Keep.refl [] _).alloc _) (by simp)) (Blk.new _ _ _) hd).mono ?_; rintro e w3 ⟨rfl, rfl⟩))
  go_ret
  exact ⟨rfl, H.out.setd (HK2.out.alloc _) (HS2.out.disk.alloc _), (HK2.out.alloc _).mono (by simp)⟩

end Go.Proofs.YtkplffkchanipaaGreatDoor
