/- A chunk store in memory; Has. -/
import Derived.Test.YtkplffkchanipaaGreatDoorChParse
import Derived.Test.YtkplffkchanipaaGreatDoorChHead
import Derived.Test.YtkplffkchanipaaGreatDoorUKeysA
import Derived.Test.YtkplffkchanipaaGreatDoorMapN
import Derived.Test.YtkplffkchanipaaGreatDoorDisks
import Derived.Test.YtkplffkchanipaaGreatDoorCk
import Derived.Test.YtkplffkchanipaaGreatDoorChName
import Derived.Deep.RegionHeld3
namespace Go.Proofs.YtkplffkchanipaaGreatDoor
open Go.RowKit
attribute [local go_sem] size_bs bs_append

/-- A store at block s, over the disk at b, m, its map at g. -/
structure StoreAt (w : World) (s b m g : Nat) (C : Ck) (D : Dk) : Prop where
  blk : Blk w s 94 (C.cells b g)
  disk : DiskAt w b m D
  map : MapN .u64 w g (pairs C.map)
  gm : g ≠ m
  tab : Tab w
  tn : 0 ∉ [s, b, m, g]
variable {w w' : World} {s b m g : Nat} {C : Ck} {D : Dk}
theorem StoreAt.keep {M : List Nat} (h : StoreAt w s b m g C D) (hk : Keep M w w') (hM : ∀ x ∈ M, x ∉ [s, b, m, g] ∧ x ≠ 0) : StoreAt w' s b m g C D := by
  have hn : ∀ y, y ∈ [s, b, m, g] → y ∉ M := fun y hy hx => (hM y hx).1 hy
  exact ⟨h.blk.keep hk (hn s (by simp)), h.disk.keep hk (hn b (by simp)) (hn m (by simp)), h.map.keep hk (hn g (by simp)), h.gm, h.tab.keep hk (fun hx => (hM _ hx).2 rfl), h.tn⟩
theorem StoreAt.grow (h : StoreAt w s b m g C D) (hk : Keep [] w w') : StoreAt w' s b m g C D := h.keep hk (by simp)
theorem StoreAt.look (h : StoreAt w s b m g C D) (x : Int) :
    (Instr.lookup 92 (.map (some g)) (.int .u64 x) true).run Tryz.prog w = .ok (.tuple #[((lookC x C.map).getD zeroPl).val, .bool (lookC x C.map).isSome]) w := by
  have hl := h.map.look2 (P := Tryz.prog) Tryz.underlying92 Tryz.underlying30 (z := zeroPl.val) (by kernel_rfl) x
  rw [hl, look_pairs]
  cases lookC x C.map <;> rfl
theorem look_eight (hC : C.Ok) (x : Int) : ∃ (p q r : Nat) (c0 c1 c2 c3 c4 c5 c6 c7 : UInt8), (lookC x C.map).getD zeroPl = ⟨p, q, r, [c0, c1, c2, c3, c4, c5, c6, c7]⟩ := by
  cases hq : lookC x C.map with
  | none => exact ⟨_, _, _, _, _, _, _, _, _, _, _, rfl⟩
  | some v =>
    obtain ⟨c0, c1, c2, c3, c4, c5, c6, c7, h⟩ := eightL (hC.map.head _ (look_mem x _ _ hq))
    exact ⟨v.seg, v.at_, v.size, c0, c1, c2, c3, c4, c5, c6, c7, by rw [← h]; rfl⟩

set_option maxRecDepth 100000 in
set_option maxHeartbeats 400000 in
theorem has_calls (h : StoreAt w s b m g C D) (hC : C.Ok) (x : Int) :
    Calls Tryz.prog 49 #[.pointer (some ⟨s, 0, none⟩), .int .u64 x] w fun e w' => e = .returned (.bool (lookC x C.map).isSome) ∧ Keep [] w w' := by
  have hl := h.look x
  obtain ⟨p, q, r, c0, c1, c2, c3, c4, c5, c6, c7, he⟩ := look_eight hC x
  rw [he] at hl
  have z2 : w.cell? ⟨s, 2, none⟩ = some (.map (some g)) := h.blk.cell 2
  simp only [Pl.val, Pl.cells, List.map_cons, List.map_nil] at hl
  generalize (lookC x C.map).isSome = y at *
  clear h he hC
  go_enter Tryz.func49, Tryz.ntmps49
  go_wp2
  go_ret
  exact ⟨rfl, (Keep.refl [] w).alloc _⟩

set_option maxRecDepth 100000 in
set_option maxHeartbeats 400000 in
theorem ids_calls (h : StoreAt w s b m g C D) (hC : C.Ok) (hn : C.map.length ≤ 1000000000) :
    Calls Tryz.prog 22 #[.pointer (some ⟨s, 0, none⟩)] w fun e w' => ∃ v, e = .returned v ∧ NumsAt w' v (rising (C.map.map (·.1))) ∧ Keep [] w w' := by
  have z2 : w.cell? ⟨s, 2, none⟩ = some (.map (some g)) := h.blk.cell 2
  have hp : (pairs C.map).map (·.1) = C.map.map (·.1) := by simp [pairs]
  have T := sortedKeysW_calls h.map (by simpa [pairs] using hn) (fun p hp => by
    obtain ⟨q, hq, rfl⟩ := List.mem_map.1 hp
    have := hC.map.key q hq
    have h1 : IntKind.u64.min = 0 := by decide +kernel
    have h2 : IntKind.u64.max = 18446744073709551615 := by decide +kernel
    simp only [Lit.wf, h1, h2, Bool.and_eq_true, decide_eq_true_eq]
    omega) (by rw [hp]; exact hC.map.nodup)
  rw [hp] at T
  have HT := Lib.hid T
  clear T h hC hp
  go_enter Tryz.func22, Tryz.ntmps22
  go_wp2_with (first
    | (go_at_call 58; refine (mapKeysW_calls _ _).mono ?_; rintro e w' ⟨rfl, rfl⟩)
    | (go_at_call 57; refine HT.out.mono ?_; rintro e w' ⟨v, rfl, hv, hk⟩; have HV := Lib.hid hv; have HK := Lib.hid hk; clear hv hk))
  go_ret
  exact ⟨v, rfl, HV.out, HK.out⟩

end Go.Proofs.YtkplffkchanipaaGreatDoor
/- A chunk store: Sync. -/
namespace Go.Proofs.YtkplffkchanipaaGreatDoor
open Go.RowKit
attribute [local go_sem] size_bs bs_append
variable {w w' : World} {s b m g : Nat} {C C' : Ck} {D D' : Dk}

theorem StoreAt.ne_ (h : StoreAt w s b m g C D) : s ≠ b ∧ s ≠ m ∧ g ≠ s ∧ g ≠ b ∧ g ≠ m ∧ m ≠ b :=
  ⟨h.blk.ne_ h.disk.blk (by decide), fun e => h.disk.map.ne_ h.blk e.symm, h.map.ne_ h.blk, h.map.ne_ h.disk.blk, h.gm, h.disk.ne_⟩
theorem StoreAt.setDisk (h : StoreAt w s b m g C D) (hk : Keep [b, m] w w') (hD : DiskAt w' b m D') : StoreAt w' s b m g C D' := by
  obtain ⟨h1, h2, h3, h4, h5, h6⟩ := h.ne_
  exact ⟨h.blk.keep hk (by simp [h1, h2]), hD, h.map.keep hk (by simp [h4, h5]), h5, h.tab.keep hk (fun hx => h.tn (by simp at hx ⊢; rcases hx with hx | hx <;> simp [hx])), h.tn⟩
theorem StoreAt.setS (h : StoreAt w s b m g C D) (hk : Keep [s] w w') (hB : Blk w' s 94 (C'.cells b g)) (hm : C'.map = C.map) : StoreAt w' s b m g C' D := by
  obtain ⟨h1, h2, h3, h4, h5, h6⟩ := h.ne_
  exact ⟨hB, h.disk.keep hk (by simpa using h1.symm) (by simpa using h2.symm), by rw [hm]; exact h.map.keep hk (by simpa using h3), h5, h.tab.keep hk (fun hx => h.tn (by simp at hx ⊢; simp [hx])), h.tn⟩
theorem StoreAt.setMap {L : List (Int × Pl)} (h : StoreAt w s b m g C D) (hk : Keep [g] w w') (hM : MapN .u64 w' g (pairs L)) : StoreAt w' s b m g { C with map := L } D := by
  obtain ⟨h1, h2, h3, h4, h5, h6⟩ := h.ne_
  exact ⟨h.blk.keep hk (by simpa using h3.symm), h.disk.keep hk (by simpa using h4.symm) (by simpa using h5.symm), hM, h5, h.tab.keep hk (fun hx => h.tn (by simp at hx ⊢; simp [hx])), h.tn⟩
set_option maxRecDepth 100000 in
set_option maxHeartbeats 800000 in
theorem ssync_calls (h : StoreAt w s b m g C D) (hD : D.Ok) (h1 : 1 ≤ C.seg) (h2 : C.seg < 100) :
    Calls Tryz.prog 21 #[.pointer (some ⟨s, 0, none⟩)] w fun e w' => e = .returned (.int .i64 (C.sync D).2.2) ∧ StoreAt w' s b m g (C.sync D).1 (C.sync D).2.1 ∧ Keep [s, b, m] w w' := by
  have H := Lib.hid h
  have hs : C.sync D = if C.dirty = true then (if (D.sync (segName C.seg)).2 = 0 then ({ C with dirty := false }, (D.sync (segName C.seg)).1, 0) else (C, (D.sync (segName C.seg)).1, (D.sync (segName C.seg)).2)) else (C, D, 0) := rfl
  have z5 : w.cell? ⟨s, 5, none⟩ = some (.bool C.dirty) := h.blk.cell 5
  obtain ⟨n1, n2, n3, n4, n5, n6⟩ := h.ne_
  cases hd : C.dirty with
  | false =>
    rw [hd] at z5
    have HS := Lib.hid hs
    have HD := Lib.hid hd
    clear h hs hd n1 n2 n3 n4 n5 n6
    go_enter Tryz.func21, Tryz.ntmps21
    go_wp2
    go_ret
    rw [HS.out, if_neg (by rw [HD.out]; simp)]
    exact ⟨rfl, H.out, Keep.refl _ _⟩
  | true =>
    rw [hd] at z5
    rw [hd, if_pos rfl] at hs
    have HC : Hid (∀ (W : World), Keep [b, m] w W → (W.cell? ⟨s, 0, none⟩ = some (.pointer (some ⟨b, 0, none⟩)) ∧ W.cell? ⟨s, 3, none⟩ = some (.int .i64 (C.seg : Int))) ∧ W.frozen? ⟨s, 5, none⟩ = false) := fun W hk => by
      have hb := h.blk.keep hk (by simp [n1, n2])
      exact ⟨⟨hb.cell 0, hb.cell 3⟩, hb.frozen 5⟩
    have T := fun (W : World) (p : Nat) (hW : DiskAt W b m D) (hp : Blk W p 9 #[.string (bs (segName C.seg))]) => sync_calls hW hD (segName C.seg) hp
    generalize D.sync (segName C.seg) = r at *
    obtain ⟨D1, e1⟩ := r
    simp only at T hs
    have HT := Lib.hid T
    have HS := Lib.hid hs
    have HD := Lib.hid hd
    have HN := Lib.hid (And.intro n1 n2)
    clear h hs hd n1 n2 n3 n4 n5 n6 T
    go_enter Tryz.func21, Tryz.ntmps21
    go_upto_region 3 with fail
    go_region_held3 (fun w' => w'.cell? ⟨s, 0, none⟩ = some (.pointer (some ⟨b, 0, none⟩)) ∧ w'.cell? ⟨s, 3, none⟩ = some (.int .i64 (C.seg : Int)))
      (first
        | (exact (HC.out _ (by repeat (first | exact Keep.refl _ _ | exact HK1.out.nil_ | exact HK2.out | refine Keep.drew ?_ | refine Keep.drewN ?_ _ | refine Keep.alloc ?_ _))).1)
        | fail)
      (first
        | (go_at_call 24; refine (name_calls C.seg h1 h2 _).mono ?_; rintro e w1 ⟨rfl, hk1⟩; have HK1 : Hid (Keep [] w w1) := Keep.trans' (M := []) (by repeat (first | exact Keep.refl _ _ | exact HK1.out | refine Keep.drew ?_ | refine Keep.drewN ?_ _ | refine Keep.alloc ?_ _)) hk1 (by simp); clear hk1)
        | (go_at_call 56; refine (HT.out _ _ (H.out.disk.keep (M := []) (by repeat (first | exact Keep.refl _ _ | exact HK1.out | refine Keep.drew ?_ | refine Keep.drewN ?_ _ | refine Keep.alloc ?_ _)) (by simp) (by simp)) (Blk.new _ _ _)).mono ?_; rintro e w2 ⟨rfl, hD2, hk2⟩; have HK2 : Hid (Keep [b, m] w w2) := Keep.trans' (M := [b, m]) (by repeat (first | exact Keep.refl _ _ | exact HK1.out.nil_ | exact HK2.out | refine Keep.drew ?_ | refine Keep.drewN ?_ _ | refine Keep.alloc ?_ _)) hk2 (fun x hx => .inl hx); have HD2 := Lib.hid hD2; clear hD2 hk2)
        | fail)
    all_goals
      by_cases he : e1 = 0
      · have hb : (e1 != 0) = false := by simpa using he
        have hz := HC.out _ HK2.out
        obtain ⟨⟨y0, y3⟩, y5⟩ := hz
        have HE := Lib.hid he
        clear he
        have z5' : w2.cell? ⟨s, 5, none⟩ = some (.bool true) := by
          have hb := H.out.blk.keep HK2.out (by simp [HN.out.1, HN.out.2])
          rw [← HD.out]
          exact hb.cell 5
        go_wp2
        go_ret
        rw [HS.out, if_pos HE.out]
        have hA := H.out.setDisk HK2.out HD2.out
        have hk3 : Keep [s] w2 (w2.setCell ⟨s, 5, none⟩ (.bool false)) := (Keep.refl _ _).setCell (.inl (by simp)) _
        exact ⟨rfl, hA.setS (C' := { C with dirty := false }) hk3 (hA.blk.set_ 5 _) rfl, (HK2.out.mono (by simp)).trans (hk3.mono (by simp))⟩
      · have hb : (e1 != 0) = true := by simpa using he
        have HE := Lib.hid he
        clear he
        go_wp2
        go_ret
        rw [HS.out, if_neg HE.out]
        exact ⟨rfl, H.out.setDisk HK2.out HD2.out, HK2.out.mono (by simp)⟩

end Go.Proofs.YtkplffkchanipaaGreatDoor
