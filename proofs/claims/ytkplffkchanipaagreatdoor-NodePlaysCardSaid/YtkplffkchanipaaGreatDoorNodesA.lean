/- A node in memory; Lost, Lose, Up, Stop, after. -/
import Derived.Test.YtkplffkchanipaaGreatDoorNdPlains
import Derived.Test.YtkplffkchanipaaGreatDoorLawsC
import Derived.Test.YtkplffkchanipaaGreatDoorChIn
namespace Go.Proofs.YtkplffkchanipaaGreatDoor
open Go.RowKit
attribute [local go_sem] size_bs bs_append ba_self
variable {w w' w0 : World} {n s b m g c : Nat} {C C' : Ck} {D D' : Dk} {X : List (Nat × List UInt8)}

set_option maxHeartbeats 400000 in
theorem lost_calls (h : DiskAt w b m D) : Calls Tryz.prog 44 #[.pointer (some ⟨b, 2, none⟩)] w fun e w' => e = .returned (.bool D.lost) ∧ w = w' := by
  have c2 := h.c2
  clear h
  go_enter Tryz.func44, Tryz.ntmps44
  go_wp2
  go_ret
  exact ⟨rfl, rfl⟩
set_option maxHeartbeats 400000 in
theorem lose_calls (h : DiskAt w b m D) : Calls Tryz.prog 42 #[.pointer (some ⟨b, 2, none⟩)] w fun e w' => e = .returned (.tuple #[]) ∧ DiskAt w' b m { D with lost := true } ∧ Keep [b] w w' := by
  have c2 := h.c2
  have f2 := h.blk.frozen 2
  have H := Lib.hid h
  clear h
  go_enter Tryz.func42, Tryz.ntmps42
  go_wp2
  go_end0
  exact ⟨rfl, H.out.lost_ true, (Keep.refl _ _).setCell (.inl (by simp)) _⟩

def nodeV (b : Nat) (v : Value) (c : Nat) : Array Value := #[.pointer (some ⟨b, 0, none⟩), v, .int .i64 (c : Int)]
/-- A node that is up: at block n, over the store at s, the disk at b, m. -/
structure NdUp (w0 w : World) (n s b m g c : Nat) (C : Ck) (D : Dk) : Prop where
  blk : Blk w n 69 (nodeV b (.pointer (some ⟨s, 0, none⟩)) c)
  at_ : StoreAt w s b m g C D
  lo : w0.heap.size ≤ n ∧ w0.heap.size ≤ s ∧ w0.heap.size ≤ b ∧ w0.heap.size ≤ m ∧ w0.heap.size ≤ g
  keep : Keep [] w0 w
/-- A node that is down. -/
structure NdDown (w0 w : World) (n b m c : Nat) (D : Dk) : Prop where
  blk : Blk w n 69 (nodeV b (.pointer none) c)
  disk : DiskAt w b m D
  tab : Tab w
  lo : w0.heap.size ≤ n ∧ w0.heap.size ≤ b ∧ w0.heap.size ≤ m
  keep : Keep [] w0 w
theorem Tab.ne_node {v : Value} (h : Tab w) (hb : Blk w n 69 (nodeV b v c)) : 0 ≠ n := h.ne_blk hb (by simp [nodeV])
theorem NdUp.sub (h : NdUp w0 w n s b m g c C D) : ∀ x ∈ [n, s, b, m, g], x ∈ ([] : List Nat) ∨ w0.heap.size ≤ x := fun x hx => by
  have := h.lo
  simp only [List.mem_cons, List.not_mem_nil, or_false] at hx
  rcases hx with rfl | rfl | rfl | rfl | rfl
  · exact .inr this.1
  · exact .inr this.2.1
  · exact .inr this.2.2.1
  · exact .inr this.2.2.2.1
  · exact .inr this.2.2.2.2
theorem NdDown.sub (h : NdDown w0 w n b m c D) : ∀ x ∈ [n, b, m], x ∈ ([] : List Nat) ∨ w0.heap.size ≤ x := fun x hx => by
  have := h.lo
  simp only [List.mem_cons, List.not_mem_nil, or_false] at hx
  rcases hx with rfl | rfl | rfl
  · exact .inr this.1
  · exact .inr this.2.1
  · exact .inr this.2.2
theorem NdUp.ne_ (h : NdUp w0 w n s b m g c C D) : n ≠ s ∧ n ≠ b ∧ n ≠ m ∧ n ≠ g :=
  ⟨h.blk.ne_ h.at_.blk (by decide), h.blk.ne_ h.at_.disk.blk (by decide), fun e => h.at_.disk.map.ne_ h.blk e.symm, fun e => h.at_.map.ne_ h.blk e.symm⟩
theorem NdDown.ne_ (h : NdDown w0 w n b m c D) : n ≠ b ∧ n ≠ m :=
  ⟨h.blk.ne_ h.disk.blk (by decide), fun e => h.disk.map.ne_ h.blk e.symm⟩
theorem NdUp.grow (h : NdUp w0 w n s b m g c C D) (hk : Keep [] w w') : NdUp w0 w' n s b m g c C D := ⟨h.blk.keep hk (by simp), h.at_.grow hk, h.lo, h.keep.trans hk⟩
theorem NdDown.grow (h : NdDown w0 w n b m c D) (hk : Keep [] w w') : NdDown w0 w' n b m c D := ⟨h.blk.keep hk (by simp), h.disk.keep hk (by simp) (by simp), h.tab.keep hk (by simp), h.lo, h.keep.trans hk⟩
theorem NdUp.set (h : NdUp w0 w n s b m g c C D) (hk : Keep [s, b, m, g] w w') (hS : StoreAt w' s b m g C' D') : NdUp w0 w' n s b m g c C' D' := by
  obtain ⟨h1, h2, h3, h4⟩ := h.ne_
  exact ⟨h.blk.keep hk (by simp [h1, h2, h3, h4]), hS, h.lo, h.keep.trans' hk fun x hx => h.sub x (List.mem_cons_of_mem _ hx)⟩

set_option maxRecDepth 100000 in
set_option maxHeartbeats 400000 in
theorem nup_calls (h : NdUp w0 w n s b m g c C D) : Calls Tryz.prog 43 #[.pointer (some ⟨n, 0, none⟩)] w fun e w' => e = .returned (.bool !D.lost) ∧ w = w' := by
  have z0 : w.cell? ⟨n, 0, none⟩ = some (.pointer (some ⟨b, 0, none⟩)) := h.blk.cell 0
  have z1 : w.cell? ⟨n, 1, none⟩ = some (.pointer (some ⟨s, 0, none⟩)) := h.blk.cell 1
  have HT := Lib.hid (lost_calls h.at_.disk)
  clear h
  go_enter Tryz.func43, Tryz.ntmps43
  go_wp2_with (go_at_call 44; refine HT.out.mono ?_; rintro e w1 ⟨rfl, rfl⟩)
  go_ret
  exact ⟨rfl, rfl⟩
set_option maxRecDepth 100000 in
set_option maxHeartbeats 400000 in
theorem ndown_calls (h : NdDown w0 w n b m c D) : Calls Tryz.prog 43 #[.pointer (some ⟨n, 0, none⟩)] w fun e w' => e = .returned (.bool false) ∧ w = w' := by
  have z1 : w.cell? ⟨n, 1, none⟩ = some (.pointer none) := h.blk.cell 1
  clear h
  go_enter Tryz.func43, Tryz.ntmps43
  go_wp2
  go_ret
  exact ⟨rfl, rfl⟩

set_option maxRecDepth 100000 in
set_option maxHeartbeats 400000 in
theorem nstop_up (h : NdUp w0 w n s b m g c C D) (hg : D.Good) (hN : D.Names segNames) (v : Value) (ch : List Int) (hb : ∀ x ∈ ch, -9223372036854775808 ≤ x ∧ x ≤ 9223372036854775807) (hv : ∀ W, Keep [n, b, m] w W → IntsAt W v ch) :
    Calls Tryz.prog 38 #[.pointer (some ⟨n, 0, none⟩), v] w fun e w' => e = .returned (.int .i64 0) ∧ NdDown w0 w' n b m c (D.crash ch) ∧ Keep [n, b, m] w w' := by
  have z0 : w.cell? ⟨n, 0, none⟩ = some (.pointer (some ⟨b, 0, none⟩)) := h.blk.cell 0
  have z1 : w.cell? ⟨n, 1, none⟩ = some (.pointer (some ⟨s, 0, none⟩)) := h.blk.cell 1
  have f1 := h.blk.frozen 1
  obtain ⟨n1, n2, n3, n4⟩ := h.ne_
  have hk1 : Keep [n] w (w.setCell ⟨n, 1, none⟩ (.pointer none)) := (Keep.refl _ _).setCell (.inl (by simp)) _
  have hB : Blk (w.setCell ⟨n, 1, none⟩ (.pointer none)) n 69 (nodeV b (.pointer none) c) := h.blk.set_ 1 _
  have hD := h.at_.disk.keep hk1 (by simpa using Ne.symm n2) (by simpa using Ne.symm n3)
  have hT : Tab (w.setCell ⟨n, 1, none⟩ (.pointer none)) := h.at_.tab.keep hk1 (by simpa using h.at_.tab.ne_node h.blk)
  have T := crash_calls hD hg (by have := hN.files_len; omega) hN.keys v ch hb (fun W hW => hv W ((hk1.mono (by simp)).trans (hW.mono (by simp))))
  have HT := Lib.hid T
  have HD : Hid (∀ W, Keep [b, m] (w.setCell ⟨n, 1, none⟩ (.pointer none)) W → DiskAt W b m (D.crash ch) → NdDown w0 W n b m c (D.crash ch) ∧ Keep [n, b, m] w W) := fun W hk hd => by
    have hk2 : Keep [n, b, m] w W := (hk1.mono (by simp)).trans (hk.mono (by simp))
    exact ⟨⟨hB.keep hk (by simp [n2, n3]), hd, hT.disk hD hk, ⟨h.lo.1, h.lo.2.2.1, h.lo.2.2.2.1⟩, h.keep.trans' hk2 fun x hx => h.sub x (by simp at hx ⊢; rcases hx with hx | hx | hx <;> simp [hx])⟩, hk2⟩
  clear h n1 n2 n3 n4 hk1 hB hD hT T hg hN hb hv
  go_enter Tryz.func38, Tryz.ntmps38
  go_wp2_with (go_at_call 29; refine HT.out.mono ?_; rintro e w1 ⟨rfl, hd, hk⟩; have HE := Lib.hid (HD.out _ hk hd); clear hd hk)
  go_ret
  exact ⟨rfl, HE.out⟩
set_option maxRecDepth 100000 in
set_option maxHeartbeats 400000 in
theorem nstop_down (h : NdDown w0 w n b m c D) (v : Value) :
    Calls Tryz.prog 38 #[.pointer (some ⟨n, 0, none⟩), v] w fun e w' => e = .returned (.int .i64 9) ∧ w = w' := by
  have z1 : w.cell? ⟨n, 1, none⟩ = some (.pointer none) := h.blk.cell 1
  clear h
  go_enter Tryz.func38, Tryz.ntmps38
  go_wp2
  go_ret
  exact ⟨rfl, rfl⟩
theorem ints_nil (w : World) : IntsAt w (.slice none 0 0) [] := ⟨none, 0, rfl, fun h => absurd rfl h⟩

set_option maxRecDepth 100000 in
set_option maxHeartbeats 400000 in
theorem nafter_stop (h : NdUp w0 w n s b m g c C D) (hH : D.Here) :
    Calls Tryz.prog 73 #[.pointer (some ⟨n, 0, none⟩), .int .i64 8] w fun e w' => e = .returned (.int .i64 8) ∧ NdDown w0 w' n b m c (D.crash []) ∧ Keep [n, b, m] w w' := by
  have HT := Lib.hid (nstop_up h hH.good hH.names (.slice none 0 0) [] (by simp) (fun W _ => ints_nil W))
  clear h hH
  go_enter Tryz.func73, Tryz.ntmps73
  go_wp2_with (go_at_call 38; refine HT.out.mono ?_; rintro e w1 ⟨rfl, hd, hk⟩; have HE := Lib.hid (And.intro hd hk); clear hd hk)
  go_ret
  exact ⟨rfl, HE.out⟩
set_option maxRecDepth 100000 in
set_option maxHeartbeats 400000 in
theorem nafter_id (w : World) (n : Nat) (x : Int) (h1 : (x == 8) = false) (h2 : (x == 14) = false) :
    Calls Tryz.prog 73 #[.pointer (some ⟨n, 0, none⟩), .int .i64 x] w fun e w' => e = .returned (.int .i64 x) ∧ w = w' := by
  go_enter Tryz.func73, Tryz.ntmps73
  go_wp2
  go_ret
  exact ⟨rfl, rfl⟩

end Go.Proofs.YtkplffkchanipaaGreatDoor
/- A node's open, New, Start, Put, Get. -/
namespace Go.Proofs.YtkplffkchanipaaGreatDoor
open Go.RowKit
attribute [local go_sem] size_bs bs_append ba_self
variable {w w' w0 : World} {n s b m g c : Nat} {C C' : Ck} {D D' : Dk} {X : List (Nat × List UInt8)}

set_option maxRecDepth 100000 in
set_option maxHeartbeats 400000 in
theorem nopen_calls (h : NdDown w0 w n b m c D) (hS : D.Still) (hN : D.Names segNames) :
    Calls Tryz.prog 72 #[.pointer (some ⟨n, 0, none⟩)] w fun e w' => ∃ s g, e = .returned (.int .i64 0) ∧ NdUp w0 w' n s b m g 0 (D.opens 2000) D ∧ Keep [n, b, m] w w' ∧ w.heap.size ≤ s ∧ w.heap.size ≤ g := by
  have z0 : w.cell? ⟨n, 0, none⟩ = some (.pointer (some ⟨b, 0, none⟩)) := h.blk.cell 0
  obtain ⟨n1, n2⟩ := h.ne_
  have HT := Lib.hid (copen_calls h.disk h.tab hS hN (by have := hN.files_len; omega) 2000)
  have HF : Hid (∀ W s g, Keep [b, m] w W → StoreAt W s b m g (D.opens 2000) D → w.heap.size ≤ s → w.heap.size ≤ g →
      (W.frozen? ⟨n, 1, none⟩ = false ∧ W.frozen? ⟨n, 2, none⟩ = false) ∧
      NdUp w0 ((W.setCell ⟨n, 1, none⟩ (.pointer (some ⟨s, 0, none⟩))).setCell ⟨n, 2, none⟩ (.int .i64 0)) n s b m g 0 (D.opens 2000) D ∧
      Keep [n, b, m] w ((W.setCell ⟨n, 1, none⟩ (.pointer (some ⟨s, 0, none⟩))).setCell ⟨n, 2, none⟩ (.int .i64 0))) := fun W s g hk hs hlo1 hlo2 => by
    have hb := h.blk.keep hk (by simp [n1, n2])
    have hk2 : Keep [n] W ((W.setCell ⟨n, 1, none⟩ (.pointer (some ⟨s, 0, none⟩))).setCell ⟨n, 2, none⟩ (.int .i64 0)) := ((Keep.refl _ _).setCell (.inl (by simp)) _).setCell (.inl (by simp)) _
    have hb2 : Blk ((W.setCell ⟨n, 1, none⟩ (.pointer (some ⟨s, 0, none⟩))).setCell ⟨n, 2, none⟩ (.int .i64 0)) n 69 (nodeV b (.pointer (some ⟨s, 0, none⟩)) 0) := (hb.set_ 1 _).set_ 2 _
    have e1 : n ≠ s := hb.ne_ hs.blk (by decide)
    have e2 : n ≠ g := fun e => hs.map.ne_ hb e.symm
    have e3 := hs.tab.ne_node hb
    have hk3 : Keep [n, b, m] w ((W.setCell ⟨n, 1, none⟩ (.pointer (some ⟨s, 0, none⟩))).setCell ⟨n, 2, none⟩ (.int .i64 0)) := (hk.mono (by simp)).trans (hk2.mono (by simp))
    have hlo := h.lo
    have hsz := h.keep.size
    refine ⟨⟨hb.frozen 1, hb.frozen 2⟩, ⟨hb2, hs.keep hk2 fun x hx => ?_, ⟨hlo.1, by omega, hlo.2.1, hlo.2.2, by omega⟩, h.keep.trans' hk3 h.sub⟩, hk3⟩
    simp only [List.mem_cons, List.not_mem_nil, or_false] at hx
    subst hx
    exact ⟨by simp [e1, n1, n2, e2], e3.symm⟩
  have HZ : Hid (∀ W, Keep [b, m] w W → W.cell? ⟨n, 1, none⟩ = some (.pointer none) ∧ W.cell? ⟨n, 2, none⟩ = some (.int .i64 (c : Int))) := fun W hk => by
    have hb := h.blk.keep hk (by simp [n1, n2])
    exact ⟨hb.cell 1, hb.cell 2⟩
  clear h n1 n2 hS hN
  go_enter Tryz.func72, Tryz.ntmps72
  go_wp2_with (go_at_call 14; refine HT.out.mono ?_; rintro e w1 ⟨s, g, rfl, hs, h1, h2, hk⟩; obtain ⟨⟨f1, f2⟩, hup, hk3⟩ := HF.out _ _ _ hk hs h1 h2; obtain ⟨c1, c2⟩ := HZ.out _ hk; have HUP := Lib.hid (And.intro hup hk3); clear hs hk hup hk3)
  go_ret
  exact ⟨s, g, rfl, HUP.out.1, HUP.out.2, h1, h2⟩

set_option maxRecDepth 100000 in
set_option maxHeartbeats 400000 in
theorem nnew_calls (hk : Keep [] w0 w) (hT : Tab w) (room : Int) (h0 : 0 ≤ room) (h1 : room ≤ 274877906944) :
    Calls Tryz.prog 30 #[.int .i64 room] w fun e w' => ∃ n s b m g, e = .returned (.pointer (some ⟨n, 0, none⟩)) ∧ NdUp w0 w' n s b m g 0 (Dk.opens ⟨room, 0, false, 0, []⟩ 2000) ⟨room, 0, false, 0, []⟩ ∧ Keep [] w w' := by
  have HN := Lib.hid (new_calls room h0 w)
  have HO : Hid (∀ (w1 : World) (b m : Nat), w.heap.size ≤ b → w.heap.size ≤ m → DiskAt w1 b m ⟨room, 0, false, 0, []⟩ → Keep [] w w1 →
      Calls Tryz.prog 72 #[.pointer (some ⟨w1.heap.size, 0, none⟩)] (w1.alloc (.cells #[.pointer (some ⟨b, 0, none⟩), .pointer none, .int .i64 0] 69)) fun e w' => ∃ s g, e = .returned (.int .i64 0) ∧ NdUp w0 w' w1.heap.size s b m g 0 (Dk.opens ⟨room, 0, false, 0, []⟩ 2000) ⟨room, 0, false, 0, []⟩ ∧ Keep [] w w') := fun w1 b m hb hm hd hk1 => by
    have hs1 := hk.size
    have hs2 := hk1.size
    have hk2 : Keep [] w (w1.alloc (.cells #[.pointer (some ⟨b, 0, none⟩), .pointer none, .int .i64 0] 69)) := hk1.alloc _
    have hd2 : NdDown w0 (w1.alloc (.cells #[.pointer (some ⟨b, 0, none⟩), .pointer none, .int .i64 0] 69)) w1.heap.size b m 0 ⟨room, 0, false, 0, []⟩ :=
      ⟨Blk.new _ _ _, hd.alloc _, hT.keep hk2 (by simp), ⟨by omega, by omega, by omega⟩, hk.trans hk2⟩
    refine (nopen_calls hd2 (start_still h0 h1) (start_names room)).mono ?_
    rintro e w' ⟨s, g, rfl, a1, a2, _⟩
    exact ⟨s, g, rfl, a1, hk2.trans' a2 (by simp; omega)⟩
  clear hk hT
  go_enter Tryz.func30, Tryz.ntmps30
  go_wp2_with (first
    | (go_at_call 13; refine HN.out.mono ?_; rintro e w1 ⟨b, m, rfl, hb, hm, hd, hk⟩; have HO1 := Lib.hid (HO.out _ _ _ hb hm hd hk); clear hb hm hd hk)
    | (go_at_call 72; refine HO1.out.mono ?_; rintro e w2 ⟨s, g, rfl, hu, hk⟩; have HU := Lib.hid (And.intro hu hk); clear hu hk))
  go_ret
  exact ⟨_, s, b, m, g, rfl, HU.out⟩

theorem Cold.opens {k : Nat} (h : Cold D X k) (h1 : 1 ≤ k) (h2 : k < 100) :
    (D.arm 0).Still ∧ (D.arm 0).Names segNames ∧ Hot ((D.arm 0).opens 2000) (D.arm 0) X ∧ ((D.arm 0).opens 2000).seg ≤ k ∧ ((D.arm 0).opens 2000).limit = 2000 ∧ ((D.arm 0).opens 2000).size = 0 := by
  have h3 := h.arm (a := 0) (by decide)
  have hS : (D.arm 0).Still := ⟨h3.here.good, h3.here.lost, rfl⟩
  obtain ⟨a1, a2, _, a4⟩ := Dk.opened hS h3.here.names h3.safe h1 h2 h3.segs 2000 (by decide)
  rw [h3.rep] at a1
  exact ⟨hS, h3.here.names, ⟨a1, a4, (show (0 : Int) ≤ 4294967296 by decide)⟩, a2, rfl, rfl⟩

set_option maxRecDepth 100000 in
set_option maxHeartbeats 400000 in
theorem nstart_down {k : Nat} (h : NdDown w0 w n b m c D) (hC : Cold D X k) (h1 : 1 ≤ k) (h2 : k < 100) :
    Calls Tryz.prog 39 #[.pointer (some ⟨n, 0, none⟩)] w fun e w' => ∃ s g, e = .returned (.int .i64 0) ∧ NdUp w0 w' n s b m g 0 ((D.arm 0).opens 2000) (D.arm 0) ∧ Keep [n, b, m] w w' := by
  have z0 : w.cell? ⟨n, 0, none⟩ = some (.pointer (some ⟨b, 0, none⟩)) := h.blk.cell 0
  have z1 : w.cell? ⟨n, 1, none⟩ = some (.pointer none) := h.blk.cell 1
  obtain ⟨n1, n2⟩ := h.ne_
  have TL := lost_calls h.disk
  rw [hC.here.lost] at TL
  have HL := Lib.hid TL
  have HF := Lib.hid (fail_off h.disk (-1) (by decide))
  obtain ⟨hS, hN, _⟩ := hC.opens h1 h2
  have HO : Hid (∀ W, DiskAt W b m (D.arm 0) → Keep [b] w W → Calls Tryz.prog 72 #[.pointer (some ⟨n, 0, none⟩)] W fun e w' => ∃ s g, e = .returned (.int .i64 0) ∧ NdUp w0 w' n s b m g 0 ((D.arm 0).opens 2000) (D.arm 0) ∧ Keep [n, b, m] w w') := fun W hd hk => by
    have hk2 : Keep [n, b, m] w W := hk.mono (by simp)
    have hd2 : NdDown w0 W n b m c (D.arm 0) := ⟨h.blk.keep hk (by simp [n1]), hd, h.tab.disk h.disk (hk.mono (by simp)), h.lo, h.keep.trans' hk2 h.sub⟩
    refine (nopen_calls hd2 hS hN).mono ?_
    rintro e w' ⟨s, g, rfl, a1, a2, _⟩
    exact ⟨s, g, rfl, a1, hk2.trans a2⟩
  clear h hC n1 n2 TL hS hN
  go_enter Tryz.func39, Tryz.ntmps39
  go_wp2_with (first
    | (go_at_call 44; refine HL.out.mono ?_; rintro e w1 ⟨rfl, rfl⟩)
    | (go_at_call 28; refine HF.out.mono ?_; rintro e w1 ⟨rfl, hd, hk⟩; have HO1 := Lib.hid (HO.out _ hd hk); clear hd hk)
    | (go_at_call 72; refine HO1.out.mono ?_; rintro e w2 ⟨s, g, rfl, hu, hk⟩; have HU := Lib.hid (And.intro hu hk); clear hu hk))
  go_ret
  exact ⟨s, g, rfl, HU.out⟩
set_option maxRecDepth 100000 in
set_option maxHeartbeats 400000 in
theorem nstart_up (h : NdUp w0 w n s b m g c C D) :
    Calls Tryz.prog 39 #[.pointer (some ⟨n, 0, none⟩)] w fun e w' => e = .returned (.int .i64 (if D.lost = true then 14 else 6)) ∧ w = w' := by
  have z0 : w.cell? ⟨n, 0, none⟩ = some (.pointer (some ⟨b, 0, none⟩)) := h.blk.cell 0
  have z1 : w.cell? ⟨n, 1, none⟩ = some (.pointer (some ⟨s, 0, none⟩)) := h.blk.cell 1
  have HL := Lib.hid (lost_calls h.at_.disk)
  clear h
  cases hl : D.lost with
  | true =>
    rw [hl] at HL
    rw [if_pos rfl]
    clear hl
    go_enter Tryz.func39, Tryz.ntmps39
    go_wp2_with (go_at_call 44; refine HL.out.mono ?_; rintro e w1 ⟨rfl, rfl⟩)
    go_ret
    exact ⟨rfl, rfl⟩
  | false =>
    rw [hl] at HL
    rw [if_neg (by simp)]
    clear hl
    go_enter Tryz.func39, Tryz.ntmps39
    go_wp2_with (go_at_call 44; refine HL.out.mono ?_; rintro e w1 ⟨rfl, rfl⟩)
    go_ret
    exact ⟨rfl, rfl⟩
set_option maxRecDepth 100000 in
set_option maxHeartbeats 400000 in
theorem nstart_lost (h : NdDown w0 w n b m c D) (hl : D.lost = true) :
    Calls Tryz.prog 39 #[.pointer (some ⟨n, 0, none⟩)] w fun e w' => e = .returned (.int .i64 14) ∧ w = w' := by
  have z0 : w.cell? ⟨n, 0, none⟩ = some (.pointer (some ⟨b, 0, none⟩)) := h.blk.cell 0
  have HL := Lib.hid (lost_calls h.disk)
  rw [hl] at HL
  clear h hl
  go_enter Tryz.func39, Tryz.ntmps39
  go_wp2_with (go_at_call 44; refine HL.out.mono ?_; rintro e w1 ⟨rfl, rfl⟩)
  go_ret
  exact ⟨rfl, rfl⟩

end Go.Proofs.YtkplffkchanipaaGreatDoor
/- A node's Put. -/
namespace Go.Proofs.YtkplffkchanipaaGreatDoor
open Go.RowKit
attribute [local go_sem] size_bs bs_append ba_self
variable {w w' w0 : World} {n s b m g c : Nat} {C C' : Ck} {D D' : Dk} {X : List (Nat × List UInt8)}

theorem NdUp.get_ (h : NdUp w0 w n s b m g c C D) (hC : C.Ok) (hD : D.Good) (i : Nat) :
    Calls Tryz.prog 25 #[.pointer (some ⟨s, 0, none⟩), .int .u64 (i : Int)] w fun e w' => e = .returned (.tuple #[.string (bs (C.get D i).1), .int .i64 (C.get D i).2]) ∧ NdUp w0 w' n s b m g c C (C.got D i) ∧ Keep [n, s, b, m, g] w w' := by
  refine (sget_calls h.at_ hC hD i).mono ?_
  rintro e w' ⟨rfl, h1, h2⟩
  exact ⟨rfl, h.set (h2.mono (by simp)) h1, h2.mono (by simp)⟩
theorem NdUp.put_ (h : NdUp w0 w n s b m g c C D) (hC : C.Ok) (hD : D.Good) (h1 : 1 ≤ C.seg) (h2 : C.seg + 1 < 100) (hz : C.size ≤ 1000000000000) (i : Nat) (hi : i < 18446744073709551616) (d : List UInt8) (hd : d.length ≤ 4000) :
    Calls Tryz.prog 16 #[.pointer (some ⟨s, 0, none⟩), .int .u64 (i : Int), .string (bs d)] w fun e w' => e = .returned (.int .i64 (C.putK D i d).2.2) ∧ NdUp w0 w' n s b m g c (C.putK D i d).1 (C.putK D i d).2.1 ∧ Keep [n, s, b, m, g] w w' := by
  refine (sput_calls h.at_ hC hD h1 h2 hz i hi d hd).mono ?_
  rintro e w' ⟨rfl, h1, h2⟩
  exact ⟨rfl, h.set h2 h1, h2.mono (by simp)⟩
theorem NdUp.drop_ (h : NdUp w0 w n s b m g c C D) (hC : C.Ok) (hD : D.Good) (h1 : 1 ≤ C.seg) (h2 : C.seg + 1 < 100) (hz : C.size ≤ 1000000000000) (i : Nat) (hi : i < 18446744073709551616) :
    Calls Tryz.prog 55 #[.pointer (some ⟨s, 0, none⟩), .int .u64 (i : Int)] w fun e w' => e = .returned (.int .i64 (C.dropK D i).2.2) ∧ NdUp w0 w' n s b m g c (C.dropK D i).1 (C.dropK D i).2.1 ∧ Keep [n, s, b, m, g] w w' := by
  refine (sdrop_calls h.at_ hC hD h1 h2 hz i hi).mono ?_
  rintro e w' ⟨rfl, h1, h2⟩
  exact ⟨rfl, h.set h2 h1, h2.mono (by simp)⟩
theorem NdUp.sync_ (h : NdUp w0 w n s b m g c C D) (hD : D.Ok) (h1 : 1 ≤ C.seg) (h2 : C.seg < 100) :
    Calls Tryz.prog 21 #[.pointer (some ⟨s, 0, none⟩)] w fun e w' => e = .returned (.int .i64 (C.sync D).2.2) ∧ NdUp w0 w' n s b m g c (C.sync D).1 (C.sync D).2.1 ∧ Keep [n, s, b, m, g] w w' := by
  refine (ssync_calls h.at_ hD h1 h2).mono ?_
  rintro e w' ⟨rfl, h1, h2⟩
  exact ⟨rfl, h.set (h2.mono (by simp)) h1, h2.mono (by simp)⟩
theorem NdUp.has_ (h : NdUp w0 w n s b m g c C D) (hH : Hot C D X) (i : Nat) :
    Calls Tryz.prog 49 #[.pointer (some ⟨s, 0, none⟩), .int .u64 (i : Int)] w fun e w' => e = .returned (.bool (lookX i X).isSome) ∧ NdUp w0 w' n s b m g c C D ∧ Keep [] w w' := by
  have T := has_calls h.at_ hH.sure.ok (i : Int)
  rw [hH.inv.has i] at T
  refine T.mono ?_
  rintro e w' ⟨rfl, h2⟩
  exact ⟨rfl, h.grow h2, h2⟩
theorem NdUp.up_ (h : NdUp w0 w n s b m g c C D) (hl : D.lost = false) : Calls Tryz.prog 43 #[.pointer (some ⟨n, 0, none⟩)] w fun e w' => e = .returned (.bool true) ∧ w = w' := by
  have T := nup_calls h
  rw [hl] at T
  exact T
theorem str_lne {a b : List UInt8} (h : a ≠ b) : ((bs a).toList == (bs b).toList) = false := by
  rw [ByteArray.toList_eq, ByteArray.toList_eq, beq_eq_false_iff_ne]
  intro e
  have e2 : lst (bs a) = lst (bs b) := e
  rw [lst_bs, lst_bs] at e2
  exact h e2
theorem Hot.size_le (h : Hot C D X) : C.size ≤ 1000000000000 := Nat.le_trans h.inv.dk.size_le (by decide)

set_option maxRecDepth 100000 in
set_option maxHeartbeats 800000 in
theorem nput_there (h : NdUp w0 w n s b m g c C D) (hH : Hot C D X) {i : Nat} {d0 : List UInt8} (hi : lookX i X = some d0) (d : List UInt8) :
    Calls Tryz.prog 32 #[.pointer (some ⟨n, 0, none⟩), .int .u64 (i : Int), .string (bs d)] w fun e w' => Keep [n, s, b, m, g] w w' ∧
      ((e = .returned (.int .i64 8) ∧ D.armed = 1 ∧ NdDown w0 w' n b m c (D.arm 0)) ∨
       ∃ a y, e = .returned (.int .i64 y) ∧ (y = 0 ∧ d0 = d ∨ y = 6 ∧ d0 ≠ d) ∧ NdUp w0 w' n s b m g c C (D.arm a) ∧ (D.armed = 0 → a = 0) ∧ a ≤ D.armed) := by
  have hS := hH.sure
  have TH := h.has_ hH i
  rw [hi] at TH
  simp only [Option.isSome_some] at TH
  have HU := Lib.hid (h.up_ hH.lost)
  have z1 : w.cell? ⟨n, 1, none⟩ = some (.pointer (some ⟨s, 0, none⟩)) := h.blk.cell 1
  have TG := fun (W : World) (hW : NdUp w0 W n s b m g c C D) => hW.get_ hS.ok hS.here.good i
  have HH := Lib.hid TH
  rcases hH.get hi with ⟨g1, g2, g3⟩ | ⟨a, g1, g2, g3, g4, g5⟩
  · rw [g1, g3] at TG
    have hcr : (D.arm 0).crash [] = D.arm 0 := (hS.arm (n := 0) (by decide)).safe.crash []
    have HA : Hid (∀ W, NdUp w0 W n s b m g c C (D.arm 0) → Calls Tryz.prog 73 #[.pointer (some ⟨n, 0, none⟩), .int .i64 8] W fun e w' => e = .returned (.int .i64 8) ∧ NdDown w0 w' n b m c (D.arm 0) ∧ Keep [n, b, m] W w') := fun W hW => by
      have T := nafter_stop hW (hS.arm (n := 0) (by decide)).here
      rw [hcr] at T
      exact T
    have HG := Lib.hid TG
    have G2 := Lib.hid g2
    clear h hH hi TH hS TG g1 g2 g3 hcr
    go_enter Tryz.func32, Tryz.ntmps32
    go_wp2_with (first
      | (go_at_call 43; refine HU.out.mono ?_; rintro e w1 ⟨rfl, rfl⟩)
      | (go_at_call 49; refine HH.out.mono ?_; rintro e w1 ⟨rfl, hu, hk⟩; have z1a : w1.cell? ⟨n, 1, none⟩ = some (.pointer (some ⟨s, 0, none⟩)) := hu.blk.cell 1; have HU1 := Lib.hid hu; have HK1 := Lib.hid hk; clear hu hk)
      | (go_at_call 25; refine (HG.out _ HU1.out).mono ?_; rintro e w2 ⟨rfl, hu, hk⟩; have HU2 := Lib.hid hu; have HK2 := Lib.hid hk; clear hu hk)
      | (go_at_call 73; refine (HA.out _ HU2.out).mono ?_; rintro e w3 ⟨rfl, hu, hk⟩; have HU3 := Lib.hid hu; have HK3 := Lib.hid hk; clear hu hk))
    go_ret
    exact ⟨(HK1.out.nil_.trans HK2.out).trans (HK3.out.mono (by simp)), .inl ⟨rfl, G2.out, HU3.out⟩⟩
  · rw [g1, g2] at TG
    have HG := Lib.hid TG
    have HE := Lib.hid (And.intro g3 g4)
    clear h hH hi TH hS TG g1 g2 g3 g4 g5
    by_cases hd : d0 = d
    · subst hd
      go_enter Tryz.func32, Tryz.ntmps32
      go_wp2_with (first
        | (go_at_call 43; refine HU.out.mono ?_; rintro e w1 ⟨rfl, rfl⟩)
        | (go_at_call 49; refine HH.out.mono ?_; rintro e w1 ⟨rfl, hu, hk⟩; have z1a : w1.cell? ⟨n, 1, none⟩ = some (.pointer (some ⟨s, 0, none⟩)) := hu.blk.cell 1; have HU1 := Lib.hid hu; have HK1 := Lib.hid hk; clear hu hk)
        | (go_at_call 25; refine (HG.out _ HU1.out).mono ?_; rintro e w2 ⟨rfl, hu, hk⟩; have HU2 := Lib.hid hu; have HK2 := Lib.hid hk; clear hu hk))
      go_ret
      exact ⟨HK1.out.nil_.trans HK2.out, .inr ⟨a, 0, rfl, .inl (by simp), HU2.out, HE.out⟩⟩
    · have hb := str_lne hd
      have HD := Lib.hid hd
      clear hd
      go_enter Tryz.func32, Tryz.ntmps32
      go_wp2_with (first
        | (go_at_call 43; refine HU.out.mono ?_; rintro e w1 ⟨rfl, rfl⟩)
        | (go_at_call 49; refine HH.out.mono ?_; rintro e w1 ⟨rfl, hu, hk⟩; have z1a : w1.cell? ⟨n, 1, none⟩ = some (.pointer (some ⟨s, 0, none⟩)) := hu.blk.cell 1; have HU1 := Lib.hid hu; have HK1 := Lib.hid hk; clear hu hk)
        | (go_at_call 25; refine (HG.out _ HU1.out).mono ?_; rintro e w2 ⟨rfl, hu, hk⟩; have HU2 := Lib.hid hu; have HK2 := Lib.hid hk; clear hu hk))
      go_ret
      exact ⟨HK1.out.nil_.trans HK2.out, .inr ⟨a, 6, rfl, .inr ⟨rfl, HD.out⟩, HU2.out, HE.out⟩⟩

set_option maxRecDepth 100000 in
set_option maxHeartbeats 800000 in
theorem nput_new (h : NdUp w0 w n s b m g c C D) (hH : Hot C D X) (hs : C.seg + 1 < 100) {i : Nat} (hi : i < 18446744073709551616) {d : List UInt8} (hd : d.length ≤ 4000) (hx : lookX i X = none) :
    Calls Tryz.prog 32 #[.pointer (some ⟨n, 0, none⟩), .int .u64 (i : Int), .string (bs d)] w fun e w' => Keep [n, s, b, m, g] w w' ∧ ∃ C' D',
      ((e = .returned (.int .i64 8) ∧ D.armed ≠ 0 ∧ NdDown w0 w' n b m c D' ∧ Cold D' X (C.seg + 1) ∧ D'.room = D.room) ∨
       (e = .returned (.int .i64 7) ∧ NdUp w0 w' n s b m g c C' D' ∧ Hot C' D' X ∧ Grown C D C' D' (d.length + 50) ∧ D.room < D.used + (d.length + 50 : Nat)) ∨
       (e = .returned (.int .i64 0) ∧ NdUp w0 w' n s b m g c C' D' ∧ Hot C' D' (putX (i, d) X) ∧ Grown C D C' D' (d.length + 50))) := by
  have hS := hH.sure
  have TH := h.has_ hH i
  rw [hx] at TH
  simp only [Option.isSome_none] at TH
  have HU := Lib.hid (h.up_ hH.lost)
  have z1 : w.cell? ⟨n, 1, none⟩ = some (.pointer (some ⟨s, 0, none⟩)) := h.blk.cell 1
  have TP := fun (W : World) (hW : NdUp w0 W n s b m g c C D) => hW.put_ hS.ok hS.here.good hS.seg hs hH.size_le i hi d hd
  have hst := hH.putK hs hi hd hx
  have HH := Lib.hid TH
  generalize C.putK D i d = r at *
  obtain ⟨C1, D1, e1⟩ := r
  simp only at TP
  have HP := Lib.hid TP
  clear h hH hx TH TP hs
  rcases hst with ⟨a1, a2, a3, a4, a5⟩ | ⟨a1, a2, a3, a4⟩ | ⟨a1, a2, a3, a4, a5⟩
  · simp only at a1 a3 a4 a5
    subst a1
    have HA : Hid (∀ W, NdUp w0 W n s b m g c C1 D1 → _) := fun W hW => nafter_stop hW a3
    have HE := Lib.hid (And.intro a2 (And.intro a4 a5))
    clear a2 a3 a4 a5 hS
    go_enter Tryz.func32, Tryz.ntmps32
    go_wp2_with (first
      | (go_at_call 43; refine HU.out.mono ?_; rintro e w1 ⟨rfl, rfl⟩)
      | (go_at_call 49; refine HH.out.mono ?_; rintro e w1 ⟨rfl, hu, hk⟩; have z1a : w1.cell? ⟨n, 1, none⟩ = some (.pointer (some ⟨s, 0, none⟩)) := hu.blk.cell 1; have HU1 := Lib.hid hu; have HK1 := Lib.hid hk; clear hu hk)
      | (go_at_call 16; refine (HP.out _ HU1.out).mono ?_; rintro e w2 ⟨rfl, hu, hk⟩; have HU2 := Lib.hid hu; have HK2 := Lib.hid hk; clear hu hk)
      | (go_at_call 73; refine (HA.out _ HU2.out).mono ?_; rintro e w3 ⟨rfl, hu, hk⟩; have HU3 := Lib.hid hu; have HK3 := Lib.hid hk; clear hu hk))
    go_ret
    exact ⟨(HK1.out.nil_.trans HK2.out).trans (HK3.out.mono (by simp)), C1, _, .inl ⟨rfl, by rw [HE.out.1]; decide, HU3.out, HE.out.2⟩⟩
  · simp only at a1 a2 a3
    subst a1
    have HE := Lib.hid (And.intro a2 (And.intro a3 a4))
    clear a2 a3 a4 hS
    go_enter Tryz.func32, Tryz.ntmps32
    go_wp2_with (first
      | (go_at_call 43; refine HU.out.mono ?_; rintro e w1 ⟨rfl, rfl⟩)
      | (go_at_call 49; refine HH.out.mono ?_; rintro e w1 ⟨rfl, hu, hk⟩; have z1a : w1.cell? ⟨n, 1, none⟩ = some (.pointer (some ⟨s, 0, none⟩)) := hu.blk.cell 1; have HU1 := Lib.hid hu; have HK1 := Lib.hid hk; clear hu hk)
      | (go_at_call 16; refine (HP.out _ HU1.out).mono ?_; rintro e w2 ⟨rfl, hu, hk⟩; have HU2 := Lib.hid hu; have HK2 := Lib.hid hk; clear hu hk)
      | (go_at_call 73; refine (nafter_id _ n 7 rfl rfl).mono ?_; rintro e w3 ⟨rfl, rfl⟩))
    go_ret
    exact ⟨HK1.out.nil_.trans HK2.out, C1, D1, .inr (.inl ⟨rfl, HU2.out, HE.out⟩)⟩
  · simp only at a1 a2 a3 a4 a5
    subst a1
    have TS := fun (W : World) (hW : NdUp w0 W n s b m g c C1 D1) => hW.sync_ a2.ok a3 a4
    generalize C1.sync D1 = q at *
    obtain ⟨C2, D2, e2⟩ := q
    simp only at TS a5
    have HS := Lib.hid TS
    clear TS a2 a3 a4 hS
    rcases a5 with ⟨b1, b2, b3, b4, b5⟩ | ⟨b1, b2, b3⟩
    · subst b1
      have HA : Hid (∀ W, NdUp w0 W n s b m g c C2 D2 → _) := fun W hW => nafter_stop hW b3
      have HE := Lib.hid (And.intro b2 (And.intro b4 b5))
      clear b2 b3 b4 b5
      go_enter Tryz.func32, Tryz.ntmps32
      go_wp2_with (first
        | (go_at_call 43; refine HU.out.mono ?_; rintro e w1 ⟨rfl, rfl⟩)
        | (go_at_call 49; refine HH.out.mono ?_; rintro e w1 ⟨rfl, hu, hk⟩; have z1a : w1.cell? ⟨n, 1, none⟩ = some (.pointer (some ⟨s, 0, none⟩)) := hu.blk.cell 1; have HU1 := Lib.hid hu; have HK1 := Lib.hid hk; clear hu hk)
        | (go_at_call 16; refine (HP.out _ HU1.out).mono ?_; rintro e w2 ⟨rfl, hu, hk⟩; have z1b : w2.cell? ⟨n, 1, none⟩ = some (.pointer (some ⟨s, 0, none⟩)) := hu.blk.cell 1; have HU2 := Lib.hid hu; have HK2 := Lib.hid hk; clear hu hk)
        | (go_at_call 21; refine (HS.out _ HU2.out).mono ?_; rintro e w3 ⟨rfl, hu, hk⟩; have HU3 := Lib.hid hu; have HK3 := Lib.hid hk; clear hu hk)
        | (go_at_call 73; refine (HA.out _ HU3.out).mono ?_; rintro e w4 ⟨rfl, hu, hk⟩; have HU4 := Lib.hid hu; have HK4 := Lib.hid hk; clear hu hk))
      go_ret
      exact ⟨((HK1.out.nil_.trans HK2.out).trans HK3.out).trans (HK4.out.mono (by simp)), C1, _, .inl ⟨rfl, by have := HE.out.1; omega, HU4.out, HE.out.2⟩⟩
    · subst b1
      have HE := Lib.hid (And.intro b2 b3)
      clear b2 b3
      go_enter Tryz.func32, Tryz.ntmps32
      go_wp2_with (first
        | (go_at_call 43; refine HU.out.mono ?_; rintro e w1 ⟨rfl, rfl⟩)
        | (go_at_call 49; refine HH.out.mono ?_; rintro e w1 ⟨rfl, hu, hk⟩; have z1a : w1.cell? ⟨n, 1, none⟩ = some (.pointer (some ⟨s, 0, none⟩)) := hu.blk.cell 1; have HU1 := Lib.hid hu; have HK1 := Lib.hid hk; clear hu hk)
        | (go_at_call 16; refine (HP.out _ HU1.out).mono ?_; rintro e w2 ⟨rfl, hu, hk⟩; have z1b : w2.cell? ⟨n, 1, none⟩ = some (.pointer (some ⟨s, 0, none⟩)) := hu.blk.cell 1; have HU2 := Lib.hid hu; have HK2 := Lib.hid hk; clear hu hk)
        | (go_at_call 21; refine (HS.out _ HU2.out).mono ?_; rintro e w3 ⟨rfl, hu, hk⟩; have HU3 := Lib.hid hu; have HK3 := Lib.hid hk; clear hu hk)
        | (go_at_call 73; refine (nafter_id _ n 0 rfl rfl).mono ?_; rintro e w4 ⟨rfl, rfl⟩))
      go_ret
      exact ⟨(HK1.out.nil_.trans HK2.out).trans HK3.out, C2, D2, .inr (.inr ⟨rfl, HU3.out, HE.out⟩)⟩

end Go.Proofs.YtkplffkchanipaaGreatDoor
/- A node that is off; a node's Get, Has, IDs, Verified. -/
namespace Go.Proofs.YtkplffkchanipaaGreatDoor
open Go.RowKit
attribute [local go_sem] size_bs bs_append ba_self
variable {w w' w0 : World} {n s b m g c : Nat} {C C' : Ck} {D D' : Dk} {X : List (Nat × List UInt8)}

/-- A node that is down, or lost. -/
def Off (w : World) (n : Nat) : Prop := Calls Tryz.prog 43 #[.pointer (some ⟨n, 0, none⟩)] w fun e w' => e = .returned (.bool false) ∧ w = w'
theorem NdDown.off (h : NdDown w0 w n b m c D) : Off w n := ndown_calls h
theorem NdUp.off (h : NdUp w0 w n s b m g c C D) (hl : D.lost = true) : Off w n := by
  have T := nup_calls h
  rw [hl] at T
  exact T
set_option maxRecDepth 100000 in
set_option maxHeartbeats 400000 in
theorem nput_off (h : Off w n) (x : Int) (d : ByteArray) : Calls Tryz.prog 32 #[.pointer (some ⟨n, 0, none⟩), .int .u64 x, .string d] w fun e w' => e = .returned (.int .i64 9) ∧ w = w' := by
  have HU := Lib.hid h
  unfold Off at HU
  clear h
  go_enter Tryz.func32, Tryz.ntmps32
  go_wp2_with (go_at_call 43; refine HU.out.mono ?_; rintro e w1 ⟨rfl, rfl⟩)
  go_ret
  exact ⟨rfl, rfl⟩
set_option maxRecDepth 100000 in
set_option maxHeartbeats 400000 in
theorem nget_off (h : Off w n) (x : Int) : Calls Tryz.prog 33 #[.pointer (some ⟨n, 0, none⟩), .int .u64 x] w fun e w' => e = .returned (.tuple #[.string (bs []), .int .i64 9]) ∧ w = w' := by
  have HU := Lib.hid h
  unfold Off at HU
  clear h
  go_enter Tryz.func33, Tryz.ntmps33
  go_wp2_with (go_at_call 43; refine HU.out.mono ?_; rintro e w1 ⟨rfl, rfl⟩)
  go_ret2
  exact ⟨rfl, rfl⟩
set_option maxRecDepth 100000 in
set_option maxHeartbeats 400000 in
theorem ndrop_off (h : Off w n) (x : Int) : Calls Tryz.prog 34 #[.pointer (some ⟨n, 0, none⟩), .int .u64 x] w fun e w' => e = .returned (.int .i64 9) ∧ w = w' := by
  have HU := Lib.hid h
  unfold Off at HU
  clear h
  go_enter Tryz.func34, Tryz.ntmps34
  go_wp2_with (go_at_call 43; refine HU.out.mono ?_; rintro e w1 ⟨rfl, rfl⟩)
  go_ret
  exact ⟨rfl, rfl⟩
set_option maxRecDepth 100000 in
set_option maxHeartbeats 400000 in
theorem nhas_off (h : Off w n) (x : Int) : Calls Tryz.prog 35 #[.pointer (some ⟨n, 0, none⟩), .int .u64 x] w fun e w' => e = .returned (.bool false) ∧ w = w' := by
  have HU := Lib.hid h
  unfold Off at HU
  clear h
  go_enter Tryz.func35, Tryz.ntmps35
  go_wp2_with (go_at_call 43; refine HU.out.mono ?_; rintro e w1 ⟨rfl, rfl⟩)
  go_ret
  exact ⟨rfl, rfl⟩
set_option maxRecDepth 100000 in
set_option maxHeartbeats 400000 in
theorem nids_off (h : Off w n) : Calls Tryz.prog 36 #[.pointer (some ⟨n, 0, none⟩)] w fun e w' => e = .returned (.slice none 0 0) ∧ w = w' := by
  have HU := Lib.hid h
  unfold Off at HU
  clear h
  go_enter Tryz.func36, Tryz.ntmps36
  go_wp2_with (go_at_call 43; refine HU.out.mono ?_; rintro e w1 ⟨rfl, rfl⟩)
  go_ret
  exact ⟨rfl, rfl⟩

set_option maxRecDepth 100000 in
set_option maxHeartbeats 400000 in
theorem nhas_calls (h : NdUp w0 w n s b m g c C D) (hH : Hot C D X) (i : Nat) :
    Calls Tryz.prog 35 #[.pointer (some ⟨n, 0, none⟩), .int .u64 (i : Int)] w fun e w' => e = .returned (.bool (lookX i X).isSome) ∧ NdUp w0 w' n s b m g c C D ∧ Keep [] w w' := by
  have HU := Lib.hid (h.up_ hH.lost)
  have z1 : w.cell? ⟨n, 1, none⟩ = some (.pointer (some ⟨s, 0, none⟩)) := h.blk.cell 1
  have HH := Lib.hid (h.has_ hH i)
  clear h hH
  generalize (lookX i X).isSome = y at *
  go_enter Tryz.func35, Tryz.ntmps35
  go_wp2_with (first
    | (go_at_call 43; refine HU.out.mono ?_; rintro e w1 ⟨rfl, rfl⟩)
    | (go_at_call 49; refine HH.out.mono ?_; rintro e w1 ⟨rfl, hu, hk⟩; have HU1 := Lib.hid (And.intro hu hk); clear hu hk))
  go_ret
  exact ⟨rfl, HU1.out⟩
theorem Hot.keys (h : Hot C D X) : rising (C.map.map (·.1)) = X.map fun p => (p.1 : Int) := by
  have hS := h.sure
  rw [Ck.ids_cast hS.ok.map, hS.says.ids hS.ok.map hS.asc, List.map_map]
  rfl
theorem Hot.maplen (h : Hot C D X) : C.map.length = X.length := by
  have hS := h.sure
  have h1 := hS.says.ids hS.ok.map hS.asc
  have h2 := C.ids_len
  rw [h1, List.length_map] at h2
  exact h2.symm
set_option maxRecDepth 100000 in
set_option maxHeartbeats 400000 in
theorem nids_calls (h : NdUp w0 w n s b m g c C D) (hH : Hot C D X) (hX : X.length ≤ 1000) :
    Calls Tryz.prog 36 #[.pointer (some ⟨n, 0, none⟩)] w fun e w' => ∃ v, e = .returned v ∧ NumsAt w' v (X.map fun p => (p.1 : Int)) ∧ NdUp w0 w' n s b m g c C D ∧ Keep [] w w' := by
  have HU := Lib.hid (h.up_ hH.lost)
  have z1 : w.cell? ⟨n, 1, none⟩ = some (.pointer (some ⟨s, 0, none⟩)) := h.blk.cell 1
  have T := ids_calls h.at_ hH.sure.ok (by rw [hH.maplen]; omega)
  rw [hH.keys] at T
  have HH := Lib.hid T
  have H := Lib.hid h
  clear h hH T hX
  go_enter Tryz.func36, Tryz.ntmps36
  go_wp2_with (first
    | (go_at_call 43; refine HU.out.mono ?_; rintro e w1 ⟨rfl, rfl⟩)
    | (go_at_call 22; refine HH.out.mono ?_; rintro e w1 ⟨v, rfl, hu, hk⟩; have HU1 := Lib.hid (And.intro hu (And.intro (H.out.grow hk) hk)); clear hu hk))
  go_ret
  exact ⟨v, rfl, HU1.out⟩

set_option maxRecDepth 100000 in
set_option maxHeartbeats 800000 in
theorem nget_there (h : NdUp w0 w n s b m g c C D) (hH : Hot C D X) {i : Nat} {d0 : List UInt8} (hi : lookX i X = some d0) :
    Calls Tryz.prog 33 #[.pointer (some ⟨n, 0, none⟩), .int .u64 (i : Int)] w fun e w' => Keep [n, s, b, m, g] w w' ∧
      ((e = .returned (.tuple #[.string (bs []), .int .i64 8]) ∧ D.armed = 1 ∧ NdDown w0 w' n b m c (D.arm 0)) ∨
       ∃ a, e = .returned (.tuple #[.string (bs d0), .int .i64 0]) ∧ NdUp w0 w' n s b m g c C (D.arm a) ∧ (D.armed = 0 → a = 0) ∧ a ≤ D.armed) := by
  have hS := hH.sure
  have HU := Lib.hid (h.up_ hH.lost)
  have z1 : w.cell? ⟨n, 1, none⟩ = some (.pointer (some ⟨s, 0, none⟩)) := h.blk.cell 1
  have TG := h.get_ hS.ok hS.here.good i
  rcases hH.get hi with ⟨g1, g2, g3⟩ | ⟨a, g1, g2, g3, g4, g5⟩
  · rw [g1, g3] at TG
    have hcr : (D.arm 0).crash [] = D.arm 0 := (hS.arm (n := 0) (by decide)).safe.crash []
    have HA : Hid (∀ W, NdUp w0 W n s b m g c C (D.arm 0) → Calls Tryz.prog 73 #[.pointer (some ⟨n, 0, none⟩), .int .i64 8] W fun e w' => e = .returned (.int .i64 8) ∧ NdDown w0 w' n b m c (D.arm 0) ∧ Keep [n, b, m] W w') := fun W hW => by
      have T := nafter_stop hW (hS.arm (n := 0) (by decide)).here
      rw [hcr] at T
      exact T
    have HG := Lib.hid TG
    have G2 := Lib.hid g2
    clear h hH hi hS TG g1 g2 g3 hcr
    go_enter Tryz.func33, Tryz.ntmps33
    go_wp2_with (first
      | (go_at_call 43; refine HU.out.mono ?_; rintro e w1 ⟨rfl, rfl⟩)
      | (go_at_call 25; refine HG.out.mono ?_; rintro e w1 ⟨rfl, hu, hk⟩; have HU1 := Lib.hid hu; have HK1 := Lib.hid hk; clear hu hk)
      | (go_at_call 73; refine (HA.out _ HU1.out).mono ?_; rintro e w3 ⟨rfl, hu, hk⟩; have HU3 := Lib.hid hu; have HK3 := Lib.hid hk; clear hu hk))
    go_ret2
    exact ⟨HK1.out.trans (HK3.out.mono (by simp)), .inl ⟨rfl, G2.out, HU3.out⟩⟩
  · rw [g1, g2] at TG
    have HG := Lib.hid TG
    have HE := Lib.hid (And.intro g3 g4)
    clear h hH hi hS TG g1 g2 g3 g4 g5
    go_enter Tryz.func33, Tryz.ntmps33
    go_wp2_with (first
      | (go_at_call 43; refine HU.out.mono ?_; rintro e w1 ⟨rfl, rfl⟩)
      | (go_at_call 25; refine HG.out.mono ?_; rintro e w1 ⟨rfl, hu, hk⟩; have HU1 := Lib.hid hu; have HK1 := Lib.hid hk; clear hu hk))
    go_ret2
    exact ⟨HK1.out, .inr ⟨a, rfl, HU1.out, HE.out⟩⟩
set_option maxRecDepth 100000 in
set_option maxHeartbeats 800000 in
theorem nget_none (h : NdUp w0 w n s b m g c C D) (hH : Hot C D X) {i : Nat} (hi : lookX i X = none) :
    Calls Tryz.prog 33 #[.pointer (some ⟨n, 0, none⟩), .int .u64 (i : Int)] w fun e w' => e = .returned (.tuple #[.string (bs []), .int .i64 5]) ∧ Keep [n, s, b, m, g] w w' ∧ NdUp w0 w' n s b m g c C D := by
  have hS := hH.sure
  have HU := Lib.hid (h.up_ hH.lost)
  have z1 : w.cell? ⟨n, 1, none⟩ = some (.pointer (some ⟨s, 0, none⟩)) := h.blk.cell 1
  have TG := h.get_ hS.ok hS.here.good i
  obtain ⟨g1, g2⟩ := hH.get_none hi
  rw [g1, g2] at TG
  have HG := Lib.hid TG
  clear h hH hi hS TG g1 g2
  go_enter Tryz.func33, Tryz.ntmps33
  go_wp2_with (first
    | (go_at_call 43; refine HU.out.mono ?_; rintro e w1 ⟨rfl, rfl⟩)
    | (go_at_call 25; refine HG.out.mono ?_; rintro e w1 ⟨rfl, hu, hk⟩; have HU1 := Lib.hid hu; have HK1 := Lib.hid hk; clear hu hk)
    | (go_at_call 73; refine (nafter_id _ n 5 rfl rfl).mono ?_; rintro e w3 ⟨rfl, rfl⟩))
  go_ret2
  exact ⟨rfl, HK1.out, HU1.out⟩

end Go.Proofs.YtkplffkchanipaaGreatDoor
