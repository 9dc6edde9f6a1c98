/- The walk of glacierlaw09.TermVotes. -/
import Derived.Test.YtpcbhechfbibbaaDoorAwake
namespace Go.Proofs.YtpcbhechfbibbaaDoor
open Go.RowKit
attribute [local go_sem] size_bs bs_append bs_extract ba_self

theorem votes_plain (a b v w : Nat) (ha : a ≤ 1000) (hb : b ≤ 1000) (hv : v ≤ 5) (hw : w ≤ 5) (c : List UInt8) (hc : c.length ≤ 50) :
    ∃ D1 D2 D3, (Dk.start 10000).appendLog [⟨1, a, c⟩] = (D1, 0) ∧ D1.saveTerm a v = (D2, 0) ∧ D2.saveTerm b w = (D3, 0) ∧ D3.load = (D3, ⟨b, w, 0, 0, [], [⟨1, a, c⟩]⟩, 0) ∧ D1.Good ∧ D2.Good ∧ D3.Good := by
  have h0 := calm_start 10000 (by decide)
  have a1 := encU_len a (by omega)
  have a2 := encU_len v (by omega)
  have a3 := encU_len b (by omega)
  have a4 := encU_len w (by omega)
  have hfit : ∀ e ∈ [(⟨1, a, c⟩ : En)], e.Fit ∧ e.cmd.length ≤ 50 := by
    intro e he
    simp only [List.mem_cons, List.not_mem_nil, or_false] at he
    subst he
    exact ⟨⟨by simp, by simp only; omega, by simp only; omega⟩, hc⟩
  have f1 := frs_bound 50 (by decide) [⟨1, a, c⟩] hfit
  simp only [List.length_cons, List.length_nil] at f1
  obtain ⟨D1, h1, c1, l1, o1⟩ := h0.appendLog [⟨1, a, c⟩] (by omega)
  have c1' := c1.mono (j := 9000) (by omega)
  obtain ⟨D2, h2, c2, l2, o2⟩ := c1'.saveTerm a v (by rw [frame_len, List.length_append]; omega)
  have c2' := c2.mono (j := 8000) (by rw [frame_len, List.length_append]; omega)
  obtain ⟨D3, h3, c3, l3, o3⟩ := c2'.saveTerm b w (by rw [frame_len, List.length_append]; omega)
  refine ⟨D1, D2, D3, h1, h2, h3, ?_, c1.good, c2.good, c3.good⟩
  have hz : ∀ n, (lookF n (Dk.start ↑(10000 : Nat)).files).now.text = [] := fun n => by simp [Dk.start, lookF, Fil.none_, St.none_]
  have k1 := c3.loadTerm b w (by omega) hw (by rw [l3])
  have k2 := c3.loadSnap_none (by rw [o3 nSnap (by decide), o2 nSnap (by decide), o1 nSnap (by decide), hz]; simp)
  have k3 := c3.load k1 k2 (fun e he => (hfit e he).1) (by rw [o3 nLog (by decide), o2 nLog (by decide), l1, hz]; rfl)
  rw [k3]
  simp [behind]

/-- TermVotes on its way: its entry's block, its disk. -/
structure VoM (w W : World) (s b m : Nat) (D : Dk) (a : Int) (c : List UInt8) : Prop where
  ex : Blk W s 29 #[.int .i64 1, .int .i64 a, .string (bs c)]
  disk : DiskAt W b m D
  keep : Keep [] w W
  tab : Tab W
theorem VoM.alloc {w W : World} {s b m : Nat} {D : Dk} {a : Int} {c : List UInt8} (h : VoM w W s b m D a c) (o : Obj) : VoM w (W.alloc o) s b m D a c :=
  ⟨h.ex.alloc o, h.disk.alloc o, h.keep.alloc o, h.tab.keep ((Keep.refl [] W).alloc o) (by simp)⟩
theorem VoM.step {w W W' : World} {s b m : Nat} {D D' : Dk} {a : Int} {c : List UInt8} (h : VoM w W s b m D a c) (hb : b < s) (hm : m < s) (wb : w.heap.size ≤ b) (wm : w.heap.size ≤ m) (hD : DiskAt W' b m D') (hk : Keep [b, m] W W') : VoM w W' s b m D' a c :=
  ⟨h.ex.keep hk (by simp; omega), hD, h.keep.trans' hk (by simp; omega), h.tab.disk h.disk hk⟩

set_option maxRecDepth 100000 in
set_option maxHeartbeats 2000000 in
theorem termVotes_calls (W0 : World) (hT : Tab W0) (a b0 v w0 : Int) (s : List UInt8) :
    Calls Tryd.prog 4 #[.int .i64 a, .int .i64 b0, .int .i64 v, .int .i64 w0, .string (bs s)] W0 fun e w' => e = .returned (.bool true) ∧ Keep [] W0 w' := by
  obtain ⟨a', ha⟩ : ∃ k : Nat, min (max a 0) 1000 = (k : Int) := ⟨(min (max a 0) 1000).toNat, by omega⟩
  obtain ⟨b', hb'⟩ : ∃ k : Nat, min (max b0 0) 1000 = (k : Int) := ⟨(min (max b0 0) 1000).toNat, by omega⟩
  obtain ⟨v', hv⟩ : ∃ k : Nat, min (max v 0) 5 = (k : Int) := ⟨(min (max v 0) 5).toNat, by omega⟩
  obtain ⟨w', hw⟩ : ∃ k : Nat, min (max w0 0) 5 = (k : Int) := ⟨(min (max w0 0) 5).toNat, by omega⟩
  have la : a' ≤ 1000 := by omega
  have lb : b' ≤ 1000 := by omega
  have lv : v' ≤ 5 := by omega
  have lw : w' ≤ 5 := by omega
  have HC := Lib.hid (cut_calls s 50)
  have hcl : (s.take 50).length ≤ 50 := by rw [List.length_take]; omega
  generalize s.take 50 = c at *
  obtain ⟨D1, D2, D3, p1, p2, p3, p4, g1, g2, g3⟩ := votes_plain a' b' v' w' la lb lv lw c hcl
  have hg0 := (calm_start 10000 (by decide)).good
  have okx : EnsOk [(⟨1, a', c⟩ : En)] := ⟨by simp, by
    intro e he
    simp only [List.mem_cons, List.not_mem_nil, or_false] at he
    subst he
    exact ⟨by simp, by simp only; omega, by simp only; omega⟩⟩
  have T2 : ∀ (W : World) (b m : Nat) (v : Value), DiskAt W b m (Dk.start 10000) → Tab W → EntsAt W v [⟨1, a', c⟩] → Calls Tryd.prog 14 #[.pointer (some ⟨b, 0, none⟩), v] W fun e w' => e = .returned (.int .i64 0) ∧ DiskAt w' b m D1 ∧ Keep [b, m] W w' := fun W b m v h hT hv => by
    have := appendLog_calls h hg0 hT _ v hv okx
    rw [p1] at this
    exact this
  have T3 : ∀ (W : World) (b m : Nat), DiskAt W b m D1 → Tab W → Calls Tryd.prog 15 #[.pointer (some ⟨b, 0, none⟩), .int .i64 (a' : Int), .int .i64 (v' : Int)] W fun e w' => e = .returned (.int .i64 0) ∧ DiskAt w' b m D2 ∧ Keep [b, m] W w' := fun W b m h hT => by
    have := saveTerm_calls h g1 hT a' v' (by omega) (by omega)
    rw [p2] at this
    exact this
  have T3' : ∀ (W : World) (b m : Nat), DiskAt W b m D2 → Tab W → Calls Tryd.prog 15 #[.pointer (some ⟨b, 0, none⟩), .int .i64 (b' : Int), .int .i64 (w' : Int)] W fun e w' => e = .returned (.int .i64 0) ∧ DiskAt w' b m D3 ∧ Keep [b, m] W w' := fun W b m h hT => by
    have := saveTerm_calls h g2 hT b' w' (by omega) (by omega)
    rw [p3] at this
    exact this
  have T4 : ∀ (W : World) (b m : Nat), DiskAt W b m D3 → Tab W → Calls Tryd.prog 12 #[.pointer (some ⟨b, 0, none⟩)] W fun e w1 => ∃ g o cc, e = .returned (.tuple #[.agg #[.int .i64 (b' : Int), .int .i64 (w' : Int), .int .i64 0, .int .i64 0, .string { data := #[] }, .slice (some ⟨g, o, none⟩) 1 cc], .int .i64 0]) ∧ w1.cell? ⟨g, o, none⟩ = some (.int .i64 1) ∧ w1.cell? ⟨g, o + 1, none⟩ = some (.int .i64 (a' : Int)) ∧ w1.cell? ⟨g, o + 2, none⟩ = some (.string (bs c)) ∧ g < w1.heap.size ∧ Keep [b, m] W w1 := fun W b m h hT => by
    have := load_calls h g3 hT
    unfold LoadPost at this
    rw [p4] at this
    refine this.mono fun e w1 ⟨lg, h1, h2, h3, h4⟩ => ?_
    obtain ⟨A, cc, rfl, h5⟩ := own_ents (l := [⟨1, a', c⟩]) h2
    obtain ⟨g, o, rfl, h6⟩ := h5 (by simp)
    have e0 := h6 0 _ rfl
    exact ⟨g, o, cc, h1, e0, h6 1 _ rfl, h6 2 _ rfl, World.block_lt_of_cell? _ _ e0, h4⟩
  have HT2 := Lib.hid T2
  have HT3 := Lib.hid T3
  have HT3' := Lib.hid T3'
  have HT4 := Lib.hid T4
  have HT := Lib.hid hT
  have tok1 : True := trivial
  have tok2 : True := trivial
  clear hT T2 T3 T3' T4 p1 p2 p3 p4 g1 g2 g3 hg0 okx
  go_enter Tryd.func4, Tryd.ntmps4
  go_wp2_with (first
    | (go_at_call 8; refine (new_calls 10000 (by decide) W0).mono ?_; rintro e w1 ⟨b, m, rfl, hb, hm, hD1, hk1⟩; have HD1 : Hid (DiskAt w1 b m (Dk.start 10000)) := hD1; have HK1 := Lib.hid hk1; have hblt := hD1.blk.lt; have hmlt := hD1.map.lt; clear hD1 hk1)
    | (go_at_call 10; refine (HC.out w1).mono ?_; rintro e w1 ⟨rfl, rfl⟩; have HM1 : Hid (VoM W0 (w1.alloc (.cells #[.int .i64 1, .int .i64 (a' : Int), .string (bs c)] 29)) w1.heap.size b m (Dk.start 10000) (a' : Int) c) := (⟨Blk.new _ _ _, HD1.out.alloc _, HK1.out.alloc _, HT.out.keep (HK1.out.alloc _) (by simp)⟩ : VoM _ _ _ _ _ _ _ _))
    | (go_at_call 9; refine (awake_calls _ HM1.out.tab).mono ?_; rintro e w2 ⟨rfl, hk2⟩; have hM : VoM W0 w2 w1.heap.size b m (Dk.start 10000) (a' : Int) c := ⟨HM1.out.ex.keep hk2 (by simp), HM1.out.disk.keep hk2 (by simp) (by simp), HM1.out.keep.trans hk2, HM1.out.tab.keep hk2 (by simp)⟩; have x0 : w2.cell? ⟨w1.heap.size, 0, none⟩ = some (.int .i64 1) := hM.ex.cell 0; have x1 : w2.cell? ⟨w1.heap.size, 1, none⟩ = some (.int .i64 (a' : Int)) := hM.ex.cell 1; have x2 : w2.cell? ⟨w1.heap.size, 2, none⟩ = some (.string (bs c)) := hM.ex.cell 2; have HM2 := Lib.hid hM; clear hM hk2)
    | (go_at_call 14; refine (HT2.out _ _ _ _ (HM2.out.alloc _).disk (HM2.out.alloc _).tab (ents_here [⟨1, a', c⟩] (Blk.new _ _ _) rfl)).mono ?_; rintro e w3 ⟨rfl, hD, hk⟩; clear x0 x1 x2; have hM := (HM2.out.alloc _).step hblt hmlt hb hm hD hk; have HM3 := Lib.hid hM; clear hM hD hk)
    | (clear tok1; go_at_call 15; refine (HT3.out _ _ _ HM3.out.disk HM3.out.tab).mono ?_; rintro e w4 ⟨rfl, hD, hk⟩; have hM := HM3.out.step hblt hmlt hb hm hD hk; have HM4 := Lib.hid hM; clear hM hD hk)
    | (clear tok2; go_at_call 15; refine (HT3'.out _ _ _ HM4.out.disk HM4.out.tab).mono ?_; rintro e w5 ⟨rfl, hD, hk⟩; have hM := HM4.out.step hblt hmlt hb hm hD hk; have HM5 := Lib.hid hM; clear hM hD hk)
    | (go_at_call 12; refine (HT4.out _ _ _ HM5.out.disk HM5.out.tab).mono ?_; rintro e w6 ⟨g, o, cc, rfl, y0, y1, y2, hgl, hk⟩; have hM : Blk w6 w1.heap.size 29 #[.int .i64 1, .int .i64 (a' : Int), .string (bs c)] := HM5.out.ex.keep hk (by simp; omega); have x0 : w6.cell? ⟨w1.heap.size, 0, none⟩ = some (.int .i64 1) := hM.cell 0; have x1 : w6.cell? ⟨w1.heap.size, 1, none⟩ = some (.int .i64 (a' : Int)) := hM.cell 1; have x2 : w6.cell? ⟨w1.heap.size, 2, none⟩ = some (.string (bs c)) := hM.cell 2; have hxl : w1.heap.size < w6.heap.size := hM.lt; have HK6 := Lib.hid (HM5.out.keep.trans' hk (by simp; omega)); clear hk hM))
  go_quiet (fail)
  go_wp2
  go_ret
  exact ⟨rfl, (HK6.out.alloc _).drewN _⟩

end Go.Proofs.YtpcbhechfbibbaaDoor
