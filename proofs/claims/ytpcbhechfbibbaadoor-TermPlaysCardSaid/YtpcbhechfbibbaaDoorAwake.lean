/- The contract of glacierlaw09.awake. -/
import Derived.Test.YtpcbhechfbibbaaDoorLast
namespace Go.Proofs.YtpcbhechfbibbaaDoor
open Go.RowKit
attribute [local go_sem] size_bs bs_append bs_extract

theorem ents_here {w : World} {p c : Nat} {cs : Array Value} (l : List En) (h : Blk w p 29 cs) (hcs : cs.toList = entsV l) : EntsAt w (.slice (some ⟨p, 0, none⟩) l.length c) l :=
  ⟨_, _, rfl, fun _ => ⟨p, 0, rfl, fun j u hu => by
    rw [h.cell]
    rw [← hcs] at hu
    simpa using hu⟩⟩

theorem frs_bound (c : Nat) (hc : c ≤ 100000) : ∀ (l : List En), (∀ e ∈ l, e.Fit ∧ e.cmd.length ≤ c) → (frs l).length ≤ l.length * (c + 41)
  | [], _ => by simp [frs]
  | e :: l, h => by
    obtain ⟨h1, h2⟩ := h e (by simp)
    have ih := frs_bound c hc l fun x hx => h x (by simp [hx])
    have e1 := encU_len e.index (by have := h1.index; omega)
    have e2 := encU_len e.term (by have := h1.term; omega)
    have e3 := encU_len e.cmd.length (by omega)
    simp only [frs, List.flatMap_cons, List.length_append, List.length_cons, frame_len, encE, encS] at ih ⊢
    rw [Nat.add_mul]
    omega

def Dk.start (n : Int) : Dk := ⟨n, 0, false, 0, []⟩
theorem calm_start (n : Nat) (hn : n ≤ 274877906944) : (Dk.start n).Calm n :=
  ⟨⟨⟨by simp only [Dk.start]; omega, rfl, by simp only [Dk.start]; omega, by simp [Dk.start]⟩, fun p hp => by simp [Dk.start] at hp⟩, rfl, rfl, by simp [Dk.start]⟩

def eA : En := ⟨1, 3, [97]⟩
def eB : En := ⟨2, 3, [98]⟩
theorem fitA : eA.Fit := ⟨by decide, by decide, by decide⟩
theorem fitB : eB.Fit := ⟨by decide, by decide, by decide⟩

theorem awake_plain : ∃ D1 D2 D3, (Dk.start 1000).saveTerm 3 1 = (D1, 0) ∧ D1.appendLog [eA, eB] = (D2, 0) ∧ D2.saveSnap 1 3 [115] [eB] = (D3, 0) ∧ D3.load = (D3, ⟨3, 1, 1, 3, [115], [eB]⟩, 0) ∧ D1.Good ∧ D2.Good ∧ D3.Good := by
  have hc := calm_start 1000 (by decide)
  have a1 := encU_len 3 (by decide)
  have a2 := encU_len 1 (by decide)
  have f1 := frs_bound 1 (by decide) [eA, eB] (by
    intro e he
    simp only [List.mem_cons, List.not_mem_nil, or_false] at he
    rcases he with rfl | rfl
    · exact ⟨fitA, by decide⟩
    · exact ⟨fitB, by decide⟩)
  have f2 := frs_bound 1 (by decide) [eB] (by
    intro e he
    simp only [List.mem_cons, List.not_mem_nil, or_false] at he
    subst he
    exact ⟨fitB, by decide⟩)
  simp only [List.length_cons, List.length_nil] at f1 f2
  obtain ⟨D1, h1, c1, l1, o1⟩ := hc.saveTerm 3 1 (by rw [frame_len, List.length_append]; omega)
  have c1' := c1.mono (j := 900) (by rw [frame_len, List.length_append]; omega)
  obtain ⟨D2, h2, c2, l2, o2⟩ := c1'.appendLog [eA, eB] (by omega)
  have c2' := c2.mono (j := 800) (by omega)
  obtain ⟨D3, h3, c3, l3, l3', o3⟩ := c2'.saveSnap 1 3 [115] [eB] (by simp only [frame_len, List.length_append, encS, List.length_cons, List.length_nil]; have a3 := encU_len 1 (by decide); simp only [Nat.zero_add]; omega)
  refine ⟨D1, D2, D3, h1, h2, h3, ?_, c1.good, c2.good, c3.good⟩
  have k1 := c3.loadTerm 3 1 (by decide) (by decide) (by rw [o3, o2 nTerm (by decide), l1])
  have k2 := c3.loadSnap 1 3 [115] (by decide) (by decide) (by decide) (by rw [l3])
  have k3 := c3.load k1 k2 (l := [eB]) (by
    intro e he
    simp only [List.mem_cons, List.not_mem_nil, or_false] at he
    subst he
    exact fitB) (by rw [l3'])
  exact k3

/-- awake on its way: its two entries, its disk. -/
structure AwM (w W : World) (s b m : Nat) (D : Dk) : Prop where
  ea : Blk W s 29 #[.int .i64 1, .int .i64 3, .string { data := #[97] }]
  eb : Blk W (s + 1) 29 #[.int .i64 2, .int .i64 3, .string { data := #[98] }]
  disk : DiskAt W b m D
  keep : Keep [] w W
  tab : Tab W
theorem AwM.alloc {w W : World} {s b m : Nat} {D : Dk} (h : AwM w W s b m D) (o : Obj) : AwM w (W.alloc o) s b m D :=
  ⟨h.ea.alloc o, h.eb.alloc o, h.disk.alloc o, h.keep.alloc o, h.tab.keep ((Keep.refl [] W).alloc o) (by simp)⟩
theorem AwM.step {w W W' : World} {s b m : Nat} {D D' : Dk} (h : AwM w W s b m D) (hb : b < s) (hm : m < s) (wb : w.heap.size ≤ b) (wm : w.heap.size ≤ m) (hD : DiskAt W' b m D') (hk : Keep [b, m] W W') : AwM w W' s b m D' :=
  ⟨h.ea.keep hk (by simp; omega), h.eb.keep hk (by simp; omega), hD, h.keep.trans' hk (by simp; omega), h.tab.disk h.disk hk⟩

set_option maxRecDepth 100000 in
set_option maxHeartbeats 2000000 in
theorem awake_calls (w : World) (hT : Tab w) : Calls Tryd.prog 9 #[] w fun e w' => e = .returned (.bool true) ∧ Keep [] w w' := by
  obtain ⟨D1, D2, D3, p1, p2, p3, p4, g1, g2, g3⟩ := awake_plain
  have hg0 := (calm_start 1000 (by decide)).good
  have oka : EnsOk [eA, eB] := ⟨by decide, by
    intro e he
    simp only [List.mem_cons, List.not_mem_nil, or_false] at he
    rcases he with rfl | rfl
    · exact fitA.ok
    · exact fitB.ok⟩
  have okb : EnsOk [eB] := ⟨by decide, by
    intro e he
    simp only [List.mem_cons, List.not_mem_nil, or_false] at he
    subst he
    exact fitB.ok⟩
  have T1 : ∀ (W : World) (b m : Nat), DiskAt W b m (Dk.start 1000) → Tab W → Calls Tryd.prog 15 #[.pointer (some ⟨b, 0, none⟩), .int .i64 3, .int .i64 1] W fun e w' => e = .returned (.int .i64 0) ∧ DiskAt w' b m D1 ∧ Keep [b, m] W w' := fun W b m h hT => by
    have := saveTerm_calls h hg0 hT 3 1 (by decide) (by decide)
    rw [p1] at this
    exact this
  have T2 : ∀ (W : World) (b m : Nat) (v : Value), DiskAt W b m D1 → Tab W → EntsAt W v [eA, eB] → Calls Tryd.prog 14 #[.pointer (some ⟨b, 0, none⟩), v] W fun e w' => e = .returned (.int .i64 0) ∧ DiskAt w' b m D2 ∧ Keep [b, m] W w' := fun W b m v h hT hv => by
    have := appendLog_calls h g1 hT _ v hv oka
    rw [p2] at this
    exact this
  have T3 : ∀ (W : World) (b m : Nat) (v : Value), DiskAt W b m D2 → Tab W → EntsAt W v [eB] → Calls Tryd.prog 11 #[.pointer (some ⟨b, 0, none⟩), .int .i64 1, .int .i64 3, .string { data := #[115] }, v] W fun e w' => e = .returned (.int .i64 0) ∧ DiskAt w' b m D3 ∧ Keep [b, m] W w' := fun W b m v h hT hv => by
    have := saveSnap_calls h g2 hT 1 3 (by decide) (by decide) [115] (by decide) _ v hv okb
    rw [p3] at this
    exact this
  have T4 : ∀ (W : World) (b m : Nat), DiskAt W b m D3 → Tab W → Calls Tryd.prog 12 #[.pointer (some ⟨b, 0, none⟩)] W fun e w' => ∃ lg, e = .returned (.tuple #[.agg #[.int .i64 3, .int .i64 1, .int .i64 1, .int .i64 3, .string { data := #[115] }, lg], .int .i64 0]) ∧ w'.ownsRow W.heap.size 29 3 lg 1 (entsV [eB]) ∧ Keep [b, m] W w' := fun W b m h hT => by
    have := load_calls h g3 hT
    unfold LoadPost at this
    rw [p4] at this
    exact this.mono fun e w' ⟨lg, h1, h2, h3, h4⟩ => ⟨lg, h1, h2, h4⟩
  have T5 : ∀ (W : World) (r : Nat) (lg : Value), Blk W r 33 #[.int .i64 3, .int .i64 1, .int .i64 1, .int .i64 3, .string { data := #[115] }, lg] → EntsAt W lg [eB] → Calls Tryd.prog 13 #[.pointer (some ⟨r, 0, none⟩)] W fun e w' => e = .returned (.tuple #[.int .i64 2, .int .i64 3]) ∧ ∃ k, w' = W.drewN k := fun W r lg h hl => last_calls (s := ⟨3, 1, 1, 3, [115], [eB]⟩) lg h hl (by decide)
  have HT1 := Lib.hid T1
  have HT2 := Lib.hid T2
  have HT3 := Lib.hid T3
  have HT4 := Lib.hid T4
  have HT5 := Lib.hid T5
  have HT := Lib.hid hT
  clear hT T1 T2 T3 T4 T5 p1 p2 p3 p4 g1 g2 g3 hg0 oka okb
  go_enter Tryd.func9, Tryd.ntmps9
  go_wp2_with (first
    | (go_at_call 8; refine (new_calls 1000 (by decide) w).mono ?_; rintro e w1 ⟨b, m, rfl, hb, hm, hD1, hk1⟩; have HD1 : Hid (DiskAt w1 b m (Dk.start 1000)) := hD1; have HK1 := Lib.hid hk1; have hblt := hD1.blk.lt; have hmlt := hD1.map.lt; have HM0 : Hid (AwM w ((w1.alloc (.cells #[.int .i64 1, .int .i64 3, .string { data := #[97] }] 29)).alloc (.cells #[.int .i64 2, .int .i64 3, .string { data := #[98] }] 29)) w1.heap.size b m (Dk.start 1000)) := (⟨(Blk.new _ _ _).alloc _, Blk.here _ _ _ _ (by simp), (HD1.out.alloc _).alloc _, (hk1.alloc _).alloc _, HT.out.keep ((hk1.alloc _).alloc _) (by simp)⟩ : AwM _ _ _ _ _ _); clear hD1 hk1)
    | (go_at_call 15; refine (HT1.out _ _ _ HM0.out.disk HM0.out.tab).mono ?_; rintro e w2 ⟨rfl, hD, hk⟩; have hM := HM0.out.step hblt hmlt hb hm hD hk; have a0 : w2.cell? ⟨w1.heap.size, 0, none⟩ = some (.int .i64 1) := hM.ea.cell 0; have a1 : w2.cell? ⟨w1.heap.size, 1, none⟩ = some (.int .i64 3) := hM.ea.cell 1; have a2 : w2.cell? ⟨w1.heap.size, 2, none⟩ = some (.string { data := #[97] }) := hM.ea.cell 2; have b0 : w2.cell? ⟨w1.heap.size + 1, 0, none⟩ = some (.int .i64 2) := hM.eb.cell 0; have b1 : w2.cell? ⟨w1.heap.size + 1, 1, none⟩ = some (.int .i64 3) := hM.eb.cell 1; have b2 : w2.cell? ⟨w1.heap.size + 1, 2, none⟩ = some (.string { data := #[98] }) := hM.eb.cell 2; have HM2 := Lib.hid hM; clear hM hD hk)
    | (go_at_call 14; refine (HT2.out _ _ _ _ (HM2.out.alloc _).disk (HM2.out.alloc _).tab (ents_here [eA, eB] (Blk.new _ _ _) rfl)).mono ?_; rintro e w3 ⟨rfl, hD, hk⟩; clear a0 a1 a2 b0 b1 b2; have hM := (HM2.out.alloc _).step hblt hmlt hb hm hD hk; have a0 : w3.cell? ⟨w1.heap.size, 0, none⟩ = some (.int .i64 1) := hM.ea.cell 0; have a1 : w3.cell? ⟨w1.heap.size, 1, none⟩ = some (.int .i64 3) := hM.ea.cell 1; have a2 : w3.cell? ⟨w1.heap.size, 2, none⟩ = some (.string { data := #[97] }) := hM.ea.cell 2; have b0 : w3.cell? ⟨w1.heap.size + 1, 0, none⟩ = some (.int .i64 2) := hM.eb.cell 0; have b1 : w3.cell? ⟨w1.heap.size + 1, 1, none⟩ = some (.int .i64 3) := hM.eb.cell 1; have b2 : w3.cell? ⟨w1.heap.size + 1, 2, none⟩ = some (.string { data := #[98] }) := hM.eb.cell 2; have HM3 := Lib.hid hM; clear hM hD hk)
    | (go_at_call 11; refine (HT3.out _ _ _ _ (HM3.out.alloc _).disk (HM3.out.alloc _).tab (ents_here [eB] (Blk.new _ _ _) rfl)).mono ?_; rintro e w4 ⟨rfl, hD, hk⟩; clear a0 a1 a2 b0 b1 b2; have hM := (HM3.out.alloc _).step hblt hmlt hb hm hD hk; have HM4 := Lib.hid hM; clear hM hD hk)
    | (go_at_call 12; refine (HT4.out _ _ _ HM4.out.disk HM4.out.tab).mono ?_; rintro e w5 ⟨lg, rfl, hown, hk⟩; obtain ⟨A, cc, rfl⟩ := own_slice hown; have HE := Lib.hid (own_ents (l := [eB]) hown); have HK5 := Lib.hid (HM4.out.keep.trans' hk (by simp; omega)); clear hown hk)
    | (go_at_call 13; refine (HT5.out _ _ _ (Blk.new _ _ _) (HE.out.keep_nil ((Keep.refl [] _).alloc _))).mono ?_; rintro e w6 ⟨rfl, k, rfl⟩))
  go_ret
  exact ⟨rfl, (HK5.out.alloc _).drewN _⟩

end Go.Proofs.YtpcbhechfbibbaaDoor
