/- The walk of cluster.Propose at one command. -/
import Derived.Test.YtjnenioefliggaaGreatDoorGEvAt2
import Derived.Test.YtjnenioefliggaaGreatDoorGCmd2
set_option linter.unusedVariables false
namespace Go.Proofs.YtjnenioefliggaaGreatDoor
open Go.RowKit
attribute [local go_sem] size_bs bs_append
theorem IntSl.same {w w' : World} {v : Value} {l : List Nat} (h : IntSl w v l) (hb : ∀ k, v.ownBlock = some k → w'.heap[k]? = w.heap[k]?) : IntSl w' v l := by
  rcases h with h | ⟨g, o, c, cs, rfl, h1, h2⟩
  · exact .inl h
  · exact .inr ⟨g, o, c, cs, rfl, (hb g rfl).trans h1, h2⟩
theorem below_cell {w w' : World} {p : Addr} {u : Value} (hb : Below w.heap.size w w') (h : w.cell? p = some u) : w'.cell? p = some u := by
  have hl := World.block_lt_of_cell? _ _ h
  rw [← h]
  unfold World.cell?
  rw [hb.block _ hl]
set_option maxRecDepth 100000 in
set_option maxHeartbeats 4000000 in
theorem cpropose_calls {C : Nat → Cm} {W w : World} {k b n g : Nat} (hC : Av.CsOk C) (h : Av.NowL C W k b n w) (hk : k < 10) (x : Cm) (hx : C k = x) (dv : Value) (hd : IntSl w dv x.disks) (hdn : ∀ q, dv.ownBlock = some q → n ≤ q) (hg : Blk w g 41 #[.int .i64 (x.kind : Int), .int .i64 (x.client : Int), .int .i64 (x.seq : Int), .string (bs x.name), .int .u64 (x.blob : Int), .int .i64 (x.size : Int), .int .u32 (x.sum : Int), dv, .int .i64 (x.pool : Int), .int .i64 (x.vol : Int), .int .i64 (x.at_ : Int)]) (hgn : n ≤ g) :
    Calls Tryz.prog 12 #[.pointer (some ⟨b, 0, none⟩), .slice (some ⟨g, 0, none⟩) 1 1] w fun e w' => ∃ v, e = .returned v ∧ Av.Now C W (k + 1) b w' := by
  obtain ⟨DA, dc, rfl, -⟩ := hd.at_
  obtain ⟨bn, hN, hb0, hbn⟩ := h.net (by omega)
  have hxo : x.Ok := hx ▸ (hC k).1
  have HC := Lib.hid hC
  have HN := Lib.hid hN
  have HD := Lib.hid hd
  have HDN := Lib.hid hdn
  have HG := Lib.hid hg
  have HX := Lib.hid hx
  have HXO := Lib.hid hxo
  have hbg : b < g := Nat.lt_of_lt_of_le hbn hgn
  have HBG := Lib.hid hbg
  have HK := Lib.hid hk
  have HGN := Lib.hid hgn
  have HB0 := Lib.hid hb0
  clear hC h hx hd hdn hg hxo hN hbg hk hgn hbn
  go_enter Tryz.func12, Tryz.ntmps12
  go_wp2_with (go_at_call 30; refine (Av.leader_calls HC.out HN.out HK.out).mono ?_; rintro e w1 ⟨rfl, hp, hb1, hf⟩; have HP := Lib.hid hp; have HF := Lib.hid hf; clear hp hf)
  have HG1 : Hid (Blk w1 g 41 #[.int .i64 (x.kind : Int), .int .i64 (x.client : Int), .int .i64 (x.seq : Int), .string (bs x.name), .int .u64 (x.blob : Int), .int .i64 (x.size : Int), .int .u32 (x.sum : Int), .slice DA x.disks.length dc, .int .i64 (x.pool : Int), .int .i64 (x.vol : Int), .int .i64 (x.at_ : Int)]) := Lib.hid ((HF.out g HGN.out HG.out.lt).trans HG.out)
  have HD1 : Hid (IntSl w1 (.slice DA x.disks.length dc) x.disks) := Lib.hid (HD.out.same fun q hq => HF.out q (HDN.out q hq) (HD.out.lt hq))
  go_loopw [9, 10, 25] (fun x9 x10 x25 wr => (∃ m e : Int, x9 = .int .i64 m ∧ x10 = .int .i64 e) ∧ ((x25 = .int .i64 0 ∧ wr = w1) ∨ (x25 = .int .i64 1 ∧ Av.P2 C W k b wr))) (fun _ _ x25 _ => 1 - (intOf x25).toNat)
  case atStart => exact ⟨⟨0, 0, rfl, rfl⟩, .inl ⟨rfl, rfl⟩⟩
  case round =>
    obtain ⟨⟨m, e, rfl, rfl⟩, ⟨rfl, rfl⟩ | ⟨rfl, hp2⟩⟩ := hrel
    · have g0 := HG1.out.cell 0
      have g1 := HG1.out.cell 1
      have g2 := HG1.out.cell 2
      have g3 := HG1.out.cell 3
      have g4 := HG1.out.cell 4
      have g5 := HG1.out.cell 5
      have g6 := HG1.out.cell 6
      have g7 := HG1.out.cell 7
      have g8 := HG1.out.cell 8
      have g9 := HG1.out.cell 9
      have g10 := HG1.out.cell 10
      simp only [List.getElem?_toArray, List.getElem?_cons_zero, List.getElem?_cons_succ] at g0 g1 g2 g3 g4 g5 g6 g7 g8 g9 g10
      go_wp2_with fail
      have HX0 : Hid (Blk (wr.alloc (.cells #[.int .i64 (x.kind : Int), .int .i64 (x.client : Int), .int .i64 (x.seq : Int), .string (bs x.name), .int .u64 (x.blob : Int), .int .i64 (x.size : Int), .int .u32 (x.sum : Int), .slice DA x.disks.length dc, .int .i64 (x.pool : Int), .int .i64 (x.vol : Int), .int .i64 (x.at_ : Int)] 41)) wr.heap.size 41 #[.int .i64 (x.kind : Int), .int .i64 (x.client : Int), .int .i64 (x.seq : Int), .string (bs x.name), .int .u64 (x.blob : Int), .int .i64 (x.size : Int), .int .u32 (x.sum : Int), .slice DA x.disks.length dc, .int .i64 (x.pool : Int), .int .i64 (x.vol : Int), .int .i64 (x.at_ : Int)]) := Lib.hid (Blk.new _ _ _)
      have HB1 : Hid ((wr.alloc (.cells #[.int .i64 (x.kind : Int), .int .i64 (x.client : Int), .int .i64 (x.seq : Int), .string (bs x.name), .int .u64 (x.blob : Int), .int .i64 (x.size : Int), .int .u32 (x.sum : Int), .slice DA x.disks.length dc, .int .i64 (x.pool : Int), .int .i64 (x.vol : Int), .int .i64 (x.at_ : Int)] 41)).cell? ⟨b, 0, none⟩ = some (.pointer (some ⟨bn, 0, none⟩))) := Lib.hid (below_cell ((Below.refl _ _).alloc (Nat.le_refl _) _) hb1)
      have HPP : Hid (Av.P1 C W k b bn wr.heap.size (wr.alloc (.cells #[.int .i64 (x.kind : Int), .int .i64 (x.client : Int), .int .i64 (x.seq : Int), .string (bs x.name), .int .u64 (x.blob : Int), .int .i64 (x.size : Int), .int .u32 (x.sum : Int), .slice DA x.disks.length dc, .int .i64 (x.pool : Int), .int .i64 (x.vol : Int), .int .i64 (x.at_ : Int)] 41))) := Lib.hid (HP.out.grow ((Below.refl _ _).alloc (Nat.le_refl _) _))
      have HD2 : Hid (IntSl (wr.alloc (.cells #[.int .i64 (x.kind : Int), .int .i64 (x.client : Int), .int .i64 (x.seq : Int), .string (bs x.name), .int .u64 (x.blob : Int), .int .i64 (x.size : Int), .int .u32 (x.sum : Int), .slice DA x.disks.length dc, .int .i64 (x.pool : Int), .int .i64 (x.vol : Int), .int .i64 (x.at_ : Int)] 41)) (.slice DA x.disks.length dc) x.disks) := Lib.hid (HD1.out.alloc _)
      clear g0 g1 g2 g3 g4 g5 g6 g7 g8 g9 g10 hb1
      generalize wr.alloc (.cells #[.int .i64 (x.kind : Int), .int .i64 (x.client : Int), .int .i64 (x.seq : Int), .string (bs x.name), .int .u64 (x.blob : Int), .int .i64 (x.size : Int), .int .u32 (x.sum : Int), .slice DA x.disks.length dc, .int .i64 (x.pool : Int), .int .i64 (x.vol : Int), .int .i64 (x.at_ : Int)] 41) = W1 at *
      generalize wr.heap.size = m at *
      have HSS : Hid (∀ W, World.cell? W ⟨b, 0, none⟩ = some (.pointer (some ⟨bn, 0, none⟩)) → Blk W m 41 #[.int .i64 (x.kind : Int), .int .i64 (x.client : Int), .int .i64 (x.seq : Int), .string (bs x.name), .int .u64 (x.blob : Int), .int .i64 (x.size : Int), .int .u32 (x.sum : Int), .slice DA x.disks.length dc, .int .i64 (x.pool : Int), .int .i64 (x.vol : Int), .int .i64 (x.at_ : Int)] → World.cell? W ⟨b, 0, none⟩ = some (.pointer (some ⟨bn, 0, none⟩)) ∧ World.cell? W ⟨m, 0, none⟩ = some (.int .i64 (x.kind : Int)) ∧ World.cell? W ⟨m, 1, none⟩ = some (.int .i64 (x.client : Int)) ∧ World.cell? W ⟨m, 2, none⟩ = some (.int .i64 (x.seq : Int)) ∧ World.cell? W ⟨m, 3, none⟩ = some (.string (bs x.name)) ∧ World.cell? W ⟨m, 4, none⟩ = some (.int .u64 (x.blob : Int)) ∧ World.cell? W ⟨m, 5, none⟩ = some (.int .i64 (x.size : Int)) ∧ World.cell? W ⟨m, 6, none⟩ = some (.int .u32 (x.sum : Int)) ∧ World.cell? W ⟨m, 7, none⟩ = some (.slice DA x.disks.length dc) ∧ World.cell? W ⟨m, 8, none⟩ = some (.int .i64 (x.pool : Int)) ∧ World.cell? W ⟨m, 9, none⟩ = some (.int .i64 (x.vol : Int)) ∧ World.cell? W ⟨m, 10, none⟩ = some (.int .i64 (x.at_ : Int))) := Lib.hid fun W h0 h => ⟨h0, h.cell 0, h.cell 1, h.cell 2, h.cell 3, h.cell 4, h.cell 5, h.cell 6, h.cell 7, h.cell 8, h.cell 9, h.cell 10⟩
      refine wp_region_held_drew (S := fun W => World.cell? W ⟨b, 0, none⟩ = some (.pointer (some ⟨bn, 0, none⟩)) ∧ World.cell? W ⟨m, 0, none⟩ = some (.int .i64 (x.kind : Int)) ∧ World.cell? W ⟨m, 1, none⟩ = some (.int .i64 (x.client : Int)) ∧ World.cell? W ⟨m, 2, none⟩ = some (.int .i64 (x.seq : Int)) ∧ World.cell? W ⟨m, 3, none⟩ = some (.string (bs x.name)) ∧ World.cell? W ⟨m, 4, none⟩ = some (.int .u64 (x.blob : Int)) ∧ World.cell? W ⟨m, 5, none⟩ = some (.int .i64 (x.size : Int)) ∧ World.cell? W ⟨m, 6, none⟩ = some (.int .u32 (x.sum : Int)) ∧ World.cell? W ⟨m, 7, none⟩ = some (.slice DA x.disks.length dc) ∧ World.cell? W ⟨m, 8, none⟩ = some (.int .i64 (x.pool : Int)) ∧ World.cell? W ⟨m, 9, none⟩ = some (.int .i64 (x.vol : Int)) ∧ World.cell? W ⟨m, 10, none⟩ = some (.int .i64 (x.at_ : Int))) (by kernel_rfl) (HSS.out _ HB1.out HX0.out.drew) (fun hHeld => ?_)
      refine wpAnyH_take (i := 0) (v := ?_) (by simp only [List.getElem?_toArray, List.getElem?_cons_zero]; rfl) (by kernel_rfl) (by kernel_rfl) (by kernel_rfl) (by exact fun _ _ _ h => h) ?_ hHeld ?_
      rotate_left
      · refine Or.inl ⟨by rfl, ?_⟩
        rintro W ⟨s, s0, s1, s2, s3, s4, s5, s6, s7, s8, s9, s10⟩
        go_simp
        with_reducible rfl
      try simp only [Act.put, List.setIfInBounds_toArray, List.set_cons_zero, List.set_cons_succ]
      refine wpAnyH_take (i := 1) (v := ?_) (by simp only [List.getElem?_toArray, List.getElem?_cons_succ, List.getElem?_cons_zero]; rfl) (by kernel_rfl) (by kernel_rfl) (by kernel_rfl) (by exact fun _ _ _ h => h) ?_ hHeld ?_
      rotate_left
      · refine Or.inl ⟨by rfl, ?_⟩
        rintro W ⟨s, s0, s1, s2, s3, s4, s5, s6, s7, s8, s9, s10⟩
        go_simp
        with_reducible rfl
      try simp only [Act.put, List.setIfInBounds_toArray, List.set_cons_zero, List.set_cons_succ]
      refine wpAnyH_take (i := 2) (v := ?_) (by simp only [List.getElem?_toArray, List.getElem?_cons_succ, List.getElem?_cons_zero]; rfl) (by kernel_rfl) (by kernel_rfl) (by kernel_rfl) (by exact fun _ _ _ h => h) ?_ hHeld ?_
      rotate_left
      · refine Or.inl ⟨by rfl, ?_⟩
        rintro W ⟨s, s0, s1, s2, s3, s4, s5, s6, s7, s8, s9, s10⟩
        go_simp
        with_reducible rfl
      try simp only [Act.put, List.setIfInBounds_toArray, List.set_cons_zero, List.set_cons_succ]
      refine wpAnyH_take (i := 3) (v := ?_) (by simp only [List.getElem?_toArray, List.getElem?_cons_succ, List.getElem?_cons_zero]; rfl) (by kernel_rfl) (by kernel_rfl) (by kernel_rfl) (by exact fun _ _ _ h => h) ?_ hHeld ?_
      rotate_left
      · refine Or.inl ⟨by rfl, ?_⟩
        rintro W ⟨s, s0, s1, s2, s3, s4, s5, s6, s7, s8, s9, s10⟩
        go_simp
        with_reducible rfl
      try simp only [Act.put, List.setIfInBounds_toArray, List.set_cons_zero, List.set_cons_succ]
      refine wpAnyH_take (i := 4) (v := ?_) (by simp only [List.getElem?_toArray, List.getElem?_cons_succ, List.getElem?_cons_zero]; rfl) (by kernel_rfl) (by kernel_rfl) (by kernel_rfl) (by exact fun _ _ _ h => h) ?_ hHeld ?_
      rotate_left
      · refine Or.inl ⟨by rfl, ?_⟩
        rintro W ⟨s, s0, s1, s2, s3, s4, s5, s6, s7, s8, s9, s10⟩
        go_simp
        with_reducible rfl
      try simp only [Act.put, List.setIfInBounds_toArray, List.set_cons_zero, List.set_cons_succ]
      refine wpAnyH_take (i := 5) (v := ?_) (by simp only [List.getElem?_toArray, List.getElem?_cons_succ, List.getElem?_cons_zero]; rfl) (by kernel_rfl) (by kernel_rfl) (by kernel_rfl) (by exact fun _ _ _ h => h) ?_ hHeld ?_
      rotate_left
      · refine Or.inl ⟨by rfl, ?_⟩
        rintro W ⟨s, s0, s1, s2, s3, s4, s5, s6, s7, s8, s9, s10⟩
        go_simp
        with_reducible rfl
      try simp only [Act.put, List.setIfInBounds_toArray, List.set_cons_zero, List.set_cons_succ]
      clear hHeld
      refine wpAnyH_ready (rs := [6]) (by kernel_rfl) (by simp) (AllReadyH.cons rfl (fun K hK => ?_) AllReadyH.nil)
      go_simp
      go_at_call 32
      refine (cwrite_calls x HXO.out (.slice DA x.disks.length dc) _ (HD2.out.grow (Keep.refl _ _).drew)).mono ?_
      rintro e2 w2 ⟨rfl, hk2⟩
      have HK2 := Lib.hid hk2
      clear hk2
      have HX2 : Hid (Blk w2 m 41 #[.int .i64 (x.kind : Int), .int .i64 (x.client : Int), .int .i64 (x.seq : Int), .string (bs x.name), .int .u64 (x.blob : Int), .int .i64 (x.size : Int), .int .u32 (x.sum : Int), .slice DA x.disks.length dc, .int .i64 (x.pool : Int), .int .i64 (x.vol : Int), .int .i64 (x.at_ : Int)]) := Lib.hid (HX0.out.drew.keep HK2.out (by simp))
      have hHeld := HSS.out w2 (below_cell (Av.keep_below HK2.out) HB1.out) HX2.out
      go_simp
      refine hK.out _ _ hHeld (fun _ => ?_)
      clear hK K hHeld
      try simp only [Act.put, List.setIfInBounds_toArray, List.set_cons_zero, List.set_cons_succ]
      refine wpAnyH_ready (rs := [7]) (by kernel_rfl) (by simp) (AllReadyH.cons rfl (fun K hK => ?_) AllReadyH.nil)
      go_simp
      go_at_call 31
      have hpc := Av.npropose_calls (k := k) (b := b) (bn := bn) HC.out (HPP.out.grow (Av.keep_below ((Keep.refl _ _).drew.trans HK2.out)))
      rw [HX.out] at hpc
      refine hpc.mono ?_
      clear hpc
      rintro e3 w3 ⟨m', n', rfl, hp2, hb3, hf3⟩
      have HP2 := Lib.hid hp2
      have hHeld := HSS.out w3 hb3 ((hf3 m (Nat.le_refl _) HX2.out.lt).trans HX2.out)
      clear hp2 hb3 hf3
      go_simp
      refine hK.out _ _ hHeld (fun _ => ?_)
      clear hK K
      try simp only [Act.put, List.setIfInBounds_toArray, List.set_cons_zero, List.set_cons_succ]
      refine wpAnyH_take (i := 8) (v := ?_) (by simp only [List.getElem?_toArray, List.getElem?_cons_succ, List.getElem?_cons_zero]; rfl) (by kernel_rfl) (by kernel_rfl) (by kernel_rfl) (by exact fun _ _ _ h => h) ?_ hHeld ?_
      rotate_left
      · refine Or.inl ⟨by rfl, ?_⟩
        rintro W ⟨s, s0, s1, s2, s3, s4, s5, s6, s7, s8, s9, s10⟩
        go_simp
        with_reducible rfl
      try simp only [Act.put, List.setIfInBounds_toArray, List.set_cons_zero, List.set_cons_succ]
      refine wpAnyH_take (i := 9) (v := ?_) (by simp only [List.getElem?_toArray, List.getElem?_cons_succ, List.getElem?_cons_zero]; rfl) (by kernel_rfl) (by kernel_rfl) (by kernel_rfl) (by exact fun _ _ _ h => h) ?_ hHeld ?_
      rotate_left
      · refine Or.inl ⟨by rfl, ?_⟩
        rintro W ⟨s, s0, s1, s2, s3, s4, s5, s6, s7, s8, s9, s10⟩
        go_simp
        with_reducible rfl
      try simp only [Act.put, List.setIfInBounds_toArray, List.set_cons_zero, List.set_cons_succ]
      refine wpAnyH_take (i := 10) (v := ?_) (by simp only [List.getElem?_toArray, List.getElem?_cons_succ, List.getElem?_cons_zero]; rfl) (by kernel_rfl) (by kernel_rfl) (by kernel_rfl) (by exact fun _ _ _ h => h) ?_ hHeld ?_
      rotate_left
      · refine Or.inl ⟨by rfl, ?_⟩
        rintro W ⟨s, s0, s1, s2, s3, s4, s5, s6, s7, s8, s9, s10⟩
        go_simp
        with_reducible rfl
      try simp only [Act.put, List.setIfInBounds_toArray, List.set_cons_zero, List.set_cons_succ]
      refine wpAnyH_take (i := 11) (v := ?_) (by simp only [List.getElem?_toArray, List.getElem?_cons_succ, List.getElem?_cons_zero]; rfl) (by kernel_rfl) (by kernel_rfl) (by kernel_rfl) (by exact fun _ _ _ h => h) ?_ hHeld ?_
      rotate_left
      · refine Or.inl ⟨by rfl, ?_⟩
        rintro W ⟨s, s0, s1, s2, s3, s4, s5, s6, s7, s8, s9, s10⟩
        go_simp
        with_reducible rfl
      try simp only [Act.put, List.setIfInBounds_toArray, List.set_cons_zero, List.set_cons_succ]
      refine wpAnyH_take (i := 12) (v := ?_) (by simp only [List.getElem?_toArray, List.getElem?_cons_succ, List.getElem?_cons_zero]; rfl) (by kernel_rfl) (by kernel_rfl) (by kernel_rfl) (by exact fun _ _ _ h => h) ?_ hHeld ?_
      rotate_left
      · refine Or.inl ⟨by rfl, ?_⟩
        rintro W ⟨s, s0, s1, s2, s3, s4, s5, s6, s7, s8, s9, s10⟩
        go_simp
        with_reducible rfl
      try simp only [Act.put, List.setIfInBounds_toArray, List.set_cons_zero, List.set_cons_succ]
      refine wpAnyH_take (i := 13) (v := ?_) (by simp only [List.getElem?_toArray, List.getElem?_cons_succ, List.getElem?_cons_zero]; rfl) (by kernel_rfl) (by kernel_rfl) (by kernel_rfl) (by exact fun _ _ _ h => h) ?_ hHeld ?_
      rotate_left
      · refine Or.inl ⟨by rfl, ?_⟩
        rintro W ⟨s, s0, s1, s2, s3, s4, s5, s6, s7, s8, s9, s10⟩
        go_simp
        with_reducible rfl
      try simp only [Act.put, List.setIfInBounds_toArray, List.set_cons_zero, List.set_cons_succ]
      refine wpAnyH_take (i := 14) (v := ?_) (by simp only [List.getElem?_toArray, List.getElem?_cons_succ, List.getElem?_cons_zero]; rfl) (by kernel_rfl) (by kernel_rfl) (by kernel_rfl) (by exact fun _ _ _ h => h) ?_ hHeld ?_
      rotate_left
      · refine Or.inl ⟨by rfl, ?_⟩
        rintro W ⟨s, s0, s1, s2, s3, s4, s5, s6, s7, s8, s9, s10⟩
        go_simp
        with_reducible rfl
      try simp only [Act.put, List.setIfInBounds_toArray, List.set_cons_zero, List.set_cons_succ]
      refine wpAnyH_done (by kernel_rfl) ?_ _
      clear hHeld
      go_wp2_with fail
      go_roundw
      case rel => exact ⟨⟨_, _, rfl, rfl⟩, .inr ⟨rfl, HP2.out⟩⟩
      case measure => simp [intOf]
    · have HP2 := Lib.hid hp2
      clear hp2
      go_wp2_with (go_at_call 26; refine (Av.receive_calls (k := k) HC.out HP2.out).mono ?_; rintro e w4 ⟨rfl, h4⟩; have H4 := Lib.hid h4; clear h4)
      refine bodyPost_ret (by simp [results, Tryz.results12, go_sem]; try rfl) rfl ?_
      exact ⟨_, rfl, H4.out⟩
end Go.Proofs.YtjnenioefliggaaGreatDoor
