/- begin: a run of a service. -/
import Derived.Test.YtpnoiagjgkajdaaGreatDoorWLaws
set_option linter.unusedVariables false
namespace Go.Proofs.YtpnoiagjgkajdaaGreatDoor
open Go.RowKit
open Av (Same)
attribute [local go_sem] size_bs bs_append
theorem infoInt : (Tryz.prog.info? 3).map (fun i => (i.zero, i.size, i.bytes)) = some (some (.int .i64 0), 1, 8) := by kernel_rfl
theorem make5 (W : World) : (Instr.makeSlice 22 (.int .i64 5) (.int .i64 5)).run Tryz.prog W = .ok (.slice (some ⟨W.heap.size, 0, none⟩) 5 5) (W.alloc (.cells #[.int .i64 0, .int .i64 0, .int .i64 0, .int .i64 0, .int .i64 0] 3)) := by
  obtain ⟨i, hi, hz0, hz1, hz2⟩ := info_parts infoInt
  have := run_make (P := Tryz.prog) W 22 3 i (.int .i64 0) Tryz.underlying22 hi hz0 .i64 .i64 5 5 (by omega) (by omega) (by rw [hz2]; omega) (by omega)
  rw [hz1] at this
  have hm : madeCells (Value.int .i64 0).cells (Int.toNat 5 * 1) = #[.int .i64 0, .int .i64 0, .int .i64 0, .int .i64 0, .int .i64 0] := by first | rfl | decide | (simp [madeCells, Value.cells]; done) | (simp [madeCells, Value.cells, Array.range]; rfl)
  rw [hm] at this
  exact this
/-- What the region keeps: the result's cells alone are turned. -/
def HeldR (w2 : World) (R : Nat) (W : World) : Prop := Keep [R] w2 W ∧ ∃ v0 v1 v2 v3 v4 v5 v6 v7 v8 v9, Blk W R 31 #[v0, v1, v2, v3, v4, v5, v6, v7, v8, v9]
theorem HeldR.alloc {w2 W : World} {R : Nat} (h : HeldR w2 R W) (o : Obj) : HeldR w2 R (W.alloc o) := by
  obtain ⟨h1, v0, v1, v2, v3, v4, v5, v6, v7, v8, v9, h2⟩ := h
  exact ⟨h1.alloc _, v0, v1, v2, v3, v4, v5, v6, v7, v8, v9, h2.alloc _⟩
theorem setR {W : World} {R : Nat} {v0 v1 v2 v3 v4 v5 v6 v7 v8 v9 x0 x1 x2 x3 x4 x5 x6 x7 x8 x9 : Value} (h : Blk W R 31 #[v0, v1, v2, v3, v4, v5, v6, v7, v8, v9]) :
    Blk ((((((((((W.setCell ⟨R, 0, none⟩ x0).setCell ⟨R, 1, none⟩ x1).setCell ⟨R, 2, none⟩ x2).setCell ⟨R, 3, none⟩ x3).setCell ⟨R, 4, none⟩ x4).setCell ⟨R, 5, none⟩ x5).setCell ⟨R, 6, none⟩ x6).setCell ⟨R, 7, none⟩ x7).setCell ⟨R, 8, none⟩ x8).setCell ⟨R, 9, none⟩ x9) R 31 #[x0, x1, x2, x3, x4, x5, x6, x7, x8, x9] :=
  by
    have h0 := h.set_ 0 x0
    simp only [List.setIfInBounds_toArray, List.set_cons_zero] at h0
    have h1 := h0.set_ 1 x1
    simp only [List.setIfInBounds_toArray, List.set_cons_zero, List.set_cons_succ] at h1
    have h2 := h1.set_ 2 x2
    simp only [List.setIfInBounds_toArray, List.set_cons_zero, List.set_cons_succ] at h2
    have h3 := h2.set_ 3 x3
    simp only [List.setIfInBounds_toArray, List.set_cons_zero, List.set_cons_succ] at h3
    have h4 := h3.set_ 4 x4
    simp only [List.setIfInBounds_toArray, List.set_cons_zero, List.set_cons_succ] at h4
    have h5 := h4.set_ 5 x5
    simp only [List.setIfInBounds_toArray, List.set_cons_zero, List.set_cons_succ] at h5
    have h6 := h5.set_ 6 x6
    simp only [List.setIfInBounds_toArray, List.set_cons_zero, List.set_cons_succ] at h6
    have h7 := h6.set_ 7 x7
    simp only [List.setIfInBounds_toArray, List.set_cons_zero, List.set_cons_succ] at h7
    have h8 := h7.set_ 8 x8
    simp only [List.setIfInBounds_toArray, List.set_cons_zero, List.set_cons_succ] at h8
    have h9 := h8.set_ 9 x9
    simp only [List.setIfInBounds_toArray, List.set_cons_zero, List.set_cons_succ] at h9
    exact h9
theorem heldSet {w2 W : World} {R : Nat} {v0 v1 v2 v3 v4 v5 v6 v7 v8 v9 x0 x1 x2 x3 x4 x5 x6 x7 x8 x9 : Value} (hk : Keep [R] w2 W) (h : Blk W R 31 #[v0, v1, v2, v3, v4, v5, v6, v7, v8, v9]) : HeldR w2 R ((((((((((W.setCell ⟨R, 0, none⟩ x0).setCell ⟨R, 1, none⟩ x1).setCell ⟨R, 2, none⟩ x2).setCell ⟨R, 3, none⟩ x3).setCell ⟨R, 4, none⟩ x4).setCell ⟨R, 5, none⟩ x5).setCell ⟨R, 6, none⟩ x6).setCell ⟨R, 7, none⟩ x7).setCell ⟨R, 8, none⟩ x8).setCell ⟨R, 9, none⟩ x9) :=
  ⟨by repeat (first | refine Keep.setCell ?_ (.inl (by simp)) _ | exact hk), x0, x1, x2, x3, x4, x5, x6, x7, x8, x9, setR h⟩
theorem genR {P : Program} {md : Region.Mode} {ops : Array Oper} {Q : Exit → Act → World → Prop} {S : World → Prop} {fuel : Nat} {listed : Array Bool} {a : Act} {w2 W : World} {R : Nat} {v0 v1 v2 v3 v4 v5 v6 v7 v8 v9 x0 x1 x2 x3 x4 x5 x6 x7 x8 x9 : Value} (hk : Keep [R] w2 W) (h : Blk W R 31 #[v0, v1, v2, v3, v4, v5, v6, v7, v8, v9]) (k : ∀ W', Keep [R] w2 W' → Blk W' R 31 #[x0, x1, x2, x3, x4, x5, x6, x7, x8, x9] → wpAnyH P md ops Q S fuel listed a W') : wpAnyH P md ops Q S fuel listed a ((((((((((W.setCell ⟨R, 0, none⟩ x0).setCell ⟨R, 1, none⟩ x1).setCell ⟨R, 2, none⟩ x2).setCell ⟨R, 3, none⟩ x3).setCell ⟨R, 4, none⟩ x4).setCell ⟨R, 5, none⟩ x5).setCell ⟨R, 6, none⟩ x6).setCell ⟨R, 7, none⟩ x7).setCell ⟨R, 8, none⟩ x8).setCell ⟨R, 9, none⟩ x9) :=
  k _ (by repeat (first | refine Keep.setCell ?_ (.inl (by simp)) _ | exact hk)) (setR h)
theorem genW {P : Program} {md : Region.Mode} {ops : Array Oper} {Q : Exit → Act → World → Prop} {S : World → Prop} {fuel : Nat} {listed : Array Bool} {a : Act} {w2 W : World} {R : Nat} (h : HeldR w2 R W) (k : ∀ W', HeldR w2 R W' → wpAnyH P md ops Q S fuel listed a W') : wpAnyH P md ops Q S fuel listed a W := k W h
/-- A run begins. -/
def BeginTo (C : Nat → Cm) (z : Int) (W : World) (e : Ending) (w' : World) : Prop := ∃ s b lm om x y g, e = .returned (.tuple #[.agg #[.pointer (some ⟨s, 0, none⟩), .pointer (some ⟨b, 0, none⟩), .map (some x), .int .i64 0, .int .i64 0, .int .i64 0, .int .i64 0, .map (some y), .slice (some ⟨g, 0, none⟩) 5 5, .int .i64 0], .bool true]) ∧ Av.BkAt C z W (f3 s lm om) b 3 0 w' ∧ SvcAt w' s b lm om [] [] 0 (.slice none 0 0) 0 [] (f3 s lm om) ∧ (∀ y ∈ f3 s lm om, y < w'.heap.size ∧ W.heap.size ≤ y)
section
variable {C : Nat → Cm} {z : Int} {w w' W : World} {s b lm om n r m j : Nat} {F M : List Nat}
set_option maxRecDepth 100000 in
set_option maxHeartbeats 8000000 in
theorem begin_calls {ty : Nat → Nat} (hC : Av.CsOk C) (hT : Av.Tabs W ty) (hw : Keep [] W w) : Calls Tryz.prog 6 #[.int .i64 z, .int .i64 0, .int .i64 0] w (BeginTo C z W) := by
  have hmm := @run_makeMap Tryz.prog
  have hms := make5
  have HN := Lib.hid (fun w1 G (h : Keep [] W w1) (hg : ∀ y ∈ G, y < w1.heap.size) => snew_calls (z := z) (G := G) hC hT h hg)
  have HCF := Lib.hid (fun w1 => config_calls z w1)
  have HW := Lib.hid hw
  have HR0 : Hid (Blk (w.alloc (.cells #[.pointer none, .pointer none, .map none, .int .i64 0, .int .i64 0, .int .i64 0, .int .i64 0, .map none, .slice none 0 0, .int .i64 0] 31)) w.heap.size 31 #[.pointer none, .pointer none, .map none, .int .i64 0, .int .i64 0, .int .i64 0, .int .i64 0, .map none, .slice none 0 0, .int .i64 0]) := Lib.hid (Blk.new _ _ _)
  have HW0 : Hid (Keep [] W (w.alloc (.cells #[.pointer none, .pointer none, .map none, .int .i64 0, .int .i64 0, .int .i64 0, .int .i64 0, .map none, .slice none 0 0, .int .i64 0] 31))) := Lib.hid (hw.alloc _)
  have HRW : Hid (W.heap.size ≤ w.heap.size) := Lib.hid hw.size
  simp only [Av.cfgV] at HN
  clear hC hT hw
  go_enter Tryz.func6, Tryz.ntmps6
  go_upto_region 1 with fail
  generalize w.alloc (.cells #[.pointer none, .pointer none, .map none, .int .i64 0, .int .i64 0, .int .i64 0, .int .i64 0, .map none, .slice none 0 0, .int .i64 0] 31) = W0 at *
  generalize w.heap.size = R at *
  go_upto_region 2 with (first
    | (go_at_call 22; refine (HCF.out _).mono ?_; rintro e w1 ⟨rfl, hb1⟩; have HB1 := Lib.hid (wbelow_keep hb1); clear hb1)
    | (go_at_call 21; refine (HN.out _ [R] (HW0.out.trans HB1.out) (by simpa using Nat.lt_of_lt_of_le HR0.out.lt HB1.out.size)).mono ?_; rintro e w2 ⟨s, b, lm, om, rfl, hb, hv, hf, hk2⟩; have HK2 := Lib.hid (HB1.out.trans hk2); have HB := Lib.hid hb; have HV := Lib.hid hv; have HF := Lib.hid hf; clear hb hv hf hk2))
  have HCL := Lib.hid (fun w1 (hk : Keep [] w2 w1) => cluster_calls (HV.out.grow hk))
  go_upto_region 4 with (go_at_call 13; refine (HCL.out _ (Keep.refl _ _)).mono ?_; rintro e w3 ⟨rfl, rfl⟩)
  have HR : Hid (Blk w2 R 31 #[.pointer none, .pointer none, .map none, .int .i64 0, .int .i64 0, .int .i64 0, .int .i64 0, .map none, .slice none 0 0, .int .i64 0]) := Lib.hid (HR0.out.keep HK2.out (by simp))
  have hHeld : HeldR w2 R w2.drew := ⟨(Keep.refl _ _).drew, _, _, _, _, _, _, _, _, _, _, HR.out.drew⟩
  have HRN : Hid (∀ y ∈ [R], y ∉ f3 s lm om) := Lib.hid (by
    simp only [f3, List.mem_cons, List.not_mem_nil, or_false, not_or]
    rintro y rfl
    exact ⟨HR.out.ne_ HV.out.blk (by decide), Ne.symm (HV.out.last.ne_ HR.out), Ne.symm (HV.out.opn.ne_ HR.out)⟩)
  have HCL2 := Lib.hid (fun w1 (hk : HeldR w2 R w1) => cluster_calls (HV.out.keep hk.1 HRN.out))
  have HE : Hid (∀ w', Keep [R] w2 w' → Av.BkAt C z W (f3 s lm om) b 3 0 w' ∧ SvcAt w' s b lm om [] [] 0 (.slice none 0 0) 0 [] (f3 s lm om) ∧ (∀ y ∈ f3 s lm om, y < w'.heap.size ∧ W.heap.size ≤ y)) := Lib.hid fun w' hk => by
    obtain ⟨ty, cc, hst⟩ := HB.out
    exact ⟨⟨ty, cc, (Av.Stage.keep hst hk (by simp) (fun y hy => by
      rcases List.mem_append.1 hy with hy | hy
      · exact (HF.out y hy).2
      · simp only [List.mem_singleton] at hy; subst hy; exact HRW.out)).sub fun y hy => List.mem_append_left _ hy⟩, HV.out.keep hk HRN.out, fun y hy => ⟨Nat.lt_of_lt_of_le (HF.out y hy).1 hk.size, (HF.out y hy).2⟩⟩
  refine wp_region_held_drew (S := HeldR w2 R) (by kernel_rfl) hHeld (fun hHeld => ?_)
  refine th 0 hHeld ?_
  refine th 1 hHeld ?_
  refine wpAnyH_ready (rs := [2, 3, 5, 6]) (by kernel_rfl) (by simp) (AllReadyH.cons rfl (fun K hK => ?_) (AllReadyH.cons rfl (fun K hK => ?_) (AllReadyH.cons rfl (fun K hK => ?_) (AllReadyH.cons rfl (fun K hK => ?_) AllReadyH.nil))))
  · go_simp
    go_at_call 13
    refine (HCL2.out _ hHeld).mono ?_
    rintro e w3 ⟨rfl, rfl⟩
    go_simp
    refine hK.out _ _ hHeld (fun _ => ?_)
    clear hK K
    try simp only [Act.put, List.setIfInBounds_toArray, List.set_cons_zero, List.set_cons_succ]
    refine wpAnyH_ready (rs := [3, 5, 6]) (by kernel_rfl) (by simp) (AllReadyH.cons rfl (fun K hK => ?_) (AllReadyH.cons rfl (fun K hK => ?_) (AllReadyH.cons rfl (fun K hK => ?_) AllReadyH.nil)))
    · go_simp
      have hA := hHeld.alloc (.map #[] 0)
      refine hK.out _ _ hA (fun _ => ?_)
      clear hHeld
      have hHeld := hA
      clear hA
      clear hK K
      try simp only [Act.put, List.setIfInBounds_toArray, List.set_cons_zero, List.set_cons_succ]
      refine th 4 hHeld ?_
      refine wpAnyH_ready (rs := [5, 6]) (by kernel_rfl) (by simp) (AllReadyH.cons rfl (fun K hK => ?_) (AllReadyH.cons rfl (fun K hK => ?_) AllReadyH.nil))
      · go_simp
        have hA := hHeld.alloc (.map #[] 0)
        refine hK.out _ _ hA (fun _ => ?_)
        clear hHeld
        have hHeld := hA
        clear hA
        clear hK K
        try simp only [Act.put, List.setIfInBounds_toArray, List.set_cons_zero, List.set_cons_succ]
        refine wpAnyH_ready (rs := [6]) (by kernel_rfl) (by simp) (AllReadyH.cons rfl (fun K hK => ?_) AllReadyH.nil)
        · go_simp
          have hA := hHeld.alloc (.cells #[.int .i64 0, .int .i64 0, .int .i64 0, .int .i64 0, .int .i64 0] 3)
          refine hK.out _ _ hA (fun _ => ?_)
          clear hHeld
          have hHeld := hA
          clear hA
          clear hK K
          try simp only [Act.put, List.setIfInBounds_toArray, List.set_cons_zero, List.set_cons_succ]
          refine th 7 hHeld ?_
          refine genW hHeld ?_
          clear hHeld
          intro Wn hHeld
          obtain ⟨hk9, v0, v1, v2, v3, v4, v5, v6, v7, v8, v9, hR⟩ := hHeld
          have r0 := hR.cell 0
          have r1 := hR.cell 1
          have r2 := hR.cell 2
          have r3 := hR.cell 3
          have r4 := hR.cell 4
          have r5 := hR.cell 5
          have r6 := hR.cell 6
          have r7 := hR.cell 7
          have r8 := hR.cell 8
          have r9 := hR.cell 9
          simp only [List.getElem?_toArray, List.getElem?_cons_zero, List.getElem?_cons_succ] at r0 r1 r2 r3 r4 r5 r6 r7 r8 r9
          have rf := hR.frozen
          refine wpAnyH_ready (rs := [8]) (by kernel_rfl) (by simp) (AllReadyH.cons rfl (fun K hK => ?_) AllReadyH.nil)
          go_simp
          refine hK.out _ _ (heldSet hk9 hR) (fun _ => ?_)
          clear hK K r0 r1 r2 r3 r4 r5 r6 r7 r8 r9 rf
          try simp only [Act.put, List.setIfInBounds_toArray, List.set_cons_zero, List.set_cons_succ]
          refine genR hk9 hR ?_
          clear hk9 hR
          intro Wf hkf hRf
          refine wpAnyH_ready (rs := [9]) (by kernel_rfl) (by simp) (AllReadyH.cons rfl (fun K hK => ?_) AllReadyH.nil)
          go_simp
          refine hK.out _ _ ⟨hkf, _, _, _, _, _, _, _, _, _, _, hRf⟩ (fun _ => ?_)
          clear hK K
          try simp only [Act.put, List.setIfInBounds_toArray, List.set_cons_zero, List.set_cons_succ]
          refine wpAnyH_done (by kernel_rfl) ?_ _
          have r0 := hRf.cell 0
          have r1 := hRf.cell 1
          have r2 := hRf.cell 2
          have r3 := hRf.cell 3
          have r4 := hRf.cell 4
          have r5 := hRf.cell 5
          have r6 := hRf.cell 6
          have r7 := hRf.cell 7
          have r8 := hRf.cell 8
          have r9 := hRf.cell 9
          simp only [List.getElem?_toArray, List.getElem?_cons_zero, List.getElem?_cons_succ] at r0 r1 r2 r3 r4 r5 r6 r7 r8 r9
          have HEND := HE.out _ hkf
          go_wp2_with fail
          refine bodyPost_ret (by simp [results, Tryz.results6, go_sem, r0, r1, r2, r3, r4, r5, r6, r7, r8, r9]; try rfl) rfl ?_
          exact ⟨s, b, lm, om, _, _, _, rfl, HEND⟩
      · go_simp
        have hA := hHeld.alloc (.cells #[.int .i64 0, .int .i64 0, .int .i64 0, .int .i64 0, .int .i64 0] 3)
        refine hK.out _ _ hA (fun _ => ?_)
        clear hHeld
        have hHeld := hA
        clear hA
        clear hK K
        try simp only [Act.put, List.setIfInBounds_toArray, List.set_cons_zero, List.set_cons_succ]
        refine wpAnyH_ready (rs := [5]) (by kernel_rfl) (by simp) (AllReadyH.cons rfl (fun K hK => ?_) AllReadyH.nil)
        · go_simp
          have hA := hHeld.alloc (.map #[] 0)
          refine hK.out _ _ hA (fun _ => ?_)
          clear hHeld
          have hHeld := hA
          clear hA
          clear hK K
          try simp only [Act.put, List.setIfInBounds_toArray, List.set_cons_zero, List.set_cons_succ]
          refine th 7 hHeld ?_
          refine genW hHeld ?_
          clear hHeld
          intro Wn hHeld
          obtain ⟨hk9, v0, v1, v2, v3, v4, v5, v6, v7, v8, v9, hR⟩ := hHeld
          have r0 := hR.cell 0
          have r1 := hR.cell 1
          have r2 := hR.cell 2
          have r3 := hR.cell 3
          have r4 := hR.cell 4
          have r5 := hR.cell 5
          have r6 := hR.cell 6
          have r7 := hR.cell 7
          have r8 := hR.cell 8
          have r9 := hR.cell 9
          simp only [List.getElem?_toArray, List.getElem?_cons_zero, List.getElem?_cons_succ] at r0 r1 r2 r3 r4 r5 r6 r7 r8 r9
          have rf := hR.frozen
          refine wpAnyH_ready (rs := [8]) (by kernel_rfl) (by simp) (AllReadyH.cons rfl (fun K hK => ?_) AllReadyH.nil)
          go_simp
          refine hK.out _ _ (heldSet hk9 hR) (fun _ => ?_)
          clear hK K r0 r1 r2 r3 r4 r5 r6 r7 r8 r9 rf
          try simp only [Act.put, List.setIfInBounds_toArray, List.set_cons_zero, List.set_cons_succ]
          refine genR hk9 hR ?_
          clear hk9 hR
          intro Wf hkf hRf
          refine wpAnyH_ready (rs := [9]) (by kernel_rfl) (by simp) (AllReadyH.cons rfl (fun K hK => ?_) AllReadyH.nil)
          go_simp
          refine hK.out _ _ ⟨hkf, _, _, _, _, _, _, _, _, _, _, hRf⟩ (fun _ => ?_)
          clear hK K
          try simp only [Act.put, List.setIfInBounds_toArray, List.set_cons_zero, List.set_cons_succ]
          refine wpAnyH_done (by kernel_rfl) ?_ _
          have r0 := hRf.cell 0
          have r1 := hRf.cell 1
          have r2 := hRf.cell 2
          have r3 := hRf.cell 3
          have r4 := hRf.cell 4
          have r5 := hRf.cell 5
          have r6 := hRf.cell 6
          have r7 := hRf.cell 7
          have r8 := hRf.cell 8
          have r9 := hRf.cell 9
          simp only [List.getElem?_toArray, List.getElem?_cons_zero, List.getElem?_cons_succ] at r0 r1 r2 r3 r4 r5 r6 r7 r8 r9
          have HEND := HE.out _ hkf
          go_wp2_with fail
          refine bodyPost_ret (by simp [results, Tryz.results6, go_sem, r0, r1, r2, r3, r4, r5, r6, r7, r8, r9]; try rfl) rfl ?_
          exact ⟨s, b, lm, om, _, _, _, rfl, HEND⟩
    · go_simp
      have hA := hHeld.alloc (.map #[] 0)
      refine hK.out _ _ hA (fun _ => ?_)
      clear hHeld
      have hHeld := hA
      clear hA
      clear hK K
      try simp only [Act.put, List.setIfInBounds_toArray, List.set_cons_zero, List.set_cons_succ]
      refine wpAnyH_ready (rs := [3, 6]) (by kernel_rfl) (by simp) (AllReadyH.cons rfl (fun K hK => ?_) (AllReadyH.cons rfl (fun K hK => ?_) AllReadyH.nil))
      · go_simp
        have hA := hHeld.alloc (.map #[] 0)
        refine hK.out _ _ hA (fun _ => ?_)
        clear hHeld
        have hHeld := hA
        clear hA
        clear hK K
        try simp only [Act.put, List.setIfInBounds_toArray, List.set_cons_zero, List.set_cons_succ]
        refine th 4 hHeld ?_
        refine wpAnyH_ready (rs := [6]) (by kernel_rfl) (by simp) (AllReadyH.cons rfl (fun K hK => ?_) AllReadyH.nil)
        · go_simp
          have hA := hHeld.alloc (.cells #[.int .i64 0, .int .i64 0, .int .i64 0, .int .i64 0, .int .i64 0] 3)
          refine hK.out _ _ hA (fun _ => ?_)
          clear hHeld
          have hHeld := hA
          clear hA
          clear hK K
          try simp only [Act.put, List.setIfInBounds_toArray, List.set_cons_zero, List.set_cons_succ]
          refine th 7 hHeld ?_
          refine genW hHeld ?_
          clear hHeld
          intro Wn hHeld
          obtain ⟨hk9, v0, v1, v2, v3, v4, v5, v6, v7, v8, v9, hR⟩ := hHeld
          have r0 := hR.cell 0
          have r1 := hR.cell 1
          have r2 := hR.cell 2
          have r3 := hR.cell 3
          have r4 := hR.cell 4
          have r5 := hR.cell 5
          have r6 := hR.cell 6
          have r7 := hR.cell 7
          have r8 := hR.cell 8
          have r9 := hR.cell 9
          simp only [List.getElem?_toArray, List.getElem?_cons_zero, List.getElem?_cons_succ] at r0 r1 r2 r3 r4 r5 r6 r7 r8 r9
          have rf := hR.frozen
          refine wpAnyH_ready (rs := [8]) (by kernel_rfl) (by simp) (AllReadyH.cons rfl (fun K hK => ?_) AllReadyH.nil)
          go_simp
          refine hK.out _ _ (heldSet hk9 hR) (fun _ => ?_)
          clear hK K r0 r1 r2 r3 r4 r5 r6 r7 r8 r9 rf
          try simp only [Act.put, List.setIfInBounds_toArray, List.set_cons_zero, List.set_cons_succ]
          refine genR hk9 hR ?_
          clear hk9 hR
          intro Wf hkf hRf
          refine wpAnyH_ready (rs := [9]) (by kernel_rfl) (by simp) (AllReadyH.cons rfl (fun K hK => ?_) AllReadyH.nil)
          go_simp
          refine hK.out _ _ ⟨hkf, _, _, _, _, _, _, _, _, _, _, hRf⟩ (fun _ => ?_)
          clear hK K
          try simp only [Act.put, List.setIfInBounds_toArray, List.set_cons_zero, List.set_cons_succ]
          refine wpAnyH_done (by kernel_rfl) ?_ _
          have r0 := hRf.cell 0
          have r1 := hRf.cell 1
          have r2 := hRf.cell 2
          have r3 := hRf.cell 3
          have r4 := hRf.cell 4
          have r5 := hRf.cell 5
          have r6 := hRf.cell 6
          have r7 := hRf.cell 7
          have r8 := hRf.cell 8
          have r9 := hRf.cell 9
          simp only [List.getElem?_toArray, List.getElem?_cons_zero, List.getElem?_cons_succ] at r0 r1 r2 r3 r4 r5 r6 r7 r8 r9
          have HEND := HE.out _ hkf
          go_wp2_with fail
          refine bodyPost_ret (by simp [results, Tryz.results6, go_sem, r0, r1, r2, r3, r4, r5, r6, r7, r8, r9]; try rfl) rfl ?_
          exact ⟨s, b, lm, om, _, _, _, rfl, HEND⟩
      · go_simp
        have hA := hHeld.alloc (.cells #[.int .i64 0, .int .i64 0, .int .i64 0, .int .i64 0, .int .i64 0] 3)
        refine hK.out _ _ hA (fun _ => ?_)
        clear hHeld
        have hHeld := hA
        clear hA
        clear hK K
        try simp only [Act.put, List.setIfInBounds_toArray, List.set_cons_zero, List.set_cons_succ]
        refine wpAnyH_ready (rs := [3]) (by kernel_rfl) (by simp) (AllReadyH.cons rfl (fun K hK => ?_) AllReadyH.nil)
        · go_simp
          have hA := hHeld.alloc (.map #[] 0)
          refine hK.out _ _ hA (fun _ => ?_)
          clear hHeld
          have hHeld := hA
          clear hA
          clear hK K
          try simp only [Act.put, List.setIfInBounds_toArray, List.set_cons_zero, List.set_cons_succ]
          refine th 4 hHeld ?_
          refine th 7 hHeld ?_
          refine genW hHeld ?_
          clear hHeld
          intro Wn hHeld
          obtain ⟨hk9, v0, v1, v2, v3, v4, v5, v6, v7, v8, v9, hR⟩ := hHeld
          have r0 := hR.cell 0
          have r1 := hR.cell 1
          have r2 := hR.cell 2
          have r3 := hR.cell 3
          have r4 := hR.cell 4
          have r5 := hR.cell 5
          have r6 := hR.cell 6
          have r7 := hR.cell 7
          have r8 := hR.cell 8
          have r9 := hR.cell 9
          simp only [List.getElem?_toArray, List.getElem?_cons_zero, List.getElem?_cons_succ] at r0 r1 r2 r3 r4 r5 r6 r7 r8 r9
          have rf := hR.frozen
          refine wpAnyH_ready (rs := [8]) (by kernel_rfl) (by simp) (AllReadyH.cons rfl (fun K hK => ?_) AllReadyH.nil)
          go_simp
          refine hK.out _ _ (heldSet hk9 hR) (fun _ => ?_)
          clear hK K r0 r1 r2 r3 r4 r5 r6 r7 r8 r9 rf
          try simp only [Act.put, List.setIfInBounds_toArray, List.set_cons_zero, List.set_cons_succ]
          refine genR hk9 hR ?_
          clear hk9 hR
          intro Wf hkf hRf
          refine wpAnyH_ready (rs := [9]) (by kernel_rfl) (by simp) (AllReadyH.cons rfl (fun K hK => ?_) AllReadyH.nil)
          go_simp
          refine hK.out _ _ ⟨hkf, _, _, _, _, _, _, _, _, _, _, hRf⟩ (fun _ => ?_)
          clear hK K
          try simp only [Act.put, List.setIfInBounds_toArray, List.set_cons_zero, List.set_cons_succ]
          refine wpAnyH_done (by kernel_rfl) ?_ _
          have r0 := hRf.cell 0
          have r1 := hRf.cell 1
          have r2 := hRf.cell 2
          have r3 := hRf.cell 3
          have r4 := hRf.cell 4
          have r5 := hRf.cell 5
          have r6 := hRf.cell 6
          have r7 := hRf.cell 7
          have r8 := hRf.cell 8
          have r9 := hRf.cell 9
          simp only [List.getElem?_toArray, List.getElem?_cons_zero, List.getElem?_cons_succ] at r0 r1 r2 r3 r4 r5 r6 r7 r8 r9
          have HEND := HE.out _ hkf
          go_wp2_with fail
          refine bodyPost_ret (by simp [results, Tryz.results6, go_sem, r0, r1, r2, r3, r4, r5, r6, r7, r8, r9]; try rfl) rfl ?_
          exact ⟨s, b, lm, om, _, _, _, rfl, HEND⟩
    · go_simp
      have hA := hHeld.alloc (.cells #[.int .i64 0, .int .i64 0, .int .i64 0, .int .i64 0, .int .i64 0] 3)
      refine hK.out _ _ hA (fun _ => ?_)
      clear hHeld
      have hHeld := hA
      clear hA
      clear hK K
      try simp only [Act.put, List.setIfInBounds_toArray, List.set_cons_zero, List.set_cons_succ]
      refine wpAnyH_ready (rs := [3, 5]) (by kernel_rfl) (by simp) (AllReadyH.cons rfl (fun K hK => ?_) (AllReadyH.cons rfl (fun K hK => ?_) AllReadyH.nil))
      · go_simp
        have hA := hHeld.alloc (.map #[] 0)
        refine hK.out _ _ hA (fun _ => ?_)
        clear hHeld
        have hHeld := hA
        clear hA
        clear hK K
        try simp only [Act.put, List.setIfInBounds_toArray, List.set_cons_zero, List.set_cons_succ]
        refine th 4 hHeld ?_
        refine wpAnyH_ready (rs := [5]) (by kernel_rfl) (by simp) (AllReadyH.cons rfl (fun K hK => ?_) AllReadyH.nil)
        · go_simp
          have hA := hHeld.alloc (.map #[] 0)
          refine hK.out _ _ hA (fun _ => ?_)
          clear hHeld
          have hHeld := hA
          clear hA
          clear hK K
          try simp only [Act.put, List.setIfInBounds_toArray, List.set_cons_zero, List.set_cons_succ]
          refine th 7 hHeld ?_
          refine genW hHeld ?_
          clear hHeld
          intro Wn hHeld
          obtain ⟨hk9, v0, v1, v2, v3, v4, v5, v6, v7, v8, v9, hR⟩ := hHeld
          have r0 := hR.cell 0
          have r1 := hR.cell 1
          have r2 := hR.cell 2
          have r3 := hR.cell 3
          have r4 := hR.cell 4
          have r5 := hR.cell 5
          have r6 := hR.cell 6
          have r7 := hR.cell 7
          have r8 := hR.cell 8
          have r9 := hR.cell 9
          simp only [List.getElem?_toArray, List.getElem?_cons_zero, List.getElem?_cons_succ] at r0 r1 r2 r3 r4 r5 r6 r7 r8 r9
          have rf := hR.frozen
          refine wpAnyH_ready (rs := [8]) (by kernel_rfl) (by simp) (AllReadyH.cons rfl (fun K hK => ?_) AllReadyH.nil)
          go_simp
          refine hK.out _ _ (heldSet hk9 hR) (fun _ => ?_)
          clear hK K r0 r1 r2 r3 r4 r5 r6 r7 r8 r9 rf
          try simp only [Act.put, List.setIfInBounds_toArray, List.set_cons_zero, List.set_cons_succ]
          refine genR hk9 hR ?_
          clear hk9 hR
          intro Wf hkf hRf
          refine wpAnyH_ready (rs := [9]) (by kernel_rfl) (by simp) (AllReadyH.cons rfl (fun K hK => ?_) AllReadyH.nil)
          go_simp
          refine hK.out _ _ ⟨hkf, _, _, _, _, _, _, _, _, _, _, hRf⟩ (fun _ => ?_)
          clear hK K
          try simp only [Act.put, List.setIfInBounds_toArray, List.set_cons_zero, List.set_cons_succ]
          refine wpAnyH_done (by kernel_rfl) ?_ _
          have r0 := hRf.cell 0
          have r1 := hRf.cell 1
          have r2 := hRf.cell 2
          have r3 := hRf.cell 3
          have r4 := hRf.cell 4
          have r5 := hRf.cell 5
          have r6 := hRf.cell 6
          have r7 := hRf.cell 7
          have r8 := hRf.cell 8
          have r9 := hRf.cell 9
          simp only [List.getElem?_toArray, List.getElem?_cons_zero, List.getElem?_cons_succ] at r0 r1 r2 r3 r4 r5 r6 r7 r8 r9
          have HEND := HE.out _ hkf
          go_wp2_with fail
          refine bodyPost_ret (by simp [results, Tryz.results6, go_sem, r0, r1, r2, r3, r4, r5, r6, r7, r8, r9]; try rfl) rfl ?_
          exact ⟨s, b, lm, om, _, _, _, rfl, HEND⟩
      · go_simp
        have hA := hHeld.alloc (.map #[] 0)
        refine hK.out _ _ hA (fun _ => ?_)
        clear hHeld
        have hHeld := hA
        clear hA
        clear hK K
        try simp only [Act.put, List.setIfInBounds_toArray, List.set_cons_zero, List.set_cons_succ]
        refine wpAnyH_ready (rs := [3]) (by kernel_rfl) (by simp) (AllReadyH.cons rfl (fun K hK => ?_) AllReadyH.nil)
        · go_simp
          have hA := hHeld.alloc (.map #[] 0)
          refine hK.out _ _ hA (fun _ => ?_)
          clear hHeld
          have hHeld := hA
          clear hA
          clear hK K
          try simp only [Act.put, List.setIfInBounds_toArray, List.set_cons_zero, List.set_cons_succ]
          refine th 4 hHeld ?_
          refine th 7 hHeld ?_
          refine genW hHeld ?_
          clear hHeld
          intro Wn hHeld
          obtain ⟨hk9, v0, v1, v2, v3, v4, v5, v6, v7, v8, v9, hR⟩ := hHeld
          have r0 := hR.cell 0
          have r1 := hR.cell 1
          have r2 := hR.cell 2
          have r3 := hR.cell 3
          have r4 := hR.cell 4
          have r5 := hR.cell 5
          have r6 := hR.cell 6
          have r7 := hR.cell 7
          have r8 := hR.cell 8
          have r9 := hR.cell 9
          simp only [List.getElem?_toArray, List.getElem?_cons_zero, List.getElem?_cons_succ] at r0 r1 r2 r3 r4 r5 r6 r7 r8 r9
          have rf := hR.frozen
          refine wpAnyH_ready (rs := [8]) (by kernel_rfl) (by simp) (AllReadyH.cons rfl (fun K hK => ?_) AllReadyH.nil)
          go_simp
          refine hK.out _ _ (heldSet hk9 hR) (fun _ => ?_)
          clear hK K r0 r1 r2 r3 r4 r5 r6 r7 r8 r9 rf
          try simp only [Act.put, List.setIfInBounds_toArray, List.set_cons_zero, List.set_cons_succ]
          refine genR hk9 hR ?_
          clear hk9 hR
          intro Wf hkf hRf
          refine wpAnyH_ready (rs := [9]) (by kernel_rfl) (by simp) (AllReadyH.cons rfl (fun K hK => ?_) AllReadyH.nil)
          go_simp
          refine hK.out _ _ ⟨hkf, _, _, _, _, _, _, _, _, _, _, hRf⟩ (fun _ => ?_)
          clear hK K
          try simp only [Act.put, List.setIfInBounds_toArray, List.set_cons_zero, List.set_cons_succ]
          refine wpAnyH_done (by kernel_rfl) ?_ _
          have r0 := hRf.cell 0
          have r1 := hRf.cell 1
          have r2 := hRf.cell 2
          have r3 := hRf.cell 3
          have r4 := hRf.cell 4
          have r5 := hRf.cell 5
          have r6 := hRf.cell 6
          have r7 := hRf.cell 7
          have r8 := hRf.cell 8
          have r9 := hRf.cell 9
          simp only [List.getElem?_toArray, List.getElem?_cons_zero, List.getElem?_cons_succ] at r0 r1 r2 r3 r4 r5 r6 r7 r8 r9
          have HEND := HE.out _ hkf
          go_wp2_with fail
          refine bodyPost_ret (by simp [results, Tryz.results6, go_sem, r0, r1, r2, r3, r4, r5, r6, r7, r8, r9]; try rfl) rfl ?_
          exact ⟨s, b, lm, om, _, _, _, rfl, HEND⟩
  · go_simp
    have hA := hHeld.alloc (.map #[] 0)
    refine hK.out _ _ hA (fun _ => ?_)
    clear hHeld
    have hHeld := hA
    clear hA
    clear hK K
    try simp only [Act.put, List.setIfInBounds_toArray, List.set_cons_zero, List.set_cons_succ]
    refine wpAnyH_ready (rs := [2, 5, 6]) (by kernel_rfl) (by simp) (AllReadyH.cons rfl (fun K hK => ?_) (AllReadyH.cons rfl (fun K hK => ?_) (AllReadyH.cons rfl (fun K hK => ?_) AllReadyH.nil)))
    · go_simp
      go_at_call 13
      refine (HCL2.out _ hHeld).mono ?_
      rintro e w3 ⟨rfl, rfl⟩
      go_simp
      refine hK.out _ _ hHeld (fun _ => ?_)
      clear hK K
      try simp only [Act.put, List.setIfInBounds_toArray, List.set_cons_zero, List.set_cons_succ]
      refine th 4 hHeld ?_
      refine wpAnyH_ready (rs := [5, 6]) (by kernel_rfl) (by simp) (AllReadyH.cons rfl (fun K hK => ?_) (AllReadyH.cons rfl (fun K hK => ?_) AllReadyH.nil))
      · go_simp
        have hA := hHeld.alloc (.map #[] 0)
        refine hK.out _ _ hA (fun _ => ?_)
        clear hHeld
        have hHeld := hA
        clear hA
        clear hK K
        try simp only [Act.put, List.setIfInBounds_toArray, List.set_cons_zero, List.set_cons_succ]
        refine wpAnyH_ready (rs := [6]) (by kernel_rfl) (by simp) (AllReadyH.cons rfl (fun K hK => ?_) AllReadyH.nil)
        · go_simp
          have hA := hHeld.alloc (.cells #[.int .i64 0, .int .i64 0, .int .i64 0, .int .i64 0, .int .i64 0] 3)
          refine hK.out _ _ hA (fun _ => ?_)
          clear hHeld
          have hHeld := hA
          clear hA
          clear hK K
          try simp only [Act.put, List.setIfInBounds_toArray, List.set_cons_zero, List.set_cons_succ]
          refine th 7 hHeld ?_
          refine genW hHeld ?_
          clear hHeld
          intro Wn hHeld
          obtain ⟨hk9, v0, v1, v2, v3, v4, v5, v6, v7, v8, v9, hR⟩ := hHeld
          have r0 := hR.cell 0
          have r1 := hR.cell 1
          have r2 := hR.cell 2
          have r3 := hR.cell 3
          have r4 := hR.cell 4
          have r5 := hR.cell 5
          have r6 := hR.cell 6
          have r7 := hR.cell 7
          have r8 := hR.cell 8
          have r9 := hR.cell 9
          simp only [List.getElem?_toArray, List.getElem?_cons_zero, List.getElem?_cons_succ] at r0 r1 r2 r3 r4 r5 r6 r7 r8 r9
          have rf := hR.frozen
          refine wpAnyH_ready (rs := [8]) (by kernel_rfl) (by simp) (AllReadyH.cons rfl (fun K hK => ?_) AllReadyH.nil)
          go_simp
          refine hK.out _ _ (heldSet hk9 hR) (fun _ => ?_)
          clear hK K r0 r1 r2 r3 r4 r5 r6 r7 r8 r9 rf
          try simp only [Act.put, List.setIfInBounds_toArray, List.set_cons_zero, List.set_cons_succ]
          refine genR hk9 hR ?_
          clear hk9 hR
          intro Wf hkf hRf
          refine wpAnyH_ready (rs := [9]) (by kernel_rfl) (by simp) (AllReadyH.cons rfl (fun K hK => ?_) AllReadyH.nil)
          go_simp
          refine hK.out _ _ ⟨hkf, _, _, _, _, _, _, _, _, _, _, hRf⟩ (fun _ => ?_)
          clear hK K
          try simp only [Act.put, List.setIfInBounds_toArray, List.set_cons_zero, List.set_cons_succ]
          refine wpAnyH_done (by kernel_rfl) ?_ _
          have r0 := hRf.cell 0
          have r1 := hRf.cell 1
          have r2 := hRf.cell 2
          have r3 := hRf.cell 3
          have r4 := hRf.cell 4
          have r5 := hRf.cell 5
          have r6 := hRf.cell 6
          have r7 := hRf.cell 7
          have r8 := hRf.cell 8
          have r9 := hRf.cell 9
          simp only [List.getElem?_toArray, List.getElem?_cons_zero, List.getElem?_cons_succ] at r0 r1 r2 r3 r4 r5 r6 r7 r8 r9
          have HEND := HE.out _ hkf
          go_wp2_with fail
          refine bodyPost_ret (by simp [results, Tryz.results6, go_sem, r0, r1, r2, r3, r4, r5, r6, r7, r8, r9]; try rfl) rfl ?_
          exact ⟨s, b, lm, om, _, _, _, rfl, HEND⟩
      · go_simp
        have hA := hHeld.alloc (.cells #[.int .i64 0, .int .i64 0, .int .i64 0, .int .i64 0, .int .i64 0] 3)
        refine hK.out _ _ hA (fun _ => ?_)
        clear hHeld
        have hHeld := hA
        clear hA
        clear hK K
        try simp only [Act.put, List.setIfInBounds_toArray, List.set_cons_zero, List.set_cons_succ]
        refine wpAnyH_ready (rs := [5]) (by kernel_rfl) (by simp) (AllReadyH.cons rfl (fun K hK => ?_) AllReadyH.nil)
        · go_simp
          have hA := hHeld.alloc (.map #[] 0)
          refine hK.out _ _ hA (fun _ => ?_)
          clear hHeld
          have hHeld := hA
          clear hA
          clear hK K
          try simp only [Act.put, List.setIfInBounds_toArray, List.set_cons_zero, List.set_cons_succ]
          refine th 7 hHeld ?_
          refine genW hHeld ?_
          clear hHeld
          intro Wn hHeld
          obtain ⟨hk9, v0, v1, v2, v3, v4, v5, v6, v7, v8, v9, hR⟩ := hHeld
          have r0 := hR.cell 0
          have r1 := hR.cell 1
          have r2 := hR.cell 2
          have r3 := hR.cell 3
          have r4 := hR.cell 4
          have r5 := hR.cell 5
          have r6 := hR.cell 6
          have r7 := hR.cell 7
          have r8 := hR.cell 8
          have r9 := hR.cell 9
          simp only [List.getElem?_toArray, List.getElem?_cons_zero, List.getElem?_cons_succ] at r0 r1 r2 r3 r4 r5 r6 r7 r8 r9
          have rf := hR.frozen
          refine wpAnyH_ready (rs := [8]) (by kernel_rfl) (by simp) (AllReadyH.cons rfl (fun K hK => ?_) AllReadyH.nil)
          go_simp
          refine hK.out _ _ (heldSet hk9 hR) (fun _ => ?_)
          clear hK K r0 r1 r2 r3 r4 r5 r6 r7 r8 r9 rf
          try simp only [Act.put, List.setIfInBounds_toArray, List.set_cons_zero, List.set_cons_succ]
          refine genR hk9 hR ?_
          clear hk9 hR
          intro Wf hkf hRf
          refine wpAnyH_ready (rs := [9]) (by kernel_rfl) (by simp) (AllReadyH.cons rfl (fun K hK => ?_) AllReadyH.nil)
          go_simp
          refine hK.out _ _ ⟨hkf, _, _, _, _, _, _, _, _, _, _, hRf⟩ (fun _ => ?_)
          clear hK K
          try simp only [Act.put, List.setIfInBounds_toArray, List.set_cons_zero, List.set_cons_succ]
          refine wpAnyH_done (by kernel_rfl) ?_ _
          have r0 := hRf.cell 0
          have r1 := hRf.cell 1
          have r2 := hRf.cell 2
          have r3 := hRf.cell 3
          have r4 := hRf.cell 4
          have r5 := hRf.cell 5
          have r6 := hRf.cell 6
          have r7 := hRf.cell 7
          have r8 := hRf.cell 8
          have r9 := hRf.cell 9
          simp only [List.getElem?_toArray, List.getElem?_cons_zero, List.getElem?_cons_succ] at r0 r1 r2 r3 r4 r5 r6 r7 r8 r9
          have HEND := HE.out _ hkf
          go_wp2_with fail
          refine bodyPost_ret (by simp [results, Tryz.results6, go_sem, r0, r1, r2, r3, r4, r5, r6, r7, r8, r9]; try rfl) rfl ?_
          exact ⟨s, b, lm, om, _, _, _, rfl, HEND⟩
    · go_simp
      have hA := hHeld.alloc (.map #[] 0)
      refine hK.out _ _ hA (fun _ => ?_)
      clear hHeld
      have hHeld := hA
      clear hA
      clear hK K
      try simp only [Act.put, List.setIfInBounds_toArray, List.set_cons_zero, List.set_cons_succ]
      refine wpAnyH_ready (rs := [2, 6]) (by kernel_rfl) (by simp) (AllReadyH.cons rfl (fun K hK => ?_) (AllReadyH.cons rfl (fun K hK => ?_) AllReadyH.nil))
      · go_simp
        go_at_call 13
        refine (HCL2.out _ hHeld).mono ?_
        rintro e w3 ⟨rfl, rfl⟩
        go_simp
        refine hK.out _ _ hHeld (fun _ => ?_)
        clear hK K
        try simp only [Act.put, List.setIfInBounds_toArray, List.set_cons_zero, List.set_cons_succ]
        refine th 4 hHeld ?_
        refine wpAnyH_ready (rs := [6]) (by kernel_rfl) (by simp) (AllReadyH.cons rfl (fun K hK => ?_) AllReadyH.nil)
        · go_simp
          have hA := hHeld.alloc (.cells #[.int .i64 0, .int .i64 0, .int .i64 0, .int .i64 0, .int .i64 0] 3)
          refine hK.out _ _ hA (fun _ => ?_)
          clear hHeld
          have hHeld := hA
          clear hA
          clear hK K
          try simp only [Act.put, List.setIfInBounds_toArray, List.set_cons_zero, List.set_cons_succ]
          refine th 7 hHeld ?_
          refine genW hHeld ?_
          clear hHeld
          intro Wn hHeld
          obtain ⟨hk9, v0, v1, v2, v3, v4, v5, v6, v7, v8, v9, hR⟩ := hHeld
          have r0 := hR.cell 0
          have r1 := hR.cell 1
          have r2 := hR.cell 2
          have r3 := hR.cell 3
          have r4 := hR.cell 4
          have r5 := hR.cell 5
          have r6 := hR.cell 6
          have r7 := hR.cell 7
          have r8 := hR.cell 8
          have r9 := hR.cell 9
          simp only [List.getElem?_toArray, List.getElem?_cons_zero, List.getElem?_cons_succ] at r0 r1 r2 r3 r4 r5 r6 r7 r8 r9
          have rf := hR.frozen
          refine wpAnyH_ready (rs := [8]) (by kernel_rfl) (by simp) (AllReadyH.cons rfl (fun K hK => ?_) AllReadyH.nil)
          go_simp
          refine hK.out _ _ (heldSet hk9 hR) (fun _ => ?_)
          clear hK K r0 r1 r2 r3 r4 r5 r6 r7 r8 r9 rf
          try simp only [Act.put, List.setIfInBounds_toArray, List.set_cons_zero, List.set_cons_succ]
          refine genR hk9 hR ?_
          clear hk9 hR
          intro Wf hkf hRf
          refine wpAnyH_ready (rs := [9]) (by kernel_rfl) (by simp) (AllReadyH.cons rfl (fun K hK => ?_) AllReadyH.nil)
          go_simp
          refine hK.out _ _ ⟨hkf, _, _, _, _, _, _, _, _, _, _, hRf⟩ (fun _ => ?_)
          clear hK K
          try simp only [Act.put, List.setIfInBounds_toArray, List.set_cons_zero, List.set_cons_succ]
          refine wpAnyH_done (by kernel_rfl) ?_ _
          have r0 := hRf.cell 0
          have r1 := hRf.cell 1
          have r2 := hRf.cell 2
          have r3 := hRf.cell 3
          have r4 := hRf.cell 4
          have r5 := hRf.cell 5
          have r6 := hRf.cell 6
          have r7 := hRf.cell 7
          have r8 := hRf.cell 8
          have r9 := hRf.cell 9
          simp only [List.getElem?_toArray, List.getElem?_cons_zero, List.getElem?_cons_succ] at r0 r1 r2 r3 r4 r5 r6 r7 r8 r9
          have HEND := HE.out _ hkf
          go_wp2_with fail
          refine bodyPost_ret (by simp [results, Tryz.results6, go_sem, r0, r1, r2, r3, r4, r5, r6, r7, r8, r9]; try rfl) rfl ?_
          exact ⟨s, b, lm, om, _, _, _, rfl, HEND⟩
      · go_simp
        have hA := hHeld.alloc (.cells #[.int .i64 0, .int .i64 0, .int .i64 0, .int .i64 0, .int .i64 0] 3)
        refine hK.out _ _ hA (fun _ => ?_)
        clear hHeld
        have hHeld := hA
        clear hA
        clear hK K
        try simp only [Act.put, List.setIfInBounds_toArray, List.set_cons_zero, List.set_cons_succ]
        refine wpAnyH_ready (rs := [2]) (by kernel_rfl) (by simp) (AllReadyH.cons rfl (fun K hK => ?_) AllReadyH.nil)
        · go_simp
          go_at_call 13
          refine (HCL2.out _ hHeld).mono ?_
          rintro e w3 ⟨rfl, rfl⟩
          go_simp
          refine hK.out _ _ hHeld (fun _ => ?_)
          clear hK K
          try simp only [Act.put, List.setIfInBounds_toArray, List.set_cons_zero, List.set_cons_succ]
          refine th 4 hHeld ?_
          refine th 7 hHeld ?_
          refine genW hHeld ?_
          clear hHeld
          intro Wn hHeld
          obtain ⟨hk9, v0, v1, v2, v3, v4, v5, v6, v7, v8, v9, hR⟩ := hHeld
          have r0 := hR.cell 0
          have r1 := hR.cell 1
          have r2 := hR.cell 2
          have r3 := hR.cell 3
          have r4 := hR.cell 4
          have r5 := hR.cell 5
          have r6 := hR.cell 6
          have r7 := hR.cell 7
          have r8 := hR.cell 8
          have r9 := hR.cell 9
          simp only [List.getElem?_toArray, List.getElem?_cons_zero, List.getElem?_cons_succ] at r0 r1 r2 r3 r4 r5 r6 r7 r8 r9
          have rf := hR.frozen
          refine wpAnyH_ready (rs := [8]) (by kernel_rfl) (by simp) (AllReadyH.cons rfl (fun K hK => ?_) AllReadyH.nil)
          go_simp
          refine hK.out _ _ (heldSet hk9 hR) (fun _ => ?_)
          clear hK K r0 r1 r2 r3 r4 r5 r6 r7 r8 r9 rf
          try simp only [Act.put, List.setIfInBounds_toArray, List.set_cons_zero, List.set_cons_succ]
          refine genR hk9 hR ?_
          clear hk9 hR
          intro Wf hkf hRf
          refine wpAnyH_ready (rs := [9]) (by kernel_rfl) (by simp) (AllReadyH.cons rfl (fun K hK => ?_) AllReadyH.nil)
          go_simp
          refine hK.out _ _ ⟨hkf, _, _, _, _, _, _, _, _, _, _, hRf⟩ (fun _ => ?_)
          clear hK K
          try simp only [Act.put, List.setIfInBounds_toArray, List.set_cons_zero, List.set_cons_succ]
          refine wpAnyH_done (by kernel_rfl) ?_ _
          have r0 := hRf.cell 0
          have r1 := hRf.cell 1
          have r2 := hRf.cell 2
          have r3 := hRf.cell 3
          have r4 := hRf.cell 4
          have r5 := hRf.cell 5
          have r6 := hRf.cell 6
          have r7 := hRf.cell 7
          have r8 := hRf.cell 8
          have r9 := hRf.cell 9
          simp only [List.getElem?_toArray, List.getElem?_cons_zero, List.getElem?_cons_succ] at r0 r1 r2 r3 r4 r5 r6 r7 r8 r9
          have HEND := HE.out _ hkf
          go_wp2_with fail
          refine bodyPost_ret (by simp [results, Tryz.results6, go_sem, r0, r1, r2, r3, r4, r5, r6, r7, r8, r9]; try rfl) rfl ?_
          exact ⟨s, b, lm, om, _, _, _, rfl, HEND⟩
    · go_simp
      have hA := hHeld.alloc (.cells #[.int .i64 0, .int .i64 0, .int .i64 0, .int .i64 0, .int .i64 0] 3)
      refine hK.out _ _ hA (fun _ => ?_)
      clear hHeld
      have hHeld := hA
      clear hA
      clear hK K
      try simp only [Act.put, List.setIfInBounds_toArray, List.set_cons_zero, List.set_cons_succ]
      refine wpAnyH_ready (rs := [2, 5]) (by kernel_rfl) (by simp) (AllReadyH.cons rfl (fun K hK => ?_) (AllReadyH.cons rfl (fun K hK => ?_) AllReadyH.nil))
      · go_simp
        go_at_call 13
        refine (HCL2.out _ hHeld).mono ?_
        rintro e w3 ⟨rfl, rfl⟩
        go_simp
        refine hK.out _ _ hHeld (fun _ => ?_)
        clear hK K
        try simp only [Act.put, List.setIfInBounds_toArray, List.set_cons_zero, List.set_cons_succ]
        refine th 4 hHeld ?_
        refine wpAnyH_ready (rs := [5]) (by kernel_rfl) (by simp) (AllReadyH.cons rfl (fun K hK => ?_) AllReadyH.nil)
        · go_simp
          have hA := hHeld.alloc (.map #[] 0)
          refine hK.out _ _ hA (fun _ => ?_)
          clear hHeld
          have hHeld := hA
          clear hA
          clear hK K
          try simp only [Act.put, List.setIfInBounds_toArray, List.set_cons_zero, List.set_cons_succ]
          refine th 7 hHeld ?_
          refine genW hHeld ?_
          clear hHeld
          intro Wn hHeld
          obtain ⟨hk9, v0, v1, v2, v3, v4, v5, v6, v7, v8, v9, hR⟩ := hHeld
          have r0 := hR.cell 0
          have r1 := hR.cell 1
          have r2 := hR.cell 2
          have r3 := hR.cell 3
          have r4 := hR.cell 4
          have r5 := hR.cell 5
          have r6 := hR.cell 6
          have r7 := hR.cell 7
          have r8 := hR.cell 8
          have r9 := hR.cell 9
          simp only [List.getElem?_toArray, List.getElem?_cons_zero, List.getElem?_cons_succ] at r0 r1 r2 r3 r4 r5 r6 r7 r8 r9
          have rf := hR.frozen
          refine wpAnyH_ready (rs := [8]) (by kernel_rfl) (by simp) (AllReadyH.cons rfl (fun K hK => ?_) AllReadyH.nil)
          go_simp
          refine hK.out _ _ (heldSet hk9 hR) (fun _ => ?_)
          clear hK K r0 r1 r2 r3 r4 r5 r6 r7 r8 r9 rf
          try simp only [Act.put, List.setIfInBounds_toArray, List.set_cons_zero, List.set_cons_succ]
          refine genR hk9 hR ?_
          clear hk9 hR
          intro Wf hkf hRf
          refine wpAnyH_ready (rs := [9]) (by kernel_rfl) (by simp) (AllReadyH.cons rfl (fun K hK => ?_) AllReadyH.nil)
          go_simp
          refine hK.out _ _ ⟨hkf, _, _, _, _, _, _, _, _, _, _, hRf⟩ (fun _ => ?_)
          clear hK K
          try simp only [Act.put, List.setIfInBounds_toArray, List.set_cons_zero, List.set_cons_succ]
          refine wpAnyH_done (by kernel_rfl) ?_ _
          have r0 := hRf.cell 0
          have r1 := hRf.cell 1
          have r2 := hRf.cell 2
          have r3 := hRf.cell 3
          have r4 := hRf.cell 4
          have r5 := hRf.cell 5
          have r6 := hRf.cell 6
          have r7 := hRf.cell 7
          have r8 := hRf.cell 8
          have r9 := hRf.cell 9
          simp only [List.getElem?_toArray, List.getElem?_cons_zero, List.getElem?_cons_succ] at r0 r1 r2 r3 r4 r5 r6 r7 r8 r9
          have HEND := HE.out _ hkf
          go_wp2_with fail
          refine bodyPost_ret (by simp [results, Tryz.results6, go_sem, r0, r1, r2, r3, r4, r5, r6, r7, r8, r9]; try rfl) rfl ?_
          exact ⟨s, b, lm, om, _, _, _, rfl, HEND⟩
      · go_simp
        have hA := hHeld.alloc (.map #[] 0)
        refine hK.out _ _ hA (fun _ => ?_)
        clear hHeld
        have hHeld := hA
        clear hA
        clear hK K
        try simp only [Act.put, List.setIfInBounds_toArray, List.set_cons_zero, List.set_cons_succ]
        refine wpAnyH_ready (rs := [2]) (by kernel_rfl) (by simp) (AllReadyH.cons rfl (fun K hK => ?_) AllReadyH.nil)
        · go_simp
          go_at_call 13
          refine (HCL2.out _ hHeld).mono ?_
          rintro e w3 ⟨rfl, rfl⟩
          go_simp
          refine hK.out _ _ hHeld (fun _ => ?_)
          clear hK K
          try simp only [Act.put, List.setIfInBounds_toArray, List.set_cons_zero, List.set_cons_succ]
          refine th 4 hHeld ?_
          refine th 7 hHeld ?_
          refine genW hHeld ?_
          clear hHeld
          intro Wn hHeld
          obtain ⟨hk9, v0, v1, v2, v3, v4, v5, v6, v7, v8, v9, hR⟩ := hHeld
          have r0 := hR.cell 0
          have r1 := hR.cell 1
          have r2 := hR.cell 2
          have r3 := hR.cell 3
          have r4 := hR.cell 4
          have r5 := hR.cell 5
          have r6 := hR.cell 6
          have r7 := hR.cell 7
          have r8 := hR.cell 8
          have r9 := hR.cell 9
          simp only [List.getElem?_toArray, List.getElem?_cons_zero, List.getElem?_cons_succ] at r0 r1 r2 r3 r4 r5 r6 r7 r8 r9
          have rf := hR.frozen
          refine wpAnyH_ready (rs := [8]) (by kernel_rfl) (by simp) (AllReadyH.cons rfl (fun K hK => ?_) AllReadyH.nil)
          go_simp
          refine hK.out _ _ (heldSet hk9 hR) (fun _ => ?_)
          clear hK K r0 r1 r2 r3 r4 r5 r6 r7 r8 r9 rf
          try simp only [Act.put, List.setIfInBounds_toArray, List.set_cons_zero, List.set_cons_succ]
          refine genR hk9 hR ?_
          clear hk9 hR
          intro Wf hkf hRf
          refine wpAnyH_ready (rs := [9]) (by kernel_rfl) (by simp) (AllReadyH.cons rfl (fun K hK => ?_) AllReadyH.nil)
          go_simp
          refine hK.out _ _ ⟨hkf, _, _, _, _, _, _, _, _, _, _, hRf⟩ (fun _ => ?_)
          clear hK K
          try simp only [Act.put, List.setIfInBounds_toArray, List.set_cons_zero, List.set_cons_succ]
          refine wpAnyH_done (by kernel_rfl) ?_ _
          have r0 := hRf.cell 0
          have r1 := hRf.cell 1
          have r2 := hRf.cell 2
          have r3 := hRf.cell 3
          have r4 := hRf.cell 4
          have r5 := hRf.cell 5
          have r6 := hRf.cell 6
          have r7 := hRf.cell 7
          have r8 := hRf.cell 8
          have r9 := hRf.cell 9
          simp only [List.getElem?_toArray, List.getElem?_cons_zero, List.getElem?_cons_succ] at r0 r1 r2 r3 r4 r5 r6 r7 r8 r9
          have HEND := HE.out _ hkf
          go_wp2_with fail
          refine bodyPost_ret (by simp [results, Tryz.results6, go_sem, r0, r1, r2, r3, r4, r5, r6, r7, r8, r9]; try rfl) rfl ?_
          exact ⟨s, b, lm, om, _, _, _, rfl, HEND⟩
  · go_simp
    have hA := hHeld.alloc (.map #[] 0)
    refine hK.out _ _ hA (fun _ => ?_)
    clear hHeld
    have hHeld := hA
    clear hA
    clear hK K
    try simp only [Act.put, List.setIfInBounds_toArray, List.set_cons_zero, List.set_cons_succ]
    refine wpAnyH_ready (rs := [2, 3, 6]) (by kernel_rfl) (by simp) (AllReadyH.cons rfl (fun K hK => ?_) (AllReadyH.cons rfl (fun K hK => ?_) (AllReadyH.cons rfl (fun K hK => ?_) AllReadyH.nil)))
    · go_simp
      go_at_call 13
      refine (HCL2.out _ hHeld).mono ?_
      rintro e w3 ⟨rfl, rfl⟩
      go_simp
      refine hK.out _ _ hHeld (fun _ => ?_)
      clear hK K
      try simp only [Act.put, List.setIfInBounds_toArray, List.set_cons_zero, List.set_cons_succ]
      refine wpAnyH_ready (rs := [3, 6]) (by kernel_rfl) (by simp) (AllReadyH.cons rfl (fun K hK => ?_) (AllReadyH.cons rfl (fun K hK => ?_) AllReadyH.nil))
      · go_simp
        have hA := hHeld.alloc (.map #[] 0)
        refine hK.out _ _ hA (fun _ => ?_)
        clear hHeld
        have hHeld := hA
        clear hA
        clear hK K
        try simp only [Act.put, List.setIfInBounds_toArray, List.set_cons_zero, List.set_cons_succ]
        refine th 4 hHeld ?_
        refine wpAnyH_ready (rs := [6]) (by kernel_rfl) (by simp) (AllReadyH.cons rfl (fun K hK => ?_) AllReadyH.nil)
        · go_simp
          have hA := hHeld.alloc (.cells #[.int .i64 0, .int .i64 0, .int .i64 0, .int .i64 0, .int .i64 0] 3)
          refine hK.out _ _ hA (fun _ => ?_)
          clear hHeld
          have hHeld := hA
          clear hA
          clear hK K
          try simp only [Act.put, List.setIfInBounds_toArray, List.set_cons_zero, List.set_cons_succ]
          refine th 7 hHeld ?_
          refine genW hHeld ?_
          clear hHeld
          intro Wn hHeld
          obtain ⟨hk9, v0, v1, v2, v3, v4, v5, v6, v7, v8, v9, hR⟩ := hHeld
          have r0 := hR.cell 0
          have r1 := hR.cell 1
          have r2 := hR.cell 2
          have r3 := hR.cell 3
          have r4 := hR.cell 4
          have r5 := hR.cell 5
          have r6 := hR.cell 6
          have r7 := hR.cell 7
          have r8 := hR.cell 8
          have r9 := hR.cell 9
          simp only [List.getElem?_toArray, List.getElem?_cons_zero, List.getElem?_cons_succ] at r0 r1 r2 r3 r4 r5 r6 r7 r8 r9
          have rf := hR.frozen
          refine wpAnyH_ready (rs := [8]) (by kernel_rfl) (by simp) (AllReadyH.cons rfl (fun K hK => ?_) AllReadyH.nil)
          go_simp
          refine hK.out _ _ (heldSet hk9 hR) (fun _ => ?_)
          clear hK K r0 r1 r2 r3 r4 r5 r6 r7 r8 r9 rf
          try simp only [Act.put, List.setIfInBounds_toArray, List.set_cons_zero, List.set_cons_succ]
          refine genR hk9 hR ?_
          clear hk9 hR
          intro Wf hkf hRf
          refine wpAnyH_ready (rs := [9]) (by kernel_rfl) (by simp) (AllReadyH.cons rfl (fun K hK => ?_) AllReadyH.nil)
          go_simp
          refine hK.out _ _ ⟨hkf, _, _, _, _, _, _, _, _, _, _, hRf⟩ (fun _ => ?_)
          clear hK K
          try simp only [Act.put, List.setIfInBounds_toArray, List.set_cons_zero, List.set_cons_succ]
          refine wpAnyH_done (by kernel_rfl) ?_ _
          have r0 := hRf.cell 0
          have r1 := hRf.cell 1
          have r2 := hRf.cell 2
          have r3 := hRf.cell 3
          have r4 := hRf.cell 4
          have r5 := hRf.cell 5
          have r6 := hRf.cell 6
          have r7 := hRf.cell 7
          have r8 := hRf.cell 8
          have r9 := hRf.cell 9
          simp only [List.getElem?_toArray, List.getElem?_cons_zero, List.getElem?_cons_succ] at r0 r1 r2 r3 r4 r5 r6 r7 r8 r9
          have HEND := HE.out _ hkf
          go_wp2_with fail
          refine bodyPost_ret (by simp [results, Tryz.results6, go_sem, r0, r1, r2, r3, r4, r5, r6, r7, r8, r9]; try rfl) rfl ?_
          exact ⟨s, b, lm, om, _, _, _, rfl, HEND⟩
      · go_simp
        have hA := hHeld.alloc (.cells #[.int .i64 0, .int .i64 0, .int .i64 0, .int .i64 0, .int .i64 0] 3)
        refine hK.out _ _ hA (fun _ => ?_)
        clear hHeld
        have hHeld := hA
        clear hA
        clear hK K
        try simp only [Act.put, List.setIfInBounds_toArray, List.set_cons_zero, List.set_cons_succ]
        refine wpAnyH_ready (rs := [3]) (by kernel_rfl) (by simp) (AllReadyH.cons rfl (fun K hK => ?_) AllReadyH.nil)
        · go_simp
          have hA := hHeld.alloc (.map #[] 0)
          refine hK.out _ _ hA (fun _ => ?_)
          clear hHeld
          have hHeld := hA
          clear hA
          clear hK K
          try simp only [Act.put, List.setIfInBounds_toArray, List.set_cons_zero, List.set_cons_succ]
          refine th 4 hHeld ?_
          refine th 7 hHeld ?_
          refine genW hHeld ?_
          clear hHeld
          intro Wn hHeld
          obtain ⟨hk9, v0, v1, v2, v3, v4, v5, v6, v7, v8, v9, hR⟩ := hHeld
          have r0 := hR.cell 0
          have r1 := hR.cell 1
          have r2 := hR.cell 2
          have r3 := hR.cell 3
          have r4 := hR.cell 4
          have r5 := hR.cell 5
          have r6 := hR.cell 6
          have r7 := hR.cell 7
          have r8 := hR.cell 8
          have r9 := hR.cell 9
          simp only [List.getElem?_toArray, List.getElem?_cons_zero, List.getElem?_cons_succ] at r0 r1 r2 r3 r4 r5 r6 r7 r8 r9
          have rf := hR.frozen
          refine wpAnyH_ready (rs := [8]) (by kernel_rfl) (by simp) (AllReadyH.cons rfl (fun K hK => ?_) AllReadyH.nil)
          go_simp
          refine hK.out _ _ (heldSet hk9 hR) (fun _ => ?_)
          clear hK K r0 r1 r2 r3 r4 r5 r6 r7 r8 r9 rf
          try simp only [Act.put, List.setIfInBounds_toArray, List.set_cons_zero, List.set_cons_succ]
          refine genR hk9 hR ?_
          clear hk9 hR
          intro Wf hkf hRf
          refine wpAnyH_ready (rs := [9]) (by kernel_rfl) (by simp) (AllReadyH.cons rfl (fun K hK => ?_) AllReadyH.nil)
          go_simp
          refine hK.out _ _ ⟨hkf, _, _, _, _, _, _, _, _, _, _, hRf⟩ (fun _ => ?_)
          clear hK K
          try simp only [Act.put, List.setIfInBounds_toArray, List.set_cons_zero, List.set_cons_succ]
          refine wpAnyH_done (by kernel_rfl) ?_ _
          have r0 := hRf.cell 0
          have r1 := hRf.cell 1
          have r2 := hRf.cell 2
          have r3 := hRf.cell 3
          have r4 := hRf.cell 4
          have r5 := hRf.cell 5
          have r6 := hRf.cell 6
          have r7 := hRf.cell 7
          have r8 := hRf.cell 8
          have r9 := hRf.cell 9
          simp only [List.getElem?_toArray, List.getElem?_cons_zero, List.getElem?_cons_succ] at r0 r1 r2 r3 r4 r5 r6 r7 r8 r9
          have HEND := HE.out _ hkf
          go_wp2_with fail
          refine bodyPost_ret (by simp [results, Tryz.results6, go_sem, r0, r1, r2, r3, r4, r5, r6, r7, r8, r9]; try rfl) rfl ?_
          exact ⟨s, b, lm, om, _, _, _, rfl, HEND⟩
    · go_simp
      have hA := hHeld.alloc (.map #[] 0)
      refine hK.out _ _ hA (fun _ => ?_)
      clear hHeld
      have hHeld := hA
      clear hA
      clear hK K
      try simp only [Act.put, List.setIfInBounds_toArray, List.set_cons_zero, List.set_cons_succ]
      refine wpAnyH_ready (rs := [2, 6]) (by kernel_rfl) (by simp) (AllReadyH.cons rfl (fun K hK => ?_) (AllReadyH.cons rfl (fun K hK => ?_) AllReadyH.nil))
      · go_simp
        go_at_call 13
        refine (HCL2.out _ hHeld).mono ?_
        rintro e w3 ⟨rfl, rfl⟩
        go_simp
        refine hK.out _ _ hHeld (fun _ => ?_)
        clear hK K
        try simp only [Act.put, List.setIfInBounds_toArray, List.set_cons_zero, List.set_cons_succ]
        refine th 4 hHeld ?_
        refine wpAnyH_ready (rs := [6]) (by kernel_rfl) (by simp) (AllReadyH.cons rfl (fun K hK => ?_) AllReadyH.nil)
        · go_simp
          have hA := hHeld.alloc (.cells #[.int .i64 0, .int .i64 0, .int .i64 0, .int .i64 0, .int .i64 0] 3)
          refine hK.out _ _ hA (fun _ => ?_)
          clear hHeld
          have hHeld := hA
          clear hA
          clear hK K
          try simp only [Act.put, List.setIfInBounds_toArray, List.set_cons_zero, List.set_cons_succ]
          refine th 7 hHeld ?_
          refine genW hHeld ?_
          clear hHeld
          intro Wn hHeld
          obtain ⟨hk9, v0, v1, v2, v3, v4, v5, v6, v7, v8, v9, hR⟩ := hHeld
          have r0 := hR.cell 0
          have r1 := hR.cell 1
          have r2 := hR.cell 2
          have r3 := hR.cell 3
          have r4 := hR.cell 4
          have r5 := hR.cell 5
          have r6 := hR.cell 6
          have r7 := hR.cell 7
          have r8 := hR.cell 8
          have r9 := hR.cell 9
          simp only [List.getElem?_toArray, List.getElem?_cons_zero, List.getElem?_cons_succ] at r0 r1 r2 r3 r4 r5 r6 r7 r8 r9
          have rf := hR.frozen
          refine wpAnyH_ready (rs := [8]) (by kernel_rfl) (by simp) (AllReadyH.cons rfl (fun K hK => ?_) AllReadyH.nil)
          go_simp
          refine hK.out _ _ (heldSet hk9 hR) (fun _ => ?_)
          clear hK K r0 r1 r2 r3 r4 r5 r6 r7 r8 r9 rf
          try simp only [Act.put, List.setIfInBounds_toArray, List.set_cons_zero, List.set_cons_succ]
          refine genR hk9 hR ?_
          clear hk9 hR
          intro Wf hkf hRf
          refine wpAnyH_ready (rs := [9]) (by kernel_rfl) (by simp) (AllReadyH.cons rfl (fun K hK => ?_) AllReadyH.nil)
          go_simp
          refine hK.out _ _ ⟨hkf, _, _, _, _, _, _, _, _, _, _, hRf⟩ (fun _ => ?_)
          clear hK K
          try simp only [Act.put, List.setIfInBounds_toArray, List.set_cons_zero, List.set_cons_succ]
          refine wpAnyH_done (by kernel_rfl) ?_ _
          have r0 := hRf.cell 0
          have r1 := hRf.cell 1
          have r2 := hRf.cell 2
          have r3 := hRf.cell 3
          have r4 := hRf.cell 4
          have r5 := hRf.cell 5
          have r6 := hRf.cell 6
          have r7 := hRf.cell 7
          have r8 := hRf.cell 8
          have r9 := hRf.cell 9
          simp only [List.getElem?_toArray, List.getElem?_cons_zero, List.getElem?_cons_succ] at r0 r1 r2 r3 r4 r5 r6 r7 r8 r9
          have HEND := HE.out _ hkf
          go_wp2_with fail
          refine bodyPost_ret (by simp [results, Tryz.results6, go_sem, r0, r1, r2, r3, r4, r5, r6, r7, r8, r9]; try rfl) rfl ?_
          exact ⟨s, b, lm, om, _, _, _, rfl, HEND⟩
      · go_simp
        have hA := hHeld.alloc (.cells #[.int .i64 0, .int .i64 0, .int .i64 0, .int .i64 0, .int .i64 0] 3)
        refine hK.out _ _ hA (fun _ => ?_)
        clear hHeld
        have hHeld := hA
        clear hA
        clear hK K
        try simp only [Act.put, List.setIfInBounds_toArray, List.set_cons_zero, List.set_cons_succ]
        refine wpAnyH_ready (rs := [2]) (by kernel_rfl) (by simp) (AllReadyH.cons rfl (fun K hK => ?_) AllReadyH.nil)
        · go_simp
          go_at_call 13
          refine (HCL2.out _ hHeld).mono ?_
          rintro e w3 ⟨rfl, rfl⟩
          go_simp
          refine hK.out _ _ hHeld (fun _ => ?_)
          clear hK K
          try simp only [Act.put, List.setIfInBounds_toArray, List.set_cons_zero, List.set_cons_succ]
          refine th 4 hHeld ?_
          refine th 7 hHeld ?_
          refine genW hHeld ?_
          clear hHeld
          intro Wn hHeld
          obtain ⟨hk9, v0, v1, v2, v3, v4, v5, v6, v7, v8, v9, hR⟩ := hHeld
          have r0 := hR.cell 0
          have r1 := hR.cell 1
          have r2 := hR.cell 2
          have r3 := hR.cell 3
          have r4 := hR.cell 4
          have r5 := hR.cell 5
          have r6 := hR.cell 6
          have r7 := hR.cell 7
          have r8 := hR.cell 8
          have r9 := hR.cell 9
          simp only [List.getElem?_toArray, List.getElem?_cons_zero, List.getElem?_cons_succ] at r0 r1 r2 r3 r4 r5 r6 r7 r8 r9
          have rf := hR.frozen
          refine wpAnyH_ready (rs := [8]) (by kernel_rfl) (by simp) (AllReadyH.cons rfl (fun K hK => ?_) AllReadyH.nil)
          go_simp
          refine hK.out _ _ (heldSet hk9 hR) (fun _ => ?_)
          clear hK K r0 r1 r2 r3 r4 r5 r6 r7 r8 r9 rf
          try simp only [Act.put, List.setIfInBounds_toArray, List.set_cons_zero, List.set_cons_succ]
          refine genR hk9 hR ?_
          clear hk9 hR
          intro Wf hkf hRf
          refine wpAnyH_ready (rs := [9]) (by kernel_rfl) (by simp) (AllReadyH.cons rfl (fun K hK => ?_) AllReadyH.nil)
          go_simp
          refine hK.out _ _ ⟨hkf, _, _, _, _, _, _, _, _, _, _, hRf⟩ (fun _ => ?_)
          clear hK K
          try simp only [Act.put, List.setIfInBounds_toArray, List.set_cons_zero, List.set_cons_succ]
          refine wpAnyH_done (by kernel_rfl) ?_ _
          have r0 := hRf.cell 0
          have r1 := hRf.cell 1
          have r2 := hRf.cell 2
          have r3 := hRf.cell 3
          have r4 := hRf.cell 4
          have r5 := hRf.cell 5
          have r6 := hRf.cell 6
          have r7 := hRf.cell 7
          have r8 := hRf.cell 8
          have r9 := hRf.cell 9
          simp only [List.getElem?_toArray, List.getElem?_cons_zero, List.getElem?_cons_succ] at r0 r1 r2 r3 r4 r5 r6 r7 r8 r9
          have HEND := HE.out _ hkf
          go_wp2_with fail
          refine bodyPost_ret (by simp [results, Tryz.results6, go_sem, r0, r1, r2, r3, r4, r5, r6, r7, r8, r9]; try rfl) rfl ?_
          exact ⟨s, b, lm, om, _, _, _, rfl, HEND⟩
    · go_simp
      have hA := hHeld.alloc (.cells #[.int .i64 0, .int .i64 0, .int .i64 0, .int .i64 0, .int .i64 0] 3)
      refine hK.out _ _ hA (fun _ => ?_)
      clear hHeld
      have hHeld := hA
      clear hA
      clear hK K
      try simp only [Act.put, List.setIfInBounds_toArray, List.set_cons_zero, List.set_cons_succ]
      refine wpAnyH_ready (rs := [2, 3]) (by kernel_rfl) (by simp) (AllReadyH.cons rfl (fun K hK => ?_) (AllReadyH.cons rfl (fun K hK => ?_) AllReadyH.nil))
      · go_simp
        go_at_call 13
        refine (HCL2.out _ hHeld).mono ?_
        rintro e w3 ⟨rfl, rfl⟩
        go_simp
        refine hK.out _ _ hHeld (fun _ => ?_)
        clear hK K
        try simp only [Act.put, List.setIfInBounds_toArray, List.set_cons_zero, List.set_cons_succ]
        refine wpAnyH_ready (rs := [3]) (by kernel_rfl) (by simp) (AllReadyH.cons rfl (fun K hK => ?_) AllReadyH.nil)
        · go_simp
          have hA := hHeld.alloc (.map #[] 0)
          refine hK.out _ _ hA (fun _ => ?_)
          clear hHeld
          have hHeld := hA
          clear hA
          clear hK K
          try simp only [Act.put, List.setIfInBounds_toArray, List.set_cons_zero, List.set_cons_succ]
          refine th 4 hHeld ?_
          refine th 7 hHeld ?_
          refine genW hHeld ?_
          clear hHeld
          intro Wn hHeld
          obtain ⟨hk9, v0, v1, v2, v3, v4, v5, v6, v7, v8, v9, hR⟩ := hHeld
          have r0 := hR.cell 0
          have r1 := hR.cell 1
          have r2 := hR.cell 2
          have r3 := hR.cell 3
          have r4 := hR.cell 4
          have r5 := hR.cell 5
          have r6 := hR.cell 6
          have r7 := hR.cell 7
          have r8 := hR.cell 8
          have r9 := hR.cell 9
          simp only [List.getElem?_toArray, List.getElem?_cons_zero, List.getElem?_cons_succ] at r0 r1 r2 r3 r4 r5 r6 r7 r8 r9
          have rf := hR.frozen
          refine wpAnyH_ready (rs := [8]) (by kernel_rfl) (by simp) (AllReadyH.cons rfl (fun K hK => ?_) AllReadyH.nil)
          go_simp
          refine hK.out _ _ (heldSet hk9 hR) (fun _ => ?_)
          clear hK K r0 r1 r2 r3 r4 r5 r6 r7 r8 r9 rf
          try simp only [Act.put, List.setIfInBounds_toArray, List.set_cons_zero, List.set_cons_succ]
          refine genR hk9 hR ?_
          clear hk9 hR
          intro Wf hkf hRf
          refine wpAnyH_ready (rs := [9]) (by kernel_rfl) (by simp) (AllReadyH.cons rfl (fun K hK => ?_) AllReadyH.nil)
          go_simp
          refine hK.out _ _ ⟨hkf, _, _, _, _, _, _, _, _, _, _, hRf⟩ (fun _ => ?_)
          clear hK K
          try simp only [Act.put, List.setIfInBounds_toArray, List.set_cons_zero, List.set_cons_succ]
          refine wpAnyH_done (by kernel_rfl) ?_ _
          have r0 := hRf.cell 0
          have r1 := hRf.cell 1
          have r2 := hRf.cell 2
          have r3 := hRf.cell 3
          have r4 := hRf.cell 4
          have r5 := hRf.cell 5
          have r6 := hRf.cell 6
          have r7 := hRf.cell 7
          have r8 := hRf.cell 8
          have r9 := hRf.cell 9
          simp only [List.getElem?_toArray, List.getElem?_cons_zero, List.getElem?_cons_succ] at r0 r1 r2 r3 r4 r5 r6 r7 r8 r9
          have HEND := HE.out _ hkf
          go_wp2_with fail
          refine bodyPost_ret (by simp [results, Tryz.results6, go_sem, r0, r1, r2, r3, r4, r5, r6, r7, r8, r9]; try rfl) rfl ?_
          exact ⟨s, b, lm, om, _, _, _, rfl, HEND⟩
      · go_simp
        have hA := hHeld.alloc (.map #[] 0)
        refine hK.out _ _ hA (fun _ => ?_)
        clear hHeld
        have hHeld := hA
        clear hA
        clear hK K
        try simp only [Act.put, List.setIfInBounds_toArray, List.set_cons_zero, List.set_cons_succ]
        refine wpAnyH_ready (rs := [2]) (by kernel_rfl) (by simp) (AllReadyH.cons rfl (fun K hK => ?_) AllReadyH.nil)
        · go_simp
          go_at_call 13
          refine (HCL2.out _ hHeld).mono ?_
          rintro e w3 ⟨rfl, rfl⟩
          go_simp
          refine hK.out _ _ hHeld (fun _ => ?_)
          clear hK K
          try simp only [Act.put, List.setIfInBounds_toArray, List.set_cons_zero, List.set_cons_succ]
          refine th 4 hHeld ?_
          refine th 7 hHeld ?_
          refine genW hHeld ?_
          clear hHeld
          intro Wn hHeld
          obtain ⟨hk9, v0, v1, v2, v3, v4, v5, v6, v7, v8, v9, hR⟩ := hHeld
          have r0 := hR.cell 0
          have r1 := hR.cell 1
          have r2 := hR.cell 2
          have r3 := hR.cell 3
          have r4 := hR.cell 4
          have r5 := hR.cell 5
          have r6 := hR.cell 6
          have r7 := hR.cell 7
          have r8 := hR.cell 8
          have r9 := hR.cell 9
          simp only [List.getElem?_toArray, List.getElem?_cons_zero, List.getElem?_cons_succ] at r0 r1 r2 r3 r4 r5 r6 r7 r8 r9
          have rf := hR.frozen
          refine wpAnyH_ready (rs := [8]) (by kernel_rfl) (by simp) (AllReadyH.cons rfl (fun K hK => ?_) AllReadyH.nil)
          go_simp
          refine hK.out _ _ (heldSet hk9 hR) (fun _ => ?_)
          clear hK K r0 r1 r2 r3 r4 r5 r6 r7 r8 r9 rf
          try simp only [Act.put, List.setIfInBounds_toArray, List.set_cons_zero, List.set_cons_succ]
          refine genR hk9 hR ?_
          clear hk9 hR
          intro Wf hkf hRf
          refine wpAnyH_ready (rs := [9]) (by kernel_rfl) (by simp) (AllReadyH.cons rfl (fun K hK => ?_) AllReadyH.nil)
          go_simp
          refine hK.out _ _ ⟨hkf, _, _, _, _, _, _, _, _, _, _, hRf⟩ (fun _ => ?_)
          clear hK K
          try simp only [Act.put, List.setIfInBounds_toArray, List.set_cons_zero, List.set_cons_succ]
          refine wpAnyH_done (by kernel_rfl) ?_ _
          have r0 := hRf.cell 0
          have r1 := hRf.cell 1
          have r2 := hRf.cell 2
          have r3 := hRf.cell 3
          have r4 := hRf.cell 4
          have r5 := hRf.cell 5
          have r6 := hRf.cell 6
          have r7 := hRf.cell 7
          have r8 := hRf.cell 8
          have r9 := hRf.cell 9
          simp only [List.getElem?_toArray, List.getElem?_cons_zero, List.getElem?_cons_succ] at r0 r1 r2 r3 r4 r5 r6 r7 r8 r9
          have HEND := HE.out _ hkf
          go_wp2_with fail
          refine bodyPost_ret (by simp [results, Tryz.results6, go_sem, r0, r1, r2, r3, r4, r5, r6, r7, r8, r9]; try rfl) rfl ?_
          exact ⟨s, b, lm, om, _, _, _, rfl, HEND⟩
  · go_simp
    have hA := hHeld.alloc (.cells #[.int .i64 0, .int .i64 0, .int .i64 0, .int .i64 0, .int .i64 0] 3)
    refine hK.out _ _ hA (fun _ => ?_)
    clear hHeld
    have hHeld := hA
    clear hA
    clear hK K
    try simp only [Act.put, List.setIfInBounds_toArray, List.set_cons_zero, List.set_cons_succ]
    refine wpAnyH_ready (rs := [2, 3, 5]) (by kernel_rfl) (by simp) (AllReadyH.cons rfl (fun K hK => ?_) (AllReadyH.cons rfl (fun K hK => ?_) (AllReadyH.cons rfl (fun K hK => ?_) AllReadyH.nil)))
    · go_simp
      go_at_call 13
      refine (HCL2.out _ hHeld).mono ?_
      rintro e w3 ⟨rfl, rfl⟩
      go_simp
      refine hK.out _ _ hHeld (fun _ => ?_)
      clear hK K
      try simp only [Act.put, List.setIfInBounds_toArray, List.set_cons_zero, List.set_cons_succ]
      refine wpAnyH_ready (rs := [3, 5]) (by kernel_rfl) (by simp) (AllReadyH.cons rfl (fun K hK => ?_) (AllReadyH.cons rfl (fun K hK => ?_) AllReadyH.nil))
      · go_simp
        have hA := hHeld.alloc (.map #[] 0)
        refine hK.out _ _ hA (fun _ => ?_)
        clear hHeld
        have hHeld := hA
        clear hA
        clear hK K
        try simp only [Act.put, List.setIfInBounds_toArray, List.set_cons_zero, List.set_cons_succ]
        refine th 4 hHeld ?_
        refine wpAnyH_ready (rs := [5]) (by kernel_rfl) (by simp) (AllReadyH.cons rfl (fun K hK => ?_) AllReadyH.nil)
        · go_simp
          have hA := hHeld.alloc (.map #[] 0)
          refine hK.out _ _ hA (fun _ => ?_)
          clear hHeld
          have hHeld := hA
          clear hA
          clear hK K
          try simp only [Act.put, List.setIfInBounds_toArray, List.set_cons_zero, List.set_cons_succ]
          refine th 7 hHeld ?_
          refine genW hHeld ?_
          clear hHeld
          intro Wn hHeld
          obtain ⟨hk9, v0, v1, v2, v3, v4, v5, v6, v7, v8, v9, hR⟩ := hHeld
          have r0 := hR.cell 0
          have r1 := hR.cell 1
          have r2 := hR.cell 2
          have r3 := hR.cell 3
          have r4 := hR.cell 4
          have r5 := hR.cell 5
          have r6 := hR.cell 6
          have r7 := hR.cell 7
          have r8 := hR.cell 8
          have r9 := hR.cell 9
          simp only [List.getElem?_toArray, List.getElem?_cons_zero, List.getElem?_cons_succ] at r0 r1 r2 r3 r4 r5 r6 r7 r8 r9
          have rf := hR.frozen
          refine wpAnyH_ready (rs := [8]) (by kernel_rfl) (by simp) (AllReadyH.cons rfl (fun K hK => ?_) AllReadyH.nil)
          go_simp
          refine hK.out _ _ (heldSet hk9 hR) (fun _ => ?_)
          clear hK K r0 r1 r2 r3 r4 r5 r6 r7 r8 r9 rf
          try simp only [Act.put, List.setIfInBounds_toArray, List.set_cons_zero, List.set_cons_succ]
          refine genR hk9 hR ?_
          clear hk9 hR
          intro Wf hkf hRf
          refine wpAnyH_ready (rs := [9]) (by kernel_rfl) (by simp) (AllReadyH.cons rfl (fun K hK => ?_) AllReadyH.nil)
          go_simp
          refine hK.out _ _ ⟨hkf, _, _, _, _, _, _, _, _, _, _, hRf⟩ (fun _ => ?_)
          clear hK K
          try simp only [Act.put, List.setIfInBounds_toArray, List.set_cons_zero, List.set_cons_succ]
          refine wpAnyH_done (by kernel_rfl) ?_ _
          have r0 := hRf.cell 0
          have r1 := hRf.cell 1
          have r2 := hRf.cell 2
          have r3 := hRf.cell 3
          have r4 := hRf.cell 4
          have r5 := hRf.cell 5
          have r6 := hRf.cell 6
          have r7 := hRf.cell 7
          have r8 := hRf.cell 8
          have r9 := hRf.cell 9
          simp only [List.getElem?_toArray, List.getElem?_cons_zero, List.getElem?_cons_succ] at r0 r1 r2 r3 r4 r5 r6 r7 r8 r9
          have HEND := HE.out _ hkf
          go_wp2_with fail
          refine bodyPost_ret (by simp [results, Tryz.results6, go_sem, r0, r1, r2, r3, r4, r5, r6, r7, r8, r9]; try rfl) rfl ?_
          exact ⟨s, b, lm, om, _, _, _, rfl, HEND⟩
      · go_simp
        have hA := hHeld.alloc (.map #[] 0)
        refine hK.out _ _ hA (fun _ => ?_)
        clear hHeld
        have hHeld := hA
        clear hA
        clear hK K
        try simp only [Act.put, List.setIfInBounds_toArray, List.set_cons_zero, List.set_cons_succ]
        refine wpAnyH_ready (rs := [3]) (by kernel_rfl) (by simp) (AllReadyH.cons rfl (fun K hK => ?_) AllReadyH.nil)
        · go_simp
          have hA := hHeld.alloc (.map #[] 0)
          refine hK.out _ _ hA (fun _ => ?_)
          clear hHeld
          have hHeld := hA
          clear hA
          clear hK K
          try simp only [Act.put, List.setIfInBounds_toArray, List.set_cons_zero, List.set_cons_succ]
          refine th 4 hHeld ?_
          refine th 7 hHeld ?_
          refine genW hHeld ?_
          clear hHeld
          intro Wn hHeld
          obtain ⟨hk9, v0, v1, v2, v3, v4, v5, v6, v7, v8, v9, hR⟩ := hHeld
          have r0 := hR.cell 0
          have r1 := hR.cell 1
          have r2 := hR.cell 2
          have r3 := hR.cell 3
          have r4 := hR.cell 4
          have r5 := hR.cell 5
          have r6 := hR.cell 6
          have r7 := hR.cell 7
          have r8 := hR.cell 8
          have r9 := hR.cell 9
          simp only [List.getElem?_toArray, List.getElem?_cons_zero, List.getElem?_cons_succ] at r0 r1 r2 r3 r4 r5 r6 r7 r8 r9
          have rf := hR.frozen
          refine wpAnyH_ready (rs := [8]) (by kernel_rfl) (by simp) (AllReadyH.cons rfl (fun K hK => ?_) AllReadyH.nil)
          go_simp
          refine hK.out _ _ (heldSet hk9 hR) (fun _ => ?_)
          clear hK K r0 r1 r2 r3 r4 r5 r6 r7 r8 r9 rf
          try simp only [Act.put, List.setIfInBounds_toArray, List.set_cons_zero, List.set_cons_succ]
          refine genR hk9 hR ?_
          clear hk9 hR
          intro Wf hkf hRf
          refine wpAnyH_ready (rs := [9]) (by kernel_rfl) (by simp) (AllReadyH.cons rfl (fun K hK => ?_) AllReadyH.nil)
          go_simp
          refine hK.out _ _ ⟨hkf, _, _, _, _, _, _, _, _, _, _, hRf⟩ (fun _ => ?_)
          clear hK K
          try simp only [Act.put, List.setIfInBounds_toArray, List.set_cons_zero, List.set_cons_succ]
          refine wpAnyH_done (by kernel_rfl) ?_ _
          have r0 := hRf.cell 0
          have r1 := hRf.cell 1
          have r2 := hRf.cell 2
          have r3 := hRf.cell 3
          have r4 := hRf.cell 4
          have r5 := hRf.cell 5
          have r6 := hRf.cell 6
          have r7 := hRf.cell 7
          have r8 := hRf.cell 8
          have r9 := hRf.cell 9
          simp only [List.getElem?_toArray, List.getElem?_cons_zero, List.getElem?_cons_succ] at r0 r1 r2 r3 r4 r5 r6 r7 r8 r9
          have HEND := HE.out _ hkf
          go_wp2_with fail
          refine bodyPost_ret (by simp [results, Tryz.results6, go_sem, r0, r1, r2, r3, r4, r5, r6, r7, r8, r9]; try rfl) rfl ?_
          exact ⟨s, b, lm, om, _, _, _, rfl, HEND⟩
    · go_simp
      have hA := hHeld.alloc (.map #[] 0)
      refine hK.out _ _ hA (fun _ => ?_)
      clear hHeld
      have hHeld := hA
      clear hA
      clear hK K
      try simp only [Act.put, List.setIfInBounds_toArray, List.set_cons_zero, List.set_cons_succ]
      refine wpAnyH_ready (rs := [2, 5]) (by kernel_rfl) (by simp) (AllReadyH.cons rfl (fun K hK => ?_) (AllReadyH.cons rfl (fun K hK => ?_) AllReadyH.nil))
      · go_simp
        go_at_call 13
        refine (HCL2.out _ hHeld).mono ?_
        rintro e w3 ⟨rfl, rfl⟩
        go_simp
        refine hK.out _ _ hHeld (fun _ => ?_)
        clear hK K
        try simp only [Act.put, List.setIfInBounds_toArray, List.set_cons_zero, List.set_cons_succ]
        refine th 4 hHeld ?_
        refine wpAnyH_ready (rs := [5]) (by kernel_rfl) (by simp) (AllReadyH.cons rfl (fun K hK => ?_) AllReadyH.nil)
        · go_simp
          have hA := hHeld.alloc (.map #[] 0)
          refine hK.out _ _ hA (fun _ => ?_)
          clear hHeld
          have hHeld := hA
          clear hA
          clear hK K
          try simp only [Act.put, List.setIfInBounds_toArray, List.set_cons_zero, List.set_cons_succ]
          refine th 7 hHeld ?_
          refine genW hHeld ?_
          clear hHeld
          intro Wn hHeld
          obtain ⟨hk9, v0, v1, v2, v3, v4, v5, v6, v7, v8, v9, hR⟩ := hHeld
          have r0 := hR.cell 0
          have r1 := hR.cell 1
          have r2 := hR.cell 2
          have r3 := hR.cell 3
          have r4 := hR.cell 4
          have r5 := hR.cell 5
          have r6 := hR.cell 6
          have r7 := hR.cell 7
          have r8 := hR.cell 8
          have r9 := hR.cell 9
          simp only [List.getElem?_toArray, List.getElem?_cons_zero, List.getElem?_cons_succ] at r0 r1 r2 r3 r4 r5 r6 r7 r8 r9
          have rf := hR.frozen
          refine wpAnyH_ready (rs := [8]) (by kernel_rfl) (by simp) (AllReadyH.cons rfl (fun K hK => ?_) AllReadyH.nil)
          go_simp
          refine hK.out _ _ (heldSet hk9 hR) (fun _ => ?_)
          clear hK K r0 r1 r2 r3 r4 r5 r6 r7 r8 r9 rf
          try simp only [Act.put, List.setIfInBounds_toArray, List.set_cons_zero, List.set_cons_succ]
          refine genR hk9 hR ?_
          clear hk9 hR
          intro Wf hkf hRf
          refine wpAnyH_ready (rs := [9]) (by kernel_rfl) (by simp) (AllReadyH.cons rfl (fun K hK => ?_) AllReadyH.nil)
          go_simp
          refine hK.out _ _ ⟨hkf, _, _, _, _, _, _, _, _, _, _, hRf⟩ (fun _ => ?_)
          clear hK K
          try simp only [Act.put, List.setIfInBounds_toArray, List.set_cons_zero, List.set_cons_succ]
          refine wpAnyH_done (by kernel_rfl) ?_ _
          have r0 := hRf.cell 0
          have r1 := hRf.cell 1
          have r2 := hRf.cell 2
          have r3 := hRf.cell 3
          have r4 := hRf.cell 4
          have r5 := hRf.cell 5
          have r6 := hRf.cell 6
          have r7 := hRf.cell 7
          have r8 := hRf.cell 8
          have r9 := hRf.cell 9
          simp only [List.getElem?_toArray, List.getElem?_cons_zero, List.getElem?_cons_succ] at r0 r1 r2 r3 r4 r5 r6 r7 r8 r9
          have HEND := HE.out _ hkf
          go_wp2_with fail
          refine bodyPost_ret (by simp [results, Tryz.results6, go_sem, r0, r1, r2, r3, r4, r5, r6, r7, r8, r9]; try rfl) rfl ?_
          exact ⟨s, b, lm, om, _, _, _, rfl, HEND⟩
      · go_simp
        have hA := hHeld.alloc (.map #[] 0)
        refine hK.out _ _ hA (fun _ => ?_)
        clear hHeld
        have hHeld := hA
        clear hA
        clear hK K
        try simp only [Act.put, List.setIfInBounds_toArray, List.set_cons_zero, List.set_cons_succ]
        refine wpAnyH_ready (rs := [2]) (by kernel_rfl) (by simp) (AllReadyH.cons rfl (fun K hK => ?_) AllReadyH.nil)
        · go_simp
          go_at_call 13
          refine (HCL2.out _ hHeld).mono ?_
          rintro e w3 ⟨rfl, rfl⟩
          go_simp
          refine hK.out _ _ hHeld (fun _ => ?_)
          clear hK K
          try simp only [Act.put, List.setIfInBounds_toArray, List.set_cons_zero, List.set_cons_succ]
          refine th 4 hHeld ?_
          refine th 7 hHeld ?_
          refine genW hHeld ?_
          clear hHeld
          intro Wn hHeld
          obtain ⟨hk9, v0, v1, v2, v3, v4, v5, v6, v7, v8, v9, hR⟩ := hHeld
          have r0 := hR.cell 0
          have r1 := hR.cell 1
          have r2 := hR.cell 2
          have r3 := hR.cell 3
          have r4 := hR.cell 4
          have r5 := hR.cell 5
          have r6 := hR.cell 6
          have r7 := hR.cell 7
          have r8 := hR.cell 8
          have r9 := hR.cell 9
          simp only [List.getElem?_toArray, List.getElem?_cons_zero, List.getElem?_cons_succ] at r0 r1 r2 r3 r4 r5 r6 r7 r8 r9
          have rf := hR.frozen
          refine wpAnyH_ready (rs := [8]) (by kernel_rfl) (by simp) (AllReadyH.cons rfl (fun K hK => ?_) AllReadyH.nil)
          go_simp
          refine hK.out _ _ (heldSet hk9 hR) (fun _ => ?_)
          clear hK K r0 r1 r2 r3 r4 r5 r6 r7 r8 r9 rf
          try simp only [Act.put, List.setIfInBounds_toArray, List.set_cons_zero, List.set_cons_succ]
          refine genR hk9 hR ?_
          clear hk9 hR
          intro Wf hkf hRf
          refine wpAnyH_ready (rs := [9]) (by kernel_rfl) (by simp) (AllReadyH.cons rfl (fun K hK => ?_) AllReadyH.nil)
          go_simp
          refine hK.out _ _ ⟨hkf, _, _, _, _, _, _, _, _, _, _, hRf⟩ (fun _ => ?_)
          clear hK K
          try simp only [Act.put, List.setIfInBounds_toArray, List.set_cons_zero, List.set_cons_succ]
          refine wpAnyH_done (by kernel_rfl) ?_ _
          have r0 := hRf.cell 0
          have r1 := hRf.cell 1
          have r2 := hRf.cell 2
          have r3 := hRf.cell 3
          have r4 := hRf.cell 4
          have r5 := hRf.cell 5
          have r6 := hRf.cell 6
          have r7 := hRf.cell 7
          have r8 := hRf.cell 8
          have r9 := hRf.cell 9
          simp only [List.getElem?_toArray, List.getElem?_cons_zero, List.getElem?_cons_succ] at r0 r1 r2 r3 r4 r5 r6 r7 r8 r9
          have HEND := HE.out _ hkf
          go_wp2_with fail
          refine bodyPost_ret (by simp [results, Tryz.results6, go_sem, r0, r1, r2, r3, r4, r5, r6, r7, r8, r9]; try rfl) rfl ?_
          exact ⟨s, b, lm, om, _, _, _, rfl, HEND⟩
    · go_simp
      have hA := hHeld.alloc (.map #[] 0)
      refine hK.out _ _ hA (fun _ => ?_)
      clear hHeld
      have hHeld := hA
      clear hA
      clear hK K
      try simp only [Act.put, List.setIfInBounds_toArray, List.set_cons_zero, List.set_cons_succ]
      refine wpAnyH_ready (rs := [2, 3]) (by kernel_rfl) (by simp) (AllReadyH.cons rfl (fun K hK => ?_) (AllReadyH.cons rfl (fun K hK => ?_) AllReadyH.nil))
      · go_simp
        go_at_call 13
        refine (HCL2.out _ hHeld).mono ?_
        rintro e w3 ⟨rfl, rfl⟩
        go_simp
        refine hK.out _ _ hHeld (fun _ => ?_)
        clear hK K
        try simp only [Act.put, List.setIfInBounds_toArray, List.set_cons_zero, List.set_cons_succ]
        refine wpAnyH_ready (rs := [3]) (by kernel_rfl) (by simp) (AllReadyH.cons rfl (fun K hK => ?_) AllReadyH.nil)
        · go_simp
          have hA := hHeld.alloc (.map #[] 0)
          refine hK.out _ _ hA (fun _ => ?_)
          clear hHeld
          have hHeld := hA
          clear hA
          clear hK K
          try simp only [Act.put, List.setIfInBounds_toArray, List.set_cons_zero, List.set_cons_succ]
          refine th 4 hHeld ?_
          refine th 7 hHeld ?_
          refine genW hHeld ?_
          clear hHeld
          intro Wn hHeld
          obtain ⟨hk9, v0, v1, v2, v3, v4, v5, v6, v7, v8, v9, hR⟩ := hHeld
          have r0 := hR.cell 0
          have r1 := hR.cell 1
          have r2 := hR.cell 2
          have r3 := hR.cell 3
          have r4 := hR.cell 4
          have r5 := hR.cell 5
          have r6 := hR.cell 6
          have r7 := hR.cell 7
          have r8 := hR.cell 8
          have r9 := hR.cell 9
          simp only [List.getElem?_toArray, List.getElem?_cons_zero, List.getElem?_cons_succ] at r0 r1 r2 r3 r4 r5 r6 r7 r8 r9
          have rf := hR.frozen
          refine wpAnyH_ready (rs := [8]) (by kernel_rfl) (by simp) (AllReadyH.cons rfl (fun K hK => ?_) AllReadyH.nil)
          go_simp
          refine hK.out _ _ (heldSet hk9 hR) (fun _ => ?_)
          clear hK K r0 r1 r2 r3 r4 r5 r6 r7 r8 r9 rf
          try simp only [Act.put, List.setIfInBounds_toArray, List.set_cons_zero, List.set_cons_succ]
          refine genR hk9 hR ?_
          clear hk9 hR
          intro Wf hkf hRf
          refine wpAnyH_ready (rs := [9]) (by kernel_rfl) (by simp) (AllReadyH.cons rfl (fun K hK => ?_) AllReadyH.nil)
          go_simp
          refine hK.out _ _ ⟨hkf, _, _, _, _, _, _, _, _, _, _, hRf⟩ (fun _ => ?_)
          clear hK K
          try simp only [Act.put, List.setIfInBounds_toArray, List.set_cons_zero, List.set_cons_succ]
          refine wpAnyH_done (by kernel_rfl) ?_ _
          have r0 := hRf.cell 0
          have r1 := hRf.cell 1
          have r2 := hRf.cell 2
          have r3 := hRf.cell 3
          have r4 := hRf.cell 4
          have r5 := hRf.cell 5
          have r6 := hRf.cell 6
          have r7 := hRf.cell 7
          have r8 := hRf.cell 8
          have r9 := hRf.cell 9
          simp only [List.getElem?_toArray, List.getElem?_cons_zero, List.getElem?_cons_succ] at r0 r1 r2 r3 r4 r5 r6 r7 r8 r9
          have HEND := HE.out _ hkf
          go_wp2_with fail
          refine bodyPost_ret (by simp [results, Tryz.results6, go_sem, r0, r1, r2, r3, r4, r5, r6, r7, r8, r9]; try rfl) rfl ?_
          exact ⟨s, b, lm, om, _, _, _, rfl, HEND⟩
      · go_simp
        have hA := hHeld.alloc (.map #[] 0)
        refine hK.out _ _ hA (fun _ => ?_)
        clear hHeld
        have hHeld := hA
        clear hA
        clear hK K
        try simp only [Act.put, List.setIfInBounds_toArray, List.set_cons_zero, List.set_cons_succ]
        refine wpAnyH_ready (rs := [2]) (by kernel_rfl) (by simp) (AllReadyH.cons rfl (fun K hK => ?_) AllReadyH.nil)
        · go_simp
          go_at_call 13
          refine (HCL2.out _ hHeld).mono ?_
          rintro e w3 ⟨rfl, rfl⟩
          go_simp
          refine hK.out _ _ hHeld (fun _ => ?_)
          clear hK K
          try simp only [Act.put, List.setIfInBounds_toArray, List.set_cons_zero, List.set_cons_succ]
          refine th 4 hHeld ?_
          refine th 7 hHeld ?_
          refine genW hHeld ?_
          clear hHeld
          intro Wn hHeld
          obtain ⟨hk9, v0, v1, v2, v3, v4, v5, v6, v7, v8, v9, hR⟩ := hHeld
          have r0 := hR.cell 0
          have r1 := hR.cell 1
          have r2 := hR.cell 2
          have r3 := hR.cell 3
          have r4 := hR.cell 4
          have r5 := hR.cell 5
          have r6 := hR.cell 6
          have r7 := hR.cell 7
          have r8 := hR.cell 8
          have r9 := hR.cell 9
          simp only [List.getElem?_toArray, List.getElem?_cons_zero, List.getElem?_cons_succ] at r0 r1 r2 r3 r4 r5 r6 r7 r8 r9
          have rf := hR.frozen
          refine wpAnyH_ready (rs := [8]) (by kernel_rfl) (by simp) (AllReadyH.cons rfl (fun K hK => ?_) AllReadyH.nil)
          go_simp
          refine hK.out _ _ (heldSet hk9 hR) (fun _ => ?_)
          clear hK K r0 r1 r2 r3 r4 r5 r6 r7 r8 r9 rf
          try simp only [Act.put, List.setIfInBounds_toArray, List.set_cons_zero, List.set_cons_succ]
          refine genR hk9 hR ?_
          clear hk9 hR
          intro Wf hkf hRf
          refine wpAnyH_ready (rs := [9]) (by kernel_rfl) (by simp) (AllReadyH.cons rfl (fun K hK => ?_) AllReadyH.nil)
          go_simp
          refine hK.out _ _ ⟨hkf, _, _, _, _, _, _, _, _, _, _, hRf⟩ (fun _ => ?_)
          clear hK K
          try simp only [Act.put, List.setIfInBounds_toArray, List.set_cons_zero, List.set_cons_succ]
          refine wpAnyH_done (by kernel_rfl) ?_ _
          have r0 := hRf.cell 0
          have r1 := hRf.cell 1
          have r2 := hRf.cell 2
          have r3 := hRf.cell 3
          have r4 := hRf.cell 4
          have r5 := hRf.cell 5
          have r6 := hRf.cell 6
          have r7 := hRf.cell 7
          have r8 := hRf.cell 8
          have r9 := hRf.cell 9
          simp only [List.getElem?_toArray, List.getElem?_cons_zero, List.getElem?_cons_succ] at r0 r1 r2 r3 r4 r5 r6 r7 r8 r9
          have HEND := HE.out _ hkf
          go_wp2_with fail
          refine bodyPost_ret (by simp [results, Tryz.results6, go_sem, r0, r1, r2, r3, r4, r5, r6, r7, r8, r9]; try rfl) rfl ?_
          exact ⟨s, b, lm, om, _, _, _, rfl, HEND⟩
end
end Go.Proofs.YtpnoiagjgkajdaaGreatDoor
