/- The contract of (*raft.Node).append. -/
import Derived.Test.YtnlcipocobmgiaaGreatDoorRaft5
import Derived.Deep.CutBlock
namespace Go.Proofs.YtnlcipocobmgiaaGreatDoor
open Go.RowKit
attribute [local go_sem] size_bs bs_append bs_extract

section
variable {w : World} {V : Nv} {N : Rn} {D : Dk}
theorem ents_at1 {w : World} {p c : Nat} {cs : Array Value} (l : List En) (h : Blk w p 62 cs) (hcs : cs.toList = entsV l) : EntsAt w (.slice (some ⟨p, 0, none⟩) l.length c) l :=
  ⟨_, _, rfl, fun _ => ⟨p, 0, rfl, fun j u hu => by
    rw [h.cell]
    rw [← hcs] at hu
    simpa using hu⟩⟩
theorem Rn.Sm.put1 (h : N.Sm) (cmd : List UInt8) (hl : N.st.last.1 < 2199023255552) (hg : N.st.log.length < 1000000) (hc : cmd.length ≤ 100000) : (N.put1 cmd).Sm :=
  ⟨h.n, h.id, h.term, h.base, h.baseTerm, h.snap, by simp only [Rn.put1, List.length_append, List.length_cons, List.length_nil]; omega, (by
    intro e he
    simp only [Rn.put1, List.mem_append, List.mem_cons, List.not_mem_nil, or_false] at he
    rcases he with he | rfl
    · exact h.ents e he
    · have := h.term
      exact ⟨by simp only [Rn.newEn]; omega, by simp only [Rn.newEn]; omega, hc⟩), h.commit, h.applied, h.timer, h.out, by simpa [Rn.put1] using h.mt, h.nx, h.votes, h.nxs, (by
    intro x hx
    simp only [Rn.put1] at hx
    rcases List.mem_or_eq_of_mem_set hx with hx | rfl
    · exact h.mts x hx
    · simp only [Rn.newEn]; omega)⟩
theorem Rn.Sm.sendAll (h : N.Sm) (ho : N.out.length ≤ 999995) : N.sendAll.Sm := h.told_ h.n ho

set_option maxRecDepth 100000 in
set_option maxHeartbeats 4000000 in
theorem nappend_calls (h : NodeAt w V N D) (hg : D.Good) (hS : N.Sm) (hmt : N.mt.length = N.n) (hnx : N.nx.length = N.n) (hout : N.out.length ≤ 999990) (cmd : List UInt8) (hl : N.st.last.1 < 2199023255552) (hlog : N.st.log.length < 1000000) (hc : cmd.length ≤ 100000) {D' : Dk} (hd : D.appendLog [N.newEn cmd] = (D', 0)) :
    Calls Tryz.prog 44 #[.pointer (some ⟨V.r, 0, none⟩), .string (bs cmd)] w fun e w' => e = .returned (.int .i64 ((N.st.last.1 + 1 : Nat) : Int)) ∧ ∃ V', NodeAt w' V' (N.appended cmd) D' ∧ NodeTo V V' w w' := by
  have hx : N.newEn cmd = ⟨N.st.last.1 + 1, N.st.term, cmd⟩ := rfl
  have hterm := hS.term
  have hid := hS.id
  have T1 : ∀ W, NodeAt W V N D → Calls Tryz.prog 14 #[.pointer (some ⟨V.r, 0, none⟩)] W fun e w' => e = .returned (.int .i64 (N.st.last.1 : Int)) ∧ ∃ k, w' = W.drewN k := fun W hW => nlast_calls hW (by omega)
  have T2 : ∀ W v, NodeAt W V N D → EntsAt W v [N.newEn cmd] → Calls Tryz.prog 82 #[.pointer (some ⟨V.b, 0, none⟩), v] W fun e w' => e = .returned (.int .i64 0) ∧ NodeAt w' V N D' ∧ NodeTo V V W w' ∧ Keep [V.b, V.m] W w' := fun W v hW hv => by
    have := appendLog_calls hW.rest.disk hg hW.rest.tab [N.newEn cmd] v hv ⟨by simp, fun e he => by
      simp at he
      subst he
      exact ⟨by rw [hx]; simp only; omega, by rw [hx]; simp only; omega, by rw [hx]; simp only; omega⟩⟩
    rw [hd] at this
    refine this.mono ?_
    rintro e w' ⟨rfl, h1, h2⟩
    exact ⟨rfl, hW.setDisk h2 h1, NodeTo.setDisk V h2, h2⟩
  have c0 : w.cell? ⟨V.r, 0, none⟩ = some (.pointer (some ⟨V.b, 0, none⟩)) := h.blk.cell 0
  have c3 : w.cell? ⟨V.r, 3, none⟩ = some (.int .i64 (N.st.term : Int)) := h.blk.cell 3
  have hrl := h.blk.lt
  have HS3 : Hid (∀ W, Keep [] w W → W.cell? ⟨V.r, 3, none⟩ = some (.int .i64 (N.st.term : Int))) := fun W hk => (h.blk.keep hk (by simp)).cell 3
  have H := Lib.hid h
  have HSM := Lib.hid hS
  have HT1 := Lib.hid T1
  have HAPP : Hid (N.appended cmd = (N.put1 cmd).sendAll.advance) := rfl
  have HP1 : Hid (N.put1 cmd = { N with st := { N.st with log := N.st.log ++ [N.newEn cmd] }, mt := N.mt.set N.id (N.newEn cmd).index }) := rfl
  have HSP := Lib.hid (hS.put1 cmd hl hlog hc)
  obtain ⟨ix, hix⟩ : ∃ ix, ix = N.st.last.1 + 1 := ⟨_, rfl⟩
  rw [← hix] at hx ⊢
  have hw1 : IntKind.i64.wrap ((N.st.last.1 : Int) + 1) = (ix : Int) := by rw [IntWalk.i64_in _ (by omega)]; omega
  have HX := Lib.hid hx
  rw [hx] at T2
  have HT2 := Lib.hid T2
  clear h T1 T2 hd hx hS hix
  go_enter Tryz.func44, Tryz.ntmps44
  go_wp2_with fail
  have hda : ∀ (n : Nat) (o : Obj), (w.drewN n).alloc o = (w.alloc o).drewN n := fun _ _ => rfl
  go_region_held3 (fun w' => w'.cell? ⟨V.r, 3, none⟩ = some (.int .i64 (N.st.term : Int)))
    (first
      | (refine HS3.out _ ?_; (repeat (first | exact Keep.refl _ _ | refine Keep.drew ?_ | refine Keep.drewN ?_ _ | refine Keep.alloc ?_ _ | refine Keep.setCell ?_ (.inr (Nat.le_refl _)) _)); done)
      | go_keep)
    (first
      | (go_at_call 14; refine (HT1.out _ (H.out.grow (by repeat (first | exact Keep.refl _ _ | refine Keep.drew ?_ | refine Keep.drewN ?_ _ | refine Keep.alloc ?_ _)))).mono ?_; rintro e w1 ⟨rfl, n1, rfl⟩))
  all_goals
    clear hda hw1
    go_wp2_with fail
    have hk1 : Keep [] w (((((w.alloc (.cells #[.int .i64 0, .int .i64 0, .string { data := #[] }] 62)).drewN (1 + n1)).setCell ⟨w.heap.size, 0, none⟩ (.int .i64 (ix : Int))).setCell ⟨w.heap.size, 1, none⟩ (.int .i64 (N.st.term : Int))).setCell ⟨w.heap.size, 2, none⟩ (.string (bs cmd))) := (by repeat (first | exact Keep.refl _ _ | refine Keep.drew ?_ | refine Keep.drewN ?_ _ | refine Keep.alloc ?_ _ | refine Keep.setCell ?_ (.inr (Nat.le_refl _)) _))
    have hB1 : Blk (((((w.alloc (.cells #[.int .i64 0, .int .i64 0, .string { data := #[] }] 62)).drewN (1 + n1)).setCell ⟨w.heap.size, 0, none⟩ (.int .i64 (ix : Int))).setCell ⟨w.heap.size, 1, none⟩ (.int .i64 (N.st.term : Int))).setCell ⟨w.heap.size, 2, none⟩ (.string (bs cmd))) w.heap.size 62 #[.int .i64 (ix : Int), .int .i64 (N.st.term : Int), .string (bs cmd)] := ((((Blk.new _ _ _).drewN _).set_ 0 _).set_ 1 _).set_ 2 _
    have H1 := Lib.hid (H.out.grow hk1)
    have HK1 := Lib.hid hk1
    have HB1 := Lib.hid hB1
    have hl1 := hB1.lt
    clear c0 c3 HS3 hk1 hB1
    generalize (((((w.alloc (.cells #[.int .i64 0, .int .i64 0, .string { data := #[] }] 62)).drewN (1 + n1)).setCell ⟨w.heap.size, 0, none⟩ (.int .i64 (ix : Int))).setCell ⟨w.heap.size, 1, none⟩ (.int .i64 (N.st.term : Int))).setCell ⟨w.heap.size, 2, none⟩ (.string (bs cmd))) = W1 at *
    have HS2 : Hid (∀ W, Keep [] W1 W → W.cell? ⟨V.r, 0, none⟩ = some (.pointer (some ⟨V.b, 0, none⟩)) ∧ W.cell? ⟨w.heap.size, 0, none⟩ = some (.int .i64 (ix : Int)) ∧ W.cell? ⟨w.heap.size, 1, none⟩ = some (.int .i64 (N.st.term : Int)) ∧ W.cell? ⟨w.heap.size, 2, none⟩ = some (.string (bs cmd))) := fun W hk => by
      have h1 := H1.out.blk.keep hk (by simp)
      have h2 := HB1.out.keep hk (by simp)
      exact ⟨h1.cell 0, h2.cell 0, h2.cell 1, h2.cell 2⟩
    have hnot : w.heap.size ∉ [V.b, V.m] := by
      have h1 := H.out.rest.disk.blk.lt
      have h2 := H.out.rest.disk.map.lt
      simp only [List.mem_cons, List.not_mem_nil, or_false, not_or]
      omega
    have HAP : Hid (∀ W v, Keep [] W1 W → EntsAt W v [⟨ix, N.st.term, cmd⟩] → Calls Tryz.prog 82 #[.pointer (some ⟨V.b, 0, none⟩), v] W fun e w' => e = .returned (.int .i64 0) ∧ NodeAt w' V N D' ∧ NodeTo V V w w' ∧ Blk w' w.heap.size 62 #[.int .i64 (ix : Int), .int .i64 (N.st.term : Int), .string (bs cmd)] ∧ w'.cell? ⟨V.r, 0, none⟩ = some (.pointer (some ⟨V.b, 0, none⟩)) ∧ w'.cell? ⟨w.heap.size, 0, none⟩ = some (.int .i64 (ix : Int)) ∧ w'.cell? ⟨w.heap.size, 1, none⟩ = some (.int .i64 (N.st.term : Int)) ∧ w'.cell? ⟨w.heap.size, 2, none⟩ = some (.string (bs cmd))) := fun W v hk hv => by
      refine (HT2.out W v (H1.out.grow hk) hv).mono ?_
      rintro e w' ⟨rfl, h1, h2, h3⟩
      have h4 := (HB1.out.keep hk (by simp)).keep h3 hnot
      exact ⟨rfl, h1, (NodeTo.grow V (HK1.out.trans hk)).trans h2, h4, h1.blk.cell 0, h4.cell 0, h4.cell 1, h4.cell 2⟩
    clear hnot
    go_region_held3 (fun w' => w'.cell? ⟨V.r, 0, none⟩ = some (.pointer (some ⟨V.b, 0, none⟩)) ∧ w'.cell? ⟨w.heap.size, 0, none⟩ = some (.int .i64 (ix : Int)) ∧ w'.cell? ⟨w.heap.size, 1, none⟩ = some (.int .i64 (N.st.term : Int)) ∧ w'.cell? ⟨w.heap.size, 2, none⟩ = some (.string (bs cmd)))
      (first
        | (refine HS2.out _ ?_; (repeat (first | exact Keep.refl _ _ | refine Keep.drew ?_ | refine Keep.drewN ?_ _ | refine Keep.alloc ?_ _)); done)
        | exact S6.out
        | go_keep)
      (first
        | (go_at_call 81; refine (stored_ok _ _).mono ?_; rintro e w6 ⟨rfl, rfl⟩)
        | (go_at_call 82; refine (HAP.out _ _ (by repeat (first | exact Keep.refl _ _ | refine Keep.drew ?_ | refine Keep.drewN ?_ _ | refine Keep.alloc ?_ _)) (ents_at1 (cs := #[.int .i64 (ix : Int), .int .i64 (N.st.term : Int), .string (bs cmd)]) [⟨ix, N.st.term, cmd⟩] (by first | exact Blk.new _ _ _ | exact (Blk.new _ _ _).drew) rfl)).mono ?_; rintro e w6 ⟨rfl, hN6, hT6, hB6, s1, s2, s3, s4⟩; have S6 : Hid (w6.cell? ⟨V.r, 0, none⟩ = some (.pointer (some ⟨V.b, 0, none⟩)) ∧ w6.cell? ⟨w.heap.size, 0, none⟩ = some (.int .i64 (ix : Int)) ∧ w6.cell? ⟨w.heap.size, 1, none⟩ = some (.int .i64 (N.st.term : Int)) ∧ w6.cell? ⟨w.heap.size, 2, none⟩ = some (.string (bs cmd))) := ⟨s1, s2, s3, s4⟩; have H6 := Lib.hid hN6; have HT6 := Lib.hid hT6; have HB6 := Lib.hid hB6; clear hN6 hT6 hB6 s1 s2 s3 s4)
        | fail)
    go_wp2_with fail
    obtain ⟨Al, cl, hlgv⟩ := own_slice H6.out.rest.log
    have HS4 : Hid (∀ W, Keep V.lg.ownBlock.toList w6 W → W.cell? ⟨V.r, 8, none⟩ = some (.slice Al N.st.log.length cl) ∧ W.cell? ⟨w.heap.size, 0, none⟩ = some (.int .i64 (ix : Int)) ∧ W.cell? ⟨w.heap.size, 1, none⟩ = some (.int .i64 (N.st.term : Int)) ∧ W.cell? ⟨w.heap.size, 2, none⟩ = some (.string (bs cmd))) := fun W hk => by
      have hnr : V.r ∉ V.lg.ownBlock.toList := fun hx => H6.out.r_ne.2.2.1 (by simpa using hx)
      have hnb : w.heap.size ∉ V.lg.ownBlock.toList := fun hx => by
        have := own_lt H.out.rest.log (k := w.heap.size) (by simpa using hx)
        omega
      have h1 := H6.out.blk.keep hk hnr
      have h2 := HB6.out.keep hk hnb
      exact ⟨hlgv ▸ h1.cell 8, h2.cell 0, h2.cell 1, h2.cell 2⟩
    have HLV := Lib.hid hlgv
    clear hlgv
    obtain ⟨i0, hi, hz0, hz1, hz2⟩ := info_parts Tryz.info62
    refine wp_region_K (S := fun W => W.cell? ⟨V.r, 8, none⟩ = some (.slice Al N.st.log.length cl) ∧ W.cell? ⟨w.heap.size, 0, none⟩ = some (.int .i64 (ix : Int)) ∧ W.cell? ⟨w.heap.size, 1, none⟩ = some (.int .i64 (N.st.term : Int)) ∧ W.cell? ⟨w.heap.size, 2, none⟩ = some (.string (bs cmd))) (z := 12) (by kernel_rfl) ?_
    have hHeld := HS4.out w6.drew (Keep.refl _ _).drew
    refine wpAnyK_take (i := 0) (v := ?_) rfl rfl (by kernel_rfl) (by kernel_rfl) (by kernel_rfl) (by kernel_rfl) (by kernel_rfl) (fun _ _ _ h => h) (by rfl) ?_ hHeld ?_
    rotate_left
    · rintro W ⟨s0, s1, s2, s3⟩
      go_simp
      with_reducible rfl
    try simp only [Act.put]
    refine wpAnyK_take (i := 1) (v := ?_) rfl rfl (by kernel_rfl) (by kernel_rfl) (by kernel_rfl) (by kernel_rfl) (by kernel_rfl) (fun _ _ _ h => h) (by rfl) ?_ hHeld ?_
    rotate_left
    · rintro W ⟨s0, s1, s2, s3⟩
      go_simp
      with_reducible rfl
    try simp only [Act.put]
    refine wpAnyK_take (i := 2) (v := ?_) rfl rfl (by kernel_rfl) (by kernel_rfl) (by kernel_rfl) (by kernel_rfl) (by kernel_rfl) (fun _ _ _ h => h) (by rfl) ?_ hHeld ?_
    rotate_left
    · rintro W ⟨s0, s1, s2, s3⟩
      go_simp
      with_reducible rfl
    try simp only [Act.put]
    refine wpAnyK_take (i := 3) (v := ?_) rfl rfl (by kernel_rfl) (by kernel_rfl) (by kernel_rfl) (by kernel_rfl) (by kernel_rfl) (fun _ _ _ h => h) (by rfl) ?_ hHeld ?_
    rotate_left
    · rintro W ⟨s0, s1, s2, s3⟩
      go_simp
      with_reducible rfl
    try simp only [Act.put]
    refine wpAnyK_take (i := 4) (v := ?_) rfl rfl (by kernel_rfl) (by kernel_rfl) (by kernel_rfl) (by kernel_rfl) (by kernel_rfl) (fun _ _ _ h => h) (by rfl) ?_ hHeld ?_
    rotate_left
    · rintro W ⟨s0, s1, s2, s3⟩
      go_simp
      with_reducible rfl
    try simp only [Act.put]
    refine wpAnyK_take (i := 5) (v := ?_) rfl rfl (by kernel_rfl) (by kernel_rfl) (by kernel_rfl) (by kernel_rfl) (by kernel_rfl) (fun _ _ _ h => h) (by rfl) ?_ hHeld ?_
    rotate_left
    · rintro W ⟨s0, s1, s2, s3⟩
      go_simp
      with_reducible rfl
    try simp only [Act.put]
    refine wpAnyK_take (i := 6) (v := ?_) rfl rfl (by kernel_rfl) (by kernel_rfl) (by kernel_rfl) (by kernel_rfl) (by kernel_rfl) (fun _ _ _ h => h) (by rfl) ?_ hHeld ?_
    rotate_left
    · rintro W ⟨s0, s1, s2, s3⟩
      go_simp
      with_reducible rfl
    try simp only [Act.put]
    refine wpAnyK_one (k := 7) (by kernel_rfl) rfl (fun K hK => ?_)
    go_simp
    refine hK.out _ _ (fun _ => HS4.out _ (by repeat (first | exact Keep.refl _ _ | refine Keep.drew ?_ | refine Keep.drewN ?_ _ | refine Keep.alloc ?_ _))) ?_
    clear hK K hHeld
    try simp only [Act.put]
    refine wpAnyK_one (k := 8) (by kernel_rfl) rfl (fun K hK => ?_)
    refine step_append1 (n := N.st.log.length) (xs := entsV N.st.log) (news := (⟨ix, N.st.term, cmd⟩ : En).cells) rfl (.tmp 31) (.tmp 33) rfl Tryz.underlying40 hi hz0 hz1 hz2 rfl (by omega) rfl rfl (by have := (H6.out.rest.log); rw [HLV.out] at this; exact Keep.owns (M := []) (by repeat (first | exact Keep.refl _ _ | refine Keep.drew ?_ | refine Keep.drewN ?_ _ | refine Keep.alloc ?_ _)) this (by simp)) (Blk.new _ _ _) rfl (by simp [En.cells, Value.oneCell']) (by unfold maxLen; omega) (by omega) ?_
    intro g cap w7 hown7 hk7 hat7
    rw [← HLV.out] at hk7 hat7
    have HK7 : Hid (Keep V.lg.ownBlock.toList w6 w7) := Keep.trans' (M := V.lg.ownBlock.toList) (by repeat (first | exact Keep.refl _ _ | refine Keep.drew ?_ | refine Keep.drewN ?_ _ | refine Keep.alloc ?_ _)) hk7 (fun x hx => .inl hx)
    have HAT : Hid (∀ k, (Value.slice (some ⟨g, 0, none⟩) (N.st.log.length + 1) cap).ownBlock = some k → V.lg.ownBlock = some k ∨ w6.heap.size ≤ k) := fun k e => by
      have e' : g = k := by simpa [Value.ownBlock] using e
      subst e'
      rcases hat7 with h1 | h1
      · exact .inl h1
      · simp at h1
        exact .inr (by omega)
    have HOWN7 := Lib.hid hown7
    have hnr : V.r ∉ V.lg.ownBlock.toList := fun hx => H6.out.r_ne.2.2.1 (by simpa using hx)
    have hbr := H6.out.blk.keep HK7.out hnr
    have z8 : w7.cell? ⟨V.r, 8, none⟩ = some V.lg := hbr.cell 8
    have zf : w7.frozen? ⟨V.r, 8, none⟩ = false := hbr.frozen 8
    rw [HLV.out] at z8
    clear hown7 hk7 hat7 hbr hnr
    refine hK.out _ _ (fun _ => HS4.out _ HK7.out) ?_
    clear hK K
    have hHeld := HS4.out _ HK7.out
    try simp only [Act.put]
    refine wpAnyK_one (k := 9) (by kernel_rfl) rfl (fun K hK => ?_)
    go_simp
    refine hK.out _ _ (fun _ => hHeld) ?_
    clear hK K
    try simp only [Act.put]
    refine wpAnyK_one (k := 10) (by kernel_rfl) rfl (fun K hK => ?_)
    go_simp
    refine hK.out _ _ (fun _ => hHeld) ?_
    clear hK K
    try simp only [Act.put]
    refine wpAnyK_one (k := 11) (by kernel_rfl) rfl (fun K hK => ?_)
    go_simp
    refine hK.out _ _ (fun _ => hHeld) ?_
    clear hK K
    try simp only [Act.put]
    refine wpAnyK_one (k := 12) (by kernel_rfl) rfl (fun K hK => ?_)
    go_simp
    refine hK.out _ _ (fun h => absurd rfl h) ?_
    clear hK K hHeld z8 zf
    refine wpAnyK_done (by kernel_rfl) ?_
    obtain ⟨hN8, hT8⟩ := H6.out.logged (x := ⟨ix, N.st.term, cmd⟩) HK7.out HOWN7.out HAT.out rfl
    go_wp2_with fail
    have hx8 : w.heap.size ∉ ({ V with lg := .slice (some ⟨g, 0, none⟩) (N.st.log.length + 1) cap } : Nv).fp := fun hx => by
      have hlt := H.out.fp_lt
      have h61 := HB6.out.lt
      rcases Nv.mem.1 hx with h | h | h | h | h | h | h | h
      · have := hlt w.heap.size (Nv.mem.2 (.inl h)); omega
      · have := hlt w.heap.size (Nv.mem.2 (.inr (.inl h))); omega
      · have := hlt w.heap.size (Nv.mem.2 (.inr (.inr (.inl h)))); omega
      · rcases HAT.out _ h with h1 | h1
        · have := hlt w.heap.size (Nv.mem.2 (.inr (.inr (.inr (.inl h1))))); omega
        · omega
      · have := hlt w.heap.size (Nv.mem.2 (.inr (.inr (.inr (.inr (.inl h)))))); omega
      · have := hlt w.heap.size (Nv.mem.2 (.inr (.inr (.inr (.inr (.inr (.inl h))))))); omega
      · have := hlt w.heap.size (Nv.mem.2 (.inr (.inr (.inr (.inr (.inr (.inr (.inl h)))))))); omega
      · have := hlt w.heap.size (Nv.mem.2 (.inr (.inr (.inr (.inr (.inr (.inr (.inr h)))))))); omega
    have hB8 : Blk (w7.setCell ⟨V.r, 8, none⟩ (.slice (some ⟨g, 0, none⟩) (N.st.log.length + 1) cap)) w.heap.size 62 #[.int .i64 (ix : Int), .int .i64 (N.st.term : Int), .string (bs cmd)] := HB6.out.keep hT8.keep (fun hx => by
      have := H.out.fp_lt _ hx
      omega)
    have hT80 : NodeTo V { V with lg := .slice (some ⟨g, 0, none⟩) (N.st.log.length + 1) cap } w _ := HT6.out.trans hT8
    generalize w7.setCell ⟨V.r, 8, none⟩ (.slice (some ⟨g, 0, none⟩) (N.st.log.length + 1) cap) = W8 at *
    obtain ⟨gm, hgm, hmb, hmc⟩ := H.out.rest.ma.cell (i := N.id) (by rw [nums_len]; omega)
    obtain ⟨V8, hV8⟩ : ∃ V8 : Nv, V8 = { V with lg := .slice (some ⟨g, 0, none⟩) (N.st.log.length + 1) cap } := ⟨_, rfl⟩
    have hma8 : V8.ma = some gm := by rw [hV8]; exact hgm
    have hr8 : V8.r = V.r := by rw [hV8]
    rw [← hV8] at hN8 hT8 hx8 hT80
    obtain ⟨N8, hN8e⟩ : ∃ N8 : Rn, N8 = { N with st := { N.st with log := N.st.log ++ [⟨ix, N.st.term, cmd⟩] } } := ⟨_, rfl⟩
    have hmt8 : N8.mt = N.mt := by rw [hN8e]
    have hid8 : N8.id = N.id := by rw [hN8e]
    have HPUT : Hid (N.put1 cmd = { N8 with mt := N8.mt.set N.id ix }) := by
      show N.put1 cmd = { N8 with mt := N8.mt.set N.id ix }
      rw [HP1.out, hN8e, HX.out]
    rw [← hN8e] at hN8
    have c15 : W8.cell? ⟨V8.r, 15, none⟩ = some (arrV V8.ma N8.mt.length) := hN8.blk.cell 15
    have c1 : W8.cell? ⟨V8.r, 1, none⟩ = some (.int .i64 (N8.id : Int)) := hN8.blk.cell 1
    rw [hma8, hr8, hmt8, hmt] at c15
    rw [hr8, hid8] at c1
    change W8.cell? ⟨V.r, 15, none⟩ = some (.slice (some ⟨gm, 0, none⟩) N.n N.n) at c15
    obtain ⟨gm', hgm', hmb8, hmc8⟩ := hN8.rest.ma.cell (i := N.id) (by rw [nums_len, hmt8]; omega)
    obtain rfl : gm = gm' := by rw [hma8] at hgm'; injection hgm'
    have q0 : W8.cell? ⟨w.heap.size, 0, none⟩ = some (.int .i64 (ix : Int)) := hB8.cell 0
    have mf : W8.frozen? ⟨gm, N.id, none⟩ = false := hmb8.frozen N.id
    have d1 : decide ((N.id : Int) < (N.n : Int)) = true := by simp; omega
    have hin : (N.id : Int) < (N.n : Int) := by omega
    rw [nums_at _ _ (by rw [hmt8]; omega)] at hmc8
    have HN8 := Lib.hid hN8
    have HT80 := Lib.hid hT80
    have HB8 := Lib.hid hB8
    have HX8 := Lib.hid hx8
    have HMA8 := Lib.hid hma8
    have HR8 := Lib.hid hr8
    clear hN8 hT8 hx8 hT80 hB8 hmt8 hid8 hV8 hN8e hgm hgm' hmb hmc hmb8 hma8 hr8 HS2 HS4 HAP S6 H1 H6 HB1 HB6 HOWN7 HAT HK7 HLV
    generalize N8.mt.getD N.id 0 = mo at *
    have HSA : Hid (∀ W, Keep [] (W8.setCell ⟨gm, N.id, none⟩ (.int .i64 (ix : Int))) W → Calls Tryz.prog 42 #[.pointer (some ⟨V.r, 0, none⟩)] W fun e w' => e = .returned (.tuple #[]) ∧ ∃ U, NodeAt w' U (N.put1 cmd).sendAll D' ∧ NodeTo V U w w' ∧ U.r = V.r ∧ w.heap.size ∉ U.fp ∧ Blk w' w.heap.size 62 #[.int .i64 (ix : Int), .int .i64 (N.st.term : Int), .string (bs cmd)]) := fun W hk => by
      obtain ⟨h1, h2⟩ := HN8.out.setMt HT80.out HMA8.out N.id ix rfl
      obtain ⟨-, h2'⟩ := HN8.out.setMt (NodeTo.refl V8 W8) HMA8.out N.id ix rfl
      have h3 := h1.grow hk
      have h4 := h2.trans (NodeTo.grow V8 hk)
      have h4' := h2'.trans (NodeTo.grow V8 hk)
      rw [← HPUT.out] at h3
      have := sendAll_calls h3 HSP.out (by rw [HP1.out]; exact hnx) (by rw [HP1.out]; exact hout)
      rw [HR8.out] at this
      refine this.mono ?_
      rintro e w' ⟨rfl, U, h5, h6⟩
      have h7 := h4'.trans h6
      refine ⟨rfl, U, h5, h4.trans h6, h7.r.trans HR8.out, fun hx => ?_, HB8.out.keep h7.keep HX8.out⟩
      rcases h7.fp _ hx with h8 | h8
      · exact HX8.out h8
      · have := HB8.out.lt; omega
    have HAD : Hid (∀ W U, NodeAt W U (N.put1 cmd).sendAll D' → NodeTo V U w W → U.r = V.r → w.heap.size ∉ U.fp → Blk W w.heap.size 62 #[.int .i64 (ix : Int), .int .i64 (N.st.term : Int), .string (bs cmd)] → Calls Tryz.prog 83 #[.pointer (some ⟨V.r, 0, none⟩)] W fun e w' => e = .returned (.tuple #[]) ∧ NodeAt w' U (N.appended cmd) D' ∧ NodeTo V U w w' ∧ Blk w' w.heap.size 62 #[.int .i64 (ix : Int), .int .i64 (N.st.term : Int), .string (bs cmd)]) := fun W U h1 h2 h3 h4 h5 => by
      have := advance_calls h1 (HSP.out.sendAll (by rw [HP1.out]; simp only; omega)) (by show (N.put1 cmd).mt.length = N.n; rw [HP1.out]; simpa using hmt)
      rw [h3] at this
      refine this.mono ?_
      rintro e w' ⟨rfl, h6, h7⟩
      exact ⟨rfl, by rw [HAPP.out]; exact h6, h2.trans h7, h5.keep h7.keep h4⟩
    clear HN8 HT80 HB8 HX8 HMA8 HR8 HPUT HSM HSP HP1 HX H HT1 HT2 HT6 HK1
    go_region
    go_wp2_with (first
      | (go_at_call 42; refine (HSA.out _ (by repeat (first | exact Keep.refl _ _ | refine Keep.drew ?_ | refine Keep.drewN ?_ _ | refine Keep.alloc ?_ _))).mono ?_; rintro e w9 ⟨rfl, U9, h9, t9, r9, f9, b9⟩; have H9 := Lib.hid h9; have HT9 := Lib.hid t9; have HR9 := Lib.hid r9; have HF9 := Lib.hid f9; have HB9 := Lib.hid b9; clear h9 t9 r9 f9 b9 c15 c1 q0 mf hmc8)
      | (go_at_call 83; refine (HAD.out _ _ H9.out HT9.out HR9.out HF9.out HB9.out).mono ?_; rintro e w10 ⟨rfl, h10, t10, b10⟩; have H10 := Lib.hid h10; have HT10 := Lib.hid t10; have q0 : w10.cell? ⟨w.heap.size, 0, none⟩ = some (.int .i64 (ix : Int)) := b10.cell 0; clear h10 t10 b10)
      | fail)
    go_ret
    exact ⟨rfl, U9, H10.out, HT10.out⟩
end

end Go.Proofs.YtnlcipocobmgiaaGreatDoor
