/- The contract of (*raft.Node).append. -/
import Derived.Test.YtnlcipocobmgiaaGreatDoorRaftA
import Derived.Deep.CutBlock
import Derived.Deep.OwnRows
import Derived.StillTailTactics
namespace Go.Proofs.YtnlcipocobmgiaaGreatDoor
open Go.RowKit
attribute [local go_sem] size_bs bs_append bs_extract

section
variable {w : World} {V : Nv} {N : Rn} {D : Dk}
theorem ents_at1 {w : World} {p c : Nat} {cs : Array Value} (l : List En) (h : Blk w p 62 cs) (hcs : cs.toList = entsV l) : EntsAt w (.slice (some ⟨p, 0, none⟩) l.length c) l :=
  ⟨_, _, rfl, fun _ => ⟨p, 0, rfl, fun j u hu => by
    rw [h.cell]
    rw [← hcs] at hu
    simpa using hu⟩⟩
theorem Rn.Sm.put1 (h : N.Sm) (cmd : List UInt8) (hl : N.st.last.1 < 2199023255552) (hg : N.st.log.length < 1000000) (hc : cmd.length ≤ 100000) : (N.put1 cmd).Sm :=
  ⟨h.n, h.id, h.term, h.base, h.baseTerm, h.snap, by simp only [Rn.put1, List.length_append, List.length_cons, List.length_nil]; omega, (by
    intro e he
    simp only [Rn.put1, List.mem_append, List.mem_cons, List.not_mem_nil, or_false] at he
    rcases he with he | rfl
    · exact h.ents e he
    · have := h.term
      exact ⟨by simp only [Rn.newEn]; omega, by simp only [Rn.newEn]; omega, hc⟩), h.commit, h.applied, h.timer, h.out, by simpa [Rn.put1] using h.mt, h.nx, h.votes, h.nxs, (by
    intro x hx
    simp only [Rn.put1] at hx
    rcases List.mem_or_eq_of_mem_set hx with hx | rfl
    · exact h.mts x hx
    · simp only [Rn.newEn]; omega)⟩
theorem Rn.Sm.sendAll (h : N.Sm) (ho : N.out.length ≤ 999995) : N.sendAll.Sm := h.told_ h.n ho

set_option maxRecDepth 100000 in
set_option maxHeartbeats 4000000 in
theorem nappend_calls (h : NodeAt w V N D) (hg : D.Good) (hS : N.Sm) (hmt : N.mt.length = N.n) (hnx : N.nx.length = N.n) (hout : N.out.length ≤ 999990) (cmd : List UInt8) (hl : N.st.last.1 < 2199023255552) (hlog : N.st.log.length < 1000000) (hc : cmd.length ≤ 100000) {D' : Dk} (hd : D.appendLog [N.newEn cmd] = (D', 0)) :
    Calls Tryz.prog 44 #[.pointer (some ⟨V.r, 0, none⟩), .string (bs cmd)] w fun e w' => e = .returned (.int .i64 ((N.st.last.1 + 1 : Nat) : Int)) ∧ ∃ V', NodeAt w' V' (N.appended cmd) D' ∧ NodeTo V V' w w' := by
  have hx : N.newEn cmd = ⟨N.st.last.1 + 1, N.st.term, cmd⟩ := rfl
  have hterm := hS.term
  have hid := hS.id
  have T1 : ∀ W, NodeAt W V N D → Calls Tryz.prog 14 #[.pointer (some ⟨V.r, 0, none⟩)] W fun e w' => e = .returned (.int .i64 (N.st.last.1 : Int)) ∧ ∃ k, w' = W.drewN k := fun W hW => nlast_calls hW (by omega)
  have T2 : ∀ W v, NodeAt W V N D → EntsAt W v [N.newEn cmd] → Calls Tryz.prog 82 #[.pointer (some ⟨V.b, 0, none⟩), v] W fun e w' => e = .returned (.int .i64 0) ∧ NodeAt w' V N D' ∧ NodeTo V V W w' ∧ Keep [V.b, V.m] W w' := fun W v hW hv => by
    have := appendLog_calls hW.rest.disk hg hW.rest.tab [N.newEn cmd] v hv ⟨by simp, fun e he => by
      simp at he
      subst he
      exact ⟨by rw [hx]; simp only; omega, by rw [hx]; simp only; omega, by rw [hx]; simp only; omega⟩⟩
    rw [hd] at this
    refine this.mono ?_
    rintro e w' ⟨rfl, h1, h2⟩
    exact ⟨rfl, hW.setDisk h2 h1, NodeTo.setDisk V h2, h2⟩
  have c0 : w.cell? ⟨V.r, 0, none⟩ = some (.pointer (some ⟨V.b, 0, none⟩)) := h.blk.cell 0
  have c3 : w.cell? ⟨V.r, 3, none⟩ = some (.int .i64 (N.st.term : Int)) := h.blk.cell 3
  have hrl := h.blk.lt
  have HS3 : Hid (∀ W, Keep [] w W → W.cell? ⟨V.r, 3, none⟩ = some (.int .i64 (N.st.term : Int))) := fun W hk => (h.blk.keep hk (by simp)).cell 3
  have H := Lib.hid h
  have HSM := Lib.hid hS
  have HT1 := Lib.hid T1
  have HAPP : Hid (N.appended cmd = (N.put1 cmd).sendAll.advance) := rfl
  have HP1 : Hid (N.put1 cmd = { N with st := { N.st with log := N.st.log ++ [N.newEn cmd] }, mt := N.mt.set N.id (N.newEn cmd).index }) := rfl
  have HSP := Lib.hid (hS.put1 cmd hl hlog hc)
  obtain ⟨ix, hix⟩ : ∃ ix, ix = N.st.last.1 + 1 := ⟨_, rfl⟩
  rw [← hix] at hx ⊢
  have hw1 : IntKind.i64.wrap ((N.st.last.1 : Int) + 1) = (ix : Int) := by rw [IntWalk.i64_in _ (by omega)]; omega
  have HX := Lib.hid hx
  rw [hx] at T2
  have HT2 := Lib.hid T2
  clear h T1 T2 hd hx hS hix
  go_enter Tryz.func44, Tryz.ntmps44
  go_wp2_with fail
  have hda : ∀ (n : Nat) (o : Obj), (w.drewN n).alloc o = (w.alloc o).drewN n := fun _ _ => rfl
  go_region_held3 (fun w' => w'.cell? ⟨V.r, 3, none⟩ = some (.int .i64 (N.st.term : Int)))
    (first
      | (refine HS3.out _ ?_; (repeat (first | exact Keep.refl _ _ | refine Keep.drew ?_ | refine Keep.drewN ?_ _ | refine Keep.alloc ?_ _ | refine Keep.setCell ?_ (.inr (Nat.le_refl _)) _)); done)
      | go_keep)
    (first
      | (go_at_call 14; refine (HT1.out _ (H.out.grow (by repeat (first | exact Keep.refl _ _ | refine Keep.drew ?_ | refine Keep.drewN ?_ _ | refine Keep.alloc ?_ _)))).mono ?_; rintro e w1 ⟨rfl, n1, rfl⟩))
  all_goals
    clear hda hw1
    go_wp2_with fail
    have hk1 : Keep [] w (((((w.alloc (.cells #[.int .i64 0, .int .i64 0, .string { data := #[] }] 62)).drewN (1 + n1)).setCell ⟨w.heap.size, 0, none⟩ (.int .i64 (ix : Int))).setCell ⟨w.heap.size, 1, none⟩ (.int .i64 (N.st.term : Int))).setCell ⟨w.heap.size, 2, none⟩ (.string (bs cmd))) := (by repeat (first | exact Keep.refl _ _ | refine Keep.drew ?_ | refine Keep.drewN ?_ _ | refine Keep.alloc ?_ _ | refine Keep.setCell ?_ (.inr (Nat.le_refl _)) _))
    have hB1 : Blk (((((w.alloc (.cells #[.int .i64 0, .int .i64 0, .string { data := #[] }] 62)).drewN (1 + n1)).setCell ⟨w.heap.size, 0, none⟩ (.int .i64 (ix : Int))).setCell ⟨w.heap.size, 1, none⟩ (.int .i64 (N.st.term : Int))).setCell ⟨w.heap.size, 2, none⟩ (.string (bs cmd))) w.heap.size 62 #[.int .i64 (ix : Int), .int .i64 (N.st.term : Int), .string (bs cmd)] := ((((Blk.new _ _ _).drewN _).set_ 0 _).set_ 1 _).set_ 2 _
    have H1 := Lib.hid (H.out.grow hk1)
    have HK1 := Lib.hid hk1
    have HB1 := Lib.hid hB1
    have hl1 := hB1.lt
    clear c0 c3 HS3 hk1 hB1
    generalize (((((w.alloc (.cells #[.int .i64 0, .int .i64 0, .string { data := #[] }] 62)).drewN (1 + n1)).setCell ⟨w.heap.size, 0, none⟩ (.int .i64 (ix : Int))).setCell ⟨w.heap.size, 1, none⟩ (.int .i64 (N.st.term : Int))).setCell ⟨w.heap.size, 2, none⟩ (.string (bs cmd))) = W1 at *
    have HS2 : Hid (∀ W, Keep [] W1 W → W.cell? ⟨V.r, 0, none⟩ = some (.pointer (some ⟨V.b, 0, none⟩)) ∧ W.cell? ⟨w.heap.size, 0, none⟩ = some (.int .i64 (ix : Int)) ∧ W.cell? ⟨w.heap.size, 1, none⟩ = some (.int .i64 (N.st.term : Int)) ∧ W.cell? ⟨w.heap.size, 2, none⟩ = some (.string (bs cmd))) := fun W hk => by
      have h1 := H1.out.blk.keep hk (by simp)
      have h2 := HB1.out.keep hk (by simp)
      exact ⟨h1.cell 0, h2.cell 0, h2.cell 1, h2.cell 2⟩
    have hnot : w.heap.size ∉ [V.b, V.m] := by
      have h1 := H.out.rest.disk.blk.lt
      have h2 := H.out.rest.disk.map.lt
      simp only [List.mem_cons, List.not_mem_nil, or_false, not_or]
      omega
    have HAP : Hid (∀ W v, Keep [] W1 W → EntsAt W v [⟨ix, N.st.term, cmd⟩] → Calls Tryz.prog 82 #[.pointer (some ⟨V.b, 0, none⟩), v] W fun e w' => e = .returned (.int .i64 0) ∧ NodeAt w' V N D' ∧ NodeTo V V w w' ∧ Blk w' w.heap.size 62 #[.int .i64 (ix : Int), .int .i64 (N.st.term : Int), .string (bs cmd)] ∧ w'.cell? ⟨V.r, 0, none⟩ = some (.pointer (some ⟨V.b, 0, none⟩)) ∧ w'.cell? ⟨w.heap.size, 0, none⟩ = some (.int .i64 (ix : Int)) ∧ w'.cell? ⟨w.heap.size, 1, none⟩ = some (.int .i64 (N.st.term : Int)) ∧ w'.cell? ⟨w.heap.size, 2, none⟩ = some (.string (bs cmd))) := fun W v hk hv => by
      refine (HT2.out W v (H1.out.grow hk) hv).mono ?_
      rintro e w' ⟨rfl, h1, h2, h3⟩
      have h4 := (HB1.out.keep hk (by simp)).keep h3 hnot
      exact ⟨rfl, h1, (NodeTo.grow V (HK1.out.trans hk)).trans h2, h4, h1.blk.cell 0, h4.cell 0, h4.cell 1, h4.cell 2⟩
    clear hnot
    go_region_held3 (fun w' => w'.cell? ⟨V.r, 0, none⟩ = some (.pointer (some ⟨V.b, 0, none⟩)) ∧ w'.cell? ⟨w.heap.size, 0, none⟩ = some (.int .i64 (ix : Int)) ∧ w'.cell? ⟨w.heap.size, 1, none⟩ = some (.int .i64 (N.st.term : Int)) ∧ w'.cell? ⟨w.heap.size, 2, none⟩ = some (.string (bs cmd)))
      (first
        | (refine HS2.out _ ?_; (repeat (first | exact Keep.refl _ _ | refine Keep.drew ?_ | refine Keep.drewN ?_ _ | refine Keep.alloc ?_ _)); done)
        | exact S6.out
        | go_keep)
      (first
        | (go_at_call 81; refine (stored_ok _ _).mono ?_; rintro e w6 ⟨rfl, rfl⟩)
        | (go_at_call 82; refine (HAP.out _ _ (by repeat (first | exact Keep.refl _ _ | refine Keep.drew ?_ | refine Keep.drewN ?_ _ | refine Keep.alloc ?_ _)) (ents_at1 (cs := #[.int .i64 (ix : Int), .int .i64 (N.st.term : Int), .string (bs cmd)]) [⟨ix, N.st.term, cmd⟩] (by first | exact Blk.new _ _ _ | exact (Blk.new _ _ _).drew) rfl)).mono ?_; rintro e w6 ⟨rfl, hN6, hT6, hB6, s1, s2, s3, s4⟩; have S6 : Hid (w6.cell? ⟨V.r, 0, none⟩ = some (.pointer (some ⟨V.b, 0, none⟩)) ∧ w6.cell? ⟨w.heap.size, 0, none⟩ = some (.int .i64 (ix : Int)) ∧ w6.cell? ⟨w.heap.size, 1, none⟩ = some (.int .i64 (N.st.term : Int)) ∧ w6.cell? ⟨w.heap.size, 2, none⟩ = some (.string (bs cmd))) := ⟨s1, s2, s3, s4⟩; have H6 := Lib.hid hN6; have HT6 := Lib.hid hT6; have HB6 := Lib.hid hB6; clear hN6 hT6 hB6 s1 s2 s3 s4)
        | fail)
    go_wp2_with fail
    obtain ⟨Al, cl, hlgv⟩ := own_slice H6.out.rest.log
    have HS4 : Hid (∀ W, Keep V.lg.ownBlock.toList w6 W → W.cell? ⟨V.r, 8, none⟩ = some (.slice Al N.st.log.length cl) ∧ W.cell? ⟨w.heap.size, 0, none⟩ = some (.int .i64 (ix : Int)) ∧ W.cell? ⟨w.heap.size, 1, none⟩ = some (.int .i64 (N.st.term : Int)) ∧ W.cell? ⟨w.heap.size, 2, none⟩ = some (.string (bs cmd))) := fun W hk => by
      have hnr : V.r ∉ V.lg.ownBlock.toList := fun hx => H6.out.r_ne.2.2.1 (by simpa using hx)
      have hnb : w.heap.size ∉ V.lg.ownBlock.toList := fun hx => by
        have := own_lt H.out.rest.log (k := w.heap.size) (by simpa using hx)
        omega
      have h1 := H6.out.blk.keep hk hnr
      have h2 := HB6.out.keep hk hnb
      exact ⟨hlgv ▸ h1.cell 8, h2.cell 0, h2.cell 1, h2.cell 2⟩
    have HLV := Lib.hid hlgv
    clear hlgv
    obtain ⟨i0, hi, hz0, hz1, hz2⟩ := info_parts Tryz.info62
    refine wp_region_K (S := fun W => W.cell? ⟨V.r, 8, none⟩ = some (.slice Al N.st.log.length cl) ∧ W.cell? ⟨w.heap.size, 0, none⟩ = some (.int .i64 (ix : Int)) ∧ W.cell? ⟨w.heap.size, 1, none⟩ = some (.int .i64 (N.st.term : Int)) ∧ W.cell? ⟨w.heap.size, 2, none⟩ = some (.string (bs cmd))) (z := 12) (by kernel_rfl) ?_
    have hHeld := HS4.out w6.drew (Keep.refl _ _).drew
    refine wpAnyK_take (i := 0) (v := ?_) rfl rfl (by kernel_rfl) (by kernel_rfl) (by kernel_rfl) (by kernel_rfl) (by kernel_rfl) (fun _ _ _ h => h) (by rfl) ?_ hHeld ?_
    rotate_left
    · rintro W ⟨s0, s1, s2, s3⟩
      go_simp
      with_reducible rfl
    try simp only [Act.put]
    refine wpAnyK_take (i := 1) (v := ?_) rfl rfl (by kernel_rfl) (by kernel_rfl) (by kernel_rfl) (by kernel_rfl) (by kernel_rfl) (fun _ _ _ h => h) (by rfl) ?_ hHeld ?_
    rotate_left
    · rintro W ⟨s0, s1, s2, s3⟩
      go_simp
      with_reducible rfl
    try simp only [Act.put]
    refine wpAnyK_take (i := 2) (v := ?_) rfl rfl (by kernel_rfl) (by kernel_rfl) (by kernel_rfl) (by kernel_rfl) (by kernel_rfl) (fun _ _ _ h => h) (by rfl) ?_ hHeld ?_
    rotate_left
    · rintro W ⟨s0, s1, s2, s3⟩
      go_simp
      with_reducible rfl
    try simp only [Act.put]
    refine wpAnyK_take (i := 3) (v := ?_) rfl rfl (by kernel_rfl) (by kernel_rfl) (by kernel_rfl) (by kernel_rfl) (by kernel_rfl) (fun _ _ _ h => h) (by rfl) ?_ hHeld ?_
    rotate_left
    · rintro W ⟨s0, s1, s2, s3⟩
      go_simp
      with_reducible rfl
    try simp only [Act.put]
    refine wpAnyK_take (i := 4) (v := ?_) rfl rfl (by kernel_rfl) (by kernel_rfl) (by kernel_rfl) (by kernel_rfl) (by kernel_rfl) (fun _ _ _ h => h) (by rfl) ?_ hHeld ?_
    rotate_left
    · rintro W ⟨s0, s1, s2, s3⟩
      go_simp
      with_reducible rfl
    try simp only [Act.put]
    refine wpAnyK_take (i := 5) (v := ?_) rfl rfl (by kernel_rfl) (by kernel_rfl) (by kernel_rfl) (by kernel_rfl) (by kernel_rfl) (fun _ _ _ h => h) (by rfl) ?_ hHeld ?_
    rotate_left
    · rintro W ⟨s0, s1, s2, s3⟩
      go_simp
      with_reducible rfl
    try simp only [Act.put]
    refine wpAnyK_take (i := 6) (v := ?_) rfl rfl (by kernel_rfl) (by kernel_rfl) (by kernel_rfl) (by kernel_rfl) (by kernel_rfl) (fun _ _ _ h => h) (by rfl) ?_ hHeld ?_
    rotate_left
    · rintro W ⟨s0, s1, s2, s3⟩
      go_simp
      with_reducible rfl
    try simp only [Act.put]
    refine wpAnyK_one (k := 7) (by kernel_rfl) rfl (fun K hK => ?_)
    go_simp
    refine hK.out _ _ (fun _ => HS4.out _ (by repeat (first | exact Keep.refl _ _ | refine Keep.drew ?_ | refine Keep.drewN ?_ _ | refine Keep.alloc ?_ _))) ?_
    clear hK K hHeld
    try simp only [Act.put]
    refine wpAnyK_one (k := 8) (by kernel_rfl) rfl (fun K hK => ?_)
    refine step_append1 (n := N.st.log.length) (xs := entsV N.st.log) (news := (⟨ix, N.st.term, cmd⟩ : En).cells) rfl (.tmp 31) (.tmp 33) rfl Tryz.underlying40 hi hz0 hz1 hz2 rfl (by omega) rfl rfl (by have := (H6.out.rest.log); rw [HLV.out] at this; exact Keep.owns (M := []) (by repeat (first | exact Keep.refl _ _ | refine Keep.drew ?_ | refine Keep.drewN ?_ _ | refine Keep.alloc ?_ _)) this (by simp)) (Blk.new _ _ _) rfl (by simp [En.cells, Value.oneCell']) (by unfold maxLen; omega) (by omega) ?_
    intro g cap w7 hown7 hk7 hat7
    rw [← HLV.out] at hk7 hat7
    have HK7 : Hid (Keep V.lg.ownBlock.toList w6 w7) := Keep.trans' (M := V.lg.ownBlock.toList) (by repeat (first | exact Keep.refl _ _ | refine Keep.drew ?_ | refine Keep.drewN ?_ _ | refine Keep.alloc ?_ _)) hk7 (fun x hx => .inl hx)
    have HAT : Hid (∀ k, (Value.slice (some ⟨g, 0, none⟩) (N.st.log.length + 1) cap).ownBlock = some k → V.lg.ownBlock = some k ∨ w6.heap.size ≤ k) := fun k e => by
      have e' : g = k := by simpa [Value.ownBlock] using e
      subst e'
      rcases hat7 with h1 | h1
      · exact .inl h1
      · simp at h1
        exact .inr (by omega)
    have HOWN7 := Lib.hid hown7
    have hnr : V.r ∉ V.lg.ownBlock.toList := fun hx => H6.out.r_ne.2.2.1 (by simpa using hx)
    have hbr := H6.out.blk.keep HK7.out hnr
    have z8 : w7.cell? ⟨V.r, 8, none⟩ = some V.lg := hbr.cell 8
    have zf : w7.frozen? ⟨V.r, 8, none⟩ = false := hbr.frozen 8
    rw [HLV.out] at z8
    clear hown7 hk7 hat7 hbr hnr
    refine hK.out _ _ (fun _ => HS4.out _ HK7.out) ?_
    clear hK K
    have hHeld := HS4.out _ HK7.out
    try simp only [Act.put]
    refine wpAnyK_one (k := 9) (by kernel_rfl) rfl (fun K hK => ?_)
    go_simp
    refine hK.out _ _ (fun _ => hHeld) ?_
    clear hK K
    try simp only [Act.put]
    refine wpAnyK_one (k := 10) (by kernel_rfl) rfl (fun K hK => ?_)
    go_simp
    refine hK.out _ _ (fun _ => hHeld) ?_
    clear hK K
    try simp only [Act.put]
    refine wpAnyK_one (k := 11) (by kernel_rfl) rfl (fun K hK => ?_)
    go_simp
    refine hK.out _ _ (fun _ => hHeld) ?_
    clear hK K
    try simp only [Act.put]
    refine wpAnyK_one (k := 12) (by kernel_rfl) rfl (fun K hK => ?_)
    go_simp
    refine hK.out _ _ (fun h => absurd rfl h) ?_
    clear hK K hHeld z8 zf
    refine wpAnyK_done (by kernel_rfl) ?_
    obtain ⟨hN8, hT8⟩ := H6.out.logged (x := ⟨ix, N.st.term, cmd⟩) HK7.out HOWN7.out HAT.out rfl
    go_wp2_with fail
    have hx8 : w.heap.size ∉ ({ V with lg := .slice (some ⟨g, 0, none⟩) (N.st.log.length + 1) cap } : Nv).fp := fun hx => by
      have hlt := H.out.fp_lt
      have h61 := HB6.out.lt
      rcases Nv.mem.1 hx with h | h | h | h | h | h | h | h
      · have := hlt w.heap.size (Nv.mem.2 (.inl h)); omega
      · have := hlt w.heap.size (Nv.mem.2 (.inr (.inl h))); omega
      · have := hlt w.heap.size (Nv.mem.2 (.inr (.inr (.inl h)))); omega
      · rcases HAT.out _ h with h1 | h1
        · have := hlt w.heap.size (Nv.mem.2 (.inr (.inr (.inr (.inl h1))))); omega
        · omega
      · have := hlt w.heap.size (Nv.mem.2 (.inr (.inr (.inr (.inr (.inl h)))))); omega
      · have := hlt w.heap.size (Nv.mem.2 (.inr (.inr (.inr (.inr (.inr (.inl h))))))); omega
      · have := hlt w.heap.size (Nv.mem.2 (.inr (.inr (.inr (.inr (.inr (.inr (.inl h)))))))); omega
      · have := hlt w.heap.size (Nv.mem.2 (.inr (.inr (.inr (.inr (.inr (.inr (.inr h)))))))); omega
    have hB8 : Blk (w7.setCell ⟨V.r, 8, none⟩ (.slice (some ⟨g, 0, none⟩) (N.st.log.length + 1) cap)) w.heap.size 62 #[.int .i64 (ix : Int), .int .i64 (N.st.term : Int), .string (bs cmd)] := HB6.out.keep hT8.keep (fun hx => by
      have := H.out.fp_lt _ hx
      omega)
    have hT80 : NodeTo V { V with lg := .slice (some ⟨g, 0, none⟩) (N.st.log.length + 1) cap } w _ := HT6.out.trans hT8
    generalize w7.setCell ⟨V.r, 8, none⟩ (.slice (some ⟨g, 0, none⟩) (N.st.log.length + 1) cap) = W8 at *
    obtain ⟨gm, hgm, hmb, hmc⟩ := H.out.rest.ma.cell (i := N.id) (by rw [nums_len]; omega)
    obtain ⟨V8, hV8⟩ : ∃ V8 : Nv, V8 = { V with lg := .slice (some ⟨g, 0, none⟩) (N.st.log.length + 1) cap } := ⟨_, rfl⟩
    have hma8 : V8.ma = some gm := by rw [hV8]; exact hgm
    have hr8 : V8.r = V.r := by rw [hV8]
    rw [← hV8] at hN8 hT8 hx8 hT80
    obtain ⟨N8, hN8e⟩ : ∃ N8 : Rn, N8 = { N with st := { N.st with log := N.st.log ++ [⟨ix, N.st.term, cmd⟩] } } := ⟨_, rfl⟩
    have hmt8 : N8.mt = N.mt := by rw [hN8e]
    have hid8 : N8.id = N.id := by rw [hN8e]
    have HPUT : Hid (N.put1 cmd = { N8 with mt := N8.mt.set N.id ix }) := by
      show N.put1 cmd = { N8 with mt := N8.mt.set N.id ix }
      rw [HP1.out, hN8e, HX.out]
    rw [← hN8e] at hN8
    have c15 : W8.cell? ⟨V8.r, 15, none⟩ = some (arrV V8.ma N8.mt.length) := hN8.blk.cell 15
    have c1 : W8.cell? ⟨V8.r, 1, none⟩ = some (.int .i64 (N8.id : Int)) := hN8.blk.cell 1
    rw [hma8, hr8, hmt8, hmt] at c15
    rw [hr8, hid8] at c1
    change W8.cell? ⟨V.r, 15, none⟩ = some (.slice (some ⟨gm, 0, none⟩) N.n N.n) at c15
    obtain ⟨gm', hgm', hmb8, hmc8⟩ := hN8.rest.ma.cell (i := N.id) (by rw [nums_len, hmt8]; omega)
    obtain rfl : gm = gm' := by rw [hma8] at hgm'; injection hgm'
    have q0 : W8.cell? ⟨w.heap.size, 0, none⟩ = some (.int .i64 (ix : Int)) := hB8.cell 0
    have mf : W8.frozen? ⟨gm, N.id, none⟩ = false := hmb8.frozen N.id
    have d1 : decide ((N.id : Int) < (N.n : Int)) = true := by simp; omega
    have hin : (N.id : Int) < (N.n : Int) := by omega
    rw [nums_at _ _ (by rw [hmt8]; omega)] at hmc8
    have HN8 := Lib.hid hN8
    have HT80 := Lib.hid hT80
    have HB8 := Lib.hid hB8
    have HX8 := Lib.hid hx8
    have HMA8 := Lib.hid hma8
    have HR8 := Lib.hid hr8
    clear hN8 hT8 hx8 hT80 hB8 hmt8 hid8 hV8 hN8e hgm hgm' hmb hmc hmb8 hma8 hr8 HS2 HS4 HAP S6 H1 H6 HB1 HB6 HOWN7 HAT HK7 HLV
    generalize N8.mt.getD N.id 0 = mo at *
    have HSA : Hid (∀ W, Keep [] (W8.setCell ⟨gm, N.id, none⟩ (.int .i64 (ix : Int))) W → Calls Tryz.prog 42 #[.pointer (some ⟨V.r, 0, none⟩)] W fun e w' => e = .returned (.tuple #[]) ∧ ∃ U, NodeAt w' U (N.put1 cmd).sendAll D' ∧ NodeTo V U w w' ∧ U.r = V.r ∧ w.heap.size ∉ U.fp ∧ Blk w' w.heap.size 62 #[.int .i64 (ix : Int), .int .i64 (N.st.term : Int), .string (bs cmd)]) := fun W hk => by
      obtain ⟨h1, h2⟩ := HN8.out.setMt HT80.out HMA8.out N.id ix rfl
      obtain ⟨-, h2'⟩ := HN8.out.setMt (NodeTo.refl V8 W8) HMA8.out N.id ix rfl
      have h3 := h1.grow hk
      have h4 := h2.trans (NodeTo.grow V8 hk)
      have h4' := h2'.trans (NodeTo.grow V8 hk)
      rw [← HPUT.out] at h3
      have := sendAll_calls h3 HSP.out (by rw [HP1.out]; exact hnx) (by rw [HP1.out]; exact hout)
      rw [HR8.out] at this
      refine this.mono ?_
      rintro e w' ⟨rfl, U, h5, h6⟩
      have h7 := h4'.trans h6
      refine ⟨rfl, U, h5, h4.trans h6, h7.r.trans HR8.out, fun hx => ?_, HB8.out.keep h7.keep HX8.out⟩
      rcases h7.fp _ hx with h8 | h8
      · exact HX8.out h8
      · have := HB8.out.lt; omega
    have HAD : Hid (∀ W U, NodeAt W U (N.put1 cmd).sendAll D' → NodeTo V U w W → U.r = V.r → w.heap.size ∉ U.fp → Blk W w.heap.size 62 #[.int .i64 (ix : Int), .int .i64 (N.st.term : Int), .string (bs cmd)] → Calls Tryz.prog 83 #[.pointer (some ⟨V.r, 0, none⟩)] W fun e w' => e = .returned (.tuple #[]) ∧ NodeAt w' U (N.appended cmd) D' ∧ NodeTo V U w w' ∧ Blk w' w.heap.size 62 #[.int .i64 (ix : Int), .int .i64 (N.st.term : Int), .string (bs cmd)]) := fun W U h1 h2 h3 h4 h5 => by
      have := advance_calls h1 (HSP.out.sendAll (by rw [HP1.out]; simp only; omega)) (by show (N.put1 cmd).mt.length = N.n; rw [HP1.out]; simpa using hmt)
      rw [h3] at this
      refine this.mono ?_
      rintro e w' ⟨rfl, h6, h7⟩
      exact ⟨rfl, by rw [HAPP.out]; exact h6, h2.trans h7, h5.keep h7.keep h4⟩
    clear HN8 HT80 HB8 HX8 HMA8 HR8 HPUT HSM HSP HP1 HX H HT1 HT2 HT6 HK1
    go_region
    go_wp2_with (first
      | (go_at_call 42; refine (HSA.out _ (by repeat (first | exact Keep.refl _ _ | refine Keep.drew ?_ | refine Keep.drewN ?_ _ | refine Keep.alloc ?_ _))).mono ?_; rintro e w9 ⟨rfl, U9, h9, t9, r9, f9, b9⟩; have H9 := Lib.hid h9; have HT9 := Lib.hid t9; have HR9 := Lib.hid r9; have HF9 := Lib.hid f9; have HB9 := Lib.hid b9; clear h9 t9 r9 f9 b9 c15 c1 q0 mf hmc8)
      | (go_at_call 83; refine (HAD.out _ _ H9.out HT9.out HR9.out HF9.out HB9.out).mono ?_; rintro e w10 ⟨rfl, h10, t10, b10⟩; have H10 := Lib.hid h10; have HT10 := Lib.hid t10; have q0 : w10.cell? ⟨w.heap.size, 0, none⟩ = some (.int .i64 (ix : Int)) := b10.cell 0; clear h10 t10 b10)
      | fail)
    go_ret
    exact ⟨rfl, U9, H10.out, HT10.out⟩
end

end Go.Proofs.YtnlcipocobmgiaaGreatDoor
/- The contract of (*raft.Node).count. -/
namespace Go.Proofs.YtnlcipocobmgiaaGreatDoor
open Go.RowKit
attribute [local go_sem] size_bs bs_append bs_extract

theorem made1 (z : Value) (n : Nat) : madeCells #[z] n = (List.replicate n z).toArray := by
  apply Array.ext
  · simp [madeCells]
  · intro i h1 h2
    simp [madeCells, Nat.mod_one]
theorem madeInts (n : Nat) : madeCells #[Value.int .i64 0] n = (nums (List.replicate n 0)).toArray := by
  rw [made1]; simp [nums]
theorem Tryz.info3 : (Tryz.prog.info? 3).map (fun i => (i.zero, i.size, i.bytes)) = some (some (.int .i64 0), 1, 8) := by kernel_rfl
/-- The first ones have a number, the others 0. -/
def upto (n L j : Nat) : List Nat := List.replicate j L ++ List.replicate (n - j) 0
theorem upto_set (n L j : Nat) (h : j < n) : (upto n L j).set j L = upto n L (j + 1) := by
  unfold upto
  obtain ⟨k, hk⟩ : ∃ k, n - j = k + 1 := ⟨n - j - 1, by omega⟩
  rw [hk, show n - (j + 1) = k by omega, List.set_append, if_neg (by simp)]
  simp only [List.length_replicate, Nat.sub_self, List.replicate_succ (n := k), List.set_cons_zero]
  rw [List.replicate_succ', List.append_assoc]
  rfl
theorem upto_len (n L j : Nat) (h : j ≤ n) : (upto n L j).length = n := by simp [upto]; omega
section
variable {w : World} {V : Nv} {N : Rn} {D : Dk}
/-- The arrays are dropped, or new. -/
theorem NodeAt.rearr {w' : World} {vo' ma' ne' : Option Nat} {N' : Rn} (h : NodeAt w V N D) (hk : Keep [V.r] w w') (hB : Blk w' V.r 81 (nodeCells { V with vo := vo', ma := ma', ne := ne' } N')) (hlog : N'.st.log = N.st.log) (hout : N'.out = N.out)
    (hvo : ArrAt w' 4 vo' (bools N'.votes)) (hma : ArrAt w' 3 ma' (nums N'.mt)) (hne : ArrAt w' 3 ne' (nums N'.nx)) (dvo : ∀ g, vo' = some g → w.heap.size ≤ g) (dma : ∀ g, ma' = some g → w.heap.size ≤ g) (dne : ∀ g, ne' = some g → w.heap.size ≤ g) (dis : ∀ g, ma' = some g → ne' ≠ some g) :
    NodeAt w' { V with vo := vo', ma := ma', ne := ne' } N' D ∧ NodeTo V { V with vo := vo', ma := ma', ne := ne' } w w' := by
  have R := h.rest_keep hk
  have hfp' : ∀ x ∈ ({ V with vo := vo', ma := ma', ne := ne' } : Nv).fp, x ∈ V.fp ∨ w.heap.size ≤ x := fun x hx => by
    rcases Nv.mem.1 hx with h | h | h | h | h | h | h | h
    · exact .inl (Nv.mem.2 (.inl h))
    · exact .inl (Nv.mem.2 (.inr (.inl h)))
    · exact .inl (Nv.mem.2 (.inr (.inr (.inl h))))
    · exact .inl (Nv.mem.2 (.inr (.inr (.inr (.inl h)))))
    · exact .inr (dvo x h)
    · exact .inr (dma x h)
    · exact .inr (dne x h)
    · exact .inl (Nv.mem.2 (.inr (.inr (.inr (.inr (.inr (.inr (.inr h))))))))
  refine ⟨⟨hB, R.disk, by rw [hlog]; exact R.log, hvo, hma, hne, dis, R.ou, by rw [hout]; exact R.outs, fun p hp => ⟨(R.es p hp).1, fun k e => ⟨((R.es p hp).2 k e).1, fun hx => ?_⟩⟩, R.tab, fun hx => ?_⟩, (NodeTo.setR V hk).keep, hfp', fun _ h => .inl h, rfl, rfl, rfl⟩
  · rcases hfp' k hx with h1 | h1
    · exact ((R.es p hp).2 k e).2 h1
    · have := ((h.rest.es p hp).2 k e).1; omega
  · rcases hfp' _ hx with h1 | h1
    · exact R.tn h1
    · have := World.block_lt_of_cell? _ _ (h.rest.tab 0 (by omega)); simp at this; omega

theorem trues_take (l : List Bool) (j : Nat) (h : j < l.length) : trues (l.take (j + 1)) = trues (l.take j) + if l.getD j false = true then 1 else 0 := by
  unfold trues
  rw [List.take_succ_eq_append_getElem h, List.filter_append, List.length_append]
  simp only [List.getD, List.getElem?_eq_getElem h, Option.getD_some]
  cases hb : l[j] <;> simp
theorem trues_le (l : List Bool) : trues l ≤ l.length := List.length_filter_le _ _
theorem bools_len (l : List Bool) : (bools l).length = l.length := by simp [bools]
theorem bools_at (l : List Bool) (i : Nat) (h : i < l.length) : (bools l)[i]'(by simpa [bools] using h) = .bool (l.getD i false) := by simp [bools, List.getD, h]

set_option maxRecDepth 100000 in
set_option maxHeartbeats 4000000 in
theorem count_no (h : NodeAt w V N D) (hn5 : N.n ≤ 5) (hid : N.id < N.n) (hvo : N.votes.length = N.n) (hno : 2 * trues N.votes ≤ N.n) :
    Calls Tryz.prog 56 #[.pointer (some ⟨V.r, 0, none⟩)] w fun e w' => e = .returned (.tuple #[]) ∧ w = w' := by
  obtain ⟨gv, hgv, hvb, -⟩ := h.rest.vo.cell (i := 0) (by rw [bools_len]; omega)
  have c14 : w.cell? ⟨V.r, 14, none⟩ = some (arrV V.vo N.votes.length) := h.blk.cell 14
  rw [hgv, hvo] at c14
  change w.cell? ⟨V.r, 14, none⟩ = some (.slice (some ⟨gv, 0, none⟩) N.n N.n) at c14
  have c2 : w.cell? ⟨V.r, 2, none⟩ = some (.int .i64 (N.n : Int)) := h.blk.cell 2
  have HV : Hid (∀ j, j < N.n → w.cell? ⟨gv, j, none⟩ = some (.bool (N.votes.getD j false))) := fun j hj => by
    rw [hvb.cell j]
    have h1 : j < N.votes.length := by omega
    have h2 := bools_at N.votes j h1
    simp [h1, bools_len, h2]
  have H := Lib.hid h
  have HGV := Lib.hid hgv
  clear h hvb hgv
  go_enter Tryz.func56, Tryz.ntmps56
  go_wp2
  go_loop [2, 11] (fun vn vj => ∃ j : Nat, j ≤ N.n ∧ vj = .int .i64 (j : Int) ∧ vn = .int .i64 ((trues (N.votes.take j) : Nat) : Int)) (fun _ vj => N.n - (intOf vj).toNat)
  case atStart => exact ⟨0, Nat.zero_le _, rfl, rfl⟩
  case round =>
    obtain ⟨j, hj, rfl, rfl⟩ := hrel
    have htl := trues_le (N.votes.take j)
    have htl2 : (N.votes.take j).length ≤ N.n := by rw [List.length_take]; omega
    by_cases hlt : j < N.n
    · have d1 : decide ((j : Int) < (N.n : Int)) = true := by simp; omega
      have m0 := HV.out j hlt
      have HCT := Lib.hid (trues_take N.votes j (by omega))
      cases hvj : N.votes.getD j false with
      | true =>
        rw [hvj] at m0 HCT
        clear hvj
        go_wp2
        go_round
        case rel => exact ⟨j + 1, by omega, by go_num, by rw [HCT.out, if_pos rfl]; go_num⟩
        case measure => simp [intOf]; omega
      | false =>
        rw [hvj] at m0 HCT
        clear hvj
        go_wp2
        go_round
        case rel => exact ⟨j + 1, by omega, by go_num, by rw [HCT.out, if_neg (by simp)]; go_num⟩
        case measure => simp [intOf]; omega
    · have d1 : decide ((j : Int) < (N.n : Int)) = false := by simp; omega
      have htk : N.votes.take j = N.votes := List.take_of_length_le (by omega)
      rw [htk]
      generalize trues N.votes = tn at *
      clear htk
      have d2 : decide (2 * (tn : Int) ≤ (N.n : Int)) = true := by simp; omega
      go_wp2
      ((try simp only [Exit.inBlock, Exit.then]); refine bodyPost_ret (results_none rfl _ _ _) rfl ?_)
      exact ⟨rfl, rfl⟩

theorem lead_arr (h : NodeAt w V N D) (N2 : Rn) (hN2 : N2 = { N with role := 2, leader := (N.id : Int), votes := [], mt := List.replicate N.n 0 }) (L : Nat) (g1 g2 : Nat) (hg : (g1 = w.heap.size ∧ g2 = w.heap.size + 1) ∨ (g1 = w.heap.size + 1 ∧ g2 = w.heap.size)) :
    NodeAt (((((((w.setCell ⟨V.r, 9, none⟩ (.int .i64 2)).setCell ⟨V.r, 10, none⟩ (.int .i64 (N.id : Int))).setCell ⟨V.r, 14, none⟩ (.slice none 0 0)).setCell ⟨V.r, 15, none⟩ (.slice (some ⟨g1, 0, none⟩) N.n N.n)).setCell ⟨V.r, 16, none⟩ (.slice (some ⟨g2, 0, none⟩) N.n N.n)).alloc (.cells (madeCells #[Value.int .i64 0] N.n) 3)).alloc (.cells (madeCells #[Value.int .i64 0] N.n) 3)).drew { V with vo := none, ma := some g1, ne := some g2 } { N2 with nx := upto N.n L 0 } D ∧ NodeTo V { V with vo := none, ma := some g1, ne := some g2 } w (((((((w.setCell ⟨V.r, 9, none⟩ (.int .i64 2)).setCell ⟨V.r, 10, none⟩ (.int .i64 (N.id : Int))).setCell ⟨V.r, 14, none⟩ (.slice none 0 0)).setCell ⟨V.r, 15, none⟩ (.slice (some ⟨g1, 0, none⟩) N.n N.n)).setCell ⟨V.r, 16, none⟩ (.slice (some ⟨g2, 0, none⟩) N.n N.n)).alloc (.cells (madeCells #[Value.int .i64 0] N.n) 3)).alloc (.cells (madeCells #[Value.int .i64 0] N.n) 3)).drew := by
  subst hN2
  have hrl := h.blk.lt
  have hi : V.r ∈ [V.r] ∨ w.heap.size ≤ V.r := .inl (by simp)
  have hk : Keep [V.r] w (((((((w.setCell ⟨V.r, 9, none⟩ (.int .i64 2)).setCell ⟨V.r, 10, none⟩ (.int .i64 (N.id : Int))).setCell ⟨V.r, 14, none⟩ (.slice none 0 0)).setCell ⟨V.r, 15, none⟩ (.slice (some ⟨g1, 0, none⟩) N.n N.n)).setCell ⟨V.r, 16, none⟩ (.slice (some ⟨g2, 0, none⟩) N.n N.n)).alloc (.cells (madeCells #[Value.int .i64 0] N.n) 3)).alloc (.cells (madeCells #[Value.int .i64 0] N.n) 3)).drew := (((((((Keep.refl [V.r] w).setCell (p := ⟨V.r, 9, none⟩) hi _).setCell (p := ⟨V.r, 10, none⟩) hi _).setCell (p := ⟨V.r, 14, none⟩) hi _).setCell (p := ⟨V.r, 15, none⟩) hi _).setCell (p := ⟨V.r, 16, none⟩) hi _).alloc _).alloc _ |>.drew
  have hz : nums (upto N.n L 0) = nums (List.replicate N.n 0) := by simp [upto]
  have hb : ∀ g, g = w.heap.size ∨ g = w.heap.size + 1 → Blk (((((((w.setCell ⟨V.r, 9, none⟩ (.int .i64 2)).setCell ⟨V.r, 10, none⟩ (.int .i64 (N.id : Int))).setCell ⟨V.r, 14, none⟩ (.slice none 0 0)).setCell ⟨V.r, 15, none⟩ (.slice (some ⟨g1, 0, none⟩) N.n N.n)).setCell ⟨V.r, 16, none⟩ (.slice (some ⟨g2, 0, none⟩) N.n N.n)).alloc (.cells (madeCells #[Value.int .i64 0] N.n) 3)).alloc (.cells (madeCells #[Value.int .i64 0] N.n) 3)).drew g 3 (nums (List.replicate N.n 0)).toArray := by
    intro g hg
    rw [madeInts]
    rcases hg with rfl | rfl
    · exact Blk.drew (Blk.alloc (Blk.here _ _ _ _ (by simp)) _)
    · exact Blk.drew (Blk.here _ _ _ _ (by simp))
  refine h.rearr hk ?_ rfl rfl (ArrAt.nil _ _) (hb g1 (by omega)) (by rw [hz]; exact hb g2 (by omega)) (fun g e => by cases e) (fun g e => by injection e with e; omega) (fun g e => by injection e with e; omega) (fun g e e' => by injection e with e; injection e' with e'; omega)
  have e1 : (List.replicate N.n (0 : Nat)).length = N.n := by simp
  have e2 : (upto N.n L 0).length = N.n := upto_len _ _ _ (Nat.zero_le _)
  have hB := (((((h.blk.set_ 9 (.int .i64 2)).set_ 10 (.int .i64 (N.id : Int))).set_ 14 (.slice none 0 0)).set_ 15 (.slice (some ⟨g1, 0, none⟩) N.n N.n)).set_ 16 (.slice (some ⟨g2, 0, none⟩) N.n N.n))
  have hB2 := ((hB.alloc (.cells (madeCells #[Value.int IntKind.i64 0] N.n) 3)).alloc (.cells (madeCells #[Value.int IntKind.i64 0] N.n) 3)).drew
  unfold nodeCells
  simp only [e1, e2]
  exact hB2
theorem Rn.Sm.lead (h : N.Sm) (hl : N.st.last.1 < 2199023255552) : N.lead.Sm :=
  ⟨h.n, h.id, h.term, h.base, h.baseTerm, h.snap, h.log, h.ents, h.commit, h.applied, h.timer, h.out, .inl (by simp [Rn.lead]), .inl (by simp [Rn.lead]), .inr rfl, (by
    intro x hx
    simp only [Rn.lead] at hx
    have := List.eq_of_mem_replicate hx
    omega), (by
    intro x hx
    simp only [Rn.lead] at hx
    have := List.eq_of_mem_replicate hx
    omega)⟩

set_option maxRecDepth 100000 in
set_option maxHeartbeats 8000000 in
theorem count_yes (h : NodeAt w V N D) (hg : D.Good) (hS : N.Sm) (hvo : N.votes.length = N.n) (hyes : N.n < 2 * trues N.votes) (hout : N.out.length ≤ 999980) (hl : N.st.last.1 < 2199023255552) (hlog : N.st.log.length < 1000000) {D' : Dk} (hd : D.appendLog [N.newEn []] = (D', 0)) :
    Calls Tryz.prog 56 #[.pointer (some ⟨V.r, 0, none⟩)] w fun e w' => e = .returned (.tuple #[]) ∧ ∃ V', NodeAt w' V' N.won D' ∧ NodeTo V V' w w' := by
  have hn5 := hS.n
  have hid := hS.id
  have HSM := Lib.hid hS
  clear hS
  obtain ⟨gv, hgv, hvb, -⟩ := h.rest.vo.cell (i := 0) (by rw [bools_len]; omega)
  have c14 : w.cell? ⟨V.r, 14, none⟩ = some (arrV V.vo N.votes.length) := h.blk.cell 14
  rw [hgv, hvo] at c14
  change w.cell? ⟨V.r, 14, none⟩ = some (.slice (some ⟨gv, 0, none⟩) N.n N.n) at c14
  have c2 : w.cell? ⟨V.r, 2, none⟩ = some (.int .i64 (N.n : Int)) := h.blk.cell 2
  have HV : Hid (∀ j, j < N.n → w.cell? ⟨gv, j, none⟩ = some (.bool (N.votes.getD j false))) := fun j hj => by
    rw [hvb.cell j]
    have h1 : j < N.votes.length := by omega
    have h2 := bools_at N.votes j h1
    simp [h1, bools_len, h2]
  have H := Lib.hid h
  have HGV := Lib.hid hgv
  clear h hvb hgv
  go_enter Tryz.func56, Tryz.ntmps56
  go_wp2
  go_loop [2, 11] (fun vn vj => ∃ j : Nat, j ≤ N.n ∧ vj = .int .i64 (j : Int) ∧ vn = .int .i64 ((trues (N.votes.take j) : Nat) : Int)) (fun _ vj => N.n - (intOf vj).toNat)
  case atStart => exact ⟨0, Nat.zero_le _, rfl, rfl⟩
  case round =>
    obtain ⟨j, hj, rfl, rfl⟩ := hrel
    have htl := trues_le (N.votes.take j)
    have htl2 : (N.votes.take j).length ≤ N.n := by rw [List.length_take]; omega
    by_cases hlt : j < N.n
    · have d1 : decide ((j : Int) < (N.n : Int)) = true := by simp; omega
      have m0 := HV.out j hlt
      have HCT := Lib.hid (trues_take N.votes j (by omega))
      cases hvj : N.votes.getD j false with
      | true =>
        rw [hvj] at m0 HCT
        clear hvj
        go_wp2
        go_round
        case rel => exact ⟨j + 1, by omega, by go_num, by rw [HCT.out, if_pos rfl]; go_num⟩
        case measure => simp [intOf]; omega
      | false =>
        rw [hvj] at m0 HCT
        clear hvj
        go_wp2
        go_round
        case rel => exact ⟨j + 1, by omega, by go_num, by rw [HCT.out, if_neg (by simp)]; go_num⟩
        case measure => simp [intOf]; omega
    · have d1 : decide ((j : Int) < (N.n : Int)) = false := by simp; omega
      have htk : N.votes.take j = N.votes := List.take_of_length_le (by omega)
      rw [htk]
      have ht5 : trues N.votes ≤ 5 := by have := trues_le N.votes; omega
      generalize trues N.votes = tn at *
      clear htk
      have d2 : decide (2 * (tn : Int) ≤ (N.n : Int)) = false := by simp; omega
      have d3 : (N.n : Int) < 2 * (tn : Int) := by omega
      have c1 : w.cell? ⟨V.r, 1, none⟩ = some (.int .i64 (N.id : Int)) := H.out.blk.cell 1
      have c9 : w.cell? ⟨V.r, 9, none⟩ = some (.int .i64 (N.role : Int)) := H.out.blk.cell 9
      have c10 : w.cell? ⟨V.r, 10, none⟩ = some (.int .i64 N.leader) := H.out.blk.cell 10
      have hf : ∀ i, w.frozen? ⟨V.r, i, none⟩ = false := fun i => H.out.blk.frozen i
      have hmk := fun (W : World) => run_make_row' (P := Tryz.prog) 22 3 (.int .i64 0) 8 Tryz.underlying22 Tryz.info3 rfl .i64 .i64 N.n (by omega) (by omega) W
      have c15 : w.cell? ⟨V.r, 15, none⟩ = some (arrV V.ma N.mt.length) := H.out.blk.cell 15
      have c16 : w.cell? ⟨V.r, 16, none⟩ = some (arrV V.ne N.nx.length) := H.out.blk.cell 16
      have hrl := H.out.blk.lt
      go_wp2
      obtain ⟨L, hL⟩ : ∃ L, L = N.st.last.1 + 1 := ⟨_, rfl⟩
      obtain ⟨N2, hN2⟩ : ∃ N2 : Rn, N2 = { N with role := 2, leader := (N.id : Int), votes := [], mt := List.replicate N.n 0 } := ⟨_, rfl⟩
      have HX2 := Lib.hid hN2
      have HLL := Lib.hid hL
      have hL2 : IntKind.i64.wrap ((N.st.last.1 : Int) + 1) = (L : Int) := by rw [IntWalk.i64_in _ (by omega)]; omega
      have HLA := Lib.hid (lead_arr H.out N2 hN2 L)
      have HLAST : Hid (∀ W V2 j, NodeAt W V2 { N2 with nx := upto N.n L j } D → V2.r = V.r → Calls Tryz.prog 14 #[.pointer (some ⟨V.r, 0, none⟩)] W fun e w' => e = .returned (.int .i64 (N.st.last.1 : Int)) ∧ ∃ k, w' = W.drewN k) := fun W V2 j hW hr => by
        have := nlast_calls hW (by rw [hN2]; simp only; omega)
        rw [hr, hN2] at this
        exact this
      have HAPP : Hid (∀ W V2, NodeAt W V2 { N2 with nx := upto N.n L N.n } D → V2.r = V.r → NodeTo V V2 w W → Calls Tryz.prog 44 #[.pointer (some ⟨V.r, 0, none⟩), .string { data := #[] }] W fun e w' => ∃ k : Int, e = .returned (.int .i64 k) ∧ ∃ V', NodeAt w' V' N.won D' ∧ NodeTo V V' w w') := fun W V2 hW hr hT => by
        have e1 : ({ N2 with nx := upto N.n L N.n } : Rn) = N.lead := by
          rw [hN2, hL]
          simp [Rn.lead, upto]
        rw [e1] at hW
        have hsm : N.lead.Sm := HSM.out.lead hl
        have := nappend_calls hW hg hsm (by simp [Rn.lead]) (by simp [Rn.lead]) (by show N.out.length ≤ 999990; omega) [] hl hlog (by simp) hd
        rw [hr] at this
        refine this.mono ?_
        rintro e w' ⟨rfl, V', h1, h2⟩
        exact ⟨_, rfl, V', h1, hT.trans h2⟩
      clear hN2 hL hd hg HSM hout hlog
      go_region
      · go_wp2_with fail
        obtain ⟨hNA, hTA⟩ := HLA.out w.heap.size (w.heap.size + 1) (.inl ⟨rfl, rfl⟩)
        generalize (((((((w.setCell ⟨V.r, 9, none⟩ (.int .i64 2)).setCell ⟨V.r, 10, none⟩ (.int .i64 (N.id : Int))).setCell ⟨V.r, 14, none⟩ (.slice none 0 0)).setCell ⟨V.r, 15, none⟩ (.slice (some ⟨(w.heap.size : Nat), 0, none⟩) N.n N.n)).setCell ⟨V.r, 16, none⟩ (.slice (some ⟨(w.heap.size + 1), 0, none⟩) N.n N.n)).alloc (.cells (madeCells #[Value.int .i64 0] N.n) 3)).alloc (.cells (madeCells #[Value.int .i64 0] N.n) 3)).drew = W2 at *
        obtain ⟨V2, hV2⟩ : ∃ V2 : Nv, V2 = { V with vo := none, ma := some (w.heap.size : Nat), ne := some (w.heap.size + 1) } := ⟨_, rfl⟩
        obtain ⟨g2, hg2⟩ : ∃ g2 : Nat, g2 = (w.heap.size + 1) := ⟨_, rfl⟩
        have hr2 : V2.r = V.r := by rw [hV2]
        have hne2 : V2.ne = some g2 := by rw [hV2, hg2]
        rw [← hV2] at hNA hTA
        rw [← hg2]
        have HN0 := Lib.hid hNA
        have HT0 := Lib.hid hTA
        have HR2 := Lib.hid hr2
        have HNE2 := Lib.hid hne2
        clear hNA hTA hr2 hne2 hV2 hg2 HLA hmk c14 c2 c1 c9 c10 c15 c16 hf
        go_loopw [5, 60] (fun _ vj wr => ∃ k : Nat, k ≤ N.n ∧ vj = .int .i64 (k : Int) ∧ NodeAt wr V2 { N2 with nx := upto N.n L k } D ∧ NodeTo V V2 w wr) (fun _ vj _ => N.n - (intOf vj).toNat)
        case atStart => exact ⟨0, Nat.zero_le _, rfl, HN0.out, HT0.out⟩
        case round =>
          obtain ⟨k, hk, rfl, hU, hT⟩ := hrel
          have HU := Lib.hid hU
          have HT := Lib.hid hT
          have c16 : wr.cell? ⟨V2.r, 16, none⟩ = some (arrV V2.ne (upto N.n L k).length) := hU.blk.cell 16
          rw [HR2.out, HNE2.out, upto_len _ _ _ hk] at c16
          change wr.cell? ⟨V.r, 16, none⟩ = some (.slice (some ⟨g2, 0, none⟩) N.n N.n) at c16
          have hrl2 : V.r < wr.heap.size := by have := hU.blk.lt; rw [HR2.out] at this; exact this
          clear hU hT
          by_cases hlt2 : k < N.n
          · have d4 : decide ((k : Int) < (N.n : Int)) = true := by simp; omega
            obtain ⟨g3, hg3, hb3, hc3⟩ := HU.out.rest.ne.cell (i := k) (by rw [nums_len, upto_len _ _ _ hk]; exact hlt2)
            obtain rfl : g2 = g3 := by rw [HNE2.out] at hg3; injection hg3
            rw [nums_at _ _ (by rw [upto_len _ _ _ hk]; exact hlt2)] at hc3
            have mf : wr.frozen? ⟨g2, k, none⟩ = false := hb3.frozen k
            generalize (upto N.n L k).getD k 0 = mo at *
            have hgr : V.r ∉ [g2] := fun hx => by
              have h1 := Blk.ne_ HU.out.blk hb3 (by decide)
              rw [HR2.out] at h1
              simp at hx
              exact h1 hx
            clear hg3 hb3
            have HS6 : Hid (∀ W, Keep [g2] wr W → W.cell? ⟨V.r, 16, none⟩ = some (.slice (some ⟨g2, 0, none⟩) N.n N.n)) := fun W hk => (hk.cell (p := ⟨V.r, 16, none⟩) hrl2 hgr).trans c16
            clear hgr
            have HS7 : Hid (∀ n1 : Nat, ((wr.drewN n1).setCell ⟨g2, k, none⟩ (.int .i64 (L : Int))).cell? ⟨V.r, 16, none⟩ = some (.slice (some ⟨g2, 0, none⟩) N.n N.n)) := fun n1 => HS6.out _ (Keep.setCell (p := ⟨g2, k, none⟩) (Keep.drewN (Keep.refl _ _) _) (.inl (by simp)) _)
            go_wp2_with fail
            go_region_held3 (fun w' => w'.cell? ⟨V.r, 16, none⟩ = some (.slice (some ⟨g2, 0, none⟩) N.n N.n))
              (first
                | (refine HS6.out _ ?_; (repeat (first | exact Keep.refl _ _ | refine Keep.drew ?_ | refine Keep.drewN ?_ _ | refine Keep.alloc ?_ _)); done)
                | exact HS7.out _
                | go_keep)
              (first
                | (go_at_call 14; refine (HLAST.out _ V2 k (HU.out.grow (by repeat (first | exact Keep.refl _ _ | refine Keep.drew ?_ | refine Keep.drewN ?_ _ | refine Keep.alloc ?_ _))) HR2.out).mono ?_; rintro e w1 ⟨rfl, n1, rfl⟩)
                | fail)
            all_goals
              go_wp2_with fail
              go_roundw
              case rel =>
                obtain ⟨h1, h2⟩ := (HU.out.grow ((Keep.refl [] wr).drewN (1 + n1))).setNx (HT.out.trans (NodeTo.grow V2 ((Keep.refl [] wr).drewN (1 + n1)))) HNE2.out k L rfl
                have h3 : NodeAt _ V2 { N2 with nx := (upto N.n L k).set k L } D := h1
                rw [upto_set _ _ _ hlt2] at h3
                exact ⟨k + 1, by omega, by go_num, h3, h2⟩
              case measure => simp [intOf]; omega
          · have d4 : decide ((k : Int) < (N.n : Int)) = false := by simp; omega
            obtain rfl : k = N.n := by omega
            go_wp2_with (first
              | (go_at_call 44; refine (HAPP.out _ _ HU.out HR2.out HT.out).mono ?_; rintro e w9 ⟨kk, rfl, V9, h9, t9⟩; have H9 := Lib.hid h9; have HT9 := Lib.hid t9; clear h9 t9)
              | fail)
            go_end0
            exact ⟨rfl, V9, H9.out, HT9.out⟩
      · go_wp2_with fail
        obtain ⟨hNA, hTA⟩ := HLA.out (w.heap.size + 1) w.heap.size (.inr ⟨rfl, rfl⟩)
        generalize (((((((w.setCell ⟨V.r, 9, none⟩ (.int .i64 2)).setCell ⟨V.r, 10, none⟩ (.int .i64 (N.id : Int))).setCell ⟨V.r, 14, none⟩ (.slice none 0 0)).setCell ⟨V.r, 15, none⟩ (.slice (some ⟨(w.heap.size + 1), 0, none⟩) N.n N.n)).setCell ⟨V.r, 16, none⟩ (.slice (some ⟨(w.heap.size : Nat), 0, none⟩) N.n N.n)).alloc (.cells (madeCells #[Value.int .i64 0] N.n) 3)).alloc (.cells (madeCells #[Value.int .i64 0] N.n) 3)).drew = W2 at *
        obtain ⟨V2, hV2⟩ : ∃ V2 : Nv, V2 = { V with vo := none, ma := some (w.heap.size + 1), ne := some (w.heap.size : Nat) } := ⟨_, rfl⟩
        obtain ⟨g2, hg2⟩ : ∃ g2 : Nat, g2 = (w.heap.size : Nat) := ⟨_, rfl⟩
        have hr2 : V2.r = V.r := by rw [hV2]
        have hne2 : V2.ne = some g2 := by rw [hV2, hg2]
        rw [← hV2] at hNA hTA
        rw [← hg2]
        have HN0 := Lib.hid hNA
        have HT0 := Lib.hid hTA
        have HR2 := Lib.hid hr2
        have HNE2 := Lib.hid hne2
        clear hNA hTA hr2 hne2 hV2 hg2 HLA hmk c14 c2 c1 c9 c10 c15 c16 hf
        go_loopw [5, 60] (fun _ vj wr => ∃ k : Nat, k ≤ N.n ∧ vj = .int .i64 (k : Int) ∧ NodeAt wr V2 { N2 with nx := upto N.n L k } D ∧ NodeTo V V2 w wr) (fun _ vj _ => N.n - (intOf vj).toNat)
        case atStart => exact ⟨0, Nat.zero_le _, rfl, HN0.out, HT0.out⟩
        case round =>
          obtain ⟨k, hk, rfl, hU, hT⟩ := hrel
          have HU := Lib.hid hU
          have HT := Lib.hid hT
          have c16 : wr.cell? ⟨V2.r, 16, none⟩ = some (arrV V2.ne (upto N.n L k).length) := hU.blk.cell 16
          rw [HR2.out, HNE2.out, upto_len _ _ _ hk] at c16
          change wr.cell? ⟨V.r, 16, none⟩ = some (.slice (some ⟨g2, 0, none⟩) N.n N.n) at c16
          have hrl2 : V.r < wr.heap.size := by have := hU.blk.lt; rw [HR2.out] at this; exact this
          clear hU hT
          by_cases hlt2 : k < N.n
          · have d4 : decide ((k : Int) < (N.n : Int)) = true := by simp; omega
            obtain ⟨g3, hg3, hb3, hc3⟩ := HU.out.rest.ne.cell (i := k) (by rw [nums_len, upto_len _ _ _ hk]; exact hlt2)
            obtain rfl : g2 = g3 := by rw [HNE2.out] at hg3; injection hg3
            rw [nums_at _ _ (by rw [upto_len _ _ _ hk]; exact hlt2)] at hc3
            have mf : wr.frozen? ⟨g2, k, none⟩ = false := hb3.frozen k
            generalize (upto N.n L k).getD k 0 = mo at *
            have hgr : V.r ∉ [g2] := fun hx => by
              have h1 := Blk.ne_ HU.out.blk hb3 (by decide)
              rw [HR2.out] at h1
              simp at hx
              exact h1 hx
            clear hg3 hb3
            have HS6 : Hid (∀ W, Keep [g2] wr W → W.cell? ⟨V.r, 16, none⟩ = some (.slice (some ⟨g2, 0, none⟩) N.n N.n)) := fun W hk => (hk.cell (p := ⟨V.r, 16, none⟩) hrl2 hgr).trans c16
            clear hgr
            have HS7 : Hid (∀ n1 : Nat, ((wr.drewN n1).setCell ⟨g2, k, none⟩ (.int .i64 (L : Int))).cell? ⟨V.r, 16, none⟩ = some (.slice (some ⟨g2, 0, none⟩) N.n N.n)) := fun n1 => HS6.out _ (Keep.setCell (p := ⟨g2, k, none⟩) (Keep.drewN (Keep.refl _ _) _) (.inl (by simp)) _)
            go_wp2_with fail
            go_region_held3 (fun w' => w'.cell? ⟨V.r, 16, none⟩ = some (.slice (some ⟨g2, 0, none⟩) N.n N.n))
              (first
                | (refine HS6.out _ ?_; (repeat (first | exact Keep.refl _ _ | refine Keep.drew ?_ | refine Keep.drewN ?_ _ | refine Keep.alloc ?_ _)); done)
                | exact HS7.out _
                | go_keep)
              (first
                | (go_at_call 14; refine (HLAST.out _ V2 k (HU.out.grow (by repeat (first | exact Keep.refl _ _ | refine Keep.drew ?_ | refine Keep.drewN ?_ _ | refine Keep.alloc ?_ _))) HR2.out).mono ?_; rintro e w1 ⟨rfl, n1, rfl⟩)
                | fail)
            all_goals
              go_wp2_with fail
              go_roundw
              case rel =>
                obtain ⟨h1, h2⟩ := (HU.out.grow ((Keep.refl [] wr).drewN (1 + n1))).setNx (HT.out.trans (NodeTo.grow V2 ((Keep.refl [] wr).drewN (1 + n1)))) HNE2.out k L rfl
                have h3 : NodeAt _ V2 { N2 with nx := (upto N.n L k).set k L } D := h1
                rw [upto_set _ _ _ hlt2] at h3
                exact ⟨k + 1, by omega, by go_num, h3, h2⟩
              case measure => simp [intOf]; omega
          · have d4 : decide ((k : Int) < (N.n : Int)) = false := by simp; omega
            obtain rfl : k = N.n := by omega
            go_wp2_with (first
              | (go_at_call 44; refine (HAPP.out _ _ HU.out HR2.out HT.out).mono ?_; rintro e w9 ⟨kk, rfl, V9, h9, t9⟩; have H9 := Lib.hid h9; have HT9 := Lib.hid t9; clear h9 t9)
              | fail)
            go_end0
            exact ⟨rfl, V9, H9.out, HT9.out⟩
end

end Go.Proofs.YtnlcipocobmgiaaGreatDoor
/- The contracts of (*raft.Node).elect and Tick. -/
namespace Go.Proofs.YtnlcipocobmgiaaGreatDoor
open Go.RowKit
attribute [local go_sem] size_bs bs_append bs_extract

theorem Tryz.info4 : (Tryz.prog.info? 4).map (fun i => (i.zero, i.size, i.bytes)) = some (some (.bool false), 1, 1) := by kernel_rfl
theorem madeBools (n : Nat) : madeCells #[Value.bool false] n = (bools (List.replicate n false)).toArray := by
  rw [made1]; simp [bools]
section
variable {w : World} {V : Nv} {N : Rn} {D : Dk}
theorem asked_succ (N : Rn) (k : Nat) : N.asked (k + 1) = if k = N.id then N.asked k else { N.asked k with out := (N.asked k).out ++ [N.ask k] } := by
  by_cases h : k = N.id
  · rw [if_pos h]
    unfold Rn.asked
    rw [others_succ, if_pos h]
  · rw [if_neg h]
    unfold Rn.asked
    rw [others_succ, if_neg h, List.map_append]
    simp
theorem asked_len (N : Rn) (k : Nat) : (N.asked k).out.length ≤ N.out.length + k := by
  have h1 : (others k N.id).length ≤ k := by
    unfold others
    exact Nat.le_trans (List.length_filter_le _ _) (by simp)
  simp only [Rn.asked, List.length_append, List.length_map]
  omega

theorem stand_arr {w0 w2 : World} {U : Nv} {M : Rn} (h : NodeAt w2 U.drop3 M D) (hT : NodeTo V U.drop3 w0 w2) :
    NodeAt ((((w2.setCell ⟨U.r, 9, none⟩ (.int .i64 1)).setCell ⟨U.r, 13, none⟩ (.int .i64 0)).setCell ⟨U.r, 14, none⟩ (.slice (some ⟨w2.heap.size, 0, none⟩) M.n M.n)).alloc (.cells (madeCells #[Value.bool false] M.n) 4)) { U.drop3 with vo := some w2.heap.size } { M with role := 1, timer := 0, votes := List.replicate M.n false, mt := [], nx := [] } D ∧ NodeTo V { U.drop3 with vo := some w2.heap.size } w0 ((((w2.setCell ⟨U.r, 9, none⟩ (.int .i64 1)).setCell ⟨U.r, 13, none⟩ (.int .i64 0)).setCell ⟨U.r, 14, none⟩ (.slice (some ⟨w2.heap.size, 0, none⟩) M.n M.n)).alloc (.cells (madeCells #[Value.bool false] M.n) 4)) := by
  have hrl : U.r < w2.heap.size := h.blk.lt
  have hi : U.r ∈ [U.r] ∨ w2.heap.size ≤ U.r := .inl (by simp)
  have hk : Keep [U.r] w2 ((((w2.setCell ⟨U.r, 9, none⟩ (.int .i64 1)).setCell ⟨U.r, 13, none⟩ (.int .i64 0)).setCell ⟨U.r, 14, none⟩ (.slice (some ⟨w2.heap.size, 0, none⟩) M.n M.n)).alloc (.cells (madeCells #[Value.bool false] M.n) 4)) := ((((Keep.refl [U.r] w2).setCell (p := ⟨U.r, 9, none⟩) hi _).setCell (p := ⟨U.r, 13, none⟩) hi _).setCell (p := ⟨U.r, 14, none⟩) hi _).alloc _
  have hb : Blk ((((w2.setCell ⟨U.r, 9, none⟩ (.int .i64 1)).setCell ⟨U.r, 13, none⟩ (.int .i64 0)).setCell ⟨U.r, 14, none⟩ (.slice (some ⟨w2.heap.size, 0, none⟩) M.n M.n)).alloc (.cells (madeCells #[Value.bool false] M.n) 4)) w2.heap.size 4 (bools (List.replicate M.n false)).toArray := by
    rw [madeBools]
    exact Blk.here _ _ _ _ (by simp)
  have e1 : (List.replicate M.n false).length = M.n := by simp
  have hB := ((h.blk.set_ 9 (.int .i64 1)).set_ 13 (.int .i64 0)).set_ 14 (.slice (some ⟨w2.heap.size, 0, none⟩) M.n M.n)
  have hB2 := hB.alloc (.cells (madeCells #[Value.bool false] M.n) 4)
  have hB3 : Blk ((((w2.setCell ⟨U.r, 9, none⟩ (.int .i64 1)).setCell ⟨U.r, 13, none⟩ (.int .i64 0)).setCell ⟨U.r, 14, none⟩ (.slice (some ⟨w2.heap.size, 0, none⟩) M.n M.n)).alloc (.cells (madeCells #[Value.bool false] M.n) 4)) U.r 81 (nodeCells { U.drop3 with vo := some w2.heap.size, ma := none, ne := none } { M with role := 1, timer := 0, votes := List.replicate M.n false, mt := [], nx := [] }) := by
    unfold nodeCells
    simp only [e1]
    exact hB2
  obtain ⟨h1, h2⟩ := h.rearr (vo' := some w2.heap.size) (ma' := none) (ne' := none) (N' := { M with role := 1, timer := 0, votes := List.replicate M.n false, mt := [], nx := [] }) hk hB3 rfl rfl hb (ArrAt.nil _ _) (ArrAt.nil _ _) (fun g e => by injection e with e; omega) (fun g e => by cases e) (fun g e => by cases e) (fun g e => by cases e)
  exact ⟨h1, hT.trans h2⟩
set_option maxRecDepth 100000 in
set_option maxHeartbeats 8000000 in
theorem elect_any (h : NodeAt w V N D) (hg : D.Good) (hS : N.Sm) (hout : N.out.length ≤ 999980) {D1 : Dk} (hd : D.saveTerm (N.st.term + 1) (N.id + 1) = (D1, 0)) (P : World → Prop)
    (hc : ∀ W U, NodeAt W U (N.stands.asked N.n) D1 → NodeTo V U w W → U.r = V.r → Calls Tryz.prog 56 #[.pointer (some ⟨V.r, 0, none⟩)] W fun e w' => e = .returned (.tuple #[]) ∧ P w') :
    Calls Tryz.prog 43 #[.pointer (some ⟨V.r, 0, none⟩)] w fun e w' => e = .returned (.tuple #[]) ∧ P w' := by
  have hn5 := hS.n
  have hid := hS.id
  have htm := hS.term
  have hll := hS.log
  have T1 : ∀ W, NodeAt W V N D → NodeTo V V w W → Calls Tryz.prog 53 #[.pointer (some ⟨V.r, 0, none⟩), .int .i64 ((N.st.term + 1 : Nat) : Int), .int .i64 ((N.id + 1 : Nat) : Int)] W fun e w' => e = .returned (.bool true) ∧ NodeAt w' V (N.keepTerm (N.st.term + 1) (N.id + 1)) D1 ∧ NodeTo V V w w' := fun W hW hT => by
    refine (keepTerm_calls hW hg _ _ (by omega) (by omega) hd).mono ?_
    rintro e w' ⟨rfl, h1, h2⟩
    exact ⟨rfl, h1, hT.trans h2⟩
  have T2 : ∀ W, NodeAt W V (N.keepTerm (N.st.term + 1) (N.id + 1)) D1 → NodeTo V V w W → Calls Tryz.prog 54 #[.pointer (some ⟨V.r, 0, none⟩), .int .i64 (-1)] W fun e w' => e = .returned (.tuple #[]) ∧ NodeAt w' V.drop3 ((N.keepTerm (N.st.term + 1) (N.id + 1)).follow (-1)) D1 ∧ NodeTo V V.drop3 w w' := fun W hW hT => by
    refine (follow_calls hW (-1)).mono ?_
    rintro e w' ⟨rfl, h1, h2⟩
    exact ⟨rfl, h1, hT.trans h2⟩
  have hw1 : IntKind.i64.wrap ((N.st.term : Int) + 1) = ((N.st.term + 1 : Nat) : Int) := by rw [IntWalk.i64_in _ (by omega)]; omega
  have hw2 : IntKind.i64.wrap ((N.id : Int) + 1) = ((N.id + 1 : Nat) : Int) := by rw [IntWalk.i64_in _ (by omega)]; omega
  have c1 : w.cell? ⟨V.r, 1, none⟩ = some (.int .i64 (N.id : Int)) := h.blk.cell 1
  have c3 : w.cell? ⟨V.r, 3, none⟩ = some (.int .i64 (N.st.term : Int)) := h.blk.cell 3
  have H := Lib.hid h
  have HC := Lib.hid hc
  have HT1 := Lib.hid T1
  have HT2 := Lib.hid T2
  clear h hc T1 T2 hd hg hS
  have HXS : Hid (N.stands = { ({ (N.keepTerm (N.st.term + 1) (N.id + 1)).follow (-1) with role := 1, timer := 0, votes := List.replicate N.n false, mt := [], nx := [] } : Rn) with votes := (List.replicate N.n false).set N.id true }) := rfl
  have HXL : Hid (N.stands.st.last = N.st.last ∧ N.stands.id = N.id ∧ N.stands.n = N.n ∧ N.stands.st.log = N.st.log ∧ N.stands.out = N.out) := ⟨rfl, rfl, rfl, rfl, rfl⟩
  generalize hx1 : N.st.term + 1 = t1 at *
  generalize hx2 : N.id + 1 = v1 at *
  clear hx1 hx2
  go_enter Tryz.func43, Tryz.ntmps43
  go_wp2_with fail
  go_still_tail 12, (by kernel_rfl)
  change wpList _ _ _ _ _ w.drew
  have hmk := fun (W : World) => run_make_row' (P := Tryz.prog) 79 4 (.bool false) 1 Tryz.underlying79 Tryz.info4 rfl .i64 .i64 N.n (by omega) (by omega) W
  go_wp2_with (first
    | (go_at_call 53; refine (HT1.out _ (H.out.grow (by repeat (first | exact Keep.refl _ _ | refine Keep.drew ?_ | refine Keep.drewN ?_ _ | refine Keep.alloc ?_ _))) (NodeTo.grow V (by repeat (first | exact Keep.refl _ _ | refine Keep.drew ?_ | refine Keep.drewN ?_ _ | refine Keep.alloc ?_ _)))).mono ?_; rintro e w1 ⟨rfl, h1, t1⟩; have H1 := Lib.hid h1; have HTT1 := Lib.hid t1; clear h1 t1 c1 c3)
    | (go_at_call 54; refine (HT2.out _ H1.out HTT1.out).mono ?_; rintro e w2 ⟨rfl, h2, t2⟩; have hf : ∀ i, w2.frozen? ⟨V.r, i, none⟩ = false := fun i => h2.blk.frozen i; have c1 : w2.cell? ⟨V.r, 1, none⟩ = some (.int .i64 (N.id : Int)) := h2.blk.cell 1; have c2 : w2.cell? ⟨V.r, 2, none⟩ = some (.int .i64 (N.n : Int)) := h2.blk.cell 2; have c9 : w2.cell? ⟨V.r, 9, none⟩ = some (.int .i64 0) := h2.blk.cell 9; have c13 : w2.cell? ⟨V.r, 13, none⟩ = some (.int .i64 (N.timer : Int)) := h2.blk.cell 13; have c14 : w2.cell? ⟨V.r, 14, none⟩ = some (.slice none 0 0) := h2.blk.cell 14; have hrl : V.r < w2.heap.size := h2.blk.lt; have H2 := Lib.hid h2; have HTT2 := Lib.hid t2; clear h2 t2)
    | fail)
  obtain ⟨hN3, hT3⟩ : NodeAt ((((w2.setCell ⟨V.r, 9, none⟩ (.int .i64 1)).setCell ⟨V.r, 13, none⟩ (.int .i64 0)).setCell ⟨V.r, 14, none⟩ (.slice (some ⟨w2.heap.size, 0, none⟩) N.n N.n)).alloc (.cells (madeCells #[Value.bool false] N.n) 4)) { V.drop3 with vo := some w2.heap.size } { (N.keepTerm t1 v1).follow (-1) with role := 1, timer := 0, votes := List.replicate N.n false, mt := [], nx := [] } D1 ∧ NodeTo V { V.drop3 with vo := some w2.heap.size } w ((((w2.setCell ⟨V.r, 9, none⟩ (.int .i64 1)).setCell ⟨V.r, 13, none⟩ (.int .i64 0)).setCell ⟨V.r, 14, none⟩ (.slice (some ⟨w2.heap.size, 0, none⟩) N.n N.n)).alloc (.cells (madeCells #[Value.bool false] N.n) 4)) := stand_arr H2.out HTT2.out
  obtain ⟨V3, hV3⟩ : ∃ V3 : Nv, V3 = { V.drop3 with vo := some w2.heap.size } := ⟨_, rfl⟩
  rw [← hV3] at hN3 hT3
  have hvo3 : V3.vo = some w2.heap.size := by rw [hV3]
  have hr3 : V3.r = V.r := by rw [hV3]; rfl
  have HVO3 := Lib.hid hvo3
  have HR3 := Lib.hid hr3
  have HN3 := Lib.hid hN3
  have HT3 := Lib.hid hT3
  clear hN3 hT3 hvo3 hr3 hV3 c9 c13 c14 c2 c1 hf hmk H2 HTT2 H1 HTT1 HT1 HT2 hw1 hw2
  generalize ((((w2.setCell ⟨V.r, 9, none⟩ (.int .i64 1)).setCell ⟨V.r, 13, none⟩ (.int .i64 0)).setCell ⟨V.r, 14, none⟩ (.slice (some ⟨w2.heap.size, 0, none⟩) N.n N.n)).alloc (.cells (madeCells #[Value.bool false] N.n) 4)) = W3 at *
  generalize w2.heap.size = gv at *
  have c14 : W3.cell? ⟨V3.r, 14, none⟩ = some (arrV V3.vo (List.replicate N.n false).length) := HN3.out.blk.cell 14
  have c1 : W3.cell? ⟨V3.r, 1, none⟩ = some (.int .i64 (N.id : Int)) := HN3.out.blk.cell 1
  rw [HR3.out, HVO3.out, List.length_replicate] at c14
  rw [HR3.out] at c1
  change W3.cell? ⟨V.r, 14, none⟩ = some (.slice (some ⟨gv, 0, none⟩) N.n N.n) at c14
  obtain ⟨g3, hg3, hb3, hc3⟩ := HN3.out.rest.vo.cell (i := N.id) (by simp [bools]; exact hid)
  obtain rfl : gv = g3 := by rw [HVO3.out] at hg3; injection hg3
  have hv0 : W3.cell? ⟨gv, N.id, none⟩ = some (.bool false) := by
    rw [hc3]
    simp [bools]
  have mf : W3.frozen? ⟨gv, N.id, none⟩ = false := hb3.frozen N.id
  have hin : (N.id : Int) < (N.n : Int) := by omega
  clear hc3 hb3 hg3
  obtain ⟨M, hM⟩ : ∃ M, M = N.stands := ⟨_, rfl⟩
  rw [← hM] at HC HXS HXL
  obtain ⟨ml, mid, mn, mlog, mout⟩ := HXL.out
  have HSV : Hid (∀ W, Keep [] (W3.setCell ⟨gv, N.id, none⟩ (.bool true)) W → NodeAt W V3 (M.asked 0) D1 ∧ NodeTo V V3 w W) := fun W hk => by
    obtain ⟨h1, h2⟩ := HN3.out.setVo HT3.out HVO3.out N.id true rfl
    have e0 : M.asked 0 = M := by simp [Rn.asked, others]
    rw [e0, HXS.out]
    exact ⟨h1.grow hk, h2.trans (NodeTo.grow V3 hk)⟩
  have HLS : Hid (∀ W, Keep [] (W3.setCell ⟨gv, N.id, none⟩ (.bool true)) W → Calls Tryz.prog 46 #[.pointer (some ⟨V.r, 3, none⟩)] W fun e w' => e = .returned (.tuple #[.int .i64 (M.st.last.1 : Int), .int .i64 (M.st.last.2 : Int)]) ∧ NodeAt w' V3 (M.asked 0) D1 ∧ NodeTo V V3 w w') := fun W hk => by
    obtain ⟨h1, h2⟩ := HSV.out W hk
    have := lastO_calls _ V3.lg h1.sto (by show M.st.log.length ≤ _; rw [mlog]; omega)
    rw [HR3.out] at this
    refine this.mono ?_
    rintro e w' ⟨rfl, k, rfl⟩
    exact ⟨rfl, h1.grow ((Keep.refl _ _).drewN _), h2.trans (NodeTo.grow V3 ((Keep.refl _ _).drewN _))⟩
  have HSD : Hid (∀ k, k < N.n → ∀ W U, NodeAt W U (M.asked k) D1 → NodeTo V U w W → U.r = V.r → k ≠ N.id → Calls Tryz.prog 80 #[.pointer (some ⟨V.r, 0, none⟩), .agg #[.int .i64 1, .int .i64 0, .int .i64 (k : Int), .int .i64 0, .int .i64 (M.st.last.1 : Int), .int .i64 (M.st.last.2 : Int), .int .i64 0, .bool false, .slice none 0 0, .string { data := #[] }]] W fun e w' => e = .returned (.tuple #[]) ∧ ∃ U', NodeAt w' U' (M.asked (k + 1)) D1 ∧ NodeTo V U' w w' ∧ U'.r = V.r) := fun k hk W U hW hT hr hne => by
    have := send_calls hW ⟨1, 0, (k : Int), 0, (M.st.last.1 : Int), (M.st.last.2 : Int), 0, false, [], []⟩ (.slice none 0 0) ⟨none, 0, rfl, fun h => absurd rfl h⟩ (fun k e => by cases e) (by rw [hW.outs_len]; have := asked_len M k; rw [mout] at this; omega)
    rw [← hr]
    refine this.mono ?_
    rintro e w' ⟨rfl, ou', h1, h2, h3⟩
    have e1 : (M.asked k).send ⟨1, 0, (k : Int), 0, (M.st.last.1 : Int), (M.st.last.2 : Int), 0, false, [], []⟩ = M.asked (k + 1) := by
      rw [asked_succ, if_neg (by rw [mid]; exact hne)]
      rfl
    have ht := sent_to (p := ({ (⟨1, 0, (k : Int), 0, (M.st.last.1 : Int), (M.st.last.2 : Int), 0, false, [], []⟩ : Mg) with frm := ((M.asked k).id : Int), term := ((M.asked k).st.term : Int) }, .slice none 0 0)) (Keep.refl [] W) h2 h3 (fun k e => by cases e) roomy_nil
    exact ⟨rfl, _, e1 ▸ h1, hT.trans ht, rfl⟩
  have HSK : Hid (M.asked (N.id + 1) = M.asked N.id) := by
    show M.asked (N.id + 1) = M.asked N.id
    rw [asked_succ, if_pos (by rw [mid])]
  clear ml mlog mout hM HXS HXL HN3 HT3 HVO3 HSV
  go_region
  go_wp2_with (first
    | (go_at_call 46; refine (HLS.out _ (by repeat (first | exact Keep.refl _ _ | refine Keep.drew ?_ | refine Keep.drewN ?_ _ | refine Keep.alloc ?_ _))).mono ?_; rintro e w4 ⟨rfl, h4, t4⟩; have c2 : w4.cell? ⟨V3.r, 2, none⟩ = some (.int .i64 (M.n : Int)) := h4.blk.cell 2; rw [HR3.out, mn] at c2; have H4 := Lib.hid h4; have HT4 := Lib.hid t4; clear h4 t4)
    | fail)
  go_loopw [4, 55] (fun _ vi wr => ∃ k U, k ≤ N.n ∧ vi = .int .i64 ((k : Nat) : Int) ∧ NodeAt wr U (M.asked k) D1 ∧ NodeTo V U w wr ∧ U.r = V.r) (fun _ vi _ => N.n - (intOf vi).toNat)
  case atStart => exact ⟨0, V3, Nat.zero_le _, rfl, H4.out, HT4.out, HR3.out⟩
  case round =>
    obtain ⟨k, U, hk, rfl, hU, hT, hr⟩ := hrel
    have c1 : wr.cell? ⟨U.r, 1, none⟩ = some (.int .i64 (M.id : Int)) := hU.blk.cell 1
    rw [hr, mid] at c1
    have HU := Lib.hid hU
    have HTT := Lib.hid hT
    have HR := Lib.hid hr
    clear hU hT hr
    by_cases hlt : k < N.n
    · have d1 : decide ((k : Int) < (N.n : Int)) = true := by simp; omega
      by_cases hne : k = N.id
      · have d2 : ((k : Int) != (N.id : Int)) = false := by simp; omega
        go_wp2
        go_roundw
        case rel =>
          refine ⟨k + 1, U, by omega, by go_num, ?_, HTT.out, HR.out⟩
          rw [hne, HSK.out, ← hne]
          exact HU.out
        case measure => simp [intOf]; omega
      · have d2 : ((k : Int) != (N.id : Int)) = true := by simp; omega
        go_wp2_with (go_at_call 80; refine (HSD.out k hlt _ U HU.out HTT.out HR.out hne).mono ?_; rintro e w5 ⟨rfl, U5, h5, t5, r5⟩; have H5 := Lib.hid h5; have HT5 := Lib.hid t5; have HR5 := Lib.hid r5; clear h5 t5 r5)
        go_roundw
        case rel => exact ⟨k + 1, U5, by omega, by go_num, H5.out, HT5.out, HR5.out⟩
        case measure => simp [intOf]; omega
    · have d1 : decide ((k : Int) < (N.n : Int)) = false := by simp; omega
      obtain rfl : k = N.n := by omega
      go_wp2_with (go_at_call 56; refine (HC.out _ U HU.out HTT.out HR.out).mono ?_; rintro e w6 ⟨rfl, h6⟩; have H6 := Lib.hid h6; clear h6)
      go_end0
      exact ⟨rfl, H6.out⟩
end

end Go.Proofs.YtnlcipocobmgiaaGreatDoor
/- The contracts of (*raft.Node).Tick, Propose. -/
namespace Go.Proofs.YtnlcipocobmgiaaGreatDoor
open Go.RowKit
attribute [local go_sem] size_bs bs_append bs_extract

section
variable {w : World} {V : Nv} {N : Rn} {D : Dk}
theorem trues_set (n i : Nat) (h : i < n) : trues ((List.replicate n false).set i true) = 1 := by
  induction n generalizing i with
  | zero => omega
  | succ n ih =>
    cases i with
    | zero => simp [trues, List.replicate_succ]
    | succ i =>
      have := ih i (by omega)
      simpa [trues, List.replicate_succ] using this
theorem Rn.Sm.stands (h : N.Sm) (ht : N.st.term < 2199023255552) : N.stands.Sm :=
  ⟨h.n, h.id, by show N.st.term + 1 ≤ _; omega, h.base, h.baseTerm, h.snap, h.log, h.ents, h.commit, h.applied, by show 0 ≤ _; omega, h.out, .inr rfl, .inr rfl, .inl (by simp [Rn.stands]; rfl), (by intro x hx; cases hx), (by intro x hx; cases hx)⟩
theorem Rn.Sm.asked {k : Nat} (h : N.Sm) (hk : k ≤ 5) (ho : N.out.length ≤ 999990) : (N.asked k).Sm :=
  ⟨h.n, h.id, h.term, h.base, h.baseTerm, h.snap, h.log, h.ents, h.commit, h.applied, h.timer, (by have := asked_len N k; omega), h.mt, h.nx, h.votes, h.nxs, h.mts⟩

/-- An election that isn't won by its own vote. -/
theorem elect_many (h : NodeAt w V N D) (hg : D.Good) (hS : N.Sm) (hout : N.out.length ≤ 999980) {D1 : Dk} (hd : D.saveTerm (N.st.term + 1) (N.id + 1) = (D1, 0)) (hn : 2 ≤ N.n) :
    Calls Tryz.prog 43 #[.pointer (some ⟨V.r, 0, none⟩)] w fun e w' => e = .returned (.tuple #[]) ∧ ∃ V', NodeAt w' V' (N.stands.asked N.n) D1 ∧ NodeTo V V' w w' := by
  refine elect_any h hg hS hout hd _ (fun W U hW hT hr => ?_)
  have h1 := hS.n
  have h2 := hS.id
  have := count_no hW h1 h2 (by show N.stands.votes.length = N.n; simp [Rn.stands]) (by show 2 * trues N.stands.votes ≤ N.n; simp only [Rn.stands]; rw [trues_set _ _ h2]; omega)
  rw [hr] at this
  refine this.mono ?_
  rintro e w' ⟨rfl, rfl⟩
  exact ⟨rfl, U, hW, hT⟩
/-- The election of the only node. -/
theorem elect_one (h : NodeAt w V N D) (hg : D.Good) (hS : N.Sm) (hout : N.out.length ≤ 999970) {D1 D2 : Dk} (hd : D.saveTerm (N.st.term + 1) (N.id + 1) = (D1, 0)) (hg1 : D1.Good) (hn : N.n = 1) (ht : N.st.term < 2199023255552) (hl : N.st.last.1 < 2199023255552) (hlog : N.st.log.length < 1000000)
    (hd2 : D1.appendLog [⟨N.st.last.1 + 1, N.st.term + 1, []⟩] = (D2, 0)) :
    Calls Tryz.prog 43 #[.pointer (some ⟨V.r, 0, none⟩)] w fun e w' => e = .returned (.tuple #[]) ∧ ∃ V', NodeAt w' V' (N.stands.asked N.n).won D2 ∧ NodeTo V V' w w' := by
  refine elect_any h hg hS (by omega) hd _ (fun W U hW hT hr => ?_)
  have h1 := hS.n
  have h2 := hS.id
  have := count_yes hW hg1 ((hS.stands ht).asked h1 (by show N.out.length ≤ _; omega)) (by show N.stands.votes.length = N.n; simp [Rn.stands]) (by show N.n < 2 * trues N.stands.votes; simp only [Rn.stands]; rw [trues_set _ _ h2]; omega) (by have := asked_len N.stands N.n; change _ ≤ N.out.length + N.n at this; omega) hl hlog hd2
  rw [hr] at this
  refine this.mono ?_
  rintro e w' ⟨rfl, V', h3, h4⟩
  exact ⟨rfl, V', h3, hT.trans h4⟩

/-- A tick of a node that leads. -/
theorem tick_leader (h : NodeAt w V N D) (hS : N.Sm) (hb : N.broken = 0) (hr : N.role = 2) (hnx : N.nx.length = N.n) (hout : N.out.length ≤ 999990) :
    Calls Tryz.prog 11 #[.pointer (some ⟨V.r, 0, none⟩)] w fun e w' => e = .returned (.tuple #[]) ∧ ∃ V', NodeAt w' V' N.sendAll D ∧ NodeTo V V' w w' := by
  have c18 : w.cell? ⟨V.r, 18, none⟩ = some (.int .i64 0) := by rw [← hb]; exact h.blk.cell 18
  have c9 : w.cell? ⟨V.r, 9, none⟩ = some (.int .i64 2) := by
    have : w.cell? ⟨V.r, 9, none⟩ = some (.int .i64 (N.role : Int)) := h.blk.cell 9
    rw [this, hr]; rfl
  have HC := Lib.hid (sendAll_calls h hS hnx hout)
  clear h hS hb hr hnx
  go_enter Tryz.func11, Tryz.ntmps11
  go_wp2_with (go_at_call 42; refine HC.out.mono ?_; rintro e w1 ⟨rfl, V1, h1, t1⟩)
  ((try simp only [Exit.inBlock, Exit.then]); refine bodyPost_ret (results_none rfl _ _ _) rfl ?_)
  exact ⟨rfl, V1, h1, t1⟩

/-- A tick of a node that waits. -/
theorem tick_wait (h : NodeAt w V N D) (hS : N.Sm) (hb : N.broken = 0) (hr : N.role ≠ 2) (ht : N.timer + 1 < 4 + 2 * N.id) :
    Calls Tryz.prog 11 #[.pointer (some ⟨V.r, 0, none⟩)] w fun e w' => e = .returned (.tuple #[]) ∧ NodeAt w' V { N with timer := N.timer + 1 } D ∧ NodeTo V V w w' := by
  have c18 : w.cell? ⟨V.r, 18, none⟩ = some (.int .i64 0) := by rw [← hb]; exact h.blk.cell 18
  have c9 : w.cell? ⟨V.r, 9, none⟩ = some (.int .i64 (N.role : Int)) := h.blk.cell 9
  have c13 : w.cell? ⟨V.r, 13, none⟩ = some (.int .i64 (N.timer : Int)) := h.blk.cell 13
  have c1 : w.cell? ⟨V.r, 1, none⟩ = some (.int .i64 (N.id : Int)) := h.blk.cell 1
  have f13 : w.frozen? ⟨V.r, 13, none⟩ = false := h.blk.frozen 13
  have d1 : ((N.role : Int) == 2) = false := by simp; omega
  have htm := hS.timer
  have hid := hS.id
  have hn5 := hS.n
  have H := Lib.hid h
  clear h hS hb hr
  have w1 : IntKind.i64.wrap (2 * (N.id : Int)) = 2 * (N.id : Int) := IntWalk.i64_in _ (by omega)
  have w2 : IntKind.i64.wrap (4 + 2 * (N.id : Int)) = 4 + 2 * (N.id : Int) := IntWalk.i64_in _ (by omega)
  have d2 : decide (4 + 2 * (N.id : Int) ≤ (N.timer : Int) + 1) = false := by simp; omega
  have d3 : (N.timer : Int) + 1 < 4 + 2 * (N.id : Int) := by omega
  go_enter Tryz.func11, Tryz.ntmps11
  go_wp2
  go_quiet (fail)
  go_wp2
  go_end0
  obtain ⟨h1, h2⟩ := setR_end (N' := { N with timer := N.timer + 1 }) (w' := w.setCell ⟨V.r, 13, none⟩ (.int .i64 ((N.timer : Int) + 1))) H.out (NodeTo.refl V w) ((Keep.refl _ _).setCell (.inl (by simp)) _) (H.out.blk.set_ 13 _) rfl rfl rfl rfl rfl
  exact ⟨rfl, h1.grow (by repeat (first | exact Keep.refl _ _ | refine Keep.drew ?_ | refine Keep.drewN ?_ _ | refine Keep.alloc ?_ _)), h2.trans (NodeTo.grow V (by repeat (first | exact Keep.refl _ _ | refine Keep.drew ?_ | refine Keep.drewN ?_ _ | refine Keep.alloc ?_ _)))⟩
/-- A tick at which the node stands for election. -/
theorem tick_elect (h : NodeAt w V N D) (hS : N.Sm) (hb : N.broken = 0) (hr : N.role ≠ 2) (ht : 4 + 2 * N.id ≤ N.timer + 1) (P : World → Prop)
    (hc : ∀ W, NodeAt W V { N with timer := N.timer + 1 } D → NodeTo V V w W → Calls Tryz.prog 43 #[.pointer (some ⟨V.r, 0, none⟩)] W fun e w' => e = .returned (.tuple #[]) ∧ P w') :
    Calls Tryz.prog 11 #[.pointer (some ⟨V.r, 0, none⟩)] w fun e w' => e = .returned (.tuple #[]) ∧ P w' := by
  have c18 : w.cell? ⟨V.r, 18, none⟩ = some (.int .i64 0) := by rw [← hb]; exact h.blk.cell 18
  have c9 : w.cell? ⟨V.r, 9, none⟩ = some (.int .i64 (N.role : Int)) := h.blk.cell 9
  have c13 : w.cell? ⟨V.r, 13, none⟩ = some (.int .i64 (N.timer : Int)) := h.blk.cell 13
  have c1 : w.cell? ⟨V.r, 1, none⟩ = some (.int .i64 (N.id : Int)) := h.blk.cell 1
  have f13 : w.frozen? ⟨V.r, 13, none⟩ = false := h.blk.frozen 13
  have d1 : ((N.role : Int) == 2) = false := by simp; omega
  have htm := hS.timer
  have hid := hS.id
  have hn5 := hS.n
  have HC : Hid (∀ W, Keep [] (w.setCell ⟨V.r, 13, none⟩ (.int .i64 ((N.timer : Int) + 1))) W → Calls Tryz.prog 43 #[.pointer (some ⟨V.r, 0, none⟩)] W fun e w' => e = .returned (.tuple #[]) ∧ P w') := fun W hk => by
    obtain ⟨h1, h2⟩ := setR_end (N' := { N with timer := N.timer + 1 }) (w' := w.setCell ⟨V.r, 13, none⟩ (.int .i64 ((N.timer : Int) + 1))) h (NodeTo.refl V w) ((Keep.refl _ _).setCell (.inl (by simp)) _) (h.blk.set_ 13 _) rfl rfl rfl rfl rfl
    exact hc W (h1.grow hk) (h2.trans (NodeTo.grow V hk))
  clear h hS hb hr hc
  have w1 : IntKind.i64.wrap (2 * (N.id : Int)) = 2 * (N.id : Int) := IntWalk.i64_in _ (by omega)
  have w2 : IntKind.i64.wrap (4 + 2 * (N.id : Int)) = 4 + 2 * (N.id : Int) := IntWalk.i64_in _ (by omega)
  have d2 : decide (4 + 2 * (N.id : Int) ≤ (N.timer : Int) + 1) = true := by simp; omega
  have d3 : 4 + 2 * (N.id : Int) ≤ (N.timer : Int) + 1 := by omega
  go_enter Tryz.func11, Tryz.ntmps11
  go_wp2
  go_quiet (fail)
  go_wp2_with (go_at_call 43; refine (HC.out _ (by repeat (first | exact Keep.refl _ _ | refine Keep.drew ?_ | refine Keep.drewN ?_ _ | refine Keep.alloc ?_ _))).mono ?_; rintro e w1 ⟨rfl, h1⟩)
  go_end0
  exact ⟨rfl, h1⟩

set_option maxRecDepth 100000 in
theorem propose_calls (h : NodeAt w V N D) (hg : D.Good) (hS : N.Sm) (hb : N.broken = 0) (hr : N.role = 2) (hmt : N.mt.length = N.n) (hnx : N.nx.length = N.n) (hout : N.out.length ≤ 999990) (cmd : List UInt8) (hl : N.st.last.1 < 2199023255552) (hlog : N.st.log.length < 1000000) (hc : cmd.length ≤ 100000) {D' : Dk} (hd : D.appendLog [N.newEn cmd] = (D', 0)) :
    Calls Tryz.prog 12 #[.pointer (some ⟨V.r, 0, none⟩), .string (bs cmd)] w fun e w' => e = .returned (.tuple #[.int .i64 ((N.st.last.1 + 1 : Nat) : Int), .int .i64 (N.st.term : Int), .int .i64 0]) ∧ ∃ V', NodeAt w' V' (N.appended cmd) D' ∧ NodeTo V V' w w' := by
  have c18 : w.cell? ⟨V.r, 18, none⟩ = some (.int .i64 0) := by rw [← hb]; exact h.blk.cell 18
  have c9 : w.cell? ⟨V.r, 9, none⟩ = some (.int .i64 2) := by
    have : w.cell? ⟨V.r, 9, none⟩ = some (.int .i64 (N.role : Int)) := h.blk.cell 9
    rw [this, hr]; rfl
  have HC := Lib.hid (nappend_calls h hg hS hmt hnx hout cmd hl hlog hc hd)
  have HB : Hid ((N.appended cmd).broken = 0 ∧ (N.appended cmd).st.term = N.st.term) := ⟨hb, rfl⟩
  clear h hS hb hr hmt hnx hd hg
  generalize N.st.last.1 + 1 = ix at *
  have dl : decide ((100000 : Int) < (cmd.length : Int)) = false := by simp; omega
  go_enter Tryz.func12, Tryz.ntmps12
  go_wp2_with (go_at_call 44; refine HC.out.mono ?_; rintro e w1 ⟨rfl, V1, h1, t1⟩; have hr1 := t1.r; have c18 : w1.cell? ⟨V1.r, 18, none⟩ = some (.int .i64 (N.appended cmd).broken) := h1.blk.cell 18; have c3 : w1.cell? ⟨V1.r, 3, none⟩ = some (.int .i64 ((N.appended cmd).st.term : Int)) := h1.blk.cell 3; rw [hr1, HB.out.1] at c18; rw [hr1, HB.out.2] at c3; have H1 := Lib.hid h1; have HT1 := Lib.hid t1; clear h1 t1 hr1)
  go_quiet (fail)
  go_wp2
  go_ret3
  exact ⟨rfl, V1, H1.out.grow (by repeat (first | exact Keep.refl _ _ | refine Keep.drew ?_ | refine Keep.drewN ?_ _ | refine Keep.alloc ?_ _)), HT1.out.trans (NodeTo.grow V1 (by repeat (first | exact Keep.refl _ _ | refine Keep.drew ?_ | refine Keep.drewN ?_ _ | refine Keep.alloc ?_ _)))⟩
end

end Go.Proofs.YtnlcipocobmgiaaGreatDoor
