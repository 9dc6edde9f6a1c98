/- The contracts of (*raft.Node).lacks and sendAll. -/
import Derived.Test.YtnlcipocobmgiaaGreatDoorRaft2
import Derived.StillTailTactics
namespace Go.Proofs.YtnlcipocobmgiaaGreatDoor
open Go.RowKit
attribute [local go_sem] size_bs bs_append bs_extract

section
variable {w : World} {V : Nv} {N : Rn} {D : Dk}
theorem NodeAt.outs_len (h : NodeAt w V N D) : V.outs.length = N.out.length := by rw [← h.rest.outs, List.length_map]
/-- An array's cell. -/
theorem ArrAt.cell {t : TypeId} {o : Option Nat} {xs : List Value} (h : ArrAt w t o xs) {i : Nat} (hi : i < xs.length) : ∃ g, o = some g ∧ Blk w g t xs.toArray ∧ w.cell? ⟨g, i, none⟩ = some xs[i] := by
  cases o with
  | none => change xs = [] at h; subst h; simp at hi
  | some g => exact ⟨g, rfl, h, by rw [Blk.cell h]; simp [hi]⟩
theorem nums_at (l : List Nat) (i : Nat) (h : i < l.length) : (nums l)[i]'(by simpa [nums] using h) = .int .i64 ((l.getD i 0 : Nat) : Int) := by simp [nums, List.getD, h]
theorem nums_len (l : List Nat) : (nums l).length = l.length := by simp [nums]
/-- What send leaves, as a step of the node. -/
theorem sent_to {w0 w1 w2 : World} {ou' : Value} {p : Mg × Value} (hk0 : Keep [] w0 w1) (hk : Keep V.fp w1 w2) (hat : ∀ k, ou'.ownBlock = some k → V.ou.ownBlock = some k ∨ w1.heap.size ≤ k) (hp : ∀ k, p.2.ownBlock = some k → w0.heap.size ≤ k) :
    NodeTo V { V with ou := ou', outs := V.outs ++ [p] } w0 w2 :=
  ⟨(hk0.nil_).trans hk, fun x hx => by
    rcases Nv.mem.1 hx with h | h | h | h | h | h | h | h
    · exact .inl (Nv.mem.2 (.inl h))
    · exact .inl (Nv.mem.2 (.inr (.inl h)))
    · exact .inl (Nv.mem.2 (.inr (.inr (.inl h))))
    · exact .inl (Nv.mem.2 (.inr (.inr (.inr (.inl h)))))
    · exact .inl (Nv.mem.2 (.inr (.inr (.inr (.inr (.inl h))))))
    · exact .inl (Nv.mem.2 (.inr (.inr (.inr (.inr (.inr (.inl h)))))))
    · exact .inl (Nv.mem.2 (.inr (.inr (.inr (.inr (.inr (.inr (.inl h))))))))
    · rcases hat x h with h | h
      · exact .inl (Nv.mem.2 (.inr (.inr (.inr (.inr (.inr (.inr (.inr h))))))))
      · exact .inr (Nat.le_trans hk0.size h), fun q hq => by
    rcases List.mem_append.1 hq with h | h
    · exact .inl h
    · simp at h; subst h; exact .inr hp, rfl, rfl, rfl⟩

set_option maxRecDepth 100000 in
set_option maxHeartbeats 2000000 in
theorem lacks_more (h : NodeAt w V N D) (hS : N.Sm) (i : Nat) (hi : i < N.nx.length) (t : Nat) (ht : N.st.termAt (N.nx.getD i 0 - 1) = some t) (hout : N.out.length ≤ 1000000) :
    Calls Tryz.prog 79 #[.pointer (some ⟨V.r, 0, none⟩), .int .i64 (i : Int)] w fun e w' => e = .returned (.tuple #[]) ∧ ∃ V', NodeAt w' V' (N.lacks i) D ∧ NodeTo V V' w w' := by
  obtain ⟨g, hg, hgb, hgc⟩ := h.rest.ne.cell (i := i) (by rw [nums_len]; exact hi)
  rw [nums_at _ _ hi] at hgc
  have hx := hS.nxs (N.nx.getD i 0) (by rw [List.getD_eq_getElem?_getD, List.getElem?_eq_getElem hi]; exact List.getElem_mem hi)
  have hlk : N.lack i = ⟨3, (N.id : Int), (i : Int), (N.st.term : Int), ((N.nx.getD i 0 - 1 : Nat) : Int), (t : Int), (N.commit : Int), false, N.st.from_ (N.nx.getD i 0) 4, []⟩ := by unfold Rn.lack; rw [ht]
  have hbs := hS.base
  have hlg := hS.log
  have T1 : ∀ W, NodeAt W V N D → Calls Tryz.prog 47 #[.pointer (some ⟨V.r, 3, none⟩), .int .i64 ((N.nx.getD i 0 : Nat) - 1 : Int)] W fun e w' => e = .returned (.tuple #[.int .i64 (t : Int), .bool true]) ∧ ∃ n, w' = W.drewN n := fun W hW => by
    have := termAtO_calls N.st V.lg hW.sto (N.nx.getD i 0 - 1) (by omega) (by omega)
    rw [ht, Int.ofNat_sub hx.1] at this
    exact this
  have T2 : ∀ W, NodeAt W V N D → Calls Tryz.prog 45 #[.pointer (some ⟨V.r, 3, none⟩), .int .i64 (N.nx.getD i 0 : Nat), .int .i64 4] W fun e w' => ∃ A c, e = .returned (.slice A (N.st.from_ (N.nx.getD i 0) 4).length c) ∧ w'.ownsRow W.heap.size 62 3 (.slice A (N.st.from_ (N.nx.getD i 0) 4).length c) (N.st.from_ (N.nx.getD i 0) 4).length (entsV (N.st.from_ (N.nx.getD i 0) 4)) ∧ Keep [] W w' := fun W hW =>
    fromO_calls N.st V.lg hW.sto (N.nx.getD i 0) 4 (by omega) (by omega) (by omega) (by omega)
  have T3 : ∀ W (v : Value), NodeAt W V N D → EntsAt W v (N.st.from_ (N.nx.getD i 0) 4) → (∀ k, v.ownBlock = some k → w.heap.size ≤ k ∧ k < W.heap.size) → Keep [] w W → Calls Tryz.prog 80 #[.pointer (some ⟨V.r, 0, none⟩), .agg #[.int .i64 3, .int .i64 0, .int .i64 (i : Int), .int .i64 0, .int .i64 ((N.nx.getD i 0 : Nat) - 1 : Int), .int .i64 (t : Int), .int .i64 (N.commit : Int), .bool false, v, .string { data := #[] }]] W fun e w' => e = .returned (.tuple #[]) ∧ ∃ V', NodeAt w' V' (N.lacks i) D ∧ NodeTo V V' w w' ∧ w'.cell? ⟨V.r, 11, none⟩ = some (.int .i64 (N.commit : Int)) ∧ w'.cell? ⟨V.r, 16, none⟩ = some (.slice (some ⟨g, 0, none⟩) N.nx.length N.nx.length) ∧ w'.cell? ⟨g, i, none⟩ = some (.int .i64 (N.nx.getD i 0 : Nat)) := fun W v hW hv hb hk => by
    have := send_calls hW ⟨3, 0, (i : Int), 0, ((N.nx.getD i 0 - 1 : Nat) : Int), (t : Int), (N.commit : Int), false, N.st.from_ (N.nx.getD i 0) 4, []⟩ v hv (fun k e => ⟨(hb k e).2, fun hx => by have h1 := h.fp_lt k hx; have h2 := (hb k e).1; omega⟩) (by rw [hW.outs_len]; exact hout)
    rw [Int.ofNat_sub hx.1] at this
    refine this.mono ?_
    rintro e w' ⟨rfl, ou', h1, h2, h3⟩
    have e1 : N.send ⟨3, 0, (i : Int), 0, ((N.nx.getD i 0 : Nat) - 1 : Int), (t : Int), (N.commit : Int), false, N.st.from_ (N.nx.getD i 0) 4, []⟩ = N.lacks i := by
      unfold Rn.lacks Rn.send
      rw [hlk, Int.ofNat_sub hx.1]
      rfl
    have h16 : w'.cell? ⟨V.r, 16, none⟩ = some (arrV V.ne N.nx.length) := h1.blk.cell 16
    rw [hg] at h16
    have hgn := h1.rest.ne
    obtain ⟨g', hg', _, hgc'⟩ := hgn.cell (i := i) (by rw [nums_len]; exact hi)
    change V.ne = some g' at hg'
    rw [hg] at hg'
    injection hg' with hg'
    subst hg'
    change w'.cell? ⟨g, i, none⟩ = some ((nums N.nx)[i]'(by rw [nums_len]; exact hi)) at hgc'
    rw [nums_at _ _ hi] at hgc'
    exact ⟨rfl, _, e1 ▸ h1, sent_to hk h2 h3 (fun k e => (hb k e).1), h1.blk.cell 11, h16, hgc'⟩
  have c11 : w.cell? ⟨V.r, 11, none⟩ = some (.int .i64 (N.commit : Int)) := h.blk.cell 11
  have c16 : w.cell? ⟨V.r, 16, none⟩ = some (arrV V.ne N.nx.length) := h.blk.cell 16
  rw [hg] at c16
  change w.cell? ⟨V.r, 16, none⟩ = some (.slice (some ⟨g, 0, none⟩) N.nx.length N.nx.length) at c16
  have hrl := h.blk.lt
  have hgl := hgb.lt
  have HS : Hid (∀ W, Keep [] w W → W.cell? ⟨V.r, 11, none⟩ = some (.int .i64 (N.commit : Int)) ∧ W.cell? ⟨V.r, 16, none⟩ = some (.slice (some ⟨g, 0, none⟩) N.nx.length N.nx.length) ∧ W.cell? ⟨g, i, none⟩ = some (.int .i64 ((N.nx.getD i 0 : Nat) : Int))) := fun W hk => ⟨(hk.cell (p := ⟨V.r, 11, none⟩) hrl (by simp)).trans c11, (hk.cell (p := ⟨V.r, 16, none⟩) hrl (by simp)).trans c16, (hk.cell (p := ⟨g, i, none⟩) hgl (by simp)).trans hgc⟩
  have H := Lib.hid h
  have HT1 := Lib.hid T1
  have HT2 := Lib.hid T2
  have HT3 := Lib.hid T3
  clear h T1 T2 T3 hlk hgb hS ht hg
  have hx1 : IntKind.i64.wrap (((N.nx.getD i 0 : Nat) : Int) - 1) = ((N.nx.getD i 0 : Nat) : Int) - 1 := IntWalk.i64_in _ (by omega)
  generalize N.nx.getD i 0 = x at *
  generalize N.nx.length = nl at *
  have d1 : decide ((i : Int) < (nl : Int)) = true := by simp; omega
  go_enter Tryz.func79, Tryz.ntmps79
  go_wp2_with (first
    | (go_at_call 47; refine (HT1.out _ H.out).mono ?_; rintro e w1 ⟨rfl, n1, rfl⟩)
    | fail)
  go_region_held3 (fun w' => w'.cell? ⟨V.r, 11, none⟩ = some (.int .i64 (N.commit : Int)) ∧ w'.cell? ⟨V.r, 16, none⟩ = some (.slice (some ⟨g, 0, none⟩) nl nl) ∧ w'.cell? ⟨g, i, none⟩ = some (.int .i64 (x : Int)))
    (first
      | (refine HS.out _ ?_; (repeat (first | exact Keep.refl _ _ | exact HK5.out | refine Keep.drew ?_ | refine Keep.drewN ?_ _ | refine Keep.alloc ?_ _)); done)
      | exact S6.out
      | go_keep)
    (first
      | (go_at_call 45; refine (HT2.out _ (H.out.grow (by repeat (first | exact Keep.refl _ _ | refine Keep.drew ?_ | refine Keep.drewN ?_ _ | refine Keep.alloc ?_ _)))).mono ?_; rintro e w5 ⟨A5, c5, rfl, hO, hk⟩; have HO := Lib.hid hO; have HK5 : Hid (Keep [] w w5) := Keep.trans' (M := []) (by repeat (first | exact Keep.refl _ _ | refine Keep.drew ?_ | refine Keep.drewN ?_ _ | refine Keep.alloc ?_ _)) hk (by simp); have HB5 : Hid (∀ k, (Value.slice A5 (N.st.from_ x 4).length c5).ownBlock = some k → w.heap.size ≤ k ∧ k < w5.heap.size) := (fun k e => ⟨(hO.lt k e).1, (hO.lt k e).2⟩); clear hO hk)
      | (go_at_call 80; refine (HT3.out _ _ (H.out.grow (Keep.trans (M := []) HK5.out (by repeat (first | exact Keep.refl _ _ | refine Keep.drew ?_ | refine Keep.drewN ?_ _ | refine Keep.alloc ?_ _)))) (EntsAt.keep_nil (own_ents HO.out) (by repeat (first | exact Keep.refl _ _ | refine Keep.drew ?_ | refine Keep.drewN ?_ _ | refine Keep.alloc ?_ _))) HB5.out (Keep.trans (M := []) HK5.out (by repeat (first | exact Keep.refl _ _ | refine Keep.drew ?_ | refine Keep.drewN ?_ _ | refine Keep.alloc ?_ _)))).mono ?_; rintro e w6 ⟨rfl, V6, hN6, hT6, s1, s2, s3⟩; have S6 : Hid (w6.cell? ⟨V.r, 11, none⟩ = some (.int .i64 (N.commit : Int)) ∧ w6.cell? ⟨V.r, 16, none⟩ = some (.slice (some ⟨g, 0, none⟩) nl nl) ∧ w6.cell? ⟨g, i, none⟩ = some (.int .i64 (x : Int))) := ⟨s1, s2, s3⟩; clear s1 s2 s3))
  all_goals
    go_wp2
    ((try simp only [Exit.inBlock, Exit.then]); refine bodyPost_ret (results_none rfl _ _ _) rfl ?_)
    exact ⟨rfl, V6, hN6, hT6⟩
set_option maxRecDepth 100000 in
set_option maxHeartbeats 2000000 in
theorem lacks_install (h : NodeAt w V N D) (hS : N.Sm) (i : Nat) (hi : i < N.nx.length) (ht : N.st.termAt (N.nx.getD i 0 - 1) = none) (hout : N.out.length ≤ 1000000) :
    Calls Tryz.prog 79 #[.pointer (some ⟨V.r, 0, none⟩), .int .i64 (i : Int)] w fun e w' => e = .returned (.tuple #[]) ∧ ∃ V', NodeAt w' V' (N.lacks i) D ∧ NodeTo V V' w w' := by
  obtain ⟨g, hg, hgb, hgc⟩ := h.rest.ne.cell (i := i) (by rw [nums_len]; exact hi)
  rw [nums_at _ _ hi] at hgc
  have hx := hS.nxs (N.nx.getD i 0) (by rw [List.getD_eq_getElem?_getD, List.getElem?_eq_getElem hi]; exact List.getElem_mem hi)
  have hlk : N.lack i = ⟨5, (N.id : Int), (i : Int), (N.st.term : Int), (N.st.base : Int), (N.st.baseTerm : Int), (N.commit : Int), false, [], N.st.snap⟩ := by unfold Rn.lack; rw [ht]
  have hbs := hS.base
  have T1 : ∀ W, NodeAt W V N D → Calls Tryz.prog 47 #[.pointer (some ⟨V.r, 3, none⟩), .int .i64 ((N.nx.getD i 0 : Nat) - 1 : Int)] W fun e w' => e = .returned (.tuple #[.int .i64 0, .bool false]) ∧ ∃ n, w' = W.drewN n := fun W hW => by
    have := termAtO_calls N.st V.lg hW.sto (N.nx.getD i 0 - 1) (by omega) (by omega)
    rw [ht, Int.ofNat_sub hx.1] at this
    exact this
  have T3 : ∀ W, NodeAt W V N D → Keep [] w W → Calls Tryz.prog 80 #[.pointer (some ⟨V.r, 0, none⟩), .agg #[.int .i64 5, .int .i64 0, .int .i64 (i : Int), .int .i64 0, .int .i64 (N.st.base : Int), .int .i64 (N.st.baseTerm : Int), .int .i64 (N.commit : Int), .bool false, .slice none 0 0, .string (bs N.st.snap)]] W fun e w' => e = .returned (.tuple #[]) ∧ ∃ V', NodeAt w' V' (N.lacks i) D ∧ NodeTo V V' w w' ∧ w'.cell? ⟨V.r, 5, none⟩ = some (.int .i64 (N.st.base : Int)) ∧ w'.cell? ⟨V.r, 6, none⟩ = some (.int .i64 (N.st.baseTerm : Int)) ∧ w'.cell? ⟨V.r, 7, none⟩ = some (.string (bs N.st.snap)) ∧ w'.cell? ⟨V.r, 11, none⟩ = some (.int .i64 (N.commit : Int)) := fun W hW hk => by
    have := send_calls hW ⟨5, 0, (i : Int), 0, (N.st.base : Int), (N.st.baseTerm : Int), (N.commit : Int), false, [], N.st.snap⟩ (.slice none 0 0) ⟨none, 0, rfl, fun h => absurd rfl h⟩ (fun k e => by cases e) (by rw [hW.outs_len]; exact hout)
    refine this.mono ?_
    rintro e w' ⟨rfl, ou', h1, h2, h3⟩
    have e1 : N.send ⟨5, 0, (i : Int), 0, (N.st.base : Int), (N.st.baseTerm : Int), (N.commit : Int), false, [], N.st.snap⟩ = N.lacks i := by
      unfold Rn.lacks Rn.send
      rw [hlk]
    exact ⟨rfl, _, e1 ▸ h1, sent_to hk h2 h3 (fun k e => by cases e), h1.blk.cell 5, h1.blk.cell 6, h1.blk.cell 7, h1.blk.cell 11⟩
  have c16 : w.cell? ⟨V.r, 16, none⟩ = some (arrV V.ne N.nx.length) := h.blk.cell 16
  rw [hg] at c16
  change w.cell? ⟨V.r, 16, none⟩ = some (.slice (some ⟨g, 0, none⟩) N.nx.length N.nx.length) at c16
  have hrl := h.blk.lt
  have HS : Hid (∀ W, Keep [] w W → W.cell? ⟨V.r, 5, none⟩ = some (.int .i64 (N.st.base : Int)) ∧ W.cell? ⟨V.r, 6, none⟩ = some (.int .i64 (N.st.baseTerm : Int)) ∧ W.cell? ⟨V.r, 7, none⟩ = some (.string (bs N.st.snap)) ∧ W.cell? ⟨V.r, 11, none⟩ = some (.int .i64 (N.commit : Int))) := fun W hk => by
    have h1 := h.blk.keep hk (by simp)
    exact ⟨h1.cell 5, h1.cell 6, h1.cell 7, h1.cell 11⟩
  have H := Lib.hid h
  have HT1 := Lib.hid T1
  have HT3 := Lib.hid T3
  clear h T1 T3 hlk hgb hS ht hg
  have hx1 : IntKind.i64.wrap (((N.nx.getD i 0 : Nat) : Int) - 1) = ((N.nx.getD i 0 : Nat) : Int) - 1 := IntWalk.i64_in _ (by omega)
  generalize N.nx.getD i 0 = x at *
  generalize N.nx.length = nl at *
  have d1 : decide ((i : Int) < (nl : Int)) = true := by simp; omega
  go_enter Tryz.func79, Tryz.ntmps79
  go_wp2_with (first
    | (go_at_call 47; refine (HT1.out _ H.out).mono ?_; rintro e w1 ⟨rfl, n1, rfl⟩)
    | fail)
  go_region_held3 (fun w' => w'.cell? ⟨V.r, 5, none⟩ = some (.int .i64 (N.st.base : Int)) ∧ w'.cell? ⟨V.r, 6, none⟩ = some (.int .i64 (N.st.baseTerm : Int)) ∧ w'.cell? ⟨V.r, 7, none⟩ = some (.string (bs N.st.snap)) ∧ w'.cell? ⟨V.r, 11, none⟩ = some (.int .i64 (N.commit : Int)))
    (first
      | (refine HS.out _ ?_; (repeat (first | exact Keep.refl _ _ | refine Keep.drew ?_ | refine Keep.drewN ?_ _ | refine Keep.alloc ?_ _)); done)
      | exact S6.out
      | go_keep)
    (first
      | (go_at_call 80; refine (HT3.out _ (H.out.grow (by repeat (first | exact Keep.refl _ _ | refine Keep.drew ?_ | refine Keep.drewN ?_ _ | refine Keep.alloc ?_ _))) (by repeat (first | exact Keep.refl _ _ | refine Keep.drew ?_ | refine Keep.drewN ?_ _ | refine Keep.alloc ?_ _))).mono ?_; rintro e w6 ⟨rfl, V6, hN6, hT6, s1, s2, s3, s4⟩; have S6 : Hid (w6.cell? ⟨V.r, 5, none⟩ = some (.int .i64 (N.st.base : Int)) ∧ w6.cell? ⟨V.r, 6, none⟩ = some (.int .i64 (N.st.baseTerm : Int)) ∧ w6.cell? ⟨V.r, 7, none⟩ = some (.string (bs N.st.snap)) ∧ w6.cell? ⟨V.r, 11, none⟩ = some (.int .i64 (N.commit : Int))) := ⟨s1, s2, s3, s4⟩; clear s1 s2 s3 s4))
  all_goals
    go_end0
    exact ⟨rfl, V6, hN6, hT6⟩

theorem lacks_calls (h : NodeAt w V N D) (hS : N.Sm) (i : Nat) (hi : i < N.nx.length) (hout : N.out.length ≤ 1000000) :
    Calls Tryz.prog 79 #[.pointer (some ⟨V.r, 0, none⟩), .int .i64 (i : Int)] w fun e w' => e = .returned (.tuple #[]) ∧ ∃ V', NodeAt w' V' (N.lacks i) D ∧ NodeTo V V' w w' := by
  cases ht : N.st.termAt (N.nx.getD i 0 - 1) with
  | none => exact lacks_install h hS i hi ht hout
  | some t => exact lacks_more h hS i hi t ht hout

theorem Rn.Sm.told_ {k : Nat} (h : N.Sm) (hk : k ≤ 5) (ho : N.out.length ≤ 999995) : (N.told k).Sm :=
  ⟨h.n, h.id, h.term, h.base, h.baseTerm, h.snap, h.log, h.ents, h.commit, h.applied, h.timer, (by
    have h1 : (others k N.id).length ≤ k := by
      unfold others
      exact Nat.le_trans (List.length_filter_le _ _) (by simp)
    simp only [Rn.told, List.length_append, List.length_map]
    omega), h.mt, h.nx, h.votes, h.nxs, h.mts⟩
theorem told_len (N : Rn) (k : Nat) : (N.told k).out.length ≤ N.out.length + k := by
  have h1 : (others k N.id).length ≤ k := by
    unfold others
    exact Nat.le_trans (List.length_filter_le _ _) (by simp)
  simp only [Rn.told, List.length_append, List.length_map]
  omega
theorem told_succ (N : Rn) (k : Nat) : N.told (k + 1) = if k = N.id then N.told k else (N.told k).lacks k := by
  by_cases h : k = N.id
  · rw [if_pos h]
    unfold Rn.told
    rw [others_succ, if_pos h]
  · rw [if_neg h]
    unfold Rn.told Rn.lacks
    rw [others_succ, if_neg h, List.map_append]
    simp [Rn.lack]

set_option maxRecDepth 100000 in
set_option maxHeartbeats 2000000 in
theorem sendAll_calls (h : NodeAt w V N D) (hS : N.Sm) (hnx : N.nx.length = N.n) (hout : N.out.length ≤ 999990) :
    Calls Tryz.prog 42 #[.pointer (some ⟨V.r, 0, none⟩)] w fun e w' => e = .returned (.tuple #[]) ∧ ∃ V', NodeAt w' V' N.sendAll D ∧ NodeTo V V' w w' := by
  have c2 : w.cell? ⟨V.r, 2, none⟩ = some (.int .i64 (N.n : Int)) := h.blk.cell 2
  have h0 : N.told 0 = N := by simp [Rn.told, others]
  have hn5 := hS.n
  have hid := hS.id
  have HST : Hid (∀ k, k < N.n → ∀ W U, NodeAt W U (N.told k) D → NodeTo V U w W → k ≠ N.id → Calls Tryz.prog 79 #[.pointer (some ⟨V.r, 0, none⟩), .int .i64 (k : Int)] W fun e w' => e = .returned (.tuple #[]) ∧ ∃ V', NodeAt w' V' (N.told (k + 1)) D ∧ NodeTo V V' w w') := fun k hk W U hW hT hne => by
    have hr := hT.r
    have := lacks_calls hW (hS.told_ (by omega) (by omega)) k (by show k < N.nx.length; omega) (by have := told_len N k; omega)
    rw [hr] at this
    refine this.mono ?_
    rintro e w' ⟨rfl, V', h1, h2⟩
    rw [told_succ, if_neg hne]
    exact ⟨rfl, V', h1, hT.trans h2⟩
  have HSK : Hid (N.told (N.id + 1) = N.told N.id) := by
    show N.told (N.id + 1) = N.told N.id
    rw [told_succ, if_pos rfl]
  have H : Hid (NodeAt w V (N.told 0) D) := by rw [h0]; exact h
  clear h hS h0 hnx hout
  go_enter Tryz.func42, Tryz.ntmps42
  go_wp2
  go_loopw [2, 7] (fun _ vi wr => ∃ k U, k ≤ N.n ∧ vi = .int .i64 ((k : Nat) : Int) ∧ NodeAt wr U (N.told k) D ∧ NodeTo V U w wr) (fun _ vi _ => N.n - (intOf vi).toNat)
  case atStart => exact ⟨0, V, Nat.zero_le _, rfl, H.out, NodeTo.refl _ _⟩
  case round =>
    obtain ⟨k, U, hk, rfl, hU, hT⟩ := hrel
    have hr := hT.r
    have c1 : wr.cell? ⟨U.r, 1, none⟩ = some (.int .i64 (N.id : Int)) := hU.blk.cell 1
    rw [hr] at c1
    have HU := Lib.hid hU
    have HTT := Lib.hid hT
    clear hU hT hr
    by_cases hlt : k < N.n
    · have d1 : decide ((k : Int) < (N.n : Int)) = true := by simp; omega
      by_cases hne : k = N.id
      · have d2 : ((k : Int) != (N.id : Int)) = false := by simp; omega
        go_wp2
        go_roundw
        case rel =>
          refine ⟨k + 1, U, by omega, by go_num, ?_, HTT.out⟩
          rw [hne, HSK.out, ← hne]
          exact HU.out
        case measure => simp [intOf]; omega
      · have d2 : ((k : Int) != (N.id : Int)) = true := by simp; omega
        go_wp2_with (go_at_call 79; refine (HST.out k hlt _ U HU.out HTT.out hne).mono ?_; rintro e w3 ⟨rfl, U3, h3, t3⟩; have H3 := Lib.hid h3; have HT3 := Lib.hid t3; clear h3 t3)
        go_roundw
        case rel => exact ⟨k + 1, U3, by omega, by go_num, H3.out, HT3.out⟩
        case measure => simp [intOf]; omega
    · have d1 : decide ((k : Int) < (N.n : Int)) = false := by simp; omega
      have hkn : k = N.n := by omega
      go_wp2
      go_end0
      subst hkn
      exact ⟨rfl, U, HU.out, HTT.out⟩
end

end Go.Proofs.YtnlcipocobmgiaaGreatDoor
