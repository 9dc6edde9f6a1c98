/- The contract of (*raft.Node).send. -/
import Derived.Test.YtnlcipocobmgiaaGreatDoorRaft1
import Derived.Test.YtnlcipocobmgiaaGreatDoorRegionK
import Derived.Deep.AppendLies
import Derived.RegionTactic
import Derived.Outline
import Derived.StillTailTactics
namespace Go.Proofs.YtnlcipocobmgiaaGreatDoor
open Go.RowKit
attribute [local go_sem] size_bs bs_append bs_extract

theorem Tryz.info56 : (Tryz.prog.info? 56).map (fun i => (i.zero, i.size, i.bytes)) = some (some (.agg #[.int .i64 0, .int .i64 0, .int .i64 0, .int .i64 0, .int .i64 0, .int .i64 0, .int .i64 0, .bool false, .slice none 0 0, .string ⟨#[]⟩]), 10, 104) := by kernel_rfl
/-- append of one element, in a region that draws its order. -/
theorem step_append1 {P : Program} {ops : Array Oper} {o : Oper} {a : Act} {K : Act → World → Prop} {Q : Exit → Act → World → Prop} {E : Prop} {W : World} {p n : Nat} {v : Value} {t e : TypeId} {i : TypeInfo} {z : Value} {size bytes : Nat} {xs news : List Value}
    (hgd : o.guard = none) (s1 x1 : Operand) (ho : o.op = .call { callee := .builtin .append, args := #[s1, x1], argTypes := #[t, t] }) (ht : P.underlying t = some (.slice e)) (hi : P.info? e = some i) (hz : i.zero = some z) (hsize : i.size = size) (hby : i.bytes = bytes) (hzs : z.cells.size = size) (hsz : 0 < size)
    (hs : a.eval s1 = v) (hx : a.eval x1 = .slice (some ⟨p, 0, none⟩) 1 1) (hown : W.ownsRow 0 e size v n xs) (hlit : Blk W p e news.toArray) (hl : news.length = size) (h1 : ∀ u ∈ news, u.oneCell' = true) (h63 : n + 1 ≤ maxLen) (hb : (n + 1) * bytes ≤ 140737488355328)
    (h : ∀ g cap w', w'.ownsRow 0 e size (.slice (some ⟨g, 0, none⟩) (n + 1) cap) (n + 1) (xs ++ news) → Keep v.ownBlock.toList W w' → (v.ownBlock = some g ∨ g = W.heap.size) → K (a.put o.dst (.slice (some ⟨g, 0, none⟩) (n + 1) cap)) w') :
    if Region.wanted o (yielded ops a.tmps) = true then Oper.wp P o a W K Q else E := by
  refine step_append_lies W hgd s1 x1 t ho 0 e i z size bytes ht hi hz hsize hby hzs hsz v n xs hs hown ⟨p, 0, none⟩ 1 1 news hx (by omega) (fun j u hu => ?_) h1 (by omega) h63 hb (Nat.zero_le _) W.heap.size rfl ?_
  · rw [Go.WideShapes.add_plain, hlit.cell, Nat.zero_add]
    simpa using hu
  · intro g cap w' h2 h3 h4 _
    exact h g cap w' h2 ((Keep.refl _ _).grown h3 (fun k hk => .inl (by simp [hk]))) h4
theorem Mg.one (y : Mg) (A : Option Addr) (n c : Nat) : ∀ u ∈ y.cells (.slice A n c), u.oneCell' = true := by simp [Mg.cells, Value.oneCell']

section
variable {w : World} {V : Nv} {N : Rn} {D : Dk}
/-- The node behind an append to its messages. -/
theorem NodeAt.sent {w1 w2 : World} {ou' : Value} {p : Mg × Value} (h : NodeAt w V N D) (hE : EntsAt w p.2 p.1.ents) (hE2 : ∀ k, p.2.ownBlock = some k → k < w.heap.size ∧ k ∉ V.fp) (hk1 : Keep V.ou.ownBlock.toList w w1)
    (hown : w1.ownsRow 0 56 10 ou' (V.outs.length + 1) (msgsV V.outs ++ p.1.cells p.2)) (hat : ∀ k, ou'.ownBlock = some k → V.ou.ownBlock = some k ∨ w.heap.size ≤ k) (hw2 : w2 = w1.setCell ⟨V.r, 17, none⟩ ou') :
    NodeAt w2 { V with ou := ou', outs := V.outs ++ [p] } { N with out := N.out ++ [p.1] } D ∧ Keep V.fp w w2 := by
  subst hw2
  obtain ⟨r1, r2, r3, r4, r5, r6, r7⟩ := h.r_ne
  have R := h.rest
  have hM : ∀ x, x ∈ V.ou.ownBlock.toList → V.ou.ownBlock = some x := fun x hx => by simpa using hx
  have hne : ∀ {t : TypeId} {cs : Array Value} {g : Nat}, Blk w g t cs → 56 ≠ t → g ∉ V.ou.ownBlock.toList := fun hb ht hg => own_blk_ne R.ou hb ht (hM _ hg)
  have hmap : V.m ∉ V.ou.ownBlock.toList := fun hg => by
    have e := hM _ hg
    rcases R.ou.2 with ⟨e', _⟩ | ⟨g', cap, cur, e', _, hh, _⟩
    · rw [e'] at e; cases e
    · rw [e'] at e
      have : g' = V.m := by simpa [Value.ownBlock] using e
      subst this
      obtain ⟨es, c, h3, _⟩ := R.disk.map
      rw [h3] at hh
      cases hh
  have hlg : ∀ k, V.lg.ownBlock = some k → k ∉ V.ou.ownBlock.toList := fun k e hg => by
    rcases R.log.2 with ⟨e', _⟩ | ⟨g', cap, cur, e', _, hh, _⟩
    · rw [e'] at e; cases e
    · rw [e'] at e
      have : g' = k := by simpa [Value.ownBlock] using e
      subst this
      exact hne (t := 62) hh (by decide) hg
  have hk2 : Keep [V.r] w1 (w1.setCell ⟨V.r, 17, none⟩ ou') := (Keep.refl _ _).setCell (.inl (by simp)) _
  have hk : Keep (V.r :: V.ou.ownBlock.toList) w (w1.setCell ⟨V.r, 17, none⟩ ou') := (hk1.mono (fun x hx => .inl (List.mem_cons_of_mem _ hx))).trans' hk2 (fun x hx => by simp at hx; exact .inl (by simp [hx]))
  have no : ∀ k, k ≠ V.r → k ∉ V.ou.ownBlock.toList → k ∉ V.r :: V.ou.ownBlock.toList := fun k h1 h2 => by simp only [List.mem_cons, not_or]; exact ⟨h1, h2⟩
  have hfp : ∀ x ∈ V.r :: V.ou.ownBlock.toList, x ∈ V.fp := fun x hx => by
    rcases List.mem_cons.1 hx with h | h
    · exact Nv.mem.2 (.inl h)
    · exact Nv.mem.2 (.inr (.inr (.inr (.inr (.inr (.inr (.inr (hM _ h))))))))
  have hfp' : ∀ x ∈ ({ V with ou := ou', outs := V.outs ++ [p] } : Nv).fp, x ∈ V.fp ∨ w.heap.size ≤ x := fun x hx => by
    rcases Nv.mem.1 hx with h | h | h | h | h | h | h | h
    · exact .inl (Nv.mem.2 (.inl h))
    · exact .inl (Nv.mem.2 (.inr (.inl h)))
    · exact .inl (Nv.mem.2 (.inr (.inr (.inl h))))
    · exact .inl (Nv.mem.2 (.inr (.inr (.inr (.inl h)))))
    · exact .inl (Nv.mem.2 (.inr (.inr (.inr (.inr (.inl h))))))
    · exact .inl (Nv.mem.2 (.inr (.inr (.inr (.inr (.inr (.inl h)))))))
    · exact .inl (Nv.mem.2 (.inr (.inr (.inr (.inr (.inr (.inr (.inl h))))))))
    · rcases hat x h with h | h
      · exact .inl (Nv.mem.2 (.inr (.inr (.inr (.inr (.inr (.inr (.inr h))))))))
      · exact .inr h
  have hb1 := h.blk.keep hk1 (hne h.blk (by decide))
  have hour : ∀ k, ou'.ownBlock = some k → k ∉ [V.r] := fun k e hx => by
    simp at hx
    rcases hat k e with h1 | h1
    · exact r7 (hx ▸ h1)
    · have := h.blk.lt; omega
  have arr : ∀ {t : TypeId} {o : Option Nat} {xs : List Value}, 56 ≠ t → o ≠ some V.r → ArrAt w t o xs → ArrAt (w1.setCell ⟨V.r, 17, none⟩ ou') t o xs := fun ht hr ha => ha.keep hk (fun g e => by
    subst e
    exact no _ (fun e => hr (e ▸ rfl)) (hne ha ht))
  refine ⟨⟨hb1.set_ 17 ou', R.disk.keep hk (no _ (Ne.symm r1) (hne R.disk.blk (by decide))) (no _ (Ne.symm r2) hmap), hk.owns R.log (fun k e => no k (by rintro rfl; exact r3 e) (hlg k e)), arr (by decide) r4 R.vo, arr (by decide) r5 R.ma, arr (by decide) r6 R.ne, R.dis, ?_, ?_, ?_, R.tab.keep hk (fun hx => R.tn (hfp _ hx)), ?_⟩, hk.mono (fun x hx => .inl (hfp x hx))⟩
  · have e1 : msgsV (V.outs ++ [p]) = msgsV V.outs ++ p.1.cells p.2 := by simp [msgsV]
    show (w1.setCell ⟨V.r, 17, none⟩ ou').ownsRow 0 56 10 ou' (V.outs ++ [p]).length (msgsV (V.outs ++ [p]))
    rw [e1, List.length_append]
    exact hk2.owns hown hour
  · show (V.outs ++ [p]).map Prod.fst = N.out ++ [p.1]
    rw [List.map_append, R.outs]; rfl
  · intro q hq
    have hq2 : EntsAt w q.2 q.1.ents ∧ ∀ k, q.2.ownBlock = some k → k < w.heap.size ∧ k ∉ V.fp := by
      rcases List.mem_append.1 hq with h1 | h1
      · exact R.es q h1
      · simp at h1; subst h1; exact ⟨hE, hE2⟩
    refine ⟨hq2.1.keepB hk (fun k e hx => (hq2.2 k e).2 (hfp k hx)), fun k e => ⟨Nat.lt_of_lt_of_le (hq2.2 k e).1 hk.size, fun hx => ?_⟩⟩
    rcases hfp' k hx with h1 | h1
    · exact (hq2.2 k e).2 h1
    · have := (hq2.2 k e).1; omega
  · intro hx
    rcases hfp' _ hx with h1 | h1
    · exact R.tn h1
    · have := World.block_lt_of_cell? _ _ (R.tab 0 (by omega)); simp at this; omega

set_option maxRecDepth 100000 in
set_option maxHeartbeats 2000000 in
theorem send_calls (h : NodeAt w V N D) (y : Mg) (v : Value) (hE : EntsAt w v y.ents) (hE2 : ∀ k, v.ownBlock = some k → k < w.heap.size ∧ k ∉ V.fp) (hl : V.outs.length ≤ 1000000) :
    Calls Tryz.prog 80 #[.pointer (some ⟨V.r, 0, none⟩), .agg #[.int .i64 y.kind, .int .i64 y.frm, .int .i64 y.to_, .int .i64 y.term, .int .i64 y.index, .int .i64 y.logTerm, .int .i64 y.commit, .bool y.ok, v, .string (bs y.snap)]] w fun e w' => e = .returned (.tuple #[]) ∧
      ∃ ou', NodeAt w' { V with ou := ou', outs := V.outs ++ [({ y with frm := (N.id : Int), term := (N.st.term : Int) }, v)] } (N.send y) D ∧ Keep V.fp w w' ∧ ∀ k, ou'.ownBlock = some k → V.ou.ownBlock = some k ∨ w.heap.size ≤ k := by
  obtain ⟨A0, c0, rfl, -⟩ := id hE
  have H := Lib.hid h
  have HE := Lib.hid hE
  have HE2 := Lib.hid hE2
  have c1 : w.cell? ⟨V.r, 1, none⟩ = some (.int .i64 (N.id : Int)) := h.blk.cell 1
  have c3 : w.cell? ⟨V.r, 3, none⟩ = some (.int .i64 (N.st.term : Int)) := h.blk.cell 3
  have hrl := h.blk.lt
  clear h hE hE2
  go_enter Tryz.func80, Tryz.ntmps80
  go_wp2
  go_region
  go_wp2_with fail
  obtain ⟨Ao, co, hou⟩ := own_slice H.out.rest.ou
  have hk1 : Keep [] w ((w.alloc (.cells #[.int .i64 y.kind, .int .i64 (N.id : Int), .int .i64 y.to_, .int .i64 (N.st.term : Int), .int .i64 y.index, .int .i64 y.logTerm, .int .i64 y.commit, .bool y.ok, .slice A0 y.ents.length c0, .string (bs y.snap)] 56)).drew) := ((Keep.refl [] w).alloc _).drew
  have hB1 : Blk ((w.alloc (.cells #[.int .i64 y.kind, .int .i64 (N.id : Int), .int .i64 y.to_, .int .i64 (N.st.term : Int), .int .i64 y.index, .int .i64 y.logTerm, .int .i64 y.commit, .bool y.ok, .slice A0 y.ents.length c0, .string (bs y.snap)] 56)).drew) w.heap.size 56 #[.int .i64 y.kind, .int .i64 (N.id : Int), .int .i64 y.to_, .int .i64 (N.st.term : Int), .int .i64 y.index, .int .i64 y.logTerm, .int .i64 y.commit, .bool y.ok, .slice A0 y.ents.length c0, .string (bs y.snap)] := Blk.new _ _ _
  have H1 := Lib.hid (H.out.grow hk1)
  have HK1 := Lib.hid hk1
  have HB1 := Lib.hid hB1
  generalize (w.alloc (.cells #[.int .i64 y.kind, .int .i64 (N.id : Int), .int .i64 y.to_, .int .i64 (N.st.term : Int), .int .i64 y.index, .int .i64 y.logTerm, .int .i64 y.commit, .bool y.ok, .slice A0 y.ents.length c0, .string (bs y.snap)] 56)).drew = W1 at *
  have HS : Hid (∀ W, Keep V.ou.ownBlock.toList W1 W → W.cell? ⟨V.r, 17, none⟩ = some (.slice Ao V.outs.length co) ∧ W.cell? ⟨w.heap.size, 0, none⟩ = some (.int .i64 y.kind) ∧ W.cell? ⟨w.heap.size, 1, none⟩ = some (.int .i64 (N.id : Int)) ∧ W.cell? ⟨w.heap.size, 2, none⟩ = some (.int .i64 y.to_) ∧ W.cell? ⟨w.heap.size, 3, none⟩ = some (.int .i64 (N.st.term : Int)) ∧ W.cell? ⟨w.heap.size, 4, none⟩ = some (.int .i64 y.index) ∧ W.cell? ⟨w.heap.size, 5, none⟩ = some (.int .i64 y.logTerm) ∧ W.cell? ⟨w.heap.size, 6, none⟩ = some (.int .i64 y.commit) ∧ W.cell? ⟨w.heap.size, 7, none⟩ = some (.bool y.ok) ∧ W.cell? ⟨w.heap.size, 8, none⟩ = some (.slice A0 y.ents.length c0) ∧ W.cell? ⟨w.heap.size, 9, none⟩ = some (.string (bs y.snap))) := fun W hk => by
    have hnr : V.r ∉ V.ou.ownBlock.toList := fun hx => H.out.r_ne.2.2.2.2.2.2 (by simpa using hx)
    have hnb : w.heap.size ∉ V.ou.ownBlock.toList := fun hx => by
      have := own_lt H.out.rest.ou (k := w.heap.size) (by simpa using hx)
      omega
    have h1 := H1.out.blk.keep hk hnr
    have h2 := HB1.out.keep hk hnb
    exact ⟨hou ▸ h1.cell 17, h2.cell 0, h2.cell 1, h2.cell 2, h2.cell 3, h2.cell 4, h2.cell 5, h2.cell 6, h2.cell 7, h2.cell 8, h2.cell 9⟩
  have HOU := Lib.hid hou
  clear c1 c3 hk1 hB1 hou
  obtain ⟨i0, hi, hz0, hz1, hz2⟩ := info_parts Tryz.info56
  refine wp_region_K (S := fun W => W.cell? ⟨V.r, 17, none⟩ = some (.slice Ao V.outs.length co) ∧ W.cell? ⟨w.heap.size, 0, none⟩ = some (.int .i64 y.kind) ∧ W.cell? ⟨w.heap.size, 1, none⟩ = some (.int .i64 (N.id : Int)) ∧ W.cell? ⟨w.heap.size, 2, none⟩ = some (.int .i64 y.to_) ∧ W.cell? ⟨w.heap.size, 3, none⟩ = some (.int .i64 (N.st.term : Int)) ∧ W.cell? ⟨w.heap.size, 4, none⟩ = some (.int .i64 y.index) ∧ W.cell? ⟨w.heap.size, 5, none⟩ = some (.int .i64 y.logTerm) ∧ W.cell? ⟨w.heap.size, 6, none⟩ = some (.int .i64 y.commit) ∧ W.cell? ⟨w.heap.size, 7, none⟩ = some (.bool y.ok) ∧ W.cell? ⟨w.heap.size, 8, none⟩ = some (.slice A0 y.ents.length c0) ∧ W.cell? ⟨w.heap.size, 9, none⟩ = some (.string (bs y.snap))) (z := 10) (by kernel_rfl) ?_
  have hHeld := HS.out W1.drew (Keep.refl _ _).drew
  refine wpAnyK_take (i := 0) (v := ?_) rfl rfl (by kernel_rfl) (by kernel_rfl) (by kernel_rfl) (by kernel_rfl) (by kernel_rfl) (fun _ _ _ h => h) (by rfl) ?_ hHeld ?_
  rotate_left
  · rintro W ⟨s0, s1, s2, s3, s4, s5, s6, s7, s8, s9, s10⟩
    go_simp
    with_reducible rfl
  try simp only [Act.put]
  refine wpAnyK_take (i := 1) (v := ?_) rfl rfl (by kernel_rfl) (by kernel_rfl) (by kernel_rfl) (by kernel_rfl) (by kernel_rfl) (fun _ _ _ h => h) (by rfl) ?_ hHeld ?_
  rotate_left
  · rintro W ⟨s0, s1, s2, s3, s4, s5, s6, s7, s8, s9, s10⟩
    go_simp
    with_reducible rfl
  try simp only [Act.put]
  refine wpAnyK_take (i := 2) (v := ?_) rfl rfl (by kernel_rfl) (by kernel_rfl) (by kernel_rfl) (by kernel_rfl) (by kernel_rfl) (fun _ _ _ h => h) (by rfl) ?_ hHeld ?_
  rotate_left
  · rintro W ⟨s0, s1, s2, s3, s4, s5, s6, s7, s8, s9, s10⟩
    go_simp
    with_reducible rfl
  try simp only [Act.put]
  refine wpAnyK_take (i := 3) (v := ?_) rfl rfl (by kernel_rfl) (by kernel_rfl) (by kernel_rfl) (by kernel_rfl) (by kernel_rfl) (fun _ _ _ h => h) (by rfl) ?_ hHeld ?_
  rotate_left
  · rintro W ⟨s0, s1, s2, s3, s4, s5, s6, s7, s8, s9, s10⟩
    go_simp
    with_reducible rfl
  try simp only [Act.put]
  refine wpAnyK_take (i := 4) (v := ?_) rfl rfl (by kernel_rfl) (by kernel_rfl) (by kernel_rfl) (by kernel_rfl) (by kernel_rfl) (fun _ _ _ h => h) (by rfl) ?_ hHeld ?_
  rotate_left
  · rintro W ⟨s0, s1, s2, s3, s4, s5, s6, s7, s8, s9, s10⟩
    go_simp
    with_reducible rfl
  try simp only [Act.put]
  refine wpAnyK_take (i := 5) (v := ?_) rfl rfl (by kernel_rfl) (by kernel_rfl) (by kernel_rfl) (by kernel_rfl) (by kernel_rfl) (fun _ _ _ h => h) (by rfl) ?_ hHeld ?_
  rotate_left
  · rintro W ⟨s0, s1, s2, s3, s4, s5, s6, s7, s8, s9, s10⟩
    go_simp
    with_reducible rfl
  try simp only [Act.put]
  refine wpAnyK_one (k := 6) (by kernel_rfl) rfl (fun K hK => ?_)
  go_simp
  refine hK.out _ _ (fun _ => HS.out _ (by repeat (first | exact Keep.refl _ _ | refine Keep.drew ?_ | refine Keep.drewN ?_ _ | refine Keep.alloc ?_ _))) ?_
  clear hK K hHeld
  try simp only [Act.put]
  refine wpAnyK_one (k := 7) (by kernel_rfl) rfl (fun K hK => ?_)
  refine step_append1 (n := V.outs.length) (xs := msgsV V.outs) (news := ({ y with frm := (N.id : Int), term := (N.st.term : Int) } : Mg).cells (.slice A0 y.ents.length c0)) rfl (.tmp 19) (.tmp 21) rfl Tryz.underlying59 hi hz0 hz1 hz2 rfl (by omega) rfl rfl (by have := (H1.out.rest.ou); rw [HOU.out] at this; exact Keep.owns (M := []) (by repeat (first | exact Keep.refl _ _ | refine Keep.drew ?_ | refine Keep.drewN ?_ _ | refine Keep.alloc ?_ _)) this (by simp)) (Blk.new _ _ _) rfl (Mg.one _ _ _ _) (by unfold maxLen; omega) (by omega) ?_
  intro g cap w6 hown6 hk6 hat6
  rw [← HOU.out] at hk6 hat6
  have HK6 : Hid (Keep V.ou.ownBlock.toList W1 w6) := Keep.trans' (M := V.ou.ownBlock.toList) (by repeat (first | exact Keep.refl _ _ | refine Keep.drew ?_ | refine Keep.drewN ?_ _ | refine Keep.alloc ?_ _)) hk6 (fun x hx => .inl hx)
  have HAT : Hid (∀ k, (Value.slice (some ⟨g, 0, none⟩) (V.outs.length + 1) cap).ownBlock = some k → V.ou.ownBlock = some k ∨ W1.heap.size ≤ k) := fun k e => by
    have e' : g = k := by simpa [Value.ownBlock] using e
    subst e'
    rcases hat6 with h1 | h1
    · exact .inl h1
    · simp at h1
      exact .inr (by omega)
  have HOWN6 := Lib.hid hown6
  have hnr : V.r ∉ V.ou.ownBlock.toList := fun hx => H.out.r_ne.2.2.2.2.2.2 (by simpa using hx)
  have hbr := H1.out.blk.keep HK6.out hnr
  have z17 : w6.cell? ⟨V.r, 17, none⟩ = some V.ou := hbr.cell 17
  have zf : w6.frozen? ⟨V.r, 17, none⟩ = false := hbr.frozen 17
  rw [HOU.out] at z17
  clear hown6 hk6 hat6 hbr hnr
  refine hK.out _ _ (fun _ => HS.out _ HK6.out) ?_
  clear hK K
  have hHeld := HS.out _ HK6.out
  try simp only [Act.put]
  refine wpAnyK_one (k := 8) (by kernel_rfl) rfl (fun K hK => ?_)
  go_simp
  refine hK.out _ _ (fun _ => hHeld) ?_
  clear hK K
  try simp only [Act.put]
  refine wpAnyK_one (k := 9) (by kernel_rfl) rfl (fun K hK => ?_)
  go_simp
  refine hK.out _ _ (fun _ => hHeld) ?_
  clear hK K
  try simp only [Act.put]
  refine wpAnyK_one (k := 10) (by kernel_rfl) rfl (fun K hK => ?_)
  go_simp
  refine hK.out _ _ (fun h => absurd rfl h) ?_
  clear hK K hHeld
  refine wpAnyK_done (by kernel_rfl) ?_
  go_end0
  obtain ⟨hN, hk⟩ := H1.out.sent (p := ({ y with frm := (N.id : Int), term := (N.st.term : Int) }, .slice A0 y.ents.length c0)) (HE.out.keep_nil HK1.out) (fun k e => ⟨Nat.lt_of_lt_of_le (HE2.out k e).1 HK1.out.size, (HE2.out k e).2⟩) HK6.out HOWN6.out HAT.out rfl
  exact ⟨rfl, _, hN, (HK1.out.nil_).trans hk, fun k e => (HAT.out k e).imp id (fun h => Nat.le_trans HK1.out.size h)⟩
end

end Go.Proofs.YtnlcipocobmgiaaGreatDoor
/- The contracts of (*raft.Node).lacks and sendAll. -/
namespace Go.Proofs.YtnlcipocobmgiaaGreatDoor
open Go.RowKit
attribute [local go_sem] size_bs bs_append bs_extract

section
variable {w : World} {V : Nv} {N : Rn} {D : Dk}
theorem NodeAt.outs_len (h : NodeAt w V N D) : V.outs.length = N.out.length := by rw [← h.rest.outs, List.length_map]
/-- An array's cell. -/
theorem ArrAt.cell {t : TypeId} {o : Option Nat} {xs : List Value} (h : ArrAt w t o xs) {i : Nat} (hi : i < xs.length) : ∃ g, o = some g ∧ Blk w g t xs.toArray ∧ w.cell? ⟨g, i, none⟩ = some xs[i] := by
  cases o with
  | none => change xs = [] at h; subst h; simp at hi
  | some g => exact ⟨g, rfl, h, by rw [Blk.cell h]; simp [hi]⟩
theorem nums_at (l : List Nat) (i : Nat) (h : i < l.length) : (nums l)[i]'(by simpa [nums] using h) = .int .i64 ((l.getD i 0 : Nat) : Int) := by simp [nums, List.getD, h]
theorem nums_len (l : List Nat) : (nums l).length = l.length := by simp [nums]
/-- What send leaves, as a step of the node. -/
theorem sent_to {w0 w1 w2 : World} {ou' : Value} {p : Mg × Value} (hk0 : Keep [] w0 w1) (hk : Keep V.fp w1 w2) (hat : ∀ k, ou'.ownBlock = some k → V.ou.ownBlock = some k ∨ w1.heap.size ≤ k) (hp : ∀ k, p.2.ownBlock = some k → w0.heap.size ≤ k) (hr : Roomy p.2) :
    NodeTo V { V with ou := ou', outs := V.outs ++ [p] } w0 w2 :=
  ⟨(hk0.nil_).trans hk, fun x hx => by
    rcases Nv.mem.1 hx with h | h | h | h | h | h | h | h
    · exact .inl (Nv.mem.2 (.inl h))
    · exact .inl (Nv.mem.2 (.inr (.inl h)))
    · exact .inl (Nv.mem.2 (.inr (.inr (.inl h))))
    · exact .inl (Nv.mem.2 (.inr (.inr (.inr (.inl h)))))
    · exact .inl (Nv.mem.2 (.inr (.inr (.inr (.inr (.inl h))))))
    · exact .inl (Nv.mem.2 (.inr (.inr (.inr (.inr (.inr (.inl h)))))))
    · exact .inl (Nv.mem.2 (.inr (.inr (.inr (.inr (.inr (.inr (.inl h))))))))
    · rcases hat x h with h | h
      · exact .inl (Nv.mem.2 (.inr (.inr (.inr (.inr (.inr (.inr (.inr h))))))))
      · exact .inr (Nat.le_trans hk0.size h), fun q hq => by
    rcases List.mem_append.1 hq with h | h
    · exact .inl h
    · simp at h; subst h; exact .inr ⟨hp, hr⟩, rfl, rfl, rfl⟩

set_option maxRecDepth 100000 in
set_option maxHeartbeats 2000000 in
theorem lacks_more (h : NodeAt w V N D) (hS : N.Sm) (i : Nat) (hi : i < N.nx.length) (t : Nat) (ht : N.st.termAt (N.nx.getD i 0 - 1) = some t) (hout : N.out.length ≤ 1000000) :
    Calls Tryz.prog 79 #[.pointer (some ⟨V.r, 0, none⟩), .int .i64 (i : Int)] w fun e w' => e = .returned (.tuple #[]) ∧ ∃ V', NodeAt w' V' (N.lacks i) D ∧ NodeTo V V' w w' := by
  obtain ⟨g, hg, hgb, hgc⟩ := h.rest.ne.cell (i := i) (by rw [nums_len]; exact hi)
  rw [nums_at _ _ hi] at hgc
  have hx := hS.nxs (N.nx.getD i 0) (by rw [List.getD_eq_getElem?_getD, List.getElem?_eq_getElem hi]; exact List.getElem_mem hi)
  have hlk : N.lack i = ⟨3, (N.id : Int), (i : Int), (N.st.term : Int), ((N.nx.getD i 0 - 1 : Nat) : Int), (t : Int), (N.commit : Int), false, N.st.from_ (N.nx.getD i 0) 4, []⟩ := by unfold Rn.lack; rw [ht]
  have hbs := hS.base
  have hlg := hS.log
  have T1 : ∀ W, NodeAt W V N D → Calls Tryz.prog 47 #[.pointer (some ⟨V.r, 3, none⟩), .int .i64 ((N.nx.getD i 0 : Nat) - 1 : Int)] W fun e w' => e = .returned (.tuple #[.int .i64 (t : Int), .bool true]) ∧ ∃ n, w' = W.drewN n := fun W hW => by
    have := termAtO_calls N.st V.lg hW.sto (N.nx.getD i 0 - 1) (by omega) (by omega)
    rw [ht, Int.ofNat_sub hx.1] at this
    exact this
  have T2 : ∀ W, NodeAt W V N D → Calls Tryz.prog 45 #[.pointer (some ⟨V.r, 3, none⟩), .int .i64 (N.nx.getD i 0 : Nat), .int .i64 4] W fun e w' => ∃ A c, e = .returned (.slice A (N.st.from_ (N.nx.getD i 0) 4).length c) ∧ w'.ownsRow W.heap.size 62 3 (.slice A (N.st.from_ (N.nx.getD i 0) 4).length c) (N.st.from_ (N.nx.getD i 0) 4).length (entsV (N.st.from_ (N.nx.getD i 0) 4)) ∧ Keep [] W w' := fun W hW =>
    fromO_calls N.st V.lg hW.sto (N.nx.getD i 0) 4 (by omega) (by omega) (by omega) (by omega)
  have T3 : ∀ W (v : Value), NodeAt W V N D → EntsAt W v (N.st.from_ (N.nx.getD i 0) 4) → (∀ k, v.ownBlock = some k → w.heap.size ≤ k ∧ k < W.heap.size) → Keep [] w W → Roomy v → Calls Tryz.prog 80 #[.pointer (some ⟨V.r, 0, none⟩), .agg #[.int .i64 3, .int .i64 0, .int .i64 (i : Int), .int .i64 0, .int .i64 ((N.nx.getD i 0 : Nat) - 1 : Int), .int .i64 (t : Int), .int .i64 (N.commit : Int), .bool false, v, .string { data := #[] }]] W fun e w' => e = .returned (.tuple #[]) ∧ ∃ V', NodeAt w' V' (N.lacks i) D ∧ NodeTo V V' w w' ∧ w'.cell? ⟨V.r, 11, none⟩ = some (.int .i64 (N.commit : Int)) ∧ w'.cell? ⟨V.r, 16, none⟩ = some (.slice (some ⟨g, 0, none⟩) N.nx.length N.nx.length) ∧ w'.cell? ⟨g, i, none⟩ = some (.int .i64 (N.nx.getD i 0 : Nat)) := fun W v hW hv hb hk hrm => by
    have := send_calls hW ⟨3, 0, (i : Int), 0, ((N.nx.getD i 0 - 1 : Nat) : Int), (t : Int), (N.commit : Int), false, N.st.from_ (N.nx.getD i 0) 4, []⟩ v hv (fun k e => ⟨(hb k e).2, fun hx => by have h1 := h.fp_lt k hx; have h2 := (hb k e).1; omega⟩) (by rw [hW.outs_len]; exact hout)
    rw [Int.ofNat_sub hx.1] at this
    refine this.mono ?_
    rintro e w' ⟨rfl, ou', h1, h2, h3⟩
    have e1 : N.send ⟨3, 0, (i : Int), 0, ((N.nx.getD i 0 : Nat) - 1 : Int), (t : Int), (N.commit : Int), false, N.st.from_ (N.nx.getD i 0) 4, []⟩ = N.lacks i := by
      unfold Rn.lacks Rn.send
      rw [hlk, Int.ofNat_sub hx.1]
      rfl
    have h16 : w'.cell? ⟨V.r, 16, none⟩ = some (arrV V.ne N.nx.length) := h1.blk.cell 16
    rw [hg] at h16
    have hgn := h1.rest.ne
    obtain ⟨g', hg', _, hgc'⟩ := hgn.cell (i := i) (by rw [nums_len]; exact hi)
    change V.ne = some g' at hg'
    rw [hg] at hg'
    injection hg' with hg'
    subst hg'
    change w'.cell? ⟨g, i, none⟩ = some ((nums N.nx)[i]'(by rw [nums_len]; exact hi)) at hgc'
    rw [nums_at _ _ hi] at hgc'
    exact ⟨rfl, _, e1 ▸ h1, sent_to hk h2 h3 (fun k e => (hb k e).1) hrm, h1.blk.cell 11, h16, hgc'⟩
  have c11 : w.cell? ⟨V.r, 11, none⟩ = some (.int .i64 (N.commit : Int)) := h.blk.cell 11
  have c16 : w.cell? ⟨V.r, 16, none⟩ = some (arrV V.ne N.nx.length) := h.blk.cell 16
  rw [hg] at c16
  change w.cell? ⟨V.r, 16, none⟩ = some (.slice (some ⟨g, 0, none⟩) N.nx.length N.nx.length) at c16
  have hrl := h.blk.lt
  have hgl := hgb.lt
  have HS : Hid (∀ W, Keep [] w W → W.cell? ⟨V.r, 11, none⟩ = some (.int .i64 (N.commit : Int)) ∧ W.cell? ⟨V.r, 16, none⟩ = some (.slice (some ⟨g, 0, none⟩) N.nx.length N.nx.length) ∧ W.cell? ⟨g, i, none⟩ = some (.int .i64 ((N.nx.getD i 0 : Nat) : Int))) := fun W hk => ⟨(hk.cell (p := ⟨V.r, 11, none⟩) hrl (by simp)).trans c11, (hk.cell (p := ⟨V.r, 16, none⟩) hrl (by simp)).trans c16, (hk.cell (p := ⟨g, i, none⟩) hgl (by simp)).trans hgc⟩
  have H := Lib.hid h
  have HT1 := Lib.hid T1
  have HT2 := Lib.hid T2
  have HT3 := Lib.hid T3
  clear h T1 T2 T3 hlk hgb hS ht hg
  have hx1 : IntKind.i64.wrap (((N.nx.getD i 0 : Nat) : Int) - 1) = ((N.nx.getD i 0 : Nat) : Int) - 1 := IntWalk.i64_in _ (by omega)
  generalize N.nx.getD i 0 = x at *
  generalize N.nx.length = nl at *
  have d1 : decide ((i : Int) < (nl : Int)) = true := by simp; omega
  go_enter Tryz.func79, Tryz.ntmps79
  go_wp2_with (first
    | (go_at_call 47; refine (HT1.out _ H.out).mono ?_; rintro e w1 ⟨rfl, n1, rfl⟩)
    | fail)
  go_region_held3 (fun w' => w'.cell? ⟨V.r, 11, none⟩ = some (.int .i64 (N.commit : Int)) ∧ w'.cell? ⟨V.r, 16, none⟩ = some (.slice (some ⟨g, 0, none⟩) nl nl) ∧ w'.cell? ⟨g, i, none⟩ = some (.int .i64 (x : Int)))
    (first
      | (refine HS.out _ ?_; (repeat (first | exact Keep.refl _ _ | exact HK5.out | refine Keep.drew ?_ | refine Keep.drewN ?_ _ | refine Keep.alloc ?_ _)); done)
      | exact S6.out
      | go_keep)
    (first
      | (go_at_call 45; refine (HT2.out _ (H.out.grow (by repeat (first | exact Keep.refl _ _ | refine Keep.drew ?_ | refine Keep.drewN ?_ _ | refine Keep.alloc ?_ _)))).mono ?_; rintro e w5 ⟨A5, c5, rfl, hO, hk⟩; have HO := Lib.hid hO; have HK5 : Hid (Keep [] w w5) := Keep.trans' (M := []) (by repeat (first | exact Keep.refl _ _ | refine Keep.drew ?_ | refine Keep.drewN ?_ _ | refine Keep.alloc ?_ _)) hk (by simp); have HB5 : Hid (∀ k, (Value.slice A5 (N.st.from_ x 4).length c5).ownBlock = some k → w.heap.size ≤ k ∧ k < w5.heap.size) := (fun k e => ⟨(hO.lt k e).1, (hO.lt k e).2⟩); clear hO hk)
      | (go_at_call 80; refine (HT3.out _ _ (H.out.grow (Keep.trans (M := []) HK5.out (by repeat (first | exact Keep.refl _ _ | refine Keep.drew ?_ | refine Keep.drewN ?_ _ | refine Keep.alloc ?_ _)))) (EntsAt.keep_nil (own_ents HO.out) (by repeat (first | exact Keep.refl _ _ | refine Keep.drew ?_ | refine Keep.drewN ?_ _ | refine Keep.alloc ?_ _))) HB5.out (Keep.trans (M := []) HK5.out (by repeat (first | exact Keep.refl _ _ | refine Keep.drew ?_ | refine Keep.drewN ?_ _ | refine Keep.alloc ?_ _))) (own_room HO.out)).mono ?_; rintro e w6 ⟨rfl, V6, hN6, hT6, s1, s2, s3⟩; have S6 : Hid (w6.cell? ⟨V.r, 11, none⟩ = some (.int .i64 (N.commit : Int)) ∧ w6.cell? ⟨V.r, 16, none⟩ = some (.slice (some ⟨g, 0, none⟩) nl nl) ∧ w6.cell? ⟨g, i, none⟩ = some (.int .i64 (x : Int))) := ⟨s1, s2, s3⟩; clear s1 s2 s3))
  all_goals
    go_wp2
    ((try simp only [Exit.inBlock, Exit.then]); refine bodyPost_ret (results_none rfl _ _ _) rfl ?_)
    exact ⟨rfl, V6, hN6, hT6⟩
set_option maxRecDepth 100000 in
set_option maxHeartbeats 2000000 in
theorem lacks_install (h : NodeAt w V N D) (hS : N.Sm) (i : Nat) (hi : i < N.nx.length) (ht : N.st.termAt (N.nx.getD i 0 - 1) = none) (hout : N.out.length ≤ 1000000) :
    Calls Tryz.prog 79 #[.pointer (some ⟨V.r, 0, none⟩), .int .i64 (i : Int)] w fun e w' => e = .returned (.tuple #[]) ∧ ∃ V', NodeAt w' V' (N.lacks i) D ∧ NodeTo V V' w w' := by
  obtain ⟨g, hg, hgb, hgc⟩ := h.rest.ne.cell (i := i) (by rw [nums_len]; exact hi)
  rw [nums_at _ _ hi] at hgc
  have hx := hS.nxs (N.nx.getD i 0) (by rw [List.getD_eq_getElem?_getD, List.getElem?_eq_getElem hi]; exact List.getElem_mem hi)
  have hlk : N.lack i = ⟨5, (N.id : Int), (i : Int), (N.st.term : Int), (N.st.base : Int), (N.st.baseTerm : Int), (N.commit : Int), false, [], N.st.snap⟩ := by unfold Rn.lack; rw [ht]
  have hbs := hS.base
  have T1 : ∀ W, NodeAt W V N D → Calls Tryz.prog 47 #[.pointer (some ⟨V.r, 3, none⟩), .int .i64 ((N.nx.getD i 0 : Nat) - 1 : Int)] W fun e w' => e = .returned (.tuple #[.int .i64 0, .bool false]) ∧ ∃ n, w' = W.drewN n := fun W hW => by
    have := termAtO_calls N.st V.lg hW.sto (N.nx.getD i 0 - 1) (by omega) (by omega)
    rw [ht, Int.ofNat_sub hx.1] at this
    exact this
  have T3 : ∀ W, NodeAt W V N D → Keep [] w W → Calls Tryz.prog 80 #[.pointer (some ⟨V.r, 0, none⟩), .agg #[.int .i64 5, .int .i64 0, .int .i64 (i : Int), .int .i64 0, .int .i64 (N.st.base : Int), .int .i64 (N.st.baseTerm : Int), .int .i64 (N.commit : Int), .bool false, .slice none 0 0, .string (bs N.st.snap)]] W fun e w' => e = .returned (.tuple #[]) ∧ ∃ V', NodeAt w' V' (N.lacks i) D ∧ NodeTo V V' w w' ∧ w'.cell? ⟨V.r, 5, none⟩ = some (.int .i64 (N.st.base : Int)) ∧ w'.cell? ⟨V.r, 6, none⟩ = some (.int .i64 (N.st.baseTerm : Int)) ∧ w'.cell? ⟨V.r, 7, none⟩ = some (.string (bs N.st.snap)) ∧ w'.cell? ⟨V.r, 11, none⟩ = some (.int .i64 (N.commit : Int)) := fun W hW hk => by
    have := send_calls hW ⟨5, 0, (i : Int), 0, (N.st.base : Int), (N.st.baseTerm : Int), (N.commit : Int), false, [], N.st.snap⟩ (.slice none 0 0) ⟨none, 0, rfl, fun h => absurd rfl h⟩ (fun k e => by cases e) (by rw [hW.outs_len]; exact hout)
    refine this.mono ?_
    rintro e w' ⟨rfl, ou', h1, h2, h3⟩
    have e1 : N.send ⟨5, 0, (i : Int), 0, (N.st.base : Int), (N.st.baseTerm : Int), (N.commit : Int), false, [], N.st.snap⟩ = N.lacks i := by
      unfold Rn.lacks Rn.send
      rw [hlk]
    exact ⟨rfl, _, e1 ▸ h1, sent_to hk h2 h3 (fun k e => by cases e) roomy_nil, h1.blk.cell 5, h1.blk.cell 6, h1.blk.cell 7, h1.blk.cell 11⟩
  have c16 : w.cell? ⟨V.r, 16, none⟩ = some (arrV V.ne N.nx.length) := h.blk.cell 16
  rw [hg] at c16
  change w.cell? ⟨V.r, 16, none⟩ = some (.slice (some ⟨g, 0, none⟩) N.nx.length N.nx.length) at c16
  have hrl := h.blk.lt
  have HS : Hid (∀ W, Keep [] w W → W.cell? ⟨V.r, 5, none⟩ = some (.int .i64 (N.st.base : Int)) ∧ W.cell? ⟨V.r, 6, none⟩ = some (.int .i64 (N.st.baseTerm : Int)) ∧ W.cell? ⟨V.r, 7, none⟩ = some (.string (bs N.st.snap)) ∧ W.cell? ⟨V.r, 11, none⟩ = some (.int .i64 (N.commit : Int))) := fun W hk => by
    have h1 := h.blk.keep hk (by simp)
    exact ⟨h1.cell 5, h1.cell 6, h1.cell 7, h1.cell 11⟩
  have H := Lib.hid h
  have HT1 := Lib.hid T1
  have HT3 := Lib.hid T3
  clear h T1 T3 hlk hgb hS ht hg
  have hx1 : IntKind.i64.wrap (((N.nx.getD i 0 : Nat) : Int) - 1) = ((N.nx.getD i 0 : Nat) : Int) - 1 := IntWalk.i64_in _ (by omega)
  generalize N.nx.getD i 0 = x at *
  generalize N.nx.length = nl at *
  have d1 : decide ((i : Int) < (nl : Int)) = true := by simp; omega
  go_enter Tryz.func79, Tryz.ntmps79
  go_wp2_with (first
    | (go_at_call 47; refine (HT1.out _ H.out).mono ?_; rintro e w1 ⟨rfl, n1, rfl⟩)
    | fail)
  go_region_held3 (fun w' => w'.cell? ⟨V.r, 5, none⟩ = some (.int .i64 (N.st.base : Int)) ∧ w'.cell? ⟨V.r, 6, none⟩ = some (.int .i64 (N.st.baseTerm : Int)) ∧ w'.cell? ⟨V.r, 7, none⟩ = some (.string (bs N.st.snap)) ∧ w'.cell? ⟨V.r, 11, none⟩ = some (.int .i64 (N.commit : Int)))
    (first
      | (refine HS.out _ ?_; (repeat (first | exact Keep.refl _ _ | refine Keep.drew ?_ | refine Keep.drewN ?_ _ | refine Keep.alloc ?_ _)); done)
      | exact S6.out
      | go_keep)
    (first
      | (go_at_call 80; refine (HT3.out _ (H.out.grow (by repeat (first | exact Keep.refl _ _ | refine Keep.drew ?_ | refine Keep.drewN ?_ _ | refine Keep.alloc ?_ _))) (by repeat (first | exact Keep.refl _ _ | refine Keep.drew ?_ | refine Keep.drewN ?_ _ | refine Keep.alloc ?_ _))).mono ?_; rintro e w6 ⟨rfl, V6, hN6, hT6, s1, s2, s3, s4⟩; have S6 : Hid (w6.cell? ⟨V.r, 5, none⟩ = some (.int .i64 (N.st.base : Int)) ∧ w6.cell? ⟨V.r, 6, none⟩ = some (.int .i64 (N.st.baseTerm : Int)) ∧ w6.cell? ⟨V.r, 7, none⟩ = some (.string (bs N.st.snap)) ∧ w6.cell? ⟨V.r, 11, none⟩ = some (.int .i64 (N.commit : Int))) := ⟨s1, s2, s3, s4⟩; clear s1 s2 s3 s4))
  all_goals
    go_end0
    exact ⟨rfl, V6, hN6, hT6⟩

theorem lacks_calls (h : NodeAt w V N D) (hS : N.Sm) (i : Nat) (hi : i < N.nx.length) (hout : N.out.length ≤ 1000000) :
    Calls Tryz.prog 79 #[.pointer (some ⟨V.r, 0, none⟩), .int .i64 (i : Int)] w fun e w' => e = .returned (.tuple #[]) ∧ ∃ V', NodeAt w' V' (N.lacks i) D ∧ NodeTo V V' w w' := by
  cases ht : N.st.termAt (N.nx.getD i 0 - 1) with
  | none => exact lacks_install h hS i hi ht hout
  | some t => exact lacks_more h hS i hi t ht hout

theorem Rn.Sm.told_ {k : Nat} (h : N.Sm) (hk : k ≤ 5) (ho : N.out.length ≤ 999995) : (N.told k).Sm :=
  ⟨h.n, h.id, h.term, h.base, h.baseTerm, h.snap, h.log, h.ents, h.commit, h.applied, h.timer, (by
    have h1 : (others k N.id).length ≤ k := by
      unfold others
      exact Nat.le_trans (List.length_filter_le _ _) (by simp)
    simp only [Rn.told, List.length_append, List.length_map]
    omega), h.mt, h.nx, h.votes, h.nxs, h.mts⟩
theorem told_len (N : Rn) (k : Nat) : (N.told k).out.length ≤ N.out.length + k := by
  have h1 : (others k N.id).length ≤ k := by
    unfold others
    exact Nat.le_trans (List.length_filter_le _ _) (by simp)
  simp only [Rn.told, List.length_append, List.length_map]
  omega
theorem told_succ (N : Rn) (k : Nat) : N.told (k + 1) = if k = N.id then N.told k else (N.told k).lacks k := by
  by_cases h : k = N.id
  · rw [if_pos h]
    unfold Rn.told
    rw [others_succ, if_pos h]
  · rw [if_neg h]
    unfold Rn.told Rn.lacks
    rw [others_succ, if_neg h, List.map_append]
    simp [Rn.lack]

set_option maxRecDepth 100000 in
set_option maxHeartbeats 2000000 in
theorem sendAll_calls (h : NodeAt w V N D) (hS : N.Sm) (hnx : N.nx.length = N.n) (hout : N.out.length ≤ 999990) :
    Calls Tryz.prog 42 #[.pointer (some ⟨V.r, 0, none⟩)] w fun e w' => e = .returned (.tuple #[]) ∧ ∃ V', NodeAt w' V' N.sendAll D ∧ NodeTo V V' w w' := by
  have c2 : w.cell? ⟨V.r, 2, none⟩ = some (.int .i64 (N.n : Int)) := h.blk.cell 2
  have h0 : N.told 0 = N := by simp [Rn.told, others]
  have hn5 := hS.n
  have hid := hS.id
  have HST : Hid (∀ k, k < N.n → ∀ W U, NodeAt W U (N.told k) D → NodeTo V U w W → k ≠ N.id → Calls Tryz.prog 79 #[.pointer (some ⟨V.r, 0, none⟩), .int .i64 (k : Int)] W fun e w' => e = .returned (.tuple #[]) ∧ ∃ V', NodeAt w' V' (N.told (k + 1)) D ∧ NodeTo V V' w w') := fun k hk W U hW hT hne => by
    have hr := hT.r
    have := lacks_calls hW (hS.told_ (by omega) (by omega)) k (by show k < N.nx.length; omega) (by have := told_len N k; omega)
    rw [hr] at this
    refine this.mono ?_
    rintro e w' ⟨rfl, V', h1, h2⟩
    rw [told_succ, if_neg hne]
    exact ⟨rfl, V', h1, hT.trans h2⟩
  have HSK : Hid (N.told (N.id + 1) = N.told N.id) := by
    show N.told (N.id + 1) = N.told N.id
    rw [told_succ, if_pos rfl]
  have H : Hid (NodeAt w V (N.told 0) D) := by rw [h0]; exact h
  clear h hS h0 hnx hout
  go_enter Tryz.func42, Tryz.ntmps42
  go_wp2
  go_loopw [2, 7] (fun _ vi wr => ∃ k U, k ≤ N.n ∧ vi = .int .i64 ((k : Nat) : Int) ∧ NodeAt wr U (N.told k) D ∧ NodeTo V U w wr) (fun _ vi _ => N.n - (intOf vi).toNat)
  case atStart => exact ⟨0, V, Nat.zero_le _, rfl, H.out, NodeTo.refl _ _⟩
  case round =>
    obtain ⟨k, U, hk, rfl, hU, hT⟩ := hrel
    have hr := hT.r
    have c1 : wr.cell? ⟨U.r, 1, none⟩ = some (.int .i64 (N.id : Int)) := hU.blk.cell 1
    rw [hr] at c1
    have HU := Lib.hid hU
    have HTT := Lib.hid hT
    clear hU hT hr
    by_cases hlt : k < N.n
    · have d1 : decide ((k : Int) < (N.n : Int)) = true := by simp; omega
      by_cases hne : k = N.id
      · have d2 : ((k : Int) != (N.id : Int)) = false := by simp; omega
        go_wp2
        go_roundw
        case rel =>
          refine ⟨k + 1, U, by omega, by go_num, ?_, HTT.out⟩
          rw [hne, HSK.out, ← hne]
          exact HU.out
        case measure => simp [intOf]; omega
      · have d2 : ((k : Int) != (N.id : Int)) = true := by simp; omega
        go_wp2_with (go_at_call 79; refine (HST.out k hlt _ U HU.out HTT.out hne).mono ?_; rintro e w3 ⟨rfl, U3, h3, t3⟩; have H3 := Lib.hid h3; have HT3 := Lib.hid t3; clear h3 t3)
        go_roundw
        case rel => exact ⟨k + 1, U3, by omega, by go_num, H3.out, HT3.out⟩
        case measure => simp [intOf]; omega
    · have d1 : decide ((k : Int) < (N.n : Int)) = false := by simp; omega
      have hkn : k = N.n := by omega
      go_wp2
      go_end0
      subst hkn
      exact ⟨rfl, U, HU.out, HTT.out⟩
end

end Go.Proofs.YtnlcipocobmgiaaGreatDoor
/- The contract of (*raft.Node).advance. -/
namespace Go.Proofs.YtnlcipocobmgiaaGreatDoor
open Go.RowKit
attribute [local go_sem] size_bs bs_append bs_extract

theorem cnt_take (l : List Nat) (k j : Nat) (h : j < l.length) : cnt (l.take (j + 1)) k = cnt (l.take j) k + if k ≤ l.getD j 0 then 1 else 0 := by
  unfold cnt
  rw [List.take_succ_eq_append_getElem h, List.filter_append, List.length_append]
  simp only [List.getD, List.getElem?_eq_getElem h, Option.getD_some]
  split <;> rename_i hk <;> simp [hk]
theorem cnt_le (l : List Nat) (k : Nat) : cnt l k ≤ l.length := List.length_filter_le _ _
section
variable {w : World} {V : Nv} {N : Rn} {D : Dk}
theorem adv_take (l : List En) (k : Nat) (h : k < l.length) (hn : ¬ (l[k].term ≠ N.st.term ∨ l[k].index ≤ N.commit)) (hc : ¬ N.n < 2 * cnt N.mt l[k].index) : N.adv (l.take (k + 1)).reverse = N.adv (l.take k).reverse := by
  rw [List.take_succ_eq_append_getElem h, List.reverse_append]
  simp only [List.reverse_cons, List.reverse_nil, List.nil_append, List.singleton_append, Rn.adv]
  rw [if_neg hn, if_neg hc]
theorem adv_stop (l : List En) (k : Nat) (h : k < l.length) (hn : l[k].term ≠ N.st.term ∨ l[k].index ≤ N.commit) : N.adv (l.take (k + 1)).reverse = N.commit := by
  rw [List.take_succ_eq_append_getElem h, List.reverse_append]
  simp only [List.reverse_cons, List.reverse_nil, List.nil_append, List.singleton_append, Rn.adv]
  rw [if_pos hn]
theorem adv_hit (l : List En) (k : Nat) (h : k < l.length) (hn : ¬ (l[k].term ≠ N.st.term ∨ l[k].index ≤ N.commit)) (hc : N.n < 2 * cnt N.mt l[k].index) : N.adv (l.take (k + 1)).reverse = l[k].index := by
  rw [List.take_succ_eq_append_getElem h, List.reverse_append]
  simp only [List.reverse_cons, List.reverse_nil, List.nil_append, List.singleton_append, Rn.adv]
  rw [if_neg hn, if_pos hc]
theorem advance_same (h : N.adv N.st.log.reverse = N.commit) : N.advance = N := by
  unfold Rn.advance
  rw [h]

theorem adv_end {wr W w' : World} {xi : Nat} (h : NodeAt wr V N D) (hk0 : Keep [] w wr) (hk1 : Keep [] wr W) (hk : w' = W.setCell ⟨V.r, 11, none⟩ (.int .i64 (xi : Int))) : NodeAt w' V { N with commit := xi } D ∧ NodeTo V V w w' := by
  subst hk
  have h1 := h.grow hk1
  exact setR_end h1 (NodeTo.grow V (hk0.trans hk1)) ((Keep.refl _ _).setCell (.inl (by simp)) _) (h1.blk.set_ 11 _) rfl rfl rfl rfl rfl
set_option maxRecDepth 100000 in
set_option maxHeartbeats 4000000 in
theorem advance_calls (h : NodeAt w V N D) (hS : N.Sm) (hmt : N.mt.length = N.n) :
    Calls Tryz.prog 83 #[.pointer (some ⟨V.r, 0, none⟩)] w fun e w' => e = .returned (.tuple #[]) ∧ NodeAt w' V N.advance D ∧ NodeTo V V w w' := by
  obtain ⟨A, c, hlg, hcc⟩ := own_ents h.rest.log
  have c8 : w.cell? ⟨V.r, 8, none⟩ = some V.lg := h.blk.cell 8
  rw [hlg] at c8
  have hll := hS.log
  have hn5 := hS.n
  have hid := hS.id
  have H := Lib.hid h
  have HS := Lib.hid hS
  obtain ⟨gm, hgm, hmb, -⟩ := h.rest.ma.cell (i := 0) (by rw [nums_len]; omega)
  have HGM := Lib.hid hgm
  have HMB := Lib.hid hmb
  clear hgm hmb
  have HLG := Lib.hid hlg
  have HCC := Lib.hid hcc
  have HFULL : Hid (N.adv (N.st.log.take N.st.log.length).reverse = N.adv N.st.log.reverse) := by
    show N.adv (N.st.log.take N.st.log.length).reverse = N.adv N.st.log.reverse
    rw [List.take_of_length_le (Nat.le_refl _)]
  clear h hS hlg hcc
  go_enter Tryz.func83, Tryz.ntmps83
  go_wp2
  go_loopw [2] (fun vi wr => ∃ (k : Nat) (z : Int), k ≤ N.st.log.length ∧ z + 1 = (k : Int) ∧ vi = .int .i64 z ∧ N.adv (N.st.log.take k).reverse = N.adv N.st.log.reverse ∧ Keep [] w wr) (fun vi _ => (intOf vi + 1).toNat)
  case atStart => exact ⟨N.st.log.length, _, Nat.le_refl _, by omega, rfl, HFULL.out, Keep.refl _ _⟩
  case round =>
    obtain ⟨k0, z, hk0, hz1, rfl, hadv, hkw⟩ := hrel
    have HADV := Lib.hid hadv
    have HKW := Lib.hid hkw
    have HW := Lib.hid (H.out.grow hkw)
    have hrl := HW.out.blk.lt
    clear hadv hkw
    by_cases hz : k0 = 0
    · obtain rfl : z = -1 := by omega
      have hfin : N.adv N.st.log.reverse = N.commit := by rw [← HADV.out, hz]; simp [Rn.adv]
      have HF := Lib.hid hfin
      clear hfin
      go_wp2
      go_end0
      exact ⟨rfl, by rw [advance_same HF.out]; exact HW.out, NodeTo.grow V HKW.out⟩
    · obtain ⟨k, rfl⟩ : ∃ k, k0 = k + 1 := ⟨k0 - 1, by omega⟩
      obtain rfl : z = (k : Int) := by omega
      clear hz hz1
      have hkl : k < N.st.log.length := by omega
      have hne : N.st.log ≠ [] := by intro e; rw [e] at hkl; simp at hkl
      obtain ⟨g, o, rfl, hcells⟩ := HCC.out hne
      obtain ⟨e0, e1, e2⟩ := entsV_at N.st.log k hkl
      have q0 := (HKW.out.cell (p := ⟨g, o + 3 * k, none⟩) (World.block_lt_of_cell? _ _ (hcells _ _ e0)) (by simp)).trans (hcells _ _ e0)
      have q1 := (HKW.out.cell (p := ⟨g, o + (3 * k + 1), none⟩) (World.block_lt_of_cell? _ _ (hcells _ _ e1)) (by simp)).trans (hcells _ _ e1)
      have q2 := (HKW.out.cell (p := ⟨g, o + (3 * k + 2), none⟩) (World.block_lt_of_cell? _ _ (hcells _ _ e2)) (by simp)).trans (hcells _ _ e2)
      rw [Nat.mul_comm] at q0
      rw [Nat.mul_comm, ← Nat.add_assoc] at q1 q2
      have hxe := HS.out.ents N.st.log[k] (List.getElem_mem hkl)
      have HX1 := Lib.hid (adv_take (N := N) N.st.log k hkl)
      have HX2 := Lib.hid (adv_stop (N := N) N.st.log k hkl)
      have HX3 := Lib.hid (adv_hit (N := N) N.st.log k hkl)
      generalize N.st.log[k] = x at *
      obtain ⟨xi, xt, xc⟩ := x
      simp only at q0 q1 q2 hxe HX1 HX2 HX3
      have d0 : decide ((0 : Int) ≤ (k : Int)) = true := by simp
      have c8 : wr.cell? ⟨V.r, 8, none⟩ = some V.lg := HW.out.blk.cell 8
      rw [HLG.out] at c8
      have c3 : wr.cell? ⟨V.r, 3, none⟩ = some (.int .i64 (N.st.term : Int)) := HW.out.blk.cell 3
      have c11 : wr.cell? ⟨V.r, 11, none⟩ = some (.int .i64 (N.commit : Int)) := HW.out.blk.cell 11
      have c2 : wr.cell? ⟨V.r, 2, none⟩ = some (.int .i64 (N.n : Int)) := HW.out.blk.cell 2
      have hfr : wr.frozen? ⟨V.r, 11, none⟩ = false := HW.out.blk.frozen 11
      have hgl : g < wr.heap.size := World.block_lt_of_cell? _ _ q0
      clear e0 e1 e2 hcells hne
      generalize N.st.log.length = ln at *
      have d1 : decide ((k : Int) < (ln : Int)) = true := by simp; omega
      by_cases hn : xt ≠ N.st.term ∨ xi ≤ N.commit
      · have HF : Hid (N.adv N.st.log.reverse = N.commit) := by rw [← HADV.out]; exact HX2.out hn
        by_cases ht : xt = N.st.term
        · have d2 : ((xt : Int) != (N.st.term : Int)) = false := by simp [ht]
          have d3 : decide (xi ≤ N.commit) = true := by simp; omega
          clear hn
          go_wp2
          go_quiet (fail)
          go_wp2
          ((try simp only [Exit.inBlock, Exit.then]); refine bodyPost_ret (results_none rfl _ _ _) rfl ?_)
          exact ⟨rfl, by rw [advance_same HF.out]; exact HW.out.grow (by repeat (first | exact Keep.refl _ _ | refine Keep.drew ?_ | refine Keep.drewN ?_ _ | refine Keep.alloc ?_ _)), NodeTo.grow V (Keep.trans HKW.out (by repeat (first | exact Keep.refl _ _ | refine Keep.drew ?_ | refine Keep.drewN ?_ _ | refine Keep.alloc ?_ _)))⟩
        · have d2 : ((xt : Int) != (N.st.term : Int)) = true := by simp; omega
          clear hn
          go_wp2
          go_quiet (fail)
          go_wp2
          ((try simp only [Exit.inBlock, Exit.then]); refine bodyPost_ret (results_none rfl _ _ _) rfl ?_)
          exact ⟨rfl, by rw [advance_same HF.out]; exact HW.out.grow (by repeat (first | exact Keep.refl _ _ | refine Keep.drew ?_ | refine Keep.drewN ?_ _ | refine Keep.alloc ?_ _)), NodeTo.grow V (Keep.trans HKW.out (by repeat (first | exact Keep.refl _ _ | refine Keep.drew ?_ | refine Keep.drewN ?_ _ | refine Keep.alloc ?_ _)))⟩
      · have d2 : ((xt : Int) != (N.st.term : Int)) = false := by simp; omega
        have d3 : decide (xi ≤ N.commit) = false := by simp; omega
        have HN := Lib.hid hn
        have c15 : wr.cell? ⟨V.r, 15, none⟩ = some (arrV V.ma N.mt.length) := HW.out.blk.cell 15
        rw [HGM.out, hmt] at c15
        change wr.cell? ⟨V.r, 15, none⟩ = some (.slice (some ⟨gm, 0, none⟩) N.n N.n) at c15
        have HMC : Hid (∀ j, j < N.n → wr.cell? ⟨gm, j, none⟩ = some (.int .i64 ((N.mt.getD j 0 : Nat) : Int))) := fun j hj => by
          rw [(HMB.out.keep HKW.out (by simp)).cell j]
          have h1 : j < N.mt.length := by omega
          have h2 := nums_at N.mt j h1
          simp [h1, nums_len, h2]
        have hgml : gm < wr.heap.size := (HMB.out.keep HKW.out (by simp)).lt
        have hxi := hxe.1
        clear hn
        go_wp2
        go_quiet (fail)
        go_wp2
        go_loop [4, 48] (fun vn vj => ∃ j : Nat, j ≤ N.n ∧ vj = .int .i64 (j : Int) ∧ vn = .int .i64 ((cnt (N.mt.take j) xi : Nat) : Int)) (fun _ vj => N.n - (intOf vj).toNat)
        case atStart => exact ⟨0, Nat.zero_le _, rfl, rfl⟩
        case round =>
          obtain ⟨j, hj, rfl, rfl⟩ := hrel
          have hcl := cnt_le (N.mt.take j) xi
          have hcl2 : (N.mt.take j).length ≤ N.n := by rw [List.length_take]; omega
          by_cases hlt : j < N.n
          · have d4 : decide ((j : Int) < (N.n : Int)) = true := by simp; omega
            have m0 := HMC.out j hlt
            have HCT := Lib.hid (cnt_take N.mt xi j (by omega))
            generalize N.mt.getD j 0 = mj at *
            by_cases hge : xi ≤ mj
            · have d5 : decide (xi ≤ mj) = true := by simpa using hge
              go_wp2
              go_round
              case rel => exact ⟨j + 1, by omega, by go_num, by rw [HCT.out, if_pos hge]; go_num⟩
              case measure => simp [intOf]; omega
            · have d5 : decide (xi ≤ mj) = false := by simpa using hge
              go_wp2
              go_round
              case rel => exact ⟨j + 1, by omega, by go_num, by rw [HCT.out, if_neg hge]; go_num⟩
              case measure => simp [intOf]; omega
          · have d4 : decide ((j : Int) < (N.n : Int)) = false := by simp; omega
            have htk : N.mt.take j = N.mt := List.take_of_length_le (by omega)
            rw [htk] at hcl ⊢
            generalize cnt N.mt xi = cn at *

            clear htk
            have hcn5 : cn ≤ 5 := by omega
            have w1 : IntKind.i64.wrap (2 * (cn : Int)) = 2 * (cn : Int) := IntWalk.i64_in _ (by omega)
            by_cases hmaj : N.n < 2 * cn
            · have d6 : decide ((N.n : Int) < 2 * (cn : Int)) = true := by simp; omega
              have HAV : Hid (N.advance = { N with commit := xi }) := by
                show N.advance = { N with commit := xi }
                unfold Rn.advance
                rw [← HADV.out, HX3.out HN.out hmaj]
              go_wp2
              ((try simp only [Exit.inBlock, Exit.then]); refine bodyPost_ret (results_none rfl _ _ _) rfl ?_)
              rw [HAV.out]
              refine ⟨rfl, adv_end HW.out HKW.out ?_ rfl⟩
              exact (by repeat (first | exact Keep.refl _ _ | refine Keep.drew ?_ | refine Keep.drewN ?_ _ | refine Keep.alloc ?_ _))
            · have d6 : decide ((N.n : Int) < 2 * (cn : Int)) = false := by simp; omega
              go_wp2
              go_roundw
              case rel => exact ⟨k, (k : Int) - 1, by omega, by omega, rfl, by rw [← HADV.out]; exact (HX1.out HN.out hmaj).symm, Keep.trans HKW.out (by repeat (first | exact Keep.refl _ _ | refine Keep.drew ?_ | refine Keep.drewN ?_ _ | refine Keep.alloc ?_ _))⟩
              case measure => simp [intOf]
end

end Go.Proofs.YtnlcipocobmgiaaGreatDoor
/- The node behind an append to its entries, a store into one of its arrays. -/
namespace Go.Proofs.YtnlcipocobmgiaaGreatDoor
open Go.RowKit

theorem own_ne_map {w : World} {B : Nat} {e : TypeId} {size n : Nat} {v : Value} {xs : List Value} {m : Nat} {L : List (List UInt8 × Value)} (h : w.ownsRow B e size v n xs) (hm : MapIs w m L) : v.ownBlock ≠ some m := by
  intro he
  rcases h.2 with ⟨rfl, _⟩ | ⟨g', cap, cur, rfl, _, hh, _⟩
  · simp [Value.ownBlock] at he
  · have : g' = m := by simpa [Value.ownBlock] using he
    subst this
    obtain ⟨es, c, h3, _⟩ := hm
    rw [h3] at hh
    cases hh
theorem own_own_ne {w : World} {B B' : Nat} {e e' : TypeId} {size n size' n' : Nat} {v v' : Value} {xs xs' : List Value} (h : w.ownsRow B e size v n xs) (h' : w.ownsRow B' e' size' v' n' xs') (hne : e ≠ e') {k : Nat} (hk : v.ownBlock = some k) : v'.ownBlock ≠ some k := by
  intro hk'
  rcases h'.2 with ⟨rfl, _⟩ | ⟨g', cap, cur, rfl, _, hh, _⟩
  · simp [Value.ownBlock] at hk'
  · have : g' = k := by simpa [Value.ownBlock] using hk'
    subst this
    exact own_blk_ne h (t := e') hh hne hk

section
variable {w : World} {V : Nv} {N : Rn} {D : Dk}
/-- The node behind an append to its entries. -/
theorem NodeAt.logged {w1 w2 : World} {lg' : Value} {x : En} (h : NodeAt w V N D) (hk1 : Keep V.lg.ownBlock.toList w w1)
    (hown : w1.ownsRow 0 62 3 lg' (N.st.log.length + 1) (entsV N.st.log ++ x.cells)) (hat : ∀ k, lg'.ownBlock = some k → V.lg.ownBlock = some k ∨ w.heap.size ≤ k) (hw2 : w2 = w1.setCell ⟨V.r, 8, none⟩ lg') :
    NodeAt w2 { V with lg := lg' } { N with st := { N.st with log := N.st.log ++ [x] } } D ∧ NodeTo V { V with lg := lg' } w w2 := by
  subst hw2
  obtain ⟨r1, r2, r3, r4, r5, r6, r7⟩ := h.r_ne
  have R := h.rest
  have hM : ∀ x, x ∈ V.lg.ownBlock.toList → V.lg.ownBlock = some x := fun x hx => by simpa using hx
  have hne : ∀ {t : TypeId} {cs : Array Value} {g : Nat}, Blk w g t cs → 62 ≠ t → g ∉ V.lg.ownBlock.toList := fun hb ht hg => own_blk_ne R.log hb ht (hM _ hg)
  have hmap : V.m ∉ V.lg.ownBlock.toList := fun hg => own_ne_map R.log R.disk.map (hM _ hg)
  have hlg : ∀ k, V.ou.ownBlock = some k → k ∉ V.lg.ownBlock.toList := fun k e hg => own_own_ne R.log R.ou (by decide) (hM _ hg) e
  have hk2 : Keep [V.r] w1 (w1.setCell ⟨V.r, 8, none⟩ lg') := (Keep.refl _ _).setCell (.inl (by simp)) _
  have hk : Keep (V.r :: V.lg.ownBlock.toList) w (w1.setCell ⟨V.r, 8, none⟩ lg') := (hk1.mono (fun x hx => .inl (List.mem_cons_of_mem _ hx))).trans' hk2 (fun x hx => by simp at hx; exact .inl (by simp [hx]))
  have no : ∀ k, k ≠ V.r → k ∉ V.lg.ownBlock.toList → k ∉ V.r :: V.lg.ownBlock.toList := fun k h1 h2 => by simp only [List.mem_cons, not_or]; exact ⟨h1, h2⟩
  have hfp : ∀ x ∈ V.r :: V.lg.ownBlock.toList, x ∈ V.fp := fun x hx => by
    rcases List.mem_cons.1 hx with h | h
    · exact Nv.mem.2 (.inl h)
    · exact Nv.mem.2 (.inr (.inr (.inr (.inl (hM _ h)))))
  have hfp' : ∀ x ∈ ({ V with lg := lg' } : Nv).fp, x ∈ V.fp ∨ w.heap.size ≤ x := fun x hx => by
    rcases Nv.mem.1 hx with h | h | h | h | h | h | h | h
    · exact .inl (Nv.mem.2 (.inl h))
    · exact .inl (Nv.mem.2 (.inr (.inl h)))
    · exact .inl (Nv.mem.2 (.inr (.inr (.inl h))))
    · rcases hat x h with h | h
      · exact .inl (Nv.mem.2 (.inr (.inr (.inr (.inl h)))))
      · exact .inr h
    · exact .inl (Nv.mem.2 (.inr (.inr (.inr (.inr (.inl h))))))
    · exact .inl (Nv.mem.2 (.inr (.inr (.inr (.inr (.inr (.inl h)))))))
    · exact .inl (Nv.mem.2 (.inr (.inr (.inr (.inr (.inr (.inr (.inl h))))))))
    · exact .inl (Nv.mem.2 (.inr (.inr (.inr (.inr (.inr (.inr (.inr h))))))))
  have hb1 := h.blk.keep hk1 (hne h.blk (by decide))
  have hour : ∀ k, lg'.ownBlock = some k → k ∉ [V.r] := fun k e hx => by
    simp at hx
    rcases hat k e with h1 | h1
    · exact r3 (hx ▸ h1)
    · have := h.blk.lt; omega
  have arr : ∀ {t : TypeId} {o : Option Nat} {xs : List Value}, 62 ≠ t → o ≠ some V.r → ArrAt w t o xs → ArrAt (w1.setCell ⟨V.r, 8, none⟩ lg') t o xs := fun ht hr ha => ha.keep hk (fun g e => by
    subst e
    exact no _ (fun e => hr (e ▸ rfl)) (hne ha ht))
  refine ⟨⟨hb1.set_ 8 lg', R.disk.keep hk (no _ (Ne.symm r1) (hne R.disk.blk (by decide))) (no _ (Ne.symm r2) hmap), ?_, arr (by decide) r4 R.vo, arr (by decide) r5 R.ma, arr (by decide) r6 R.ne, R.dis, hk.owns R.ou (fun k e => no k (by rintro rfl; exact r7 e) (hlg k e)), R.outs, ?_, R.tab.keep hk (fun hx => R.tn (hfp _ hx)), ?_⟩, hk.mono (fun x hx => .inl (hfp x hx)), hfp', fun _ h => .inl h, rfl, rfl, rfl⟩
  · have e1 : entsV (N.st.log ++ [x]) = entsV N.st.log ++ x.cells := by simp [entsV]
    show (w1.setCell ⟨V.r, 8, none⟩ lg').ownsRow 0 62 3 lg' (N.st.log ++ [x]).length (entsV (N.st.log ++ [x]))
    rw [e1, List.length_append]
    exact hk2.owns hown hour
  · intro q hq
    have hq2 := R.es q hq
    refine ⟨hq2.1.keepB hk (fun k e hx => (hq2.2 k e).2 (hfp k hx)), fun k e => ⟨Nat.lt_of_lt_of_le (hq2.2 k e).1 hk.size, fun hx => ?_⟩⟩
    rcases hfp' k hx with h1 | h1
    · exact (hq2.2 k e).2 h1
    · have := (hq2.2 k e).1; omega
  · intro hx
    rcases hfp' _ hx with h1 | h1
    · exact R.tn h1
    · have := World.block_lt_of_cell? _ _ (R.tab 0 (by omega)); simp at this; omega

/-- A store into one of the arrays. -/
theorem NodeAt.setArr {w' : World} {g : Nat} {t : TypeId} {cs : Array Value} (h : NodeAt w V N D) (hb : Blk w g t cs) (ht : t = 3 ∨ t = 4) (hfp : g ∈ V.fp) (hk : Keep [g] w w')
    (N' : Rn) (hc : nodeCells V N' = nodeCells V N) (h1 : N'.st.log = N.st.log) (h5 : N'.out = N.out) (hvo : ArrAt w' 4 V.vo (bools N'.votes)) (hma : ArrAt w' 3 V.ma (nums N'.mt)) (hne : ArrAt w' 3 V.ne (nums N'.nx)) :
    NodeAt w' V N' D ∧ NodeTo V V w w' := by
  have R := h.rest
  have ne : ∀ {t' : TypeId} {cs' : Array Value} {g' : Nat}, Blk w g' t' cs' → t' ≠ 3 → t' ≠ 4 → g' ∉ [g] := fun hb' n1 n2 hx => by
    simp at hx
    subst hx
    rcases ht with rfl | rfl
    · exact Blk.ne_ hb' hb n1 rfl
    · exact Blk.ne_ hb' hb n2 rfl
  have own : ∀ {e : TypeId} {size n : Nat} {v : Value} {xs : List Value}, w.ownsRow 0 e size v n xs → e ≠ 3 → e ≠ 4 → ∀ k, v.ownBlock = some k → k ∉ [g] := fun ho n1 n2 k e hx => by
    simp at hx
    subst hx
    rcases ht with rfl | rfl
    · exact own_blk_ne ho hb n1 e
    · exact own_blk_ne ho hb n2 e
  refine ⟨⟨by rw [hc]; exact h.blk.keep hk (ne h.blk (by decide) (by decide)), R.disk.keep hk (ne R.disk.blk (by decide) (by decide)) (fun hx => by simp at hx; exact R.disk.map.ne_ hb hx), ?_, hvo, hma, hne, R.dis, hk.owns R.ou (own R.ou (by decide) (by decide)), by rw [h5]; exact R.outs, ?_, R.tab.keep hk (fun hx => by simp at hx; exact R.tn (hx ▸ hfp)), R.tn⟩, .of_keep V hk (fun x hx => by simp at hx; exact hx ▸ hfp)⟩
  · rw [h1]
    exact hk.owns R.log (own R.log (by decide) (by decide))
  · intro q hq
    have hq2 := R.es q hq
    exact ⟨hq2.1.keepB hk (fun k e hx => by simp at hx; exact (hq2.2 k e).2 (hx ▸ hfp)), fun k e => ⟨Nat.lt_of_lt_of_le (hq2.2 k e).1 hk.size, (hq2.2 k e).2⟩⟩
theorem nums_set (l : List Nat) (i k : Nat) : (nums l).toArray.setIfInBounds i (.int .i64 (k : Int)) = (nums (l.set i k)).toArray := by
  simp [nums, List.map_set]
theorem bools_set (l : List Bool) (i : Nat) (k : Bool) : (bools l).toArray.setIfInBounds i (.bool k) = (bools (l.set i k)).toArray := by
  simp [bools, List.map_set]
theorem arr_dis (h : NodeAt w V N D) {g : Nat} (hg : V.ma = some g) (hn : V.vo = some g) : False := by
  have h1 := h.rest.vo
  have h2 := h.rest.ma
  rw [hn] at h1
  rw [hg] at h2
  exact Blk.ne_ h1 h2 (by decide) rfl
theorem arr_dis2 (h : NodeAt w V N D) {g : Nat} (hg : V.ne = some g) (hn : V.vo = some g) : False := by
  have h1 := h.rest.vo
  have h2 := h.rest.ne
  rw [hn] at h1
  rw [hg] at h2
  exact Blk.ne_ h1 h2 (by decide) rfl
theorem NodeAt.setMt {w0 w' : World} {U : Nv} {g : Nat} (h : NodeAt w V N D) (hT : NodeTo U V w0 w) (hg : V.ma = some g) (i k : Nat) (hw : w' = w.setCell ⟨g, i, none⟩ (.int .i64 (k : Int))) : NodeAt w' V { N with mt := N.mt.set i k } D ∧ NodeTo U V w0 w' := by
  have hb := h.rest.ma
  rw [hg] at hb
  have hk : Keep [g] w w' := by rw [hw]; exact (Keep.refl _ _).setCell (.inl (by simp)) _
  obtain ⟨h1, h2⟩ := h.setArr hb (.inl rfl) (Nv.mem.2 (.inr (.inr (.inr (.inr (.inr (.inl hg))))))) hk { N with mt := N.mt.set i k } (by simp [nodeCells]) rfl rfl (h.rest.vo.keep hk (fun g' e hx => by simp at hx; subst hx; exact arr_dis h hg e)) (by
    rw [hg]
    have hs := Blk.set_ hb i (.int .i64 (k : Int))
    rw [nums_set] at hs
    rw [hw]
    exact hs) (h.rest.ne.keep hk (fun g' e hx => by simp at hx; subst hx; exact h.rest.dis _ hg e))
  exact ⟨h1, hT.trans h2⟩
theorem NodeAt.setNx {w0 w' : World} {U : Nv} {g : Nat} (h : NodeAt w V N D) (hT : NodeTo U V w0 w) (hg : V.ne = some g) (i k : Nat) (hw : w' = w.setCell ⟨g, i, none⟩ (.int .i64 (k : Int))) : NodeAt w' V { N with nx := N.nx.set i k } D ∧ NodeTo U V w0 w' := by
  have hb := h.rest.ne
  rw [hg] at hb
  have hk : Keep [g] w w' := by rw [hw]; exact (Keep.refl _ _).setCell (.inl (by simp)) _
  obtain ⟨h1, h2⟩ := h.setArr hb (.inl rfl) (Nv.mem.2 (.inr (.inr (.inr (.inr (.inr (.inr (.inl hg)))))))) hk { N with nx := N.nx.set i k } (by simp [nodeCells]) rfl rfl (h.rest.vo.keep hk (fun g' e hx => by simp at hx; subst hx; exact arr_dis2 h hg e)) (h.rest.ma.keep hk (fun g' e hx => by simp at hx; subst hx; exact h.rest.dis _ e hg)) (by
    rw [hg]
    have hs := Blk.set_ hb i (.int .i64 (k : Int))
    rw [nums_set] at hs
    rw [hw]
    exact hs)
  exact ⟨h1, hT.trans h2⟩
theorem NodeAt.setVo {w0 w' : World} {U : Nv} {g : Nat} (h : NodeAt w V N D) (hT : NodeTo U V w0 w) (hg : V.vo = some g) (i : Nat) (k : Bool) (hw : w' = w.setCell ⟨g, i, none⟩ (.bool k)) : NodeAt w' V { N with votes := N.votes.set i k } D ∧ NodeTo U V w0 w' := by
  have hb := h.rest.vo
  rw [hg] at hb
  have hk : Keep [g] w w' := by rw [hw]; exact (Keep.refl _ _).setCell (.inl (by simp)) _
  obtain ⟨h1, h2⟩ := h.setArr hb (.inr rfl) (Nv.mem.2 (.inr (.inr (.inr (.inr (.inl hg)))))) hk { N with votes := N.votes.set i k } (by simp [nodeCells]) rfl rfl (by
    rw [hg]
    have hs := Blk.set_ hb i (.bool k)
    rw [bools_set] at hs
    rw [hw]
    exact hs) (h.rest.ma.keep hk (fun g' e hx => by simp at hx; subst hx; exact arr_dis h e hg)) (h.rest.ne.keep hk (fun g' e hx => by simp at hx; subst hx; exact arr_dis2 h e hg))
  exact ⟨h1, hT.trans h2⟩
end

end Go.Proofs.YtnlcipocobmgiaaGreatDoor
