/- The contract of (*raft.Node).send. -/
import Derived.Test.YtnlcipocobmgiaaGreatDoorRaft1
import Derived.Test.YtnlcipocobmgiaaGreatDoorRegionK
import Derived.Deep.AppendLies
import Derived.RegionTactic
import Derived.Outline
namespace Go.Proofs.YtnlcipocobmgiaaGreatDoor
open Go.RowKit
attribute [local go_sem] size_bs bs_append bs_extract

theorem Tryz.info56 : (Tryz.prog.info? 56).map (fun i => (i.zero, i.size, i.bytes)) = some (some (.agg #[.int .i64 0, .int .i64 0, .int .i64 0, .int .i64 0, .int .i64 0, .int .i64 0, .int .i64 0, .bool false, .slice none 0 0, .string ⟨#[]⟩]), 10, 104) := by kernel_rfl
/-- append of one element, in a region that draws its order. -/
theorem step_append1 {P : Program} {ops : Array Oper} {o : Oper} {a : Act} {K : Act → World → Prop} {Q : Exit → Act → World → Prop} {E : Prop} {W : World} {p n : Nat} {v : Value} {t e : TypeId} {i : TypeInfo} {z : Value} {size bytes : Nat} {xs news : List Value}
    (hgd : o.guard = none) (s1 x1 : Operand) (ho : o.op = .call { callee := .builtin .append, args := #[s1, x1], argTypes := #[t, t] }) (ht : P.underlying t = some (.slice e)) (hi : P.info? e = some i) (hz : i.zero = some z) (hsize : i.size = size) (hby : i.bytes = bytes) (hzs : z.cells.size = size) (hsz : 0 < size)
    (hs : a.eval s1 = v) (hx : a.eval x1 = .slice (some ⟨p, 0, none⟩) 1 1) (hown : W.ownsRow 0 e size v n xs) (hlit : Blk W p e news.toArray) (hl : news.length = size) (h1 : ∀ u ∈ news, u.oneCell' = true) (h63 : n + 1 ≤ maxLen) (hb : (n + 1) * bytes ≤ 140737488355328)
    (h : ∀ g cap w', w'.ownsRow 0 e size (.slice (some ⟨g, 0, none⟩) (n + 1) cap) (n + 1) (xs ++ news) → Keep v.ownBlock.toList W w' → (v.ownBlock = some g ∨ g = W.heap.size) → K (a.put o.dst (.slice (some ⟨g, 0, none⟩) (n + 1) cap)) w') :
    if Region.wanted o (yielded ops a.tmps) = true then Oper.wp P o a W K Q else E := by
  refine step_append_lies W hgd s1 x1 t ho 0 e i z size bytes ht hi hz hsize hby hzs hsz v n xs hs hown ⟨p, 0, none⟩ 1 1 news hx (by omega) (fun j u hu => ?_) h1 (by omega) h63 hb (Nat.zero_le _) W.heap.size rfl ?_
  · rw [Go.WideShapes.add_plain, hlit.cell, Nat.zero_add]
    simpa using hu
  · intro g cap w' h2 h3 h4 _
    exact h g cap w' h2 ((Keep.refl _ _).grown h3 (fun k hk => .inl (by simp [hk]))) h4
theorem Mg.one (y : Mg) (A : Option Addr) (n c : Nat) : ∀ u ∈ y.cells (.slice A n c), u.oneCell' = true := by simp [Mg.cells, Value.oneCell']

section
variable {w : World} {V : Nv} {N : Rn} {D : Dk}
/-- The node behind an append to its messages. -/
theorem NodeAt.sent {w1 w2 : World} {ou' : Value} {p : Mg × Value} (h : NodeAt w V N D) (hE : EntsAt w p.2 p.1.ents) (hE2 : ∀ k, p.2.ownBlock = some k → k < w.heap.size ∧ k ∉ V.fp) (hk1 : Keep V.ou.ownBlock.toList w w1)
    (hown : w1.ownsRow 0 56 10 ou' (V.outs.length + 1) (msgsV V.outs ++ p.1.cells p.2)) (hat : ∀ k, ou'.ownBlock = some k → V.ou.ownBlock = some k ∨ w.heap.size ≤ k) (hw2 : w2 = w1.setCell ⟨V.r, 17, none⟩ ou') :
    NodeAt w2 { V with ou := ou', outs := V.outs ++ [p] } { N with out := N.out ++ [p.1] } D ∧ Keep V.fp w w2 := by
  subst hw2
  obtain ⟨r1, r2, r3, r4, r5, r6, r7⟩ := h.r_ne
  have R := h.rest
  have hM : ∀ x, x ∈ V.ou.ownBlock.toList → V.ou.ownBlock = some x := fun x hx => by simpa using hx
  have hne : ∀ {t : TypeId} {cs : Array Value} {g : Nat}, Blk w g t cs → 56 ≠ t → g ∉ V.ou.ownBlock.toList := fun hb ht hg => own_blk_ne R.ou hb ht (hM _ hg)
  have hmap : V.m ∉ V.ou.ownBlock.toList := fun hg => by
    have e := hM _ hg
    rcases R.ou.2 with ⟨e', _⟩ | ⟨g', cap, cur, e', _, hh, _⟩
    · rw [e'] at e; cases e
    · rw [e'] at e
      have : g' = V.m := by simpa [Value.ownBlock] using e
      subst this
      obtain ⟨es, c, h3, _⟩ := R.disk.map
      rw [h3] at hh
      cases hh
  have hlg : ∀ k, V.lg.ownBlock = some k → k ∉ V.ou.ownBlock.toList := fun k e hg => by
    rcases R.log.2 with ⟨e', _⟩ | ⟨g', cap, cur, e', _, hh, _⟩
    · rw [e'] at e; cases e
    · rw [e'] at e
      have : g' = k := by simpa [Value.ownBlock] using e
      subst this
      exact hne (t := 62) hh (by decide) hg
  have hk2 : Keep [V.r] w1 (w1.setCell ⟨V.r, 17, none⟩ ou') := (Keep.refl _ _).setCell (.inl (by simp)) _
  have hk : Keep (V.r :: V.ou.ownBlock.toList) w (w1.setCell ⟨V.r, 17, none⟩ ou') := (hk1.mono (fun x hx => .inl (List.mem_cons_of_mem _ hx))).trans' hk2 (fun x hx => by simp at hx; exact .inl (by simp [hx]))
  have no : ∀ k, k ≠ V.r → k ∉ V.ou.ownBlock.toList → k ∉ V.r :: V.ou.ownBlock.toList := fun k h1 h2 => by simp only [List.mem_cons, not_or]; exact ⟨h1, h2⟩
  have hfp : ∀ x ∈ V.r :: V.ou.ownBlock.toList, x ∈ V.fp := fun x hx => by
    rcases List.mem_cons.1 hx with h | h
    · exact Nv.mem.2 (.inl h)
    · exact Nv.mem.2 (.inr (.inr (.inr (.inr (.inr (.inr (.inr (hM _ h))))))))
  have hfp' : ∀ x ∈ ({ V with ou := ou', outs := V.outs ++ [p] } : Nv).fp, x ∈ V.fp ∨ w.heap.size ≤ x := fun x hx => by
    rcases Nv.mem.1 hx with h | h | h | h | h | h | h | h
    · exact .inl (Nv.mem.2 (.inl h))
    · exact .inl (Nv.mem.2 (.inr (.inl h)))
    · exact .inl (Nv.mem.2 (.inr (.inr (.inl h))))
    · exact .inl (Nv.mem.2 (.inr (.inr (.inr (.inl h)))))
    · exact .inl (Nv.mem.2 (.inr (.inr (.inr (.inr (.inl h))))))
    · exact .inl (Nv.mem.2 (.inr (.inr (.inr (.inr (.inr (.inl h)))))))
    · exact .inl (Nv.mem.2 (.inr (.inr (.inr (.inr (.inr (.inr (.inl h))))))))
    · rcases hat x h with h | h
      · exact .inl (Nv.mem.2 (.inr (.inr (.inr (.inr (.inr (.inr (.inr h))))))))
      · exact .inr h
  have hb1 := h.blk.keep hk1 (hne h.blk (by decide))
  have hour : ∀ k, ou'.ownBlock = some k → k ∉ [V.r] := fun k e hx => by
    simp at hx
    rcases hat k e with h1 | h1
    · exact r7 (hx ▸ h1)
    · have := h.blk.lt; omega
  have arr : ∀ {t : TypeId} {o : Option Nat} {xs : List Value}, 56 ≠ t → o ≠ some V.r → ArrAt w t o xs → ArrAt (w1.setCell ⟨V.r, 17, none⟩ ou') t o xs := fun ht hr ha => ha.keep hk (fun g e => by
    subst e
    exact no _ (fun e => hr (e ▸ rfl)) (hne ha ht))
  refine ⟨⟨hb1.set_ 17 ou', R.disk.keep hk (no _ (Ne.symm r1) (hne R.disk.blk (by decide))) (no _ (Ne.symm r2) hmap), hk.owns R.log (fun k e => no k (by rintro rfl; exact r3 e) (hlg k e)), arr (by decide) r4 R.vo, arr (by decide) r5 R.ma, arr (by decide) r6 R.ne, R.dis, ?_, ?_, ?_, R.tab.keep hk (fun hx => R.tn (hfp _ hx)), ?_⟩, hk.mono (fun x hx => .inl (hfp x hx))⟩
  · have e1 : msgsV (V.outs ++ [p]) = msgsV V.outs ++ p.1.cells p.2 := by simp [msgsV]
    show (w1.setCell ⟨V.r, 17, none⟩ ou').ownsRow 0 56 10 ou' (V.outs ++ [p]).length (msgsV (V.outs ++ [p]))
    rw [e1, List.length_append]
    exact hk2.owns hown hour
  · show (V.outs ++ [p]).map Prod.fst = N.out ++ [p.1]
    rw [List.map_append, R.outs]; rfl
  · intro q hq
    have hq2 : EntsAt w q.2 q.1.ents ∧ ∀ k, q.2.ownBlock = some k → k < w.heap.size ∧ k ∉ V.fp := by
      rcases List.mem_append.1 hq with h1 | h1
      · exact R.es q h1
      · simp at h1; subst h1; exact ⟨hE, hE2⟩
    refine ⟨hq2.1.keepB hk (fun k e hx => (hq2.2 k e).2 (hfp k hx)), fun k e => ⟨Nat.lt_of_lt_of_le (hq2.2 k e).1 hk.size, fun hx => ?_⟩⟩
    rcases hfp' k hx with h1 | h1
    · exact (hq2.2 k e).2 h1
    · have := (hq2.2 k e).1; omega
  · intro hx
    rcases hfp' _ hx with h1 | h1
    · exact R.tn h1
    · have := World.block_lt_of_cell? _ _ (R.tab 0 (by omega)); simp at this; omega

set_option maxRecDepth 100000 in
set_option maxHeartbeats 2000000 in
theorem send_calls (h : NodeAt w V N D) (y : Mg) (v : Value) (hE : EntsAt w v y.ents) (hE2 : ∀ k, v.ownBlock = some k → k < w.heap.size ∧ k ∉ V.fp) (hl : V.outs.length ≤ 1000000) :
    Calls Tryz.prog 80 #[.pointer (some ⟨V.r, 0, none⟩), .agg #[.int .i64 y.kind, .int .i64 y.frm, .int .i64 y.to_, .int .i64 y.term, .int .i64 y.index, .int .i64 y.logTerm, .int .i64 y.commit, .bool y.ok, v, .string (bs y.snap)]] w fun e w' => e = .returned (.tuple #[]) ∧
      ∃ ou', NodeAt w' { V with ou := ou', outs := V.outs ++ [({ y with frm := (N.id : Int), term := (N.st.term : Int) }, v)] } (N.send y) D ∧ Keep V.fp w w' ∧ ∀ k, ou'.ownBlock = some k → V.ou.ownBlock = some k ∨ w.heap.size ≤ k := by
  obtain ⟨A0, c0, rfl, -⟩ := id hE
  have H := Lib.hid h
  have HE := Lib.hid hE
  have HE2 := Lib.hid hE2
  have c1 : w.cell? ⟨V.r, 1, none⟩ = some (.int .i64 (N.id : Int)) := h.blk.cell 1
  have c3 : w.cell? ⟨V.r, 3, none⟩ = some (.int .i64 (N.st.term : Int)) := h.blk.cell 3
  have hrl := h.blk.lt
  clear h hE hE2
  go_enter Tryz.func80, Tryz.ntmps80
  go_wp2
  go_region
  go_wp2_with fail
  obtain ⟨Ao, co, hou⟩ := own_slice H.out.rest.ou
  have hk1 : Keep [] w ((w.alloc (.cells #[.int .i64 y.kind, .int .i64 (N.id : Int), .int .i64 y.to_, .int .i64 (N.st.term : Int), .int .i64 y.index, .int .i64 y.logTerm, .int .i64 y.commit, .bool y.ok, .slice A0 y.ents.length c0, .string (bs y.snap)] 56)).drew) := ((Keep.refl [] w).alloc _).drew
  have hB1 : Blk ((w.alloc (.cells #[.int .i64 y.kind, .int .i64 (N.id : Int), .int .i64 y.to_, .int .i64 (N.st.term : Int), .int .i64 y.index, .int .i64 y.logTerm, .int .i64 y.commit, .bool y.ok, .slice A0 y.ents.length c0, .string (bs y.snap)] 56)).drew) w.heap.size 56 #[.int .i64 y.kind, .int .i64 (N.id : Int), .int .i64 y.to_, .int .i64 (N.st.term : Int), .int .i64 y.index, .int .i64 y.logTerm, .int .i64 y.commit, .bool y.ok, .slice A0 y.ents.length c0, .string (bs y.snap)] := Blk.new _ _ _
  have H1 := Lib.hid (H.out.grow hk1)
  have HK1 := Lib.hid hk1
  have HB1 := Lib.hid hB1
  generalize (w.alloc (.cells #[.int .i64 y.kind, .int .i64 (N.id : Int), .int .i64 y.to_, .int .i64 (N.st.term : Int), .int .i64 y.index, .int .i64 y.logTerm, .int .i64 y.commit, .bool y.ok, .slice A0 y.ents.length c0, .string (bs y.snap)] 56)).drew = W1 at *
  have HS : Hid (∀ W, Keep V.ou.ownBlock.toList W1 W → W.cell? ⟨V.r, 17, none⟩ = some (.slice Ao V.outs.length co) ∧ W.cell? ⟨w.heap.size, 0, none⟩ = some (.int .i64 y.kind) ∧ W.cell? ⟨w.heap.size, 1, none⟩ = some (.int .i64 (N.id : Int)) ∧ W.cell? ⟨w.heap.size, 2, none⟩ = some (.int .i64 y.to_) ∧ W.cell? ⟨w.heap.size, 3, none⟩ = some (.int .i64 (N.st.term : Int)) ∧ W.cell? ⟨w.heap.size, 4, none⟩ = some (.int .i64 y.index) ∧ W.cell? ⟨w.heap.size, 5, none⟩ = some (.int .i64 y.logTerm) ∧ W.cell? ⟨w.heap.size, 6, none⟩ = some (.int .i64 y.commit) ∧ W.cell? ⟨w.heap.size, 7, none⟩ = some (.bool y.ok) ∧ W.cell? ⟨w.heap.size, 8, none⟩ = some (.slice A0 y.ents.length c0) ∧ W.cell? ⟨w.heap.size, 9, none⟩ = some (.string (bs y.snap))) := fun W hk => by
    have hnr : V.r ∉ V.ou.ownBlock.toList := fun hx => H.out.r_ne.2.2.2.2.2.2 (by simpa using hx)
    have hnb : w.heap.size ∉ V.ou.ownBlock.toList := fun hx => by
      have := own_lt H.out.rest.ou (k := w.heap.size) (by simpa using hx)
      omega
    have h1 := H1.out.blk.keep hk hnr
    have h2 := HB1.out.keep hk hnb
    exact ⟨hou ▸ h1.cell 17, h2.cell 0, h2.cell 1, h2.cell 2, h2.cell 3, h2.cell 4, h2.cell 5, h2.cell 6, h2.cell 7, h2.cell 8, h2.cell 9⟩
  have HOU := Lib.hid hou
  clear c1 c3 hk1 hB1 hou
  obtain ⟨i0, hi, hz0, hz1, hz2⟩ := info_parts Tryz.info56
  refine wp_region_K (S := fun W => W.cell? ⟨V.r, 17, none⟩ = some (.slice Ao V.outs.length co) ∧ W.cell? ⟨w.heap.size, 0, none⟩ = some (.int .i64 y.kind) ∧ W.cell? ⟨w.heap.size, 1, none⟩ = some (.int .i64 (N.id : Int)) ∧ W.cell? ⟨w.heap.size, 2, none⟩ = some (.int .i64 y.to_) ∧ W.cell? ⟨w.heap.size, 3, none⟩ = some (.int .i64 (N.st.term : Int)) ∧ W.cell? ⟨w.heap.size, 4, none⟩ = some (.int .i64 y.index) ∧ W.cell? ⟨w.heap.size, 5, none⟩ = some (.int .i64 y.logTerm) ∧ W.cell? ⟨w.heap.size, 6, none⟩ = some (.int .i64 y.commit) ∧ W.cell? ⟨w.heap.size, 7, none⟩ = some (.bool y.ok) ∧ W.cell? ⟨w.heap.size, 8, none⟩ = some (.slice A0 y.ents.length c0) ∧ W.cell? ⟨w.heap.size, 9, none⟩ = some (.string (bs y.snap))) (z := 10) (by kernel_rfl) ?_
  have hHeld := HS.out W1.drew (Keep.refl _ _).drew
  refine wpAnyK_take (i := 0) (v := ?_) rfl rfl (by kernel_rfl) (by kernel_rfl) (by kernel_rfl) (by kernel_rfl) (by kernel_rfl) (fun _ _ _ h => h) (by rfl) ?_ hHeld ?_
  rotate_left
  · rintro W ⟨s0, s1, s2, s3, s4, s5, s6, s7, s8, s9, s10⟩
    go_simp
    with_reducible rfl
  try simp only [Act.put]
  refine wpAnyK_take (i := 1) (v := ?_) rfl rfl (by kernel_rfl) (by kernel_rfl) (by kernel_rfl) (by kernel_rfl) (by kernel_rfl) (fun _ _ _ h => h) (by rfl) ?_ hHeld ?_
  rotate_left
  · rintro W ⟨s0, s1, s2, s3, s4, s5, s6, s7, s8, s9, s10⟩
    go_simp
    with_reducible rfl
  try simp only [Act.put]
  refine wpAnyK_take (i := 2) (v := ?_) rfl rfl (by kernel_rfl) (by kernel_rfl) (by kernel_rfl) (by kernel_rfl) (by kernel_rfl) (fun _ _ _ h => h) (by rfl) ?_ hHeld ?_
  rotate_left
  · rintro W ⟨s0, s1, s2, s3, s4, s5, s6, s7, s8, s9, s10⟩
    go_simp
    with_reducible rfl
  try simp only [Act.put]
  refine wpAnyK_take (i := 3) (v := ?_) rfl rfl (by kernel_rfl) (by kernel_rfl) (by kernel_rfl) (by kernel_rfl) (by kernel_rfl) (fun _ _ _ h => h) (by rfl) ?_ hHeld ?_
  rotate_left
  · rintro W ⟨s0, s1, s2, s3, s4, s5, s6, s7, s8, s9, s10⟩
    go_simp
    with_reducible rfl
  try simp only [Act.put]
  refine wpAnyK_take (i := 4) (v := ?_) rfl rfl (by kernel_rfl) (by kernel_rfl) (by kernel_rfl) (by kernel_rfl) (by kernel_rfl) (fun _ _ _ h => h) (by rfl) ?_ hHeld ?_
  rotate_left
  · rintro W ⟨s0, s1, s2, s3, s4, s5, s6, s7, s8, s9, s10⟩
    go_simp
    with_reducible rfl
  try simp only [Act.put]
  refine wpAnyK_take (i := 5) (v := ?_) rfl rfl (by kernel_rfl) (by kernel_rfl) (by kernel_rfl) (by kernel_rfl) (by kernel_rfl) (fun _ _ _ h => h) (by rfl) ?_ hHeld ?_
  rotate_left
  · rintro W ⟨s0, s1, s2, s3, s4, s5, s6, s7, s8, s9, s10⟩
    go_simp
    with_reducible rfl
  try simp only [Act.put]
  refine wpAnyK_one (k := 6) (by kernel_rfl) rfl (fun K hK => ?_)
  go_simp
  refine hK.out _ _ (fun _ => HS.out _ (by repeat (first | exact Keep.refl _ _ | refine Keep.drew ?_ | refine Keep.drewN ?_ _ | refine Keep.alloc ?_ _))) ?_
  clear hK K hHeld
  try simp only [Act.put]
  refine wpAnyK_one (k := 7) (by kernel_rfl) rfl (fun K hK => ?_)
  refine step_append1 (n := V.outs.length) (xs := msgsV V.outs) (news := ({ y with frm := (N.id : Int), term := (N.st.term : Int) } : Mg).cells (.slice A0 y.ents.length c0)) rfl (.tmp 19) (.tmp 21) rfl Tryz.underlying59 hi hz0 hz1 hz2 rfl (by omega) rfl rfl (by have := (H1.out.rest.ou); rw [HOU.out] at this; exact Keep.owns (M := []) (by repeat (first | exact Keep.refl _ _ | refine Keep.drew ?_ | refine Keep.drewN ?_ _ | refine Keep.alloc ?_ _)) this (by simp)) (Blk.new _ _ _) rfl (Mg.one _ _ _ _) (by unfold maxLen; omega) (by omega) ?_
  intro g cap w6 hown6 hk6 hat6
  rw [← HOU.out] at hk6 hat6
  have HK6 : Hid (Keep V.ou.ownBlock.toList W1 w6) := Keep.trans' (M := V.ou.ownBlock.toList) (by repeat (first | exact Keep.refl _ _ | refine Keep.drew ?_ | refine Keep.drewN ?_ _ | refine Keep.alloc ?_ _)) hk6 (fun x hx => .inl hx)
  have HAT : Hid (∀ k, (Value.slice (some ⟨g, 0, none⟩) (V.outs.length + 1) cap).ownBlock = some k → V.ou.ownBlock = some k ∨ W1.heap.size ≤ k) := fun k e => by
    have e' : g = k := by simpa [Value.ownBlock] using e
    subst e'
    rcases hat6 with h1 | h1
    · exact .inl h1
    · simp at h1
      exact .inr (by omega)
  have HOWN6 := Lib.hid hown6
  have hnr : V.r ∉ V.ou.ownBlock.toList := fun hx => H.out.r_ne.2.2.2.2.2.2 (by simpa using hx)
  have hbr := H1.out.blk.keep HK6.out hnr
  have z17 : w6.cell? ⟨V.r, 17, none⟩ = some V.ou := hbr.cell 17
  have zf : w6.frozen? ⟨V.r, 17, none⟩ = false := hbr.frozen 17
  rw [HOU.out] at z17
  clear hown6 hk6 hat6 hbr hnr
  refine hK.out _ _ (fun _ => HS.out _ HK6.out) ?_
  clear hK K
  have hHeld := HS.out _ HK6.out
  try simp only [Act.put]
  refine wpAnyK_one (k := 8) (by kernel_rfl) rfl (fun K hK => ?_)
  go_simp
  refine hK.out _ _ (fun _ => hHeld) ?_
  clear hK K
  try simp only [Act.put]
  refine wpAnyK_one (k := 9) (by kernel_rfl) rfl (fun K hK => ?_)
  go_simp
  refine hK.out _ _ (fun _ => hHeld) ?_
  clear hK K
  try simp only [Act.put]
  refine wpAnyK_one (k := 10) (by kernel_rfl) rfl (fun K hK => ?_)
  go_simp
  refine hK.out _ _ (fun h => absurd rfl h) ?_
  clear hK K hHeld
  refine wpAnyK_done (by kernel_rfl) ?_
  go_end0
  obtain ⟨hN, hk⟩ := H1.out.sent (p := ({ y with frm := (N.id : Int), term := (N.st.term : Int) }, .slice A0 y.ents.length c0)) (HE.out.keep_nil HK1.out) (fun k e => ⟨Nat.lt_of_lt_of_le (HE2.out k e).1 HK1.out.size, (HE2.out k e).2⟩) HK6.out HOWN6.out HAT.out rfl
  exact ⟨rfl, _, hN, (HK1.out.nil_).trans hk, fun k e => (HAT.out k e).imp id (fun h => Nat.le_trans HK1.out.size h)⟩
end

end Go.Proofs.YtnlcipocobmgiaaGreatDoor
