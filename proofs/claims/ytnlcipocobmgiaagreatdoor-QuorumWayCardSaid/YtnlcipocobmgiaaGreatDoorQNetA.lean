/- slices.Delete of one message. -/
import Derived.Test.YtnlcipocobmgiaaGreatDoorQNet
import Derived.Deep.RegionLaw
import Derived.Lib.SliceRun
namespace Go.Proofs.YtnlcipocobmgiaaGreatDoor
open Go.RowKit
attribute [local go_sem] size_bs bs_append bs_extract

/-- Cells laid over an array's. -/
def setA (cs : Array Value) : Nat → List Value → Array Value
  | _, [] => cs
  | o, v :: r => setA (cs.setIfInBounds o v) (o + 1) r
theorem setA_size : ∀ (vs : List Value) (cs : Array Value) (o : Nat), (setA cs o vs).size = cs.size
  | [], _, _ => rfl
  | v :: r, cs, o => by rw [setA, setA_size r, Array.size_setIfInBounds]
theorem setA_list : ∀ (vs : List Value) (cs : Array Value) (o : Nat), o + vs.length ≤ cs.size → (setA cs o vs).toList = cs.toList.take o ++ vs ++ cs.toList.drop (o + vs.length)
  | [], cs, o, _ => by simp [setA]
  | v :: r, cs, o, h => by
    simp only [List.length_cons] at h
    rw [setA, setA_list r _ _ (by rw [Array.size_setIfInBounds]; omega), Array.toList_setIfInBounds]
    have hl : o < cs.toList.length := by rw [Array.length_toList]; omega
    rw [List.take_set, List.take_succ_eq_append_getElem hl, List.set_append]
    have h1 : (cs.toList.take o).length = o := by rw [List.length_take]; omega
    rw [if_neg (by omega), h1, Nat.sub_self, List.set_cons_zero, List.drop_set, if_pos (by omega)]
    simp only [List.length_cons, List.append_assoc, List.cons_append, List.nil_append]
    rw [show o + 1 + r.length = o + (r.length + 1) by omega]
theorem Blk.setCells {g : Nat} {t : TypeId} : ∀ (vs : List Value) {w : World} {cs : Array Value} (o : Nat), Blk w g t cs → Blk (w.setCells g o vs) g t (setA cs o vs)
  | [], _, _, _, h => h
  | v :: r, w, cs, o, h => by
    rw [World.setCells, setA]
    exact Blk.setCells r (o + 1) (h.set_ o v)
theorem Keep.setCells {M : List Nat} {a : World} {g : Nat} (hg : g ∈ M ∨ a.heap.size ≤ g) : ∀ (vs : List Value) {w : World} (o : Nat), Keep M a w → Keep M a (w.setCells g o vs)
  | [], _, _, h => h
  | v :: r, w, o, h => by
    rw [World.setCells]
    exact Keep.setCells hg r (o + 1) (h.setCell (p := ⟨g, o, none⟩) hg v)

/-- 'clear(s)' of one element of several cells. -/
theorem run_clear_one {P : Program} (w : World) (t e ty : TypeId) (z : Value) (ht : P.underlying t = some (.slice e)) (hv : ∀ w, (zeroValue e).run P w = .ok z w) (h1 : ∀ v ∈ z.cells.toList, v.oneCell' = true) (b o c : Nat)
    (hc : ∀ j, j < z.cells.toList.length → (w.cell? ⟨b, o + j, none⟩).isSome = true) (hf : ∀ j, j < z.cells.toList.length → w.frozen? ⟨b, o + j, none⟩ = false) :
    (Builtin.clear_ #[t] ty #[.slice (some ⟨b, o, none⟩) 1 c]).run P w = .ok (.tuple #[]) (w.setCells b o z.cells.toList) := by
  have hzc : (Builtin.zeroCells z.cells 1).toList = z.cells.toList := by
    apply List.ext_getElem
    · simp [Builtin.zeroCells]
    · intro i h1 h2
      simp only [Array.length_toList] at h2
      simp [Builtin.zeroCells, Nat.mod_eq_of_lt h2]
      rw [getElem!_pos z.cells i h2]
  have hst := run_storeCells_cells (P := P) b o z.cells.toList 0 w (by simpa using hc) (by simpa using hf) h1
  simp only [Nat.add_zero] at hst
  simp [Builtin.clear_, run_underlying ht, hv, hzc, hst]
theorem list_clear_one {P : Program} {w : World} {ops : Array Oper} {rest : List Oper} {o : Oper} {a : Act} {Q : Exit → Act → World → Prop} (hgd : o.guard = none) (s : Operand) (t e : TypeId) (ho : o.op = .call { callee := .builtin .clear, args := #[s], argTypes := #[t] }) (z : Value) (ht : P.underlying t = some (.slice e)) (hv : ∀ w, (zeroValue e).run P w = .ok z w) (h1 : ∀ v ∈ z.cells.toList, v.oneCell' = true) (b off c : Nat) (hs : a.eval s = .slice (some ⟨b, off, none⟩) 1 c)
    (hc : ∀ j, j < z.cells.toList.length → (w.cell? ⟨b, off + j, none⟩).isSome = true) (hf : ∀ j, j < z.cells.toList.length → w.frozen? ⟨b, off + j, none⟩ = false)
    (h : wpList P ops Q rest (a.put o.dst (.tuple #[])) (w.setCells b off z.cells.toList)) : wpList P ops Q (o :: rest) a w :=
  wpList_plain hgd fun _ hK => by
    have hrun := run_clear_one (P := P) w t e o.type z ht hv h1 b off c hc hf
    unfold Oper.wp execOp
    simp only [ho, resolve, invoke, builtin, Sem.run_bind, Sem.run_pure, Result.andThen_ok, List.map_toArray, List.map_cons, List.map_nil, hs, hrun]
    exact hK _ _ h

theorem msgsV_one {l : List (Mg × Value)} (h : ∀ p ∈ l, ∃ A n c, p.2 = .slice A n c) : ∀ u ∈ msgsV l, u.oneCell' = true := fun u hu => by
  obtain ⟨p, hp, hu⟩ := List.mem_flatMap.1 hu
  obtain ⟨A, n, c, e⟩ := h p hp
  rw [e] at hu
  exact Mg.one p.1 A n c u hu
theorem msgsV_erase (ms : List (Mg × Value)) (k : Nat) : msgsV (ms.eraseIdx k) = msgsV (ms.take k) ++ msgsV (ms.drop (k + 1)) := by
  rw [← msgsV_app, ← List.eraseIdx_eq_take_drop_succ]
/-- A message's cells, all zero. -/
def mgZ : List Value := [.int .i64 0, .int .i64 0, .int .i64 0, .int .i64 0, .int .i64 0, .int .i64 0, .int .i64 0, .bool false, .slice none 0 0, .string ⟨#[]⟩]
theorem mg_zero (w : World) : (zeroValue 56).run Tryz.prog w = .ok (.agg mgZ.toArray) w := by
  obtain ⟨i0, hi, hz0, hz1, hz2⟩ := info_parts Tryz.info56
  simp [zeroValue, typeInfo, hi, hz0, mgZ]
theorem mg_clear (w : World) (g o c : Nat) (h : ∀ j, j < 10 → (w.cell? ⟨g, o + j, none⟩).isSome = true ∧ w.frozen? ⟨g, o + j, none⟩ = false) :
    (Builtin.clear_ #[59] 0 #[.slice (some ⟨g, o, none⟩) 1 c]).run Tryz.prog w = .ok (.tuple #[]) (w.setCells g o mgZ) :=
  run_clear_one (P := Tryz.prog) w 59 56 0 (.agg mgZ.toArray) Tryz.underlying59 mg_zero (by simp [Value.cells, mgZ, Value.oneCell']) g o c (fun j hj => (h j hj).1) (fun j hj => (h j hj).2)
theorem del_list (cur : Array Value) (k nn : Nat) (old news zs : List Value) (htake : cur.toList.take (k * 10) = old) (hlo : old.length = k * 10) (hln : news.length = (nn - k) * 10) (hk : k ≤ nn) (hzl : zs.length = 10) (hsz : (nn + 1) * 10 ≤ cur.size) :
    (setA (setA cur (k * 10) news) (nn * 10) zs).toList.take (nn * 10) = old ++ news ∧ (setA (setA cur (k * 10) news) (nn * 10) zs).size = cur.size := by
  refine ⟨?_, by rw [setA_size, setA_size]⟩
  have q0 : (old ++ news).length = nn * 10 := by rw [List.length_append]; omega
  rw [setA_list zs _ _ (by rw [setA_size]; omega), setA_list news cur _ (by omega), htake]
  have e1 : (old ++ news ++ cur.toList.drop (k * 10 + news.length)).take (nn * 10) = old ++ news := by
    rw [List.take_append_of_le_length (by omega), List.take_of_length_le (by omega)]
  rw [e1, List.append_assoc, List.take_append_of_le_length (by omega), List.take_of_length_le (by omega)]
set_option maxRecDepth 1000000 in
set_option maxHeartbeats 1600000 in
theorem qdel_walk {w : World} (g cap nn k : Nat) (news : List Value) (hk : k < nn + 1) (h5 : nn + 1 ≤ cap) (h6 : cap ≤ maxLen) (A : Addr) (hA : (if cap = k + 1 then some (⟨g, 0, none⟩ : Addr) else some ⟨g, (k + 1) * 10, none⟩) = some A)
    (hln : news.length = (nn - k) * 10) (hnews : ∀ j u, news[j]? = some u → w.drew.cell? (A.add j) = some u) (hone : ∀ u ∈ news, u.oneCell' = true)
    (h3 : ∀ j, j < news.length → (w.drew.cell? ⟨g, 0 + k * 10 + j, none⟩).isSome = true ∧ w.drew.frozen? ⟨g, 0 + k * 10 + j, none⟩ = false)
    (hcl : ∀ j, j < 10 → ((w.drew.setCells g (k * 10) news).cell? ⟨g, nn * 10 + j, none⟩).isSome = true ∧ (w.drew.setCells g (k * 10) news).frozen? ⟨g, nn * 10 + j, none⟩ = false) :
    Calls Tryz.prog 67 #[.slice (some ⟨g, 0, none⟩) (nn + 1) cap, .int .i64 (k : Int), .int .i64 ((k : Int) + 1)] w fun e w' => e = .returned (.slice (some ⟨g, 0, none⟩) nn cap) ∧ w' = (w.drew.setCells g (k * 10) news).setCells g (nn * 10) mgZ := by
  have hc5 : (nn : Int) + 1 ≤ (cap : Int) := by omega
  have hp1 : (k : Int) + 1 ≤ (nn : Int) + 1 := by omega
  have hp2 : ((k : Int) + 1).toNat = k + 1 := by omega
  have e1 : ((k : Int) == (k : Int) + 1) = false := beq_eq_false_iff_ne.2 (by omega)
  have hp0 : (0 : Int) ≤ (k : Int) + 1 := by omega
  have hic : k ≤ cap := by omega
  have hic2 : (k : Int) ≤ (cap : Int) := by omega
  have hkn : k + (nn - k) = nn := by omega
  have hmx : cap ≤ 9223372036854775807 := by unfold maxLen at h6; omega
  have s1 := Lib.hid hln
  have s2 := Lib.hid hone
  have s3 := Lib.hid h3
  have s4 := Lib.hid hnews
  have HC := Lib.hid (mg_clear (w.drew.setCells g (k * 10) news) g (nn * 10) (cap - nn) hcl)
  clear hln hone h3 hnews hcl h6
  obtain ⟨i0, hi, hz0, hz1, hz2⟩ := info_parts Tryz.info56
  go_enter Tryz.func67, Tryz.ntmps67
  go_upto_region 5 with fail
  go_region_law (refine step_append_room rfl (.tmp 22) (.tmp 25) 59 rfl 56 i0 10 Tryz.underlying59 hi hz1 g 0 k cap (by simp [Act.eval, Act.put]) A (nn - k) (cap - (k + 1)) news (by simp [Act.eval, Act.put]) s1.out s4.out s2.out (by omega) s3.out ?_)
  go_wp2_with fail
  rw [HC.out]
  obtain ⟨w9, hw9⟩ : ∃ w9, w9 = (w.drew.setCells g (k * 10) news).setCells g (nn * 10) mgZ := ⟨_, rfl⟩
  rw [← hw9]
  have H9 := Lib.hid hw9
  clear hw9
  go_wp2
  go_ret
  exact ⟨rfl, H9.out⟩
theorem qdel_calls {w : World} {v : Value} (ms : List (Mg × Value)) (k : Nat) (hk : k < ms.length) (h : w.ownsRow 0 56 10 v ms.length (msgsV ms)) (hes : ∀ p ∈ ms, ∃ A n c, p.2 = .slice A n c) (hn : ms.length ≤ 1000000) :
    Calls Tryz.prog 67 #[v, .int .i64 (k : Int), .int .i64 ((k : Int) + 1)] w fun e w' => ∃ v', e = .returned v' ∧ w'.ownsRow 0 56 10 v' (ms.eraseIdx k).length (msgsV (ms.eraseIdx k)) ∧ Keep v.ownBlock.toList w w' ∧ v'.ownBlock = v.ownBlock := by
  obtain ⟨hlen, ⟨rfl, h0⟩ | ⟨g, cap, cur, rfl, _, hb, h5, h6, h7, h8⟩⟩ := h
  · omega
  obtain ⟨nn, hnn⟩ : ∃ nn, ms.length = nn + 1 := ⟨ms.length - 1, by omega⟩
  have hel : (ms.eraseIdx k).length = nn := by rw [List.length_eraseIdx, if_pos hk]; omega
  have hmv := msgsV_erase ms k
  rw [hel, hmv]
  have hnl : (msgsV (ms.drop (k + 1))).length = (nn - k) * 10 := by rw [msgsV_len, List.length_drop, hnn]; congr 1; omega
  have htl : (msgsV (ms.take k)).length = k * 10 := by rw [msgsV_len, List.length_take]; congr 1; omega
  have hB : Blk w g 56 cur := hb
  have hcur : ∀ j u, (msgsV ms)[j]? = some u → cur[j]? = some u := fun j u e4 => by
    rw [← h8, List.getElem?_take] at e4
    split at e4
    · simpa using e4
    · cases e4
  have hdrop : ∀ j u, (msgsV (ms.drop (k + 1)))[j]? = some u → cur[(k + 1) * 10 + j]? = some u := fun j u hu => by
    have e2 : msgsV ms = msgsV (ms.take (k + 1)) ++ msgsV (ms.drop (k + 1)) := by rw [← msgsV_app, List.take_append_drop]
    have e3 : (msgsV (ms.take (k + 1))).length = (k + 1) * 10 := by rw [msgsV_len, List.length_take]; congr 1; omega
    refine hcur _ _ ?_
    rw [e2, List.getElem?_append_right (by omega), e3, Nat.add_sub_cancel_left]
    exact hu
  have htake : cur.toList.take (k * 10) = msgsV (ms.take k) := by
    have e2 : msgsV ms = msgsV (ms.take k) ++ msgsV (ms.drop k) := by rw [← msgsV_app, List.take_append_drop]
    have e3 : (cur.toList.take (ms.length * 10)).take (k * 10) = cur.toList.take (k * 10) := by rw [List.take_take, Nat.min_eq_left (by omega)]
    rw [← e3, h8, e2, List.take_append_of_le_length (by omega), List.take_of_length_le (by omega)]
  have hone := msgsV_one (l := ms.drop (k + 1)) fun p hp => hes p (List.mem_of_mem_drop hp)
  generalize msgsV (ms.drop (k + 1)) = news at *
  generalize msgsV (ms.take k) = old at *
  rw [hnn] at h5 hn hk
  rw [hnn]
  clear hmv hel hes hlen h8 hcur hnn
  obtain ⟨A, hA, hnews⟩ : ∃ A : Addr, (if cap = k + 1 then some (⟨g, 0, none⟩ : Addr) else some ⟨g, (k + 1) * 10, none⟩) = some A ∧ (∀ j u, news[j]? = some u → w.drew.cell? (A.add j) = some u) := by
    by_cases h : cap = k + 1
    · refine ⟨⟨g, 0, none⟩, by simp [h], fun j u hu => ?_⟩
      have h0 : news.length = 0 := by rw [hnl]; omega
      rw [List.length_eq_zero_iff.1 h0] at hu
      simp at hu
    · refine ⟨⟨g, (k + 1) * 10, none⟩, by simp [h], fun j u hu => ?_⟩
      rw [Addr.add_lit]
      exact (hB.cell _).trans (hdrop j u hu)
  have h3 : ∀ j, j < news.length → (w.drew.cell? ⟨g, 0 + k * 10 + j, none⟩).isSome = true ∧ w.drew.frozen? ⟨g, 0 + k * 10 + j, none⟩ = false := fun j hj => by
    rw [hnl] at hj
    refine ⟨?_, hB.frozen _⟩
    have : w.drew.cell? ⟨g, 0 + k * 10 + j, none⟩ = cur[0 + k * 10 + j]? := hB.cell _
    rw [this, Array.getElem?_eq_getElem (by rw [h7]; omega)]
    rfl
  have hB2 : Blk (w.drew.setCells g (k * 10) news) g 56 (setA cur (k * 10) news) := Blk.setCells news (k * 10) (show Blk w.drew g 56 cur from hB)
  have hcl : ∀ j, j < 10 → ((w.drew.setCells g (k * 10) news).cell? ⟨g, nn * 10 + j, none⟩).isSome = true ∧ (w.drew.setCells g (k * 10) news).frozen? ⟨g, nn * 10 + j, none⟩ = false := fun j hj => by
    refine ⟨?_, hB2.frozen _⟩
    rw [hB2.cell, Array.getElem?_eq_getElem (by rw [setA_size, h7]; omega)]
    rfl
  have hB3 : Blk ((w.drew.setCells g (k * 10) news).setCells g (nn * 10) mgZ) g 56 (setA (setA cur (k * 10) news) (nn * 10) mgZ) := Blk.setCells mgZ (nn * 10) hB2
  have hK3 : Keep [g] w ((w.drew.setCells g (k * 10) news).setCells g (nn * 10) mgZ) := Keep.setCells (.inl (by simp)) mgZ _ (Keep.setCells (.inl (by simp)) news _ (Keep.refl _ _).drew)
  obtain ⟨q1, q2⟩ := del_list cur k nn old news mgZ htake htl hnl (by omega) rfl (by rw [h7]; omega)
  refine (qdel_walk g cap nn k news hk h5 h6 A hA hnl hnews hone h3 hcl).mono ?_
  rintro e w' ⟨rfl, rfl⟩
  refine ⟨.slice (some ⟨g, 0, none⟩) nn cap, rfl, ⟨by rw [List.length_append, htl, hnl]; omega, .inr ⟨g, cap, setA (setA cur (k * 10) news) (nn * 10) mgZ, rfl, Nat.zero_le _, hB3, by omega, h6, by rw [q2, h7], q1⟩⟩, hK3, rfl⟩

end Go.Proofs.YtnlcipocobmgiaaGreatDoor
/- The contract of (*quorum.Net).send. -/
namespace Go.Proofs.YtnlcipocobmgiaaGreatDoor
open Go.RowKit
attribute [local go_sem] size_bs bs_append bs_extract

/-- What a call of a net's may change of its own. -/
structure NetTo (Q Q' : Qv) (w w' : World) : Prop where
  keep : Keep Q.own w w'
  own : ∀ k ∈ Q'.own, k ∈ Q.own ∨ w.heap.size ≤ k
  q : Q'.q = Q.q
  na : Q'.na = Q.na
  da : Q'.da = Q.da
section
variable {w : World} {Q : Qv} {L : List Qn}
set_option maxRecDepth 100000 in
set_option maxHeartbeats 2000000 in
theorem qsend_calls (h : NetAt w Q L) (y : Mg) (v : Value) (hE : EntsAt w v y.ents) (hE2 : ∀ k, v.ownBlock = some k → k < w.heap.size ∧ k ∉ Q.own ∧ ∀ x ∈ L, k ∉ x.fp) (hrv : Roomy v) (hl : Q.ms.length < 200) :
    Calls Tryz.prog 68 #[.pointer (some ⟨Q.q, 0, none⟩), .agg #[.int .i64 y.kind, .int .i64 y.frm, .int .i64 y.to_, .int .i64 y.term, .int .i64 y.index, .int .i64 y.logTerm, .int .i64 y.commit, .bool y.ok, v, .string (bs y.snap)]] w fun e w' => e = .returned (.tuple #[]) ∧
      ∃ way', NetAt w' { Q with way := way', ms := Q.ms ++ [(y, v)] } L ∧ NetTo Q { Q with way := way', ms := Q.ms ++ [(y, v)] } w w' := by
  obtain ⟨A0, c0, rfl, -⟩ := id hE
  have H := Lib.hid h
  have HE := Lib.hid hE
  have HE2 := Lib.hid hE2
  obtain ⟨Ao, co, hou⟩ := own_slice h.wy
  have z2 : w.cell? ⟨Q.q, 2, none⟩ = some Q.way := h.qb.cell 2
  rw [hou] at z2
  have hrl := h.qb.lt
  have d1 : decide ((Q.ms.length : Int) < 200) = true := decide_eq_true (by omega)
  clear h hE hE2
  go_enter Tryz.func68, Tryz.ntmps68
  go_wp2_with fail
  have hk1 : Keep [] w (w.alloc (.cells #[.int .i64 y.kind, .int .i64 y.frm, .int .i64 y.to_, .int .i64 y.term, .int .i64 y.index, .int .i64 y.logTerm, .int .i64 y.commit, .bool y.ok, .slice A0 y.ents.length c0, .string (bs y.snap)] 56)) := (Keep.refl [] w).alloc _
  have hB1 : Blk (w.alloc (.cells #[.int .i64 y.kind, .int .i64 y.frm, .int .i64 y.to_, .int .i64 y.term, .int .i64 y.index, .int .i64 y.logTerm, .int .i64 y.commit, .bool y.ok, .slice A0 y.ents.length c0, .string (bs y.snap)] 56)) w.heap.size 56 #[.int .i64 y.kind, .int .i64 y.frm, .int .i64 y.to_, .int .i64 y.term, .int .i64 y.index, .int .i64 y.logTerm, .int .i64 y.commit, .bool y.ok, .slice A0 y.ents.length c0, .string (bs y.snap)] := Blk.new _ _ _
  have H1 := Lib.hid (H.out.grow hk1)
  have HK1 := Lib.hid hk1
  have HB1 := Lib.hid hB1
  generalize (w.alloc (.cells #[.int .i64 y.kind, .int .i64 y.frm, .int .i64 y.to_, .int .i64 y.term, .int .i64 y.index, .int .i64 y.logTerm, .int .i64 y.commit, .bool y.ok, .slice A0 y.ents.length c0, .string (bs y.snap)] 56)) = W1 at *
  have HS : Hid (∀ W, Keep Q.way.ownBlock.toList W1 W → World.cell? W ⟨Q.q, 2, none⟩ = some (.slice Ao Q.ms.length co) ∧ W.cell? ⟨w.heap.size, 0, none⟩ = some (.int .i64 y.kind) ∧ W.cell? ⟨w.heap.size, 1, none⟩ = some (.int .i64 y.frm) ∧ W.cell? ⟨w.heap.size, 2, none⟩ = some (.int .i64 y.to_) ∧ W.cell? ⟨w.heap.size, 3, none⟩ = some (.int .i64 y.term) ∧ W.cell? ⟨w.heap.size, 4, none⟩ = some (.int .i64 y.index) ∧ W.cell? ⟨w.heap.size, 5, none⟩ = some (.int .i64 y.logTerm) ∧ W.cell? ⟨w.heap.size, 6, none⟩ = some (.int .i64 y.commit) ∧ W.cell? ⟨w.heap.size, 7, none⟩ = some (.bool y.ok) ∧ W.cell? ⟨w.heap.size, 8, none⟩ = some (.slice A0 y.ents.length c0) ∧ W.cell? ⟨w.heap.size, 9, none⟩ = some (.string (bs y.snap))) := fun W hk => by
    have hnr : Q.q ∉ Q.way.ownBlock.toList := fun hx => own_blk_ne H.out.wy H.out.qb (by decide) (by simpa using hx)
    have hnb : w.heap.size ∉ Q.way.ownBlock.toList := fun hx => by
      have := own_lt H.out.wy (k := w.heap.size) (by simpa using hx)
      omega
    have h1 := H1.out.qb.keep hk hnr
    have h2 := HB1.out.keep hk hnb
    exact ⟨hou ▸ h1.cell 2, h2.cell 0, h2.cell 1, h2.cell 2, h2.cell 3, h2.cell 4, h2.cell 5, h2.cell 6, h2.cell 7, h2.cell 8, h2.cell 9⟩
  have HOU := Lib.hid hou
  clear z2 hk1 hB1 hou
  obtain ⟨i0, hi, hz0, hz1, hz2⟩ := info_parts Tryz.info56
  refine wp_region_K (S := fun W => World.cell? W ⟨Q.q, 2, none⟩ = some (.slice Ao Q.ms.length co) ∧ W.cell? ⟨w.heap.size, 0, none⟩ = some (.int .i64 y.kind) ∧ W.cell? ⟨w.heap.size, 1, none⟩ = some (.int .i64 y.frm) ∧ W.cell? ⟨w.heap.size, 2, none⟩ = some (.int .i64 y.to_) ∧ W.cell? ⟨w.heap.size, 3, none⟩ = some (.int .i64 y.term) ∧ W.cell? ⟨w.heap.size, 4, none⟩ = some (.int .i64 y.index) ∧ W.cell? ⟨w.heap.size, 5, none⟩ = some (.int .i64 y.logTerm) ∧ W.cell? ⟨w.heap.size, 6, none⟩ = some (.int .i64 y.commit) ∧ W.cell? ⟨w.heap.size, 7, none⟩ = some (.bool y.ok) ∧ W.cell? ⟨w.heap.size, 8, none⟩ = some (.slice A0 y.ents.length c0) ∧ W.cell? ⟨w.heap.size, 9, none⟩ = some (.string (bs y.snap))) (z := 10) (by kernel_rfl) ?_
  have hHeld := HS.out W1.drew (Keep.refl _ _).drew
  refine wpAnyK_take (i := 0) (v := ?_) rfl rfl (by kernel_rfl) (by kernel_rfl) (by kernel_rfl) (by kernel_rfl) (by kernel_rfl) (fun _ _ _ h => h) (by rfl) ?_ hHeld ?_
  rotate_left
  · rintro W ⟨s0, s1, s2, s3, s4, s5, s6, s7, s8, s9, s10⟩
    go_simp
    with_reducible rfl
  try simp only [Act.put]
  refine wpAnyK_take (i := 1) (v := ?_) rfl rfl (by kernel_rfl) (by kernel_rfl) (by kernel_rfl) (by kernel_rfl) (by kernel_rfl) (fun _ _ _ h => h) (by rfl) ?_ hHeld ?_
  rotate_left
  · rintro W ⟨s0, s1, s2, s3, s4, s5, s6, s7, s8, s9, s10⟩
    go_simp
    with_reducible rfl
  try simp only [Act.put]
  refine wpAnyK_take (i := 2) (v := ?_) rfl rfl (by kernel_rfl) (by kernel_rfl) (by kernel_rfl) (by kernel_rfl) (by kernel_rfl) (fun _ _ _ h => h) (by rfl) ?_ hHeld ?_
  rotate_left
  · rintro W ⟨s0, s1, s2, s3, s4, s5, s6, s7, s8, s9, s10⟩
    go_simp
    with_reducible rfl
  try simp only [Act.put]
  refine wpAnyK_take (i := 3) (v := ?_) rfl rfl (by kernel_rfl) (by kernel_rfl) (by kernel_rfl) (by kernel_rfl) (by kernel_rfl) (fun _ _ _ h => h) (by rfl) ?_ hHeld ?_
  rotate_left
  · rintro W ⟨s0, s1, s2, s3, s4, s5, s6, s7, s8, s9, s10⟩
    go_simp
    with_reducible rfl
  try simp only [Act.put]
  refine wpAnyK_take (i := 4) (v := ?_) rfl rfl (by kernel_rfl) (by kernel_rfl) (by kernel_rfl) (by kernel_rfl) (by kernel_rfl) (fun _ _ _ h => h) (by rfl) ?_ hHeld ?_
  rotate_left
  · rintro W ⟨s0, s1, s2, s3, s4, s5, s6, s7, s8, s9, s10⟩
    go_simp
    with_reducible rfl
  try simp only [Act.put]
  refine wpAnyK_take (i := 5) (v := ?_) rfl rfl (by kernel_rfl) (by kernel_rfl) (by kernel_rfl) (by kernel_rfl) (by kernel_rfl) (fun _ _ _ h => h) (by rfl) ?_ hHeld ?_
  rotate_left
  · rintro W ⟨s0, s1, s2, s3, s4, s5, s6, s7, s8, s9, s10⟩
    go_simp
    with_reducible rfl
  try simp only [Act.put]
  refine wpAnyK_one (k := 6) (by kernel_rfl) rfl (fun K hK => ?_)
  go_simp
  refine hK.out _ _ (fun _ => HS.out _ (by repeat (first | exact Keep.refl _ _ | refine Keep.drew ?_ | refine Keep.drewN ?_ _ | refine Keep.alloc ?_ _))) ?_
  clear hK K hHeld
  try simp only [Act.put]
  refine wpAnyK_one (k := 7) (by kernel_rfl) rfl (fun K hK => ?_)
  refine step_append1 (n := Q.ms.length) (xs := msgsV Q.ms) (news := y.cells (.slice A0 y.ents.length c0)) rfl (.tmp 14) (.tmp 16) rfl Tryz.underlying59 hi hz0 hz1 hz2 rfl (by omega) rfl rfl (by have := (H1.out.wy); rw [HOU.out] at this; exact Keep.owns (M := []) (by repeat (first | exact Keep.refl _ _ | refine Keep.drew ?_ | refine Keep.drewN ?_ _ | refine Keep.alloc ?_ _)) this (by simp)) (Blk.new _ _ _) rfl (Mg.one _ _ _ _) (by unfold maxLen; omega) (by omega) ?_
  intro g cap w6 hown6 hk6 hat6
  rw [← HOU.out] at hk6 hat6
  have HK6 : Hid (Keep Q.way.ownBlock.toList W1 w6) := Keep.trans' (M := Q.way.ownBlock.toList) (by repeat (first | exact Keep.refl _ _ | refine Keep.drew ?_ | refine Keep.drewN ?_ _ | refine Keep.alloc ?_ _)) hk6 (fun x hx => .inl hx)
  have HAT : Hid (∀ k, (Value.slice (some ⟨g, 0, none⟩) (Q.ms.length + 1) cap).ownBlock = some k → Q.way.ownBlock = some k ∨ W1.heap.size ≤ k) := fun k e => by
    have e' : g = k := by simpa [Value.ownBlock] using e
    subst e'
    rcases hat6 with h1 | h1
    · exact .inl h1
    · simp at h1
      exact .inr (by omega)
  have HOWN6 := Lib.hid hown6
  have hnr : Q.q ∉ Q.way.ownBlock.toList := fun hx => own_blk_ne H.out.wy H.out.qb (by decide) (by simpa using hx)
  have hbr := H1.out.qb.keep HK6.out hnr
  have z17 : w6.cell? ⟨Q.q, 2, none⟩ = some Q.way := hbr.cell 2
  have zf : w6.frozen? ⟨Q.q, 2, none⟩ = false := hbr.frozen 2
  rw [HOU.out] at z17
  clear hown6 hk6 hat6 hbr hnr
  refine hK.out _ _ (fun _ => HS.out _ HK6.out) ?_
  clear hK K
  have hHeld := HS.out _ HK6.out
  try simp only [Act.put]
  refine wpAnyK_one (k := 8) (by kernel_rfl) rfl (fun K hK => ?_)
  go_simp
  refine hK.out _ _ (fun _ => hHeld) ?_
  clear hK K
  try simp only [Act.put]
  refine wpAnyK_one (k := 9) (by kernel_rfl) rfl (fun K hK => ?_)
  go_simp
  refine hK.out _ _ (fun _ => hHeld) ?_
  clear hK K
  try simp only [Act.put]
  refine wpAnyK_one (k := 10) (by kernel_rfl) rfl (fun K hK => ?_)
  go_simp
  refine hK.out _ _ (fun h => absurd rfl h) ?_
  clear hK K hHeld
  refine wpAnyK_done (by kernel_rfl) ?_
  go_wp2_with fail
  go_end0
  obtain ⟨hN, hk⟩ := H1.out.reway (ms' := Q.ms ++ [(y, .slice A0 y.ents.length c0)]) HK6.out (by
    have e1 : msgsV (Q.ms ++ [(y, Value.slice A0 y.ents.length c0)]) = msgsV Q.ms ++ y.cells (.slice A0 y.ents.length c0) := by simp [msgsV]
    rw [e1, List.length_append]
    exact HOWN6.out) HAT.out (by
    intro p hp
    rcases List.mem_append.1 hp with hp | hp
    · exact H1.out.es p hp
    · simp only [List.mem_cons, List.not_mem_nil, or_false] at hp
      subst hp
      exact ⟨HE.out.keep_nil HK1.out, fun k e => ⟨Nat.lt_of_lt_of_le (HE2.out k e).1 HK1.out.size, (HE2.out k e).2⟩⟩) (by
    intro p hp
    rcases List.mem_append.1 hp with hp | hp
    · exact H1.out.rm p hp
    · simp only [List.mem_cons, List.not_mem_nil, or_false] at hp
      subst hp
      exact hrv) rfl
  refine ⟨rfl, _, hN, (HK1.out.nil_).trans hk, fun k hx => ?_, rfl, rfl, rfl⟩
  rcases Qv.mem.1 hx with h1 | h1 | h1 | h1
  · exact .inl (Qv.mem.2 (.inl h1))
  · exact .inl (Qv.mem.2 (.inr (.inl h1)))
  · exact .inl (Qv.mem.2 (.inr (.inr (.inl h1))))
  · rcases HAT.out k h1 with h2 | h2
    · exact .inl (Qv.mem.2 (.inr (.inr (.inr h2))))
    · exact .inr (Nat.le_trans HK1.out.size h2)
end

end Go.Proofs.YtnlcipocobmgiaaGreatDoor
/- Small methods of a net: has, Node, On; what a call may change of a net. -/
namespace Go.Proofs.YtnlcipocobmgiaaGreatDoor
open Go.RowKit
attribute [local go_sem] size_bs bs_append bs_extract

/-- All blocks of a net. -/
def nfp (Q : Qv) (L : List Qn) : List Nat := Q.own ++ L.flatMap Qn.fp
theorem nfp_mem {Q : Qv} {L : List Qn} {k : Nat} : k ∈ nfp Q L ↔ k ∈ Q.own ∨ ∃ x ∈ L, k ∈ x.fp := by
  simp [nfp, List.mem_flatMap]
structure NetGo (Q : Qv) (L : List Qn) (Q' : Qv) (L' : List Qn) (w w' : World) : Prop where
  keep : Keep (nfp Q L) w w'
  fp : ∀ k ∈ nfp Q' L', k ∈ nfp Q L ∨ w.heap.size ≤ k
  q : Q'.q = Q.q
section
variable {w w' : World} {Q Q' Q2 : Qv} {L L' L2 : List Qn}
theorem NetGo.refl (Q : Qv) (L : List Qn) (w : World) : NetGo Q L Q L w w := ⟨Keep.refl _ _, fun _ h => .inl h, rfl⟩
theorem NetGo.grow (Q : Qv) (L : List Qn) (hk : Keep [] w w') : NetGo Q L Q L w w' := ⟨hk.nil_, fun _ h => .inl h, rfl⟩
theorem NetGo.trans {a b c : World} (h : NetGo Q L Q' L' a b) (k : NetGo Q' L' Q2 L2 b c) : NetGo Q L Q2 L2 a c :=
  ⟨h.keep.trans' k.keep h.fp, fun x hx => by
    rcases k.fp x hx with h1 | h1
    · exact h.fp x h1
    · exact .inr (Nat.le_trans h.keep.size h1), k.q.trans h.q⟩
theorem NetAt.fp_lt (h : NetAt w Q L) : ∀ k ∈ nfp Q L, k < w.heap.size := by
  intro k hk
  rcases nfp_mem.1 hk with hk | ⟨x, hx, hk⟩
  · exact h.own_lt k hk
  · exact (h.nd x hx).lt k hk
theorem NetTo.go (h : NetTo Q Q' w w') : NetGo Q L Q' L w w' :=
  ⟨h.keep.mono fun k hk => .inl (nfp_mem.2 (.inl hk)), fun k hk => by
    rcases nfp_mem.1 hk with hk | ⟨x, hx, hk⟩
    · rcases h.own k hk with h1 | h1
      · exact .inl (nfp_mem.2 (.inl h1))
      · exact .inr h1
    · exact .inl (nfp_mem.2 (.inr ⟨x, hx, hk⟩)), h.q⟩

set_option maxRecDepth 100000 in
theorem qhas_calls (h : NetAt w Q L) (i : Nat) (hi : i < L.length) :
    Calls Tryz.prog 70 #[.pointer (some ⟨Q.q, 0, none⟩), .int .i64 (i : Int)] w fun e w' => e = .returned (.bool true) ∧ w = w' := by
  have z0 : w.cell? ⟨Q.q, 0, none⟩ = some (.slice (some ⟨Q.na, 0, none⟩) L.length L.length) := h.qb.cell 0
  have d1 : decide ((i : Int) < (L.length : Int)) = true := decide_eq_true (by omega)
  clear h
  generalize L.length = n at *
  go_enter Tryz.func70, Tryz.ntmps70
  go_wp2
  go_ret
  exact ⟨rfl, rfl⟩
theorem NetAt.ptr (h : NetAt w Q L) (i : Nat) (hi : i < L.length) : w.cell? ⟨Q.na, i, none⟩ = some L[i].ptr := by
  rw [h.nb.cell]
  simp [hi]
theorem NetAt.dptr (h : NetAt w Q L) (i : Nat) (hi : i < L.length) : w.cell? ⟨Q.da, i, none⟩ = some (.pointer (some ⟨L[i].b, 0, none⟩)) := by
  rw [h.db.cell]
  simp [hi, Qn.dptr]
set_option maxRecDepth 100000 in
theorem qnode_calls (h : NetAt w Q L) (i : Nat) (hi : i < L.length) :
    Calls Tryz.prog 36 #[.pointer (some ⟨Q.q, 0, none⟩), .int .i64 (i : Int)] w fun e w' => e = .returned L[i].ptr ∧ w = w' := by
  have HH := Lib.hid (qhas_calls h i hi)
  have z0 : w.cell? ⟨Q.q, 0, none⟩ = some (.slice (some ⟨Q.na, 0, none⟩) L.length L.length) := h.qb.cell 0
  have z1 := h.ptr i hi
  obtain ⟨p, hp⟩ : ∃ p, L[i].ptr = .pointer p := by
    unfold Qn.ptr
    split <;> exact ⟨_, rfl⟩
  rw [hp] at z1 ⊢
  have d1 : decide ((i : Int) < (L.length : Int)) = true := decide_eq_true (by omega)
  have d2 : (i : Int) < (L.length : Int) := by omega
  clear h hp
  generalize L.length = n at *
  go_enter Tryz.func36, Tryz.ntmps36
  go_wp2_with (first | (go_at_call 70; refine HH.out.mono ?_; rintro e w1 ⟨rfl, rfl⟩) | fail)
  go_ret
  exact ⟨rfl, rfl⟩
set_option maxRecDepth 100000 in
theorem qon_calls (h : NetAt w Q L) :
    Calls Tryz.prog 30 #[.pointer (some ⟨Q.q, 0, none⟩)] w fun e w' => e = .returned (.int .i64 (Q.ms.length : Int)) ∧ w = w' := by
  obtain ⟨A, c, hs⟩ := own_slice h.wy
  have z2 : w.cell? ⟨Q.q, 2, none⟩ = some Q.way := h.qb.cell 2
  rw [hs] at z2
  clear h hs
  go_enter Tryz.func30, Tryz.ntmps30
  go_wp2
  go_ret
  exact ⟨rfl, rfl⟩

set_option maxRecDepth 100000 in
set_option maxHeartbeats 1000000 in
/-- Drop. -/
theorem qdrop_calls (h : NetAt w Q L) (k : Nat) (hk : k < Q.ms.length) (hn : Q.ms.length ≤ 200) :
    Calls Tryz.prog 32 #[.pointer (some ⟨Q.q, 0, none⟩), .int .i64 (k : Int)] w fun e w' => e = .returned (.tuple #[]) ∧
      ∃ way', NetAt w' { Q with way := way', ms := Q.ms.eraseIdx k } L ∧ NetTo Q { Q with way := way', ms := Q.ms.eraseIdx k } w w' := by
  obtain ⟨A, c, hs⟩ := own_slice h.wy
  have z2 : w.cell? ⟨Q.q, 2, none⟩ = some Q.way := h.qb.cell 2
  have hes : ∀ p ∈ Q.ms, ∃ A n c, p.2 = .slice A n c := fun p hp => by
    obtain ⟨A, c, e, -⟩ := (h.es p hp).1
    exact ⟨A, _, c, e⟩
  have HD := Lib.hid (qdel_calls Q.ms k hk h.wy hes (by omega))
  have H := Lib.hid h
  have HS := Lib.hid hs
  rw [hs] at z2 HD
  have d1 : decide ((Q.ms.length : Int) ≤ (k : Int)) = false := decide_eq_false (by omega)
  have w1 : IntKind.i64.wrap ((k : Int) + 1) = (k : Int) + 1 := IntWalk.i64_in _ (by omega)
  clear h hs hes
  go_enter Tryz.func32, Tryz.ntmps32
  go_wp2_with (first | (go_at_call 67; refine HD.out.mono ?_; rintro e w1 ⟨v', rfl, hown, hk1, hb1⟩; obtain ⟨A', c', hs'⟩ := own_slice hown; subst hs'; have hnq : Q.q ∉ (Value.slice A Q.ms.length c).ownBlock.toList := (fun hx => own_blk_ne (HS.out ▸ H.out.wy) H.out.qb (by decide) (by simpa using hx)); have hqb := H.out.qb.keep hk1 hnq; have z2 : w1.cell? ⟨Q.q, 2, none⟩ = some (.slice A Q.ms.length c) := HS.out ▸ hqb.cell 2; have f2 : w1.frozen? ⟨Q.q, 2, none⟩ = false := hqb.frozen 2; have HOWN := Lib.hid hown; have HK1 := Lib.hid hk1; have HB1 := Lib.hid hb1; clear hown hk1 hb1 hnq hqb) | fail)
  go_end0
  obtain ⟨h1, h2⟩ := H.out.reway (ms' := Q.ms.eraseIdx k) (by rw [HS.out]; exact HK1.out) HOWN.out (fun g e => .inl (by rw [HS.out, ← HB1.out]; exact e)) (fun p hp => H.out.es p (List.mem_of_mem_eraseIdx hp)) (fun p hp => H.out.rm p (List.mem_of_mem_eraseIdx hp)) rfl
  refine ⟨rfl, _, h1, h2, fun g hg => .inl ?_, rfl, rfl, rfl⟩
  rcases Qv.mem.1 hg with e | e | e | e
  · exact Qv.mem.2 (.inl e)
  · exact Qv.mem.2 (.inr (.inl e))
  · exact Qv.mem.2 (.inr (.inr (.inl e)))
  · exact Qv.mem.2 (.inr (.inr (.inr (by rw [HS.out, ← HB1.out]; exact e))))
end

end Go.Proofs.YtnlcipocobmgiaaGreatDoor
/- The contract of (*quorum.Net).after: what a node has to say is on its way. -/
namespace Go.Proofs.YtnlcipocobmgiaaGreatDoor
open Go.RowKit
attribute [local go_sem] size_bs bs_append bs_extract

theorem own_cells {w : World} {B : Nat} {e : TypeId} {size n : Nat} {v : Value} {xs : List Value} (h : w.ownsRow B e size v n xs) (h0 : n ≠ 0) : ∃ g c, v = .slice (some ⟨g, 0, none⟩) n c ∧ g < w.heap.size ∧ ∀ j u, xs[j]? = some u → w.cell? ⟨g, j, none⟩ = some u := by
  obtain ⟨hlen, ⟨rfl, h1⟩ | ⟨g, cap, cur, rfl, _, hb, h5, h6, h7, h8⟩⟩ := h
  · exact absurd h1 h0
  · have hB : Blk w g e cur := hb
    refine ⟨g, cap, rfl, hB.lt, fun j u hu => ?_⟩
    rw [hB.cell]
    rw [← h8, List.getElem?_take] at hu
    split at hu
    · simpa using hu
    · cases hu
section
variable {w w0 : World} {Q : Qv} {L : List Qn} {V V' : Nv} {N N' : Rn} {D' : Dk}
/-- A node of a net behind a call of its own, its messages taken. -/
theorem NetAt.taken {w1 : World} (h0 : NetAt w0 Q L) {i : Nat} (hi : i < L.length) (hup : L[i].up = some (V, N)) (ht : NodeTo V V' w0 w) (ht1 : NodeTo V' V'.taken w w1) (hn : NodeAt w1 V'.taken { N' with out := [] } D') :
    NetAt w1 Q (L.set i ⟨L[i].b, L[i].m, D', some (V'.taken, { N' with out := [] })⟩) ∧ NetGo Q L Q (L.set i ⟨L[i].b, L[i].m, D', some (V'.taken, { N' with out := [] })⟩) w0 w1 := by
  have hm : L[i] ∈ L := List.getElem_mem hi
  have hA := h0.nd _ hm
  unfold Qn.At at hA
  rw [hup] at hA
  obtain ⟨hA1, hb, hmm, -⟩ := hA
  have hfp : L[i].fp = V.fp := by unfold Qn.fp; rw [hup]
  have hT := ht.trans ht1
  have hk : Keep L[i].fp w0 w1 := by rw [hfp]; exact hT.keep
  have hy : ∀ k ∈ V'.taken.fp, k ∈ L[i].fp ∨ w0.heap.size ≤ k := fun k hx => by rw [hfp]; exact hT.fp k hx
  refine ⟨h0.turn hi hk (y := ⟨L[i].b, L[i].m, D', some (V'.taken, { N' with out := [] })⟩) ⟨hn, hT.b.trans hb, hT.m.trans hmm, rfl⟩ hy ?_ rfl, ⟨hk.mono fun k hx => .inl (nfp_mem.2 (.inr ⟨_, hm, hx⟩)), fun k hx => ?_, rfl⟩⟩
  · unfold Qn.ptr
    rw [hup]
    simp only [hT.r]
  · rcases nfp_mem.1 hx with h1 | ⟨x, h1, h2⟩
    · exact .inl (nfp_mem.2 (.inl h1))
    · rcases List.mem_or_eq_of_mem_set h1 with h3 | rfl
      · exact .inl (nfp_mem.2 (.inr ⟨x, h3, h2⟩))
      · rcases hy k h2 with h4 | h4
        · exact .inl (nfp_mem.2 (.inr ⟨_, hm, h4⟩))
        · exact .inr h4

set_option maxRecDepth 100000 in
set_option maxHeartbeats 4000000 in
theorem qafter_calls (h0 : NetAt w0 Q L) (i : Nat) (hi : i < L.length) (hup : L[i].up = some (V, N)) (ht : NodeTo V V' w0 w) (hn : NodeAt w V' N' D') (hb : N'.broken = 0) (hl : Q.ms.length + N'.out.length ≤ 200) :
    Calls Tryz.prog 65 #[.pointer (some ⟨Q.q, 0, none⟩), .int .i64 (i : Int)] w fun e w' => e = .returned (.tuple #[]) ∧
      ∃ Q' Y, NetAt w' Q' (L.set i ⟨L[i].b, L[i].m, D', some (Y, { N' with out := [] })⟩) ∧ Q'.ms.map Prod.fst = Q.ms.map Prod.fst ++ N'.out ∧ NetGo Q L Q' (L.set i ⟨L[i].b, L[i].m, D', some (Y, { N' with out := [] })⟩) w0 w' := by
  have hm : L[i] ∈ L := List.getElem_mem hi
  have hfp : L[i].fp = V.fp := by unfold Qn.fp; rw [hup]
  have hA := h0.nd _ hm
  unfold Qn.At at hA
  rw [hup] at hA
  have hV0 : V.outs = [] := hA.2.2.2
  have hqfp : ∀ k ∈ Q.own, k ∉ V.fp := fun k hk hx => h0.far _ hm k (hfp ▸ hx) hk
  have hqb := h0.qb.keep ht.keep (hqfp _ (Qv.mem.2 (.inl rfl)))
  have hnb := h0.nb.keep ht.keep (hqfp _ (Qv.mem.2 (.inr (.inl rfl))))
  have z0 : w.cell? ⟨Q.q, 0, none⟩ = some (.slice (some ⟨Q.na, 0, none⟩) L.length L.length) := hqb.cell 0
  have z1 : w.cell? ⟨Q.na, i, none⟩ = some (.pointer (some ⟨V'.r, 0, none⟩)) := by
    rw [hnb.cell]
    simp [hi, Qn.ptr, hup, ht.r]
  have hlen : V'.outs.length = N'.out.length := by rw [← hn.rest.outs, List.length_map]
  have HT0 := Lib.hid (take_calls hn)
  have hes : ∀ p ∈ V'.outs, ∀ k, p.2.ownBlock = some k → w0.heap.size ≤ k ∧ k < w.heap.size ∧ k ∉ V'.fp := fun p hp k hk => by
    rcases ht.es p hp with h1 | h1
    · rw [hV0] at h1; cases h1
    · exact ⟨h1.1 k hk, (hn.rest.es p hp).2 k hk⟩
  have hrm : ∀ p ∈ V'.outs, Roomy p.2 := fun p hp => by
    rcases ht.es p hp with h1 | h1
    · rw [hV0] at h1; cases h1
    · exact h1.2
  have hou : ∀ k, V'.ou.ownBlock = some k → k ∉ Q.own := fun k hk hx => by
    rcases ht.fp k (Nv.mem.2 (.inr (.inr (.inr (.inr (.inr (.inr (.inr hk)))))))) with h1 | h1
    · exact hqfp k hx h1
    · have := h0.own_lt k hx; omega
  have hmap := hn.rest.outs
  have d1 : decide ((i : Int) < (L.length : Int)) = true := decide_eq_true (by omega)
  have d2 : (i : Int) < (L.length : Int) := by omega
  obtain ⟨A, c, hs⟩ := own_slice hn.rest.ou
  have H0 := Lib.hid h0
  have HT := Lib.hid ht
  have HES := Lib.hid hes
  have HRM := Lib.hid hrm
  have HOU := Lib.hid hou
  have HMAP := Lib.hid hmap
  have HS := Lib.hid hs
  have HLE := Lib.hid hlen
  have HUP := Lib.hid hup
  have HLL := Lib.hid hl
  have HN := Lib.hid hn
  rw [hs] at HT0
  clear h0 ht hn hes hrm hou hmap hs hA hqfp hqb hnb hup hV0 hfp hlen
  go_enter Tryz.func65, Tryz.ntmps65
  go_wp2_with (first | (go_at_call 26; refine HT0.out.mono ?_; rintro e w1 ⟨rfl, hM, hN1, hT1⟩; have HM := Lib.hid hM; have HN1 := Lib.hid hN1; have HT1 := Lib.hid hT1; clear hM hN1 hT1 z0 z1) | fail)
  obtain ⟨hA1, hG1⟩ := H0.out.taken hi HUP.out HT.out HT1.out HN1.out
  have hes1 : ∀ p ∈ V'.outs, ∀ k, p.2.ownBlock = some k → k < w1.heap.size ∧ k ∉ Q.own ∧ ∀ x ∈ L.set i ⟨L[i].b, L[i].m, D', some (V'.taken, { N' with out := [] })⟩, k ∉ x.fp := fun p hp k hk => by
    obtain ⟨h1, h2, h3⟩ := HES.out p hp k hk
    refine ⟨Nat.lt_of_lt_of_le h2 HT1.out.keep.size, fun hx => ?_, fun x hx hkx => ?_⟩
    · have := H0.out.own_lt k hx; omega
    · rcases List.mem_or_eq_of_mem_set hx with h4 | rfl
      · have := (H0.out.nd x h4).lt k hkx; omega
      · exact h3 (Nv.taken_fp hkx)
  have HA1 := Lib.hid hA1
  have HG1 := Lib.hid hG1
  have HE1 := Lib.hid hes1
  obtain ⟨L1, hL1⟩ : ∃ L1, L1 = L.set i ⟨L[i].b, L[i].m, D', some (V'.taken, { N' with out := [] })⟩ := ⟨_, rfl⟩
  rw [← hL1] at HA1 HG1 HE1
  have HL1 := Lib.hid hL1
  clear hA1 hG1 hes1 hL1
  go_loopw [6, 17] (fun _ vi wr => ∃ (j : Nat) (Qj : Qv), j ≤ V'.outs.length ∧ vi = .int .i64 (j : Int) ∧ NetAt wr Qj L1 ∧ NetTo Q Qj w1 wr ∧ Qj.ms = Q.ms ++ V'.outs.take j) (fun _ vi _ => V'.outs.length - (intOf vi).toNat)
  case atStart => exact ⟨0, Q, Nat.zero_le _, rfl, HA1.out, ⟨Keep.refl _ _, fun _ h => .inl h, rfl, rfl, rfl⟩, by simp⟩
  case round =>
    obtain ⟨j, Qj, hj, rfl, hA, hT, hms⟩ := hrel
    by_cases hlt : j < V'.outs.length
    · have dj : decide ((j : Int) < (V'.outs.length : Int)) = true := decide_eq_true (by omega)
      obtain ⟨g, c', hg, hgl, hcc⟩ := own_cells HM.out.own (by omega)
      injection hg with hg1 _ hg3
      subst hg1 hg3
      have hgo : g ∉ Q.own := HOU.out g (by rw [HS.out]; rfl)
      have hc : ∀ m u, m < 10 → (V'.outs[j].1.cells V'.outs[j].2)[m]? = some u → wr.cell? ⟨g, j * 10 + m, none⟩ = some u := fun m u hm hu => by
        have h1 := hcc (j * 10 + m) u (by rw [msgsV_at _ _ hlt _ hm]; exact hu)
        exact (hT.keep.cell (p := ⟨g, j * 10 + m, none⟩) hgl hgo).trans h1
      have hp : V'.outs[j] ∈ V'.outs := List.getElem_mem hlt
      have hE := HM.out.es _ hp
      have hE1 := HE1.out _ hp
      have hR := HRM.out _ hp
      have htk : V'.outs.take (j + 1) = V'.outs.take j ++ [V'.outs[j]] := by rw [List.take_add_one, List.getElem?_eq_getElem hlt]; rfl
      generalize V'.outs[j] = p at *
      obtain ⟨y, vv⟩ := p
      simp only at hc hE hE1 hR
      obtain ⟨A2, c2, rfl, -⟩ := id hE
      have hEr : EntsAt wr (.slice A2 y.ents.length c2) y.ents := hE.keepB hT.keep (fun k e => (hE1 k e).2.1)
      have hE2 : ∀ k, (Value.slice A2 y.ents.length c2).ownBlock = some k → k < wr.heap.size ∧ k ∉ Qj.own ∧ ∀ x ∈ L1, k ∉ x.fp := fun k e => by
        obtain ⟨h1, h2, h3⟩ := hE1 k e
        refine ⟨Nat.lt_of_lt_of_le h1 hT.keep.size, fun hx => ?_, h3⟩
        rcases hT.own k hx with h4 | h4
        · exact h2 h4
        · omega
      have HSD : Hid (∀ W, Keep [] wr W → Calls Tryz.prog 68 #[.pointer (some ⟨Q.q, 0, none⟩), .agg #[.int .i64 y.kind, .int .i64 y.frm, .int .i64 y.to_, .int .i64 y.term, .int .i64 y.index, .int .i64 y.logTerm, .int .i64 y.commit, .bool y.ok, .slice A2 y.ents.length c2, .string (bs y.snap)]] W fun e w' => e = .returned (.tuple #[]) ∧ ∃ Qk, NetAt w' Qk L1 ∧ NetTo Q Qk w1 w' ∧ Qk.ms = Q.ms ++ V'.outs.take (j + 1)) := fun W hk => by
        have hq := hT.q
        have := qsend_calls (hA.grow hk) y (.slice A2 y.ents.length c2) (hEr.keep_nil hk) (fun k e => ⟨Nat.lt_of_lt_of_le (hE2 k e).1 hk.size, (hE2 k e).2⟩) hR (by rw [hms, List.length_append, List.length_take]; have := HLE.out; omega)
        rw [hq] at this
        refine this.mono ?_
        rintro e w' ⟨rfl, way', h1, h2⟩
        refine ⟨rfl, _, h1, ?_, ?_⟩
        · exact ⟨(hT.keep.trans (hk.nil_)).trans' h2.keep hT.own, fun k hx => by
            rcases h2.own k hx with h3 | h3
            · exact hT.own k h3
            · exact .inr (Nat.le_trans (Nat.le_trans hT.keep.size hk.size) h3), h2.q.trans hT.q, h2.na.trans hT.na, h2.da.trans hT.da⟩
        · show Qj.ms ++ [_] = _
          rw [hms, htk, List.append_assoc]
      have s0 : wr.cell? ⟨g, j * 10, none⟩ = some (.int .i64 y.kind) := hc 0 _ (by omega) rfl
      have s1 := hc 1 _ (by omega) rfl
      have s2 := hc 2 _ (by omega) rfl
      have s3 := hc 3 _ (by omega) rfl
      have s4 := hc 4 _ (by omega) rfl
      have s5 := hc 5 _ (by omega) rfl
      have s6 := hc 6 _ (by omega) rfl
      have s7 := hc 7 _ (by omega) rfl
      have s8 := hc 8 _ (by omega) rfl
      have s9 := hc 9 _ (by omega) rfl
      have HLT := Lib.hid hlt
      have wj : IntKind.i64.wrap ((j : Int) + 1) = (j : Int) + 1 := IntWalk.i64_in _ (by have := HLE.out; omega)
      have hjn : (j : Int) < (V'.outs.length : Int) := by omega
      clear hc hE hE1 hR hEr hE2 htk hp hA hT hms hcc
      go_wp2_with (first | (go_at_call 68; refine (HSD.out _ (by repeat (first | exact Keep.refl _ _ | refine Keep.drew ?_ | refine Keep.drewN ?_ _ | refine Keep.alloc ?_ _))).mono ?_; rintro e w5 ⟨rfl, Qk, h5, t5, m5⟩; have H5 := Lib.hid h5; have HT5 := Lib.hid t5; have HM5 := Lib.hid m5; clear h5 t5 m5) | fail)
      go_roundw
      case rel => exact ⟨j + 1, Qk, HLT.out, by go_num, H5.out, HT5.out, HM5.out⟩
      case measure => simp [intOf]; omega
    · have dj : decide ((j : Int) < (V'.outs.length : Int)) = false := decide_eq_false (fun hx => hlt (Int.ofNat_lt.1 hx))
      have hjj : V'.outs.length = j := Nat.le_antisymm (Nat.not_lt.1 hlt) hj
      have HJ := Lib.hid hjj
      clear hjj
      have hbr : Calls Tryz.prog 93 #[.pointer (some ⟨V'.r, 0, none⟩)] wr fun e w' => e = .returned (.int .i64 0) ∧ wr = w' := by
        have hx : (⟨L[i].b, L[i].m, D', some (V'.taken, { N' with out := [] })⟩ : Qn) ∈ L1 := by rw [HL1.out]; exact List.mem_set hi _
        have h1 := hA.nd _ hx
        have h2 := broken_calls (N := { N' with out := [] }) h1.1
        rw [show ({ N' with out := [] } : Rn).broken = 0 from hb] at h2
        exact h2
      have HBR := Lib.hid hbr
      have HA := Lib.hid hA
      have HTT := Lib.hid hT
      have HMS := Lib.hid hms
      clear hbr hA hT hms
      go_wp2_with (first | (go_at_call 93; refine HBR.out.mono ?_; rintro e w5 ⟨rfl, rfl⟩) | fail)
      go_end0
      refine ⟨rfl, Qj, V'.taken, ?_, ?_, ?_⟩
      · rw [← HL1.out]; exact HA.out
      · rw [HMS.out, List.take_of_length_le (Nat.le_of_eq HJ.out), List.map_append, HMAP.out]
      · rw [← HL1.out]; exact HG1.out.trans HTT.out.go
end

end Go.Proofs.YtnlcipocobmgiaaGreatDoor
