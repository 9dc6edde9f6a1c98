/- The node behind an append to its entries, a store into one of its arrays. -/
import Derived.Test.YtnlcipocobmgiaaGreatDoorRaft4
namespace Go.Proofs.YtnlcipocobmgiaaGreatDoor
open Go.RowKit

theorem own_ne_map {w : World} {B : Nat} {e : TypeId} {size n : Nat} {v : Value} {xs : List Value} {m : Nat} {L : List (List UInt8 × Value)} (h : w.ownsRow B e size v n xs) (hm : MapIs w m L) : v.ownBlock ≠ some m := by
  intro he
  rcases h.2 with ⟨rfl, _⟩ | ⟨g', cap, cur, rfl, _, hh, _⟩
  · simp [Value.ownBlock] at he
  · have : g' = m := by simpa [Value.ownBlock] using he
    subst this
    obtain ⟨es, c, h3, _⟩ := hm
    rw [h3] at hh
    cases hh
theorem own_own_ne {w : World} {B B' : Nat} {e e' : TypeId} {size n size' n' : Nat} {v v' : Value} {xs xs' : List Value} (h : w.ownsRow B e size v n xs) (h' : w.ownsRow B' e' size' v' n' xs') (hne : e ≠ e') {k : Nat} (hk : v.ownBlock = some k) : v'.ownBlock ≠ some k := by
  intro hk'
  rcases h'.2 with ⟨rfl, _⟩ | ⟨g', cap, cur, rfl, _, hh, _⟩
  · simp [Value.ownBlock] at hk'
  · have : g' = k := by simpa [Value.ownBlock] using hk'
    subst this
    exact own_blk_ne h (t := e') hh hne hk

section
variable {w : World} {V : Nv} {N : Rn} {D : Dk}
/-- The node behind an append to its entries. -/
theorem NodeAt.logged {w1 w2 : World} {lg' : Value} {x : En} (h : NodeAt w V N D) (hk1 : Keep V.lg.ownBlock.toList w w1)
    (hown : w1.ownsRow 0 62 3 lg' (N.st.log.length + 1) (entsV N.st.log ++ x.cells)) (hat : ∀ k, lg'.ownBlock = some k → V.lg.ownBlock = some k ∨ w.heap.size ≤ k) (hw2 : w2 = w1.setCell ⟨V.r, 8, none⟩ lg') :
    NodeAt w2 { V with lg := lg' } { N with st := { N.st with log := N.st.log ++ [x] } } D ∧ NodeTo V { V with lg := lg' } w w2 := by
  subst hw2
  obtain ⟨r1, r2, r3, r4, r5, r6, r7⟩ := h.r_ne
  have R := h.rest
  have hM : ∀ x, x ∈ V.lg.ownBlock.toList → V.lg.ownBlock = some x := fun x hx => by simpa using hx
  have hne : ∀ {t : TypeId} {cs : Array Value} {g : Nat}, Blk w g t cs → 62 ≠ t → g ∉ V.lg.ownBlock.toList := fun hb ht hg => own_blk_ne R.log hb ht (hM _ hg)
  have hmap : V.m ∉ V.lg.ownBlock.toList := fun hg => own_ne_map R.log R.disk.map (hM _ hg)
  have hlg : ∀ k, V.ou.ownBlock = some k → k ∉ V.lg.ownBlock.toList := fun k e hg => own_own_ne R.log R.ou (by decide) (hM _ hg) e
  have hk2 : Keep [V.r] w1 (w1.setCell ⟨V.r, 8, none⟩ lg') := (Keep.refl _ _).setCell (.inl (by simp)) _
  have hk : Keep (V.r :: V.lg.ownBlock.toList) w (w1.setCell ⟨V.r, 8, none⟩ lg') := (hk1.mono (fun x hx => .inl (List.mem_cons_of_mem _ hx))).trans' hk2 (fun x hx => by simp at hx; exact .inl (by simp [hx]))
  have no : ∀ k, k ≠ V.r → k ∉ V.lg.ownBlock.toList → k ∉ V.r :: V.lg.ownBlock.toList := fun k h1 h2 => by simp only [List.mem_cons, not_or]; exact ⟨h1, h2⟩
  have hfp : ∀ x ∈ V.r :: V.lg.ownBlock.toList, x ∈ V.fp := fun x hx => by
    rcases List.mem_cons.1 hx with h | h
    · exact Nv.mem.2 (.inl h)
    · exact Nv.mem.2 (.inr (.inr (.inr (.inl (hM _ h)))))
  have hfp' : ∀ x ∈ ({ V with lg := lg' } : Nv).fp, x ∈ V.fp ∨ w.heap.size ≤ x := fun x hx => by
    rcases Nv.mem.1 hx with h | h | h | h | h | h | h | h
    · exact .inl (Nv.mem.2 (.inl h))
    · exact .inl (Nv.mem.2 (.inr (.inl h)))
    · exact .inl (Nv.mem.2 (.inr (.inr (.inl h))))
    · rcases hat x h with h | h
      · exact .inl (Nv.mem.2 (.inr (.inr (.inr (.inl h)))))
      · exact .inr h
    · exact .inl (Nv.mem.2 (.inr (.inr (.inr (.inr (.inl h))))))
    · exact .inl (Nv.mem.2 (.inr (.inr (.inr (.inr (.inr (.inl h)))))))
    · exact .inl (Nv.mem.2 (.inr (.inr (.inr (.inr (.inr (.inr (.inl h))))))))
    · exact .inl (Nv.mem.2 (.inr (.inr (.inr (.inr (.inr (.inr (.inr h))))))))
  have hb1 := h.blk.keep hk1 (hne h.blk (by decide))
  have hour : ∀ k, lg'.ownBlock = some k → k ∉ [V.r] := fun k e hx => by
    simp at hx
    rcases hat k e with h1 | h1
    · exact r3 (hx ▸ h1)
    · have := h.blk.lt; omega
  have arr : ∀ {t : TypeId} {o : Option Nat} {xs : List Value}, 62 ≠ t → o ≠ some V.r → ArrAt w t o xs → ArrAt (w1.setCell ⟨V.r, 8, none⟩ lg') t o xs := fun ht hr ha => ha.keep hk (fun g e => by
    subst e
    exact no _ (fun e => hr (e ▸ rfl)) (hne ha ht))
  refine ⟨⟨hb1.set_ 8 lg', R.disk.keep hk (no _ (Ne.symm r1) (hne R.disk.blk (by decide))) (no _ (Ne.symm r2) hmap), ?_, arr (by decide) r4 R.vo, arr (by decide) r5 R.ma, arr (by decide) r6 R.ne, R.dis, hk.owns R.ou (fun k e => no k (by rintro rfl; exact r7 e) (hlg k e)), R.outs, ?_, R.tab.keep hk (fun hx => R.tn (hfp _ hx)), ?_⟩, hk.mono (fun x hx => .inl (hfp x hx)), hfp', fun _ h => .inl h, rfl, rfl, rfl⟩
  · have e1 : entsV (N.st.log ++ [x]) = entsV N.st.log ++ x.cells := by simp [entsV]
    show (w1.setCell ⟨V.r, 8, none⟩ lg').ownsRow 0 62 3 lg' (N.st.log ++ [x]).length (entsV (N.st.log ++ [x]))
    rw [e1, List.length_append]
    exact hk2.owns hown hour
  · intro q hq
    have hq2 := R.es q hq
    refine ⟨hq2.1.keepB hk (fun k e hx => (hq2.2 k e).2 (hfp k hx)), fun k e => ⟨Nat.lt_of_lt_of_le (hq2.2 k e).1 hk.size, fun hx => ?_⟩⟩
    rcases hfp' k hx with h1 | h1
    · exact (hq2.2 k e).2 h1
    · have := (hq2.2 k e).1; omega
  · intro hx
    rcases hfp' _ hx with h1 | h1
    · exact R.tn h1
    · have := World.block_lt_of_cell? _ _ (R.tab 0 (by omega)); simp at this; omega

/-- A store into one of the arrays. -/
theorem NodeAt.setArr {w' : World} {g : Nat} {t : TypeId} {cs : Array Value} (h : NodeAt w V N D) (hb : Blk w g t cs) (ht : t = 3 ∨ t = 4) (hfp : g ∈ V.fp) (hk : Keep [g] w w')
    (N' : Rn) (hc : nodeCells V N' = nodeCells V N) (h1 : N'.st.log = N.st.log) (h5 : N'.out = N.out) (hvo : ArrAt w' 4 V.vo (bools N'.votes)) (hma : ArrAt w' 3 V.ma (nums N'.mt)) (hne : ArrAt w' 3 V.ne (nums N'.nx)) :
    NodeAt w' V N' D ∧ NodeTo V V w w' := by
  have R := h.rest
  have ne : ∀ {t' : TypeId} {cs' : Array Value} {g' : Nat}, Blk w g' t' cs' → t' ≠ 3 → t' ≠ 4 → g' ∉ [g] := fun hb' n1 n2 hx => by
    simp at hx
    subst hx
    rcases ht with rfl | rfl
    · exact Blk.ne_ hb' hb n1 rfl
    · exact Blk.ne_ hb' hb n2 rfl
  have own : ∀ {e : TypeId} {size n : Nat} {v : Value} {xs : List Value}, w.ownsRow 0 e size v n xs → e ≠ 3 → e ≠ 4 → ∀ k, v.ownBlock = some k → k ∉ [g] := fun ho n1 n2 k e hx => by
    simp at hx
    subst hx
    rcases ht with rfl | rfl
    · exact own_blk_ne ho hb n1 e
    · exact own_blk_ne ho hb n2 e
  refine ⟨⟨by rw [hc]; exact h.blk.keep hk (ne h.blk (by decide) (by decide)), R.disk.keep hk (ne R.disk.blk (by decide) (by decide)) (fun hx => by simp at hx; exact R.disk.map.ne_ hb hx), ?_, hvo, hma, hne, R.dis, hk.owns R.ou (own R.ou (by decide) (by decide)), by rw [h5]; exact R.outs, ?_, R.tab.keep hk (fun hx => by simp at hx; exact R.tn (hx ▸ hfp)), R.tn⟩, .of_keep V hk (fun x hx => by simp at hx; exact hx ▸ hfp)⟩
  · rw [h1]
    exact hk.owns R.log (own R.log (by decide) (by decide))
  · intro q hq
    have hq2 := R.es q hq
    exact ⟨hq2.1.keepB hk (fun k e hx => by simp at hx; exact (hq2.2 k e).2 (hx ▸ hfp)), fun k e => ⟨Nat.lt_of_lt_of_le (hq2.2 k e).1 hk.size, (hq2.2 k e).2⟩⟩
theorem nums_set (l : List Nat) (i k : Nat) : (nums l).toArray.setIfInBounds i (.int .i64 (k : Int)) = (nums (l.set i k)).toArray := by
  simp [nums, List.map_set]
theorem bools_set (l : List Bool) (i : Nat) (k : Bool) : (bools l).toArray.setIfInBounds i (.bool k) = (bools (l.set i k)).toArray := by
  simp [bools, List.map_set]
theorem arr_dis (h : NodeAt w V N D) {g : Nat} (hg : V.ma = some g) (hn : V.vo = some g) : False := by
  have h1 := h.rest.vo
  have h2 := h.rest.ma
  rw [hn] at h1
  rw [hg] at h2
  exact Blk.ne_ h1 h2 (by decide) rfl
theorem arr_dis2 (h : NodeAt w V N D) {g : Nat} (hg : V.ne = some g) (hn : V.vo = some g) : False := by
  have h1 := h.rest.vo
  have h2 := h.rest.ne
  rw [hn] at h1
  rw [hg] at h2
  exact Blk.ne_ h1 h2 (by decide) rfl
theorem NodeAt.setMt {w0 w' : World} {U : Nv} {g : Nat} (h : NodeAt w V N D) (hT : NodeTo U V w0 w) (hg : V.ma = some g) (i k : Nat) (hw : w' = w.setCell ⟨g, i, none⟩ (.int .i64 (k : Int))) : NodeAt w' V { N with mt := N.mt.set i k } D ∧ NodeTo U V w0 w' := by
  have hb := h.rest.ma
  rw [hg] at hb
  have hk : Keep [g] w w' := by rw [hw]; exact (Keep.refl _ _).setCell (.inl (by simp)) _
  obtain ⟨h1, h2⟩ := h.setArr hb (.inl rfl) (Nv.mem.2 (.inr (.inr (.inr (.inr (.inr (.inl hg))))))) hk { N with mt := N.mt.set i k } (by simp [nodeCells]) rfl rfl (h.rest.vo.keep hk (fun g' e hx => by simp at hx; subst hx; exact arr_dis h hg e)) (by
    rw [hg]
    have hs := Blk.set_ hb i (.int .i64 (k : Int))
    rw [nums_set] at hs
    rw [hw]
    exact hs) (h.rest.ne.keep hk (fun g' e hx => by simp at hx; subst hx; exact h.rest.dis _ hg e))
  exact ⟨h1, hT.trans h2⟩
theorem NodeAt.setNx {w0 w' : World} {U : Nv} {g : Nat} (h : NodeAt w V N D) (hT : NodeTo U V w0 w) (hg : V.ne = some g) (i k : Nat) (hw : w' = w.setCell ⟨g, i, none⟩ (.int .i64 (k : Int))) : NodeAt w' V { N with nx := N.nx.set i k } D ∧ NodeTo U V w0 w' := by
  have hb := h.rest.ne
  rw [hg] at hb
  have hk : Keep [g] w w' := by rw [hw]; exact (Keep.refl _ _).setCell (.inl (by simp)) _
  obtain ⟨h1, h2⟩ := h.setArr hb (.inl rfl) (Nv.mem.2 (.inr (.inr (.inr (.inr (.inr (.inr (.inl hg)))))))) hk { N with nx := N.nx.set i k } (by simp [nodeCells]) rfl rfl (h.rest.vo.keep hk (fun g' e hx => by simp at hx; subst hx; exact arr_dis2 h hg e)) (h.rest.ma.keep hk (fun g' e hx => by simp at hx; subst hx; exact h.rest.dis _ e hg)) (by
    rw [hg]
    have hs := Blk.set_ hb i (.int .i64 (k : Int))
    rw [nums_set] at hs
    rw [hw]
    exact hs)
  exact ⟨h1, hT.trans h2⟩
theorem NodeAt.setVo {w0 w' : World} {U : Nv} {g : Nat} (h : NodeAt w V N D) (hT : NodeTo U V w0 w) (hg : V.vo = some g) (i : Nat) (k : Bool) (hw : w' = w.setCell ⟨g, i, none⟩ (.bool k)) : NodeAt w' V { N with votes := N.votes.set i k } D ∧ NodeTo U V w0 w' := by
  have hb := h.rest.vo
  rw [hg] at hb
  have hk : Keep [g] w w' := by rw [hw]; exact (Keep.refl _ _).setCell (.inl (by simp)) _
  obtain ⟨h1, h2⟩ := h.setArr hb (.inr rfl) (Nv.mem.2 (.inr (.inr (.inr (.inr (.inl hg)))))) hk { N with votes := N.votes.set i k } (by simp [nodeCells]) rfl rfl (by
    rw [hg]
    have hs := Blk.set_ hb i (.bool k)
    rw [bools_set] at hs
    rw [hw]
    exact hs) (h.rest.ma.keep hk (fun g' e hx => by simp at hx; subst hx; exact arr_dis h e hg)) (h.rest.ne.keep hk (fun g' e hx => by simp at hx; subst hx; exact arr_dis2 h e hg))
  exact ⟨h1, hT.trans h2⟩
end

end Go.Proofs.YtnlcipocobmgiaaGreatDoor
