/- A net of raft nodes in memory. -/
import Derived.Test.YtnlcipocobmgiaaGreatDoorRaft15
import Derived.Test.YtnlcipocobmgiaaGreatDoorHolds
namespace Go.Proofs.YtnlcipocobmgiaaGreatDoor
open Go.RowKit

/-- A node of a net: its disk's blocks, the disk; where it lies and what it is, if it is up. -/
structure Qn where
  b : Nat
  m : Nat
  D : Dk
  up : Option (Nv × Rn)
def Qn.ptr (x : Qn) : Value := match x.up with
  | none => .pointer none
  | some p => .pointer (some ⟨p.1.r, 0, none⟩)
def Qn.dptr (x : Qn) : Value := .pointer (some ⟨x.b, 0, none⟩)
def Qn.fp (x : Qn) : List Nat := match x.up with
  | none => [x.b, x.m]
  | some p => p.1.fp
/-- A node's part of memory. -/
def Qn.At (w : World) (x : Qn) : Prop := match x.up with
  | none => DiskAt w x.b x.m x.D
  | some p => NodeAt w p.1 p.2 x.D ∧ p.1.b = x.b ∧ p.1.m = x.m ∧ p.1.outs = []
/-- Where a net lies: its block, the two arrays, the messages on their way. -/
structure Qv where
  q : Nat
  na : Nat
  da : Nat
  way : Value
  ms : List (Mg × Value)
def Qv.own (Q : Qv) : List Nat := Q.q :: Q.na :: Q.da :: Q.way.ownBlock.toList
theorem Qv.mem {Q : Qv} {x : Nat} : x ∈ Q.own ↔ x = Q.q ∨ x = Q.na ∨ x = Q.da ∨ Q.way.ownBlock = some x := by
  simp [Qv.own, Option.mem_toList]
structure NetAt (w : World) (Q : Qv) (L : List Qn) : Prop where
  qb : Blk w Q.q 97 #[.slice (some ⟨Q.na, 0, none⟩) L.length L.length, .slice (some ⟨Q.da, 0, none⟩) L.length L.length, Q.way]
  nb : Blk w Q.na 34 (L.map Qn.ptr).toArray
  db : Blk w Q.da 28 (L.map Qn.dptr).toArray
  wy : w.ownsRow 0 56 10 Q.way Q.ms.length (msgsV Q.ms)
  es : ∀ p ∈ Q.ms, EntsAt w p.2 p.1.ents ∧ ∀ k, p.2.ownBlock = some k → k < w.heap.size ∧ k ∉ Q.own ∧ ∀ x ∈ L, k ∉ x.fp
  nd : ∀ x ∈ L, x.At w
  dis : L.Pairwise fun x y => ∀ k ∈ x.fp, k ∉ y.fp
  far : ∀ x ∈ L, ∀ k ∈ x.fp, k ∉ Q.own
  tab : Tab w
  tn : 0 ∉ Q.own
  rm : ∀ p ∈ Q.ms, Roomy p.2
section
variable {w w' : World} {Q : Qv} {L : List Qn} {x : Qn}
theorem Qn.At.lt (h : x.At w) : ∀ k ∈ x.fp, k < w.heap.size := by
  intro k hk
  unfold Qn.At at h
  unfold Qn.fp at hk
  cases hx : x.up with
  | none =>
    rw [hx] at h hk
    simp only [List.mem_cons, List.not_mem_nil, or_false] at hk
    rcases hk with rfl | rfl
    · exact h.blk.lt
    · exact h.map.lt
  | some p =>
    rw [hx] at h hk
    exact h.1.fp_lt k hk
theorem Qn.At.tn (h : x.At w) (hT : Tab w) : 0 ∉ x.fp := by
  unfold Qn.At at h
  unfold Qn.fp
  cases hx : x.up with
  | none =>
    rw [hx] at h
    simp only [List.mem_cons, List.not_mem_nil, or_false, not_or]
    exact ⟨hT.ne_blk h.blk (by simp), hT.ne_map h.map⟩
  | some p =>
    rw [hx] at h
    exact h.1.rest.tn
/-- Another part of memory changes. -/
theorem Qn.At.keep {M : List Nat} (h : x.At w) (hk : Keep M w w') (hM : ∀ k ∈ M, k ∉ x.fp ∧ k ≠ 0) : x.At w' := by
  unfold Qn.At at h ⊢
  unfold Qn.fp at hM
  cases hx : x.up with
  | none =>
    rw [hx] at h hM
    exact h.keep hk (fun hm => (hM _ hm).1 (by simp)) (fun hm => (hM _ hm).1 (by simp))
  | some p =>
    rw [hx] at h hM
    obtain ⟨h1, h2, h3, h4⟩ := h
    exact ⟨h1.keep hk fun k hm => ⟨(hM k hm).1, by rw [h4]; simp, (hM k hm).2⟩, h2, h3, h4⟩
theorem NetAt.own_lt (h : NetAt w Q L) : ∀ k ∈ Q.own, k < w.heap.size := by
  intro k hk
  rcases Qv.mem.1 hk with rfl | rfl | rfl | hk
  · exact h.qb.lt
  · exact h.nb.lt
  · exact h.db.lt
  · exact Go.Proofs.YtnlcipocobmgiaaGreatDoor.own_lt h.wy hk
theorem pairwise_set {R : Qn → Qn → Prop} (hs : ∀ x y, R x y → R y x) : ∀ {L : List Qn} {i : Nat} {y : Qn}, L.Pairwise R → (∀ j (hj : j < L.length), j ≠ i → R y L[j]) → (L.set i y).Pairwise R
  | [], _, _, _, _ => by simp
  | x :: L, 0, y, h, hy => by
    have h1 := List.pairwise_cons.1 h
    rw [List.set_cons_zero]
    refine List.pairwise_cons.2 ⟨fun z hz => ?_, h1.2⟩
    obtain ⟨j, hj, rfl⟩ := List.getElem_of_mem hz
    have := hy (j + 1) (by simpa using hj) (by omega)
    simpa using this
  | x :: L, i + 1, y, h, hy => by
    have h1 := List.pairwise_cons.1 h
    rw [List.set_cons_succ]
    refine List.pairwise_cons.2 ⟨fun z hz => ?_, pairwise_set hs h1.2 fun j hj hne => ?_⟩
    · rcases List.mem_or_eq_of_mem_set hz with hz | rfl
      · exact h1.1 z hz
      · have := hy 0 (by simp) (by omega)
        exact hs _ _ (by simpa using this)
    · have := hy (j + 1) (by simpa using hj) (by omega)
      simpa using this
theorem pairwise_at {R : Qn → Qn → Prop} (hs : ∀ x y, R x y → R y x) {L : List Qn} (h : L.Pairwise R) {i j : Nat} (hi : i < L.length) (hj : j < L.length) (hne : i ≠ j) : R L[i] L[j] := by
  rcases Nat.lt_or_ge i j with hlt | hge
  · exact List.pairwise_iff_getElem.1 h i j hi hj hlt
  · exact hs _ _ (List.pairwise_iff_getElem.1 h j i hj hi (by omega))
/-- A node has done something: its own part of memory has changed alone. -/
theorem NetAt.turn (h : NetAt w Q L) {i : Nat} (hi : i < L.length) {y : Qn} (hk : Keep L[i].fp w w') (hy : y.At w') (hfp : ∀ k ∈ y.fp, k ∈ L[i].fp ∨ w.heap.size ≤ k) (hp : y.ptr = L[i].ptr) (hb : y.dptr = L[i].dptr) : NetAt w' Q (L.set i y) := by
  have hmem : L[i] ∈ L := List.getElem_mem hi
  have hnt : ∀ k ∈ L[i].fp, k ≠ 0 := fun k hk e => (h.nd _ hmem).tn h.tab (e ▸ hk)
  have hno : ∀ k ∈ Q.own, k ∉ L[i].fp := fun k hk hx => h.far _ hmem k hx hk
  have hset : ∀ {f : Qn → Value}, f y = f L[i] → ((L.set i y).map f) = L.map f := fun {f} hf => by
    rw [List.map_set, hf]
    apply List.ext_getElem
    · simp
    · intro j h1 h2
      rw [List.getElem_set]
      split
      · rename_i e; subst e; simp
      · rfl
  refine ⟨?_, ?_, ?_, ?_, ?_, ?_, ?_, ?_, ?_, h.tn, h.rm⟩
  · rw [List.length_set]
    exact h.qb.keep hk (hno _ (Qv.mem.2 (.inl rfl)))
  · rw [hset hp]
    exact h.nb.keep hk (hno _ (Qv.mem.2 (.inr (.inl rfl))))
  · rw [hset hb]
    exact h.db.keep hk (hno _ (Qv.mem.2 (.inr (.inr (.inl rfl)))))
  · exact hk.owns h.wy fun k e => hno k (Qv.mem.2 (.inr (.inr (.inr e))))
  · intro p hp
    obtain ⟨h1, h2⟩ := h.es p hp
    refine ⟨h1.keepB hk fun k e => (h2 k e).2.2 _ hmem, fun k e => ?_⟩
    obtain ⟨h3, h4, h5⟩ := h2 k e
    refine ⟨Nat.lt_of_lt_of_le h3 hk.size, h4, fun z hz => ?_⟩
    rcases List.mem_or_eq_of_mem_set hz with hz | rfl
    · exact h5 z hz
    · intro hx
      rcases hfp k hx with hx | hx
      · exact h5 _ hmem hx
      · omega
  · intro z hz
    obtain ⟨j, hj, rfl⟩ := List.getElem_of_mem hz
    rw [List.getElem_set]
    split
    · exact hy
    · rename_i hne
      have hj' : j < L.length := by simpa using hj
      refine (h.nd _ (List.getElem_mem hj')).keep hk fun k hkm => ⟨?_, hnt k hkm⟩
      exact pairwise_at (R := fun x y => ∀ k ∈ x.fp, k ∉ y.fp) (fun x y hxy k hy hx => hxy k hx hy) h.dis hi hj' hne k hkm
  · refine pairwise_set (fun x y hxy k hy hx => hxy k hx hy) h.dis fun j hj hne k hky => ?_
    rcases hfp k hky with hx | hx
    · exact pairwise_at (R := fun x y => ∀ k ∈ x.fp, k ∉ y.fp) (fun x y hxy k hy hx => hxy k hx hy) h.dis hi hj (Ne.symm hne) k hx
    · intro hm
      have := (h.nd _ (List.getElem_mem hj)).lt k hm
      omega
  · intro z hz k hkz
    rcases List.mem_or_eq_of_mem_set hz with hz | rfl
    · exact h.far z hz k hkz
    · rcases hfp k hkz with hx | hx
      · exact h.far _ hmem k hx
      · intro hm
        have := h.own_lt k hm
        omega
  · exact h.tab.keep hk fun hm => hnt _ hm rfl
/-- The messages on their way turn. -/
theorem NetAt.reway {w1 w2 : World} {way' : Value} {ms' : List (Mg × Value)} (h : NetAt w Q L) (hk1 : Keep Q.way.ownBlock.toList w w1) (hown : w1.ownsRow 0 56 10 way' ms'.length (msgsV ms')) (hat : ∀ k, way'.ownBlock = some k → Q.way.ownBlock = some k ∨ w.heap.size ≤ k)
    (hes : ∀ p ∈ ms', EntsAt w p.2 p.1.ents ∧ ∀ k, p.2.ownBlock = some k → k < w.heap.size ∧ k ∉ Q.own ∧ ∀ x ∈ L, k ∉ x.fp) (hrm : ∀ p ∈ ms', Roomy p.2) (hw2 : w2 = w1.setCell ⟨Q.q, 2, none⟩ way') :
    NetAt w2 { Q with way := way', ms := ms' } L ∧ Keep Q.own w w2 := by
  subst hw2
  have hM : ∀ k, k ∈ Q.way.ownBlock.toList → Q.way.ownBlock = some k := fun k hk => by simpa using hk
  have hne : ∀ {t : TypeId} {cs : Array Value} {g : Nat}, Blk w g t cs → 56 ≠ t → g ∉ Q.way.ownBlock.toList := fun hb ht hg => own_blk_ne h.wy hb ht (hM _ hg)
  have hq := hne h.qb (by decide)
  have e1 : Q.na ≠ Q.q := h.nb.ne_ h.qb (by decide)
  have e2 : Q.da ≠ Q.q := h.db.ne_ h.qb (by decide)
  have hk2 : Keep [Q.q] w1 (w1.setCell ⟨Q.q, 2, none⟩ way') := (Keep.refl _ _).setCell (.inl (by simp)) _
  have hk : Keep (Q.q :: Q.way.ownBlock.toList) w (w1.setCell ⟨Q.q, 2, none⟩ way') := (hk1.mono (fun k hx => .inl (List.mem_cons_of_mem _ hx))).trans' hk2 (fun k hx => by simp at hx; exact .inl (by simp [hx]))
  have no : ∀ k, k ≠ Q.q → k ∉ Q.way.ownBlock.toList → k ∉ Q.q :: Q.way.ownBlock.toList := fun k h1 h2 => by simp only [List.mem_cons, not_or]; exact ⟨h1, h2⟩
  have hsub : ∀ k ∈ Q.q :: Q.way.ownBlock.toList, k ∈ Q.own := fun k hx => by
    rcases List.mem_cons.1 hx with h1 | h1
    · exact Qv.mem.2 (.inl h1)
    · exact Qv.mem.2 (.inr (.inr (.inr (hM _ h1))))
  have hown' : ∀ k ∈ ({ Q with way := way', ms := ms' } : Qv).own, k ∈ Q.own ∨ w.heap.size ≤ k := fun k hx => by
    rcases Qv.mem.1 hx with h1 | h1 | h1 | h1
    · exact .inl (Qv.mem.2 (.inl h1))
    · exact .inl (Qv.mem.2 (.inr (.inl h1)))
    · exact .inl (Qv.mem.2 (.inr (.inr (.inl h1))))
    · rcases hat k h1 with h2 | h2
      · exact .inl (Qv.mem.2 (.inr (.inr (.inr h2))))
      · exact .inr h2
  have hqo : ∀ k, way'.ownBlock = some k → k ∉ [Q.q] := fun k e hx => by
    simp at hx
    rcases hat k e with h1 | h1
    · exact hq (by rw [← hx]; simpa using h1)
    · have := h.qb.lt; omega
  refine ⟨⟨?_, ?_, ?_, hk2.owns hown hqo, ?_, ?_, h.dis, ?_, h.tab.keep hk fun hx => h.tn (hsub _ hx), ?_, hrm⟩, hk.mono fun k hx => .inl (hsub k hx)⟩
  · exact (h.qb.keep hk1 hq).set_ 2 way'
  · exact h.nb.keep hk (no _ e1 (hne h.nb (by decide)))
  · exact h.db.keep hk (no _ e2 (hne h.db (by decide)))
  · intro p hp
    obtain ⟨h1, h2⟩ := hes p hp
    refine ⟨h1.keepB hk fun k e hx => (h2 k e).2.1 (hsub k hx), fun k e => ?_⟩
    obtain ⟨h3, h4, h5⟩ := h2 k e
    refine ⟨Nat.lt_of_lt_of_le h3 hk.size, fun hx => ?_, h5⟩
    rcases hown' k hx with h6 | h6
    · exact h4 h6
    · omega
  · intro x hx
    exact (h.nd x hx).keep hk fun k hm => ⟨fun hf => h.far x hx k hf (hsub k hm), fun e => h.tn (e ▸ hsub k hm)⟩
  · intro x hx k hkx hm
    rcases hown' k hm with h6 | h6
    · exact h.far x hx k hkx h6
    · have := (h.nd x hx).lt k hkx
      omega
  · intro hm
    rcases hown' _ hm with h6 | h6
    · exact h.tn h6
    · have := World.block_lt_of_cell? _ _ (h.tab 0 (by omega)); simp at this; omega
/-- Nothing of the net changes. -/
theorem NetAt.grow (h : NetAt w Q L) (hk : Keep [] w w') : NetAt w' Q L :=
  ⟨h.qb.keep hk (by simp), h.nb.keep hk (by simp), h.db.keep hk (by simp), hk.owns h.wy (by simp), fun p hp => ⟨(h.es p hp).1.keepB hk (by simp), fun k e => ⟨Nat.lt_of_lt_of_le ((h.es p hp).2 k e).1 hk.size, ((h.es p hp).2 k e).2⟩⟩,
    fun x hx => (h.nd x hx).keep hk (by simp), h.dis, h.far, h.tab.keep hk (by simp), h.tn, h.rm⟩
end

end Go.Proofs.YtnlcipocobmgiaaGreatDoor
