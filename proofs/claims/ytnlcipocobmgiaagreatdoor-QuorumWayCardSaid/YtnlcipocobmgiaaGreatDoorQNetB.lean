/- A net as a law walks with it; the contracts of (*quorum.Net).Tick and Propose, of nodes that are up. -/
import Derived.Test.YtnlcipocobmgiaaGreatDoorQNetA
namespace Go.Proofs.YtnlcipocobmgiaaGreatDoor
open Go.RowKit
attribute [local go_sem] size_bs bs_append bs_extract

/-- A node without its place. -/
abbrev Pq := Dk × Option Rn
def Qn.pl (x : Qn) : Pq := (x.D, x.up.map Prod.snd)
/-- A world, and blocks that were laid behind it. -/
structure Bs where
  w : World
  M : List (Nat × TypeId × Array Value)
instance : Coe World Bs := ⟨fun w => ⟨w, []⟩⟩
/-- The world's cells, and the blocks', are as they were. -/
def Bs.Keeps (z : Bs) (w : World) : Prop := Keep [] z.w w ∧ ∀ x ∈ z.M, Blk w x.1 x.2.1 x.2.2
/-- A block that is none of these. -/
def Bs.New (z : Bs) (k : Nat) : Prop := z.w.heap.size ≤ k ∧ ∀ x ∈ z.M, k ≠ x.1
/-- A net whose blocks are all new since a world. -/
structure NetIn (z : Bs) (w : World) (q : Nat) (P : List Pq) (way : List Mg) : Prop where
  is_ : ∃ Q L, NetAt w Q L ∧ Q.q = q ∧ L.map Qn.pl = P ∧ Q.ms.map Prod.fst = way ∧ ∀ k ∈ nfp Q L, z.New k
  kept : z.Keeps w
section
variable {w0 : Bs} {w w' : World} {q : Nat} {P : List Pq} {way : List Mg} {N N' : Rn} {D D' : Dk} {Q Q' : Qv} {L L' : List Qn}
theorem NetGo.in_ (hk : w0.Keeps w) (hf : ∀ k ∈ nfp Q L, w0.New k) (g : NetGo Q L Q' L' w w') (h' : NetAt w' Q' L') (hq : Q.q = q) : NetIn w0 w' q (L'.map Qn.pl) (Q'.ms.map Prod.fst) :=
  ⟨⟨Q', L', h', g.q.trans hq, rfl, rfl, fun k hk' => by
    rcases g.fp k hk' with h1 | h1
    · exact hf k h1
    · exact ⟨Nat.le_trans hk.1.size h1, fun x hx => by have := (hk.2 x hx).lt; omega⟩⟩, hk.1.trans' g.keep fun k hk' => .inr (hf k hk').1, fun x hx => (hk.2 x hx).keep g.keep fun hm => (hf _ hm).2 x hx rfl⟩
theorem NetIn.grow (h : NetIn w0 w q P way) (hk : Keep [] w w') : NetIn w0 w' q P way := by
  obtain ⟨⟨Q, L, h1, h2, h3, h4, h5⟩, h6⟩ := h
  exact ⟨⟨Q, L, h1.grow hk, h2, h3, h4, h5⟩, h6.1.trans hk, fun x hx => (h6.2 x hx).keep hk (by simp)⟩
theorem NetIn.keep (h : NetIn w0 w q P way) : Keep [] w0.w w := h.kept.1
/-- A block that was laid behind the net stands beside it. -/
theorem NetIn.with_ (h : NetIn w0 w q P way) (hk : Keep [] w w') {b : Nat} {t : TypeId} {cs : Array Value} (hB : Blk w' b t cs) (hb : w.heap.size ≤ b) : NetIn ⟨w0.w, (b, t, cs) :: w0.M⟩ w' q P way := by
  obtain ⟨⟨Q, L, h1, h2, h3, h4, h5⟩, h6⟩ := h
  refine ⟨⟨Q, L, h1.grow hk, h2, h3, h4, fun k hk' => ⟨(h5 k hk').1, fun x hx => ?_⟩⟩, h6.1.trans hk, fun x hx => ?_⟩
  · rcases List.mem_cons.1 hx with rfl | hx
    · have : k < w.heap.size := by
        rcases nfp_mem.1 hk' with h7 | ⟨x, hx, h7⟩
        · exact h1.own_lt k h7
        · exact (h1.nd x hx).lt k h7
      show k ≠ b
      omega
    · exact (h5 k hk').2 x hx
  · rcases List.mem_cons.1 hx with rfl | hx
    · exact hB
    · exact (h6.2 x hx).keep hk (by simp)
theorem NetIn.blk (h : NetIn w0 w q P way) {x : Nat × TypeId × Array Value} (hx : x ∈ w0.M) : Blk w x.1 x.2.1 x.2.2 := h.kept.2 x hx
theorem NetIn.bare (h : NetIn w0 w q P way) : NetIn w0.w w q P way := by
  obtain ⟨⟨Q, L, h1, h2, h3, h4, h5⟩, h6⟩ := h
  exact ⟨⟨Q, L, h1, h2, h3, h4, fun k hk => ⟨(h5 k hk).1, by simp⟩⟩, h6.1, by simp⟩
theorem pl_at {i : Nat} (h : (L.map Qn.pl)[i]? = some (D, some N)) : ∃ hi : i < L.length, ∃ V, L[i].up = some (V, N) ∧ L[i].D = D := by
  rw [List.getElem?_map] at h
  cases hL : L[i]? with
  | none => rw [hL] at h; cases h
  | some x =>
    rw [hL] at h
    obtain ⟨hi, rfl⟩ := List.getElem?_eq_some_iff.1 hL
    simp only [Option.map_some, Qn.pl, Option.some.injEq, Prod.mk.injEq, Option.map_eq_some_iff] at h
    obtain ⟨rfl, ⟨V, N1⟩, h1, rfl⟩ := h
    exact ⟨hi, V, h1, rfl⟩
theorem pl_down {i : Nat} (h : (L.map Qn.pl)[i]? = some (D, none)) : ∃ hi : i < L.length, L[i].up = none ∧ L[i].D = D := by
  rw [List.getElem?_map] at h
  cases hL : L[i]? with
  | none => rw [hL] at h; cases h
  | some x =>
    rw [hL] at h
    obtain ⟨hi, rfl⟩ := List.getElem?_eq_some_iff.1 hL
    simp only [Option.map_some, Qn.pl, Option.some.injEq, Prod.mk.injEq, Option.map_eq_none_iff] at h
    exact ⟨hi, h.2, h.1⟩
theorem pl_set (i : Nat) (y : Qn) : (L.set i y).map Qn.pl = (L.map Qn.pl).set i y.pl := List.map_set
/-- What a tick makes of a node. -/
def TickTo (N : Rn) (D : Dk) (N' : Rn) (D' : Dk) : Prop := ∀ V W, NodeAt W V N D → Calls Tryz.prog 11 #[.pointer (some ⟨V.r, 0, none⟩)] W fun e w' => e = .returned (.tuple #[]) ∧ ∃ V', NodeAt w' V' N' D' ∧ NodeTo V V' W w'
set_option maxRecDepth 100000 in
theorem qtick_calls (h : NetIn w0 w q P way) (i : Nat) (hP : P[i]? = some (D, some N)) (ht : TickTo N D N' D') (hb : N'.broken = 0) (hl : way.length + N'.out.length ≤ 200) :
    Calls Tryz.prog 29 #[.pointer (some ⟨q, 0, none⟩), .int .i64 (i : Int)] w fun e w' => e = .returned (.tuple #[]) ∧ NetIn w0 w' q (P.set i (D', some { N' with out := [] })) (way ++ N'.out) := by
  obtain ⟨⟨Q, L, hA, rfl, rfl, rfl, hf⟩, hk⟩ := h
  obtain ⟨hi, V, hup, rfl⟩ := pl_at hP
  have HN := Lib.hid (qnode_calls hA i hi)
  have hptr : L[i].ptr = .pointer (some ⟨V.r, 0, none⟩) := by unfold Qn.ptr; rw [hup]
  rw [hptr] at HN
  have hn := hA.nd _ (List.getElem_mem hi)
  unfold Qn.At at hn
  rw [hup] at hn
  have HT := Lib.hid (ht V w hn.1)
  have HAF : Hid (∀ V' w1, NodeAt w1 V' N' D' → NodeTo V V' w w1 → Calls Tryz.prog 65 #[.pointer (some ⟨Q.q, 0, none⟩), .int .i64 (i : Int)] w1 fun e w' => e = .returned (.tuple #[]) ∧ NetIn w0 w' Q.q ((L.map Qn.pl).set i (D', some { N' with out := [] })) (Q.ms.map Prod.fst ++ N'.out)) := fun V' w1 h1 h2 => by
    refine (qafter_calls hA i hi hup h2 h1 hb (by simpa using hl)).mono ?_
    rintro e w' ⟨rfl, Q', Y, h3, h4, h5⟩
    have := h5.in_ hk hf h3 rfl
    rw [pl_set, h4] at this
    exact ⟨rfl, this⟩
  clear hA hf hk hP hup hptr hn ht hb hl
  go_enter Tryz.func29, Tryz.ntmps29
  go_wp2_with (first | (go_at_call 36; refine HN.out.mono ?_; rintro e w1 ⟨rfl, rfl⟩) | (go_at_call 11; refine HT.out.mono ?_; rintro e w1 ⟨rfl, V', h1, t1⟩) | (go_at_call 65; refine (HAF.out _ _ h1 t1).mono ?_; rintro e w2 ⟨rfl, h2⟩) | fail)
  go_end0
  exact ⟨rfl, h2⟩
/-- What a command more makes of a node. -/
def PropTo (N : Rn) (D : Dk) (cmd : List UInt8) (r : Value) (N' : Rn) (D' : Dk) : Prop := ∀ V W, NodeAt W V N D → Calls Tryz.prog 12 #[.pointer (some ⟨V.r, 0, none⟩), .string (bs cmd)] W fun e w' => e = .returned r ∧ ∃ V', NodeAt w' V' N' D' ∧ NodeTo V V' W w'
set_option maxRecDepth 100000 in
theorem qpropose_calls (h : NetIn w0 w q P way) (i : Nat) (hP : P[i]? = some (D, some N)) (cmd : List UInt8) (a b : Int) (ht : PropTo N D cmd (.tuple #[.int .i64 a, .int .i64 b, .int .i64 0]) N' D') (hb : N'.broken = 0) (hl : way.length + N'.out.length ≤ 200) :
    Calls Tryz.prog 62 #[.pointer (some ⟨q, 0, none⟩), .int .i64 (i : Int), .string (bs cmd)] w fun e w' => e = .returned (.tuple #[.int .i64 a, .int .i64 b, .int .i64 0]) ∧ NetIn w0 w' q (P.set i (D', some { N' with out := [] })) (way ++ N'.out) := by
  obtain ⟨⟨Q, L, hA, rfl, rfl, rfl, hf⟩, hk⟩ := h
  obtain ⟨hi, V, hup, rfl⟩ := pl_at hP
  have HN := Lib.hid (qnode_calls hA i hi)
  have hptr : L[i].ptr = .pointer (some ⟨V.r, 0, none⟩) := by unfold Qn.ptr; rw [hup]
  rw [hptr] at HN
  have hn := hA.nd _ (List.getElem_mem hi)
  unfold Qn.At at hn
  rw [hup] at hn
  have HT := Lib.hid (ht V w hn.1)
  have HAF : Hid (∀ V' w1, NodeAt w1 V' N' D' → NodeTo V V' w w1 → Calls Tryz.prog 65 #[.pointer (some ⟨Q.q, 0, none⟩), .int .i64 (i : Int)] w1 fun e w' => e = .returned (.tuple #[]) ∧ NetIn w0 w' Q.q ((L.map Qn.pl).set i (D', some { N' with out := [] })) (Q.ms.map Prod.fst ++ N'.out)) := fun V' w1 h1 h2 => by
    refine (qafter_calls hA i hi hup h2 h1 hb (by simpa using hl)).mono ?_
    rintro e w' ⟨rfl, Q', Y, h3, h4, h5⟩
    have := h5.in_ hk hf h3 rfl
    rw [pl_set, h4] at this
    exact ⟨rfl, this⟩
  clear hA hf hk hP hup hptr hn ht hb hl
  go_enter Tryz.func62, Tryz.ntmps62
  go_wp2_with (first | (go_at_call 36; refine HN.out.mono ?_; rintro e w1 ⟨rfl, rfl⟩) | (go_at_call 12; refine HT.out.mono ?_; rintro e w1 ⟨rfl, V', h1, t1⟩) | (go_at_call 65; refine (HAF.out _ _ h1 t1).mono ?_; rintro e w2 ⟨rfl, h2⟩) | fail)
  go_ret3
  exact ⟨rfl, h2⟩
end

end Go.Proofs.YtnlcipocobmgiaaGreatDoor
/- The contract of (*quorum.Net).Deliver: to a node that is up, to one that is down. -/
namespace Go.Proofs.YtnlcipocobmgiaaGreatDoor
open Go.RowKit
attribute [local go_sem] size_bs bs_append bs_extract

/-- What a message makes of a node. -/
def StepTo (N : Rn) (D : Dk) (y : Mg) (N' : Rn) (D' : Dk) : Prop := ∀ V W A c, NodeAt W V N D → EntsAt W (.slice A y.ents.length c) y.ents → (∀ k, (Value.slice A y.ents.length c).ownBlock = some k → k ∉ V.fp) → Roomy (.slice A y.ents.length c) →
  Calls Tryz.prog 22 #[.pointer (some ⟨V.r, 0, none⟩), .agg #[.int .i64 y.kind, .int .i64 y.frm, .int .i64 y.to_, .int .i64 y.term, .int .i64 y.index, .int .i64 y.logTerm, .int .i64 y.commit, .bool y.ok, .slice A y.ents.length c, .string (bs y.snap)]] W fun e w' => e = .returned (.tuple #[]) ∧ ∃ V', NodeAt w' V' N' D' ∧ NodeTo V V' W w'
section
variable {w0 : Bs} {w w' : World} {q : Nat} {P : List Pq} {way : List Mg} {N N' : Rn} {D D' : Dk} {Q Q' : Qv} {L L' : List Qn}
theorem map_eraseIdx' {α β : Type} (f : α → β) : ∀ (l : List α) (k : Nat), (l.eraseIdx k).map f = (l.map f).eraseIdx k
  | [], _ => rfl
  | _ :: _, 0 => rfl
  | a :: l, k + 1 => by simp [List.eraseIdx, map_eraseIdx' f l k]
/-- A message on its way, as it lies in memory. -/
theorem NetAt.msg (h : NetAt w Q L) (k : Nat) (y : Mg) (hk : (Q.ms.map Prod.fst)[k]? = some y) : ∃ hkl : k < Q.ms.length, ∃ A e g c, Q.ms[k] = (y, .slice A y.ents.length e) ∧ Q.way = .slice (some ⟨g, 0, none⟩) Q.ms.length c ∧ g < w.heap.size ∧ (∀ m u, m < 10 → (y.cells (.slice A y.ents.length e))[m]? = some u → w.cell? ⟨g, k * 10 + m, none⟩ = some u) ∧ EntsAt w (.slice A y.ents.length e) y.ents ∧ (∀ j, (Value.slice A y.ents.length e).ownBlock = some j → j < w.heap.size ∧ j ∉ Q.own ∧ ∀ x ∈ L, j ∉ x.fp) ∧ Roomy (.slice A y.ents.length e) := by
  rw [List.getElem?_map] at hk
  obtain ⟨⟨y0, v⟩, hp, rfl⟩ := Option.map_eq_some_iff.1 hk
  obtain ⟨hkl, hpe⟩ := List.getElem?_eq_some_iff.1 hp
  have hm : (y0, v) ∈ Q.ms := hpe ▸ List.getElem_mem hkl
  obtain ⟨hE, hE2⟩ := h.es _ hm
  have hR := h.rm _ hm
  obtain ⟨A, e, he, -⟩ := id hE
  dsimp only at he
  subst he
  obtain ⟨g, c, hg, hgl, hcc⟩ := own_cells h.wy (by omega : Q.ms.length ≠ 0)
  exact ⟨hkl, A, e, g, c, hpe, hg, hgl, fun m u hm hu => hcc _ u (by rw [msgsV_at _ _ hkl _ hm, hpe]; exact hu), hE, hE2, hR⟩
set_option maxRecDepth 100000 in
set_option maxHeartbeats 2000000 in
theorem qdeliver_up (h : NetIn w0 w q P way) (k : Nat) (y : Mg) (hk : way[k]? = some y) (i : Nat) (hi : y.to_ = (i : Int)) (hP : P[i]? = some (D, some N)) (ht : StepTo N D y N' D') (hb : N'.broken = 0) (hl : way.length + N'.out.length ≤ 200) :
    Calls Tryz.prog 35 #[.pointer (some ⟨q, 0, none⟩), .int .i64 (k : Int)] w fun e w' => e = .returned (.tuple #[]) ∧ NetIn w0 w' q (P.set i (D', some { N' with out := [] })) (way.eraseIdx k ++ N'.out) := by
  obtain ⟨⟨Q, L, hA, rfl, rfl, rfl, hf⟩, hkk⟩ := h
  obtain ⟨hi', V, hup, rfl⟩ := pl_at hP
  obtain ⟨hkl, A, ec, g, c, hpe, hg, hgl, hc, hE, hE2, hR⟩ := hA.msg k y hk
  have hl' : Q.ms.length + N'.out.length ≤ 200 := by simpa using hl
  have hptr : L[i].ptr = .pointer (some ⟨V.r, 0, none⟩) := by unfold Qn.ptr; rw [hup]
  have z2 : w.cell? ⟨Q.q, 2, none⟩ = some (.slice (some ⟨g, 0, none⟩) Q.ms.length c) := hg ▸ hA.qb.cell 2
  have hmem : L[i] ∈ L := List.getElem_mem hi'
  have hfp : L[i].fp = V.fp := by unfold Qn.fp; rw [hup]
  have hk0 : Keep [] w (w.alloc (.cells #[.int .i64 y.kind, .int .i64 y.frm, .int .i64 (i : Int), .int .i64 y.term, .int .i64 y.index, .int .i64 y.logTerm, .int .i64 y.commit, .bool y.ok, .slice A y.ents.length ec, .string (bs y.snap)] 56)) := (Keep.refl [] w).alloc _
  have hB0 : Blk (w.alloc (.cells #[.int .i64 y.kind, .int .i64 y.frm, .int .i64 (i : Int), .int .i64 y.term, .int .i64 y.index, .int .i64 y.logTerm, .int .i64 y.commit, .bool y.ok, .slice A y.ents.length ec, .string (bs y.snap)] 56)) w.heap.size 56 #[.int .i64 y.kind, .int .i64 y.frm, .int .i64 (i : Int), .int .i64 y.term, .int .i64 y.index, .int .i64 y.logTerm, .int .i64 y.commit, .bool y.ok, .slice A y.ents.length ec, .string (bs y.snap)] := Blk.new _ _ _
  have hno : w.heap.size ∉ Q.own := fun hx => by have := hA.own_lt _ hx; omega
  have hnf : w.heap.size ∉ V.fp := fun hx => by have := (hA.nd _ hmem).lt _ (hfp ▸ hx); omega
  have HDR : Hid (Calls Tryz.prog 32 #[.pointer (some ⟨Q.q, 0, none⟩), .int .i64 (k : Int)] (w.alloc (.cells #[.int .i64 y.kind, .int .i64 y.frm, .int .i64 (i : Int), .int .i64 y.term, .int .i64 y.index, .int .i64 y.logTerm, .int .i64 y.commit, .bool y.ok, .slice A y.ents.length ec, .string (bs y.snap)] 56)) fun e w' => e = .returned (.tuple #[]) ∧ ∃ way', (NetAt w' { Q with way := way', ms := Q.ms.eraseIdx k } L ∧ NetTo Q { Q with way := way', ms := Q.ms.eraseIdx k } (w.alloc (.cells #[.int .i64 y.kind, .int .i64 y.frm, .int .i64 (i : Int), .int .i64 y.term, .int .i64 y.index, .int .i64 y.logTerm, .int .i64 y.commit, .bool y.ok, .slice A y.ents.length ec, .string (bs y.snap)] 56)) w') ∧ Blk w' w.heap.size 56 #[.int .i64 y.kind, .int .i64 y.frm, .int .i64 (i : Int), .int .i64 y.term, .int .i64 y.index, .int .i64 y.logTerm, .int .i64 y.commit, .bool y.ok, .slice A y.ents.length ec, .string (bs y.snap)]) := by
    refine (qdrop_calls (hA.grow hk0) k hkl (by omega)).mono ?_
    rintro e w' ⟨rfl, way', h1, h2⟩
    exact ⟨rfl, way', ⟨h1, h2⟩, hB0.keep h2.keep hno⟩
  have HND : Hid (∀ w1 way', NetAt w1 { Q with way := way', ms := Q.ms.eraseIdx k } L ∧ NetTo Q { Q with way := way', ms := Q.ms.eraseIdx k } (w.alloc (.cells #[.int .i64 y.kind, .int .i64 y.frm, .int .i64 (i : Int), .int .i64 y.term, .int .i64 y.index, .int .i64 y.logTerm, .int .i64 y.commit, .bool y.ok, .slice A y.ents.length ec, .string (bs y.snap)] 56)) w1 → Calls Tryz.prog 36 #[.pointer (some ⟨Q.q, 0, none⟩), .int .i64 (i : Int)] w1 fun e w' => e = .returned (.pointer (some ⟨V.r, 0, none⟩)) ∧ w1 = w') := fun w1 way' h1 => by
    have := qnode_calls h1.1 i hi'
    rwa [hptr] at this
  have HST : Hid (∀ w1 way', NetAt w1 { Q with way := way', ms := Q.ms.eraseIdx k } L ∧ NetTo Q { Q with way := way', ms := Q.ms.eraseIdx k } (w.alloc (.cells #[.int .i64 y.kind, .int .i64 y.frm, .int .i64 (i : Int), .int .i64 y.term, .int .i64 y.index, .int .i64 y.logTerm, .int .i64 y.commit, .bool y.ok, .slice A y.ents.length ec, .string (bs y.snap)] 56)) w1 → Blk w1 w.heap.size 56 #[.int .i64 y.kind, .int .i64 y.frm, .int .i64 (i : Int), .int .i64 y.term, .int .i64 y.index, .int .i64 y.logTerm, .int .i64 y.commit, .bool y.ok, .slice A y.ents.length ec, .string (bs y.snap)] → Calls Tryz.prog 22 #[.pointer (some ⟨V.r, 0, none⟩), .agg #[.int .i64 y.kind, .int .i64 y.frm, .int .i64 (i : Int), .int .i64 y.term, .int .i64 y.index, .int .i64 y.logTerm, .int .i64 y.commit, .bool y.ok, .slice A y.ents.length ec, .string (bs y.snap)]] w1 fun e w' => e = .returned (.tuple #[]) ∧ ∃ V', (NodeAt w' V' N' D' ∧ NodeTo V V' w1 w') ∧ Blk w' w.heap.size 56 #[.int .i64 y.kind, .int .i64 y.frm, .int .i64 (i : Int), .int .i64 y.term, .int .i64 y.index, .int .i64 y.logTerm, .int .i64 y.commit, .bool y.ok, .slice A y.ents.length ec, .string (bs y.snap)]) := fun w1 way' h12 hB => by
    obtain ⟨h1, h2⟩ := h12
    have hn := h1.nd _ hmem
    unfold Qn.At at hn
    rw [hup] at hn
    have := ht V w1 A ec hn.1 ((hE.keep_nil hk0).keepB h2.keep fun k e => (hE2 k e).2.1) (fun k e => hfp ▸ (hE2 k e).2.2 _ hmem) hR
    rw [hi] at this
    refine this.mono ?_
    rintro e w' ⟨rfl, V', h3, h4⟩
    exact ⟨rfl, V', ⟨h3, h4⟩, hB.keep h4.keep hnf⟩
  have HAF : Hid (∀ w1 way' V' w2, NetAt w1 { Q with way := way', ms := Q.ms.eraseIdx k } L ∧ NetTo Q { Q with way := way', ms := Q.ms.eraseIdx k } (w.alloc (.cells #[.int .i64 y.kind, .int .i64 y.frm, .int .i64 (i : Int), .int .i64 y.term, .int .i64 y.index, .int .i64 y.logTerm, .int .i64 y.commit, .bool y.ok, .slice A y.ents.length ec, .string (bs y.snap)] 56)) w1 → NodeAt w2 V' N' D' ∧ NodeTo V V' w1 w2 → Calls Tryz.prog 65 #[.pointer (some ⟨Q.q, 0, none⟩), .int .i64 (i : Int)] w2 fun e w' => e = .returned (.tuple #[]) ∧ NetIn w0 w' Q.q ((L.map Qn.pl).set i (D', some { N' with out := [] })) ((Q.ms.map Prod.fst).eraseIdx k ++ N'.out)) := fun w1 way' V' w2 h12 h34 => by
    obtain ⟨h1, h2⟩ := h12
    obtain ⟨h3, h4⟩ := h34
    refine (qafter_calls h1 i hi' hup h4 h3 hb (by show (Q.ms.eraseIdx k).length + _ ≤ 200; rw [List.length_eraseIdx, if_pos hkl]; omega)).mono ?_
    rintro e w' ⟨rfl, Q', Y, h5, h6, h7⟩
    have := (((NetGo.grow Q L hk0).trans h2.go).trans h7).in_ hkk hf h5 rfl
    rw [pl_set, h6] at this
    refine ⟨rfl, ?_⟩
    rw [← map_eraseIdx']
    exact this
  have d1 : decide ((k : Int) < 0) = false := decide_eq_false (by omega)
  have d2 : decide ((Q.ms.length : Int) ≤ (k : Int)) = false := decide_eq_false (by omega)
  have d3 : (k : Int) < (Q.ms.length : Int) := by omega
  have s0 : w.cell? ⟨g, k * 10, none⟩ = some (.int .i64 y.kind) := hc 0 _ (by omega) rfl
  have s1 := hc 1 _ (by omega) rfl
  have s2 : w.cell? ⟨g, k * 10 + 2, none⟩ = some (.int .i64 (i : Int)) := hi ▸ hc 2 _ (by omega) rfl
  have s3 := hc 3 _ (by omega) rfl
  have s4 := hc 4 _ (by omega) rfl
  have s5 := hc 5 _ (by omega) rfl
  have s6 := hc 6 _ (by omega) rfl
  have s7 := hc 7 _ (by omega) rfl
  have s8 := hc 8 _ (by omega) rfl
  have s9 := hc 9 _ (by omega) rfl
  clear hA hf hkk hP hup hptr ht hb hl hl' hk hpe hg hc hE hE2 hR hmem hfp hi hk0 hB0 hno hnf
  generalize Q.ms.length = n at *
  go_enter Tryz.func35, Tryz.ntmps35
  go_wp2_with (first | (go_at_call 32; refine HDR.out.mono ?_; rintro e w1 ⟨rfl, way', h1, b1⟩; have q0 : World.cell? w1 ⟨w.heap.size, 0, none⟩ = some (.int .i64 y.kind) := Blk.cell b1 0; have q1 : World.cell? w1 ⟨w.heap.size, 1, none⟩ = some (.int .i64 y.frm) := Blk.cell b1 1; have q2 : World.cell? w1 ⟨w.heap.size, 2, none⟩ = some (.int .i64 (i : Int)) := Blk.cell b1 2; have q3 : World.cell? w1 ⟨w.heap.size, 3, none⟩ = some (.int .i64 y.term) := Blk.cell b1 3; have q4 : World.cell? w1 ⟨w.heap.size, 4, none⟩ = some (.int .i64 y.index) := Blk.cell b1 4; have q5 : World.cell? w1 ⟨w.heap.size, 5, none⟩ = some (.int .i64 y.logTerm) := Blk.cell b1 5; have q6 : World.cell? w1 ⟨w.heap.size, 6, none⟩ = some (.int .i64 y.commit) := Blk.cell b1 6; have q7 : World.cell? w1 ⟨w.heap.size, 7, none⟩ = some (.bool y.ok) := Blk.cell b1 7; have q8 : World.cell? w1 ⟨w.heap.size, 8, none⟩ = some (.slice A y.ents.length ec) := Blk.cell b1 8; have q9 : World.cell? w1 ⟨w.heap.size, 9, none⟩ = some (.string (bs y.snap)) := Blk.cell b1 9; have H1 := Lib.hid h1; have B1 := Lib.hid b1; clear h1 b1) | (go_at_call 36; refine (HND.out _ _ H1.out).mono ?_; rintro e w2 ⟨rfl, rfl⟩) | (go_at_call 22; refine (HST.out _ _ H1.out B1.out).mono ?_; rintro e w2 ⟨rfl, V', h2, b2⟩; clear q0 q1 q2 q3 q4 q5 q6 q7 q8 q9; have q2 : w2.cell? ⟨w.heap.size, 2, none⟩ = some (.int .i64 (i : Int)) := b2.cell 2; have H2 := Lib.hid h2; clear h2 b2) | (go_at_call 65; refine (HAF.out _ _ _ _ H1.out H2.out).mono ?_; rintro e w3 ⟨rfl, h3⟩) | fail)
  go_end0
  exact ⟨rfl, h3⟩
set_option maxRecDepth 100000 in
set_option maxHeartbeats 2000000 in
theorem qdeliver_down (h : NetIn w0 w q P way) (k : Nat) (y : Mg) (hk : way[k]? = some y) (i : Nat) (hi : y.to_ = (i : Int)) (hP : P[i]? = some (D, none)) (hl : way.length ≤ 200) :
    Calls Tryz.prog 35 #[.pointer (some ⟨q, 0, none⟩), .int .i64 (k : Int)] w fun e w' => e = .returned (.tuple #[]) ∧ NetIn w0 w' q P (way.eraseIdx k) := by
  obtain ⟨⟨Q, L, hA, rfl, rfl, rfl, hf⟩, hkk⟩ := h
  obtain ⟨hi', hup, rfl⟩ := pl_down hP
  obtain ⟨hkl, A, ec, g, c, hpe, hg, hgl, hc, hE, hE2, hR⟩ := hA.msg k y hk
  have hl' : Q.ms.length ≤ 200 := by simpa using hl
  have hptr : L[i].ptr = .pointer none := by unfold Qn.ptr; rw [hup]
  have z2 : w.cell? ⟨Q.q, 2, none⟩ = some (.slice (some ⟨g, 0, none⟩) Q.ms.length c) := hg ▸ hA.qb.cell 2
  have hk0 : Keep [] w (w.alloc (.cells #[.int .i64 y.kind, .int .i64 y.frm, .int .i64 (i : Int), .int .i64 y.term, .int .i64 y.index, .int .i64 y.logTerm, .int .i64 y.commit, .bool y.ok, .slice A y.ents.length ec, .string (bs y.snap)] 56)) := (Keep.refl [] w).alloc _
  have hB0 : Blk (w.alloc (.cells #[.int .i64 y.kind, .int .i64 y.frm, .int .i64 (i : Int), .int .i64 y.term, .int .i64 y.index, .int .i64 y.logTerm, .int .i64 y.commit, .bool y.ok, .slice A y.ents.length ec, .string (bs y.snap)] 56)) w.heap.size 56 #[.int .i64 y.kind, .int .i64 y.frm, .int .i64 (i : Int), .int .i64 y.term, .int .i64 y.index, .int .i64 y.logTerm, .int .i64 y.commit, .bool y.ok, .slice A y.ents.length ec, .string (bs y.snap)] := Blk.new _ _ _
  have hno : w.heap.size ∉ Q.own := fun hx => by have := hA.own_lt _ hx; omega
  have HDR : Hid (Calls Tryz.prog 32 #[.pointer (some ⟨Q.q, 0, none⟩), .int .i64 (k : Int)] (w.alloc (.cells #[.int .i64 y.kind, .int .i64 y.frm, .int .i64 (i : Int), .int .i64 y.term, .int .i64 y.index, .int .i64 y.logTerm, .int .i64 y.commit, .bool y.ok, .slice A y.ents.length ec, .string (bs y.snap)] 56)) fun e w' => e = .returned (.tuple #[]) ∧ (∃ way', NetAt w' { Q with way := way', ms := Q.ms.eraseIdx k } L) ∧ NetIn w0 w' Q.q (L.map Qn.pl) ((Q.ms.map Prod.fst).eraseIdx k) ∧ Blk w' w.heap.size 56 #[.int .i64 y.kind, .int .i64 y.frm, .int .i64 (i : Int), .int .i64 y.term, .int .i64 y.index, .int .i64 y.logTerm, .int .i64 y.commit, .bool y.ok, .slice A y.ents.length ec, .string (bs y.snap)]) := by
    refine (qdrop_calls (hA.grow hk0) k hkl (by omega)).mono ?_
    rintro e w' ⟨rfl, way', h1, h2⟩
    refine ⟨rfl, ⟨way', h1⟩, ?_, hB0.keep h2.keep hno⟩
    have := ((NetGo.grow Q L hk0).trans (h2.go (L := L))).in_ hkk hf h1 rfl
    rw [← map_eraseIdx']
    exact this
  have HND : Hid (∀ w1 way', NetAt w1 { Q with way := way', ms := Q.ms.eraseIdx k } L → Calls Tryz.prog 36 #[.pointer (some ⟨Q.q, 0, none⟩), .int .i64 (i : Int)] w1 fun e w' => e = .returned (.pointer none) ∧ w1 = w') := fun w1 way' h1 => by
    have := qnode_calls h1 i hi'
    rwa [hptr] at this
  have d1 : decide ((k : Int) < 0) = false := decide_eq_false (by omega)
  have d2 : decide ((Q.ms.length : Int) ≤ (k : Int)) = false := decide_eq_false (by omega)
  have d3 : (k : Int) < (Q.ms.length : Int) := by omega
  have s0 : w.cell? ⟨g, k * 10, none⟩ = some (.int .i64 y.kind) := hc 0 _ (by omega) rfl
  have s1 := hc 1 _ (by omega) rfl
  have s2 : w.cell? ⟨g, k * 10 + 2, none⟩ = some (.int .i64 (i : Int)) := hi ▸ hc 2 _ (by omega) rfl
  have s3 := hc 3 _ (by omega) rfl
  have s4 := hc 4 _ (by omega) rfl
  have s5 := hc 5 _ (by omega) rfl
  have s6 := hc 6 _ (by omega) rfl
  have s7 := hc 7 _ (by omega) rfl
  have s8 := hc 8 _ (by omega) rfl
  have s9 := hc 9 _ (by omega) rfl
  clear hA hf hkk hP hup hptr hl hl' hk hpe hg hc hE hE2 hR hi hk0 hB0 hno
  generalize Q.ms.length = n at *
  go_enter Tryz.func35, Tryz.ntmps35
  go_wp2_with (first | (go_at_call 32; refine HDR.out.mono ?_; rintro e w1 ⟨rfl, ⟨way', h1⟩, n1, b1⟩; have q0 : World.cell? w1 ⟨w.heap.size, 0, none⟩ = some (.int .i64 y.kind) := Blk.cell b1 0; have q1 : World.cell? w1 ⟨w.heap.size, 1, none⟩ = some (.int .i64 y.frm) := Blk.cell b1 1; have q2 : World.cell? w1 ⟨w.heap.size, 2, none⟩ = some (.int .i64 (i : Int)) := Blk.cell b1 2; have q3 : World.cell? w1 ⟨w.heap.size, 3, none⟩ = some (.int .i64 y.term) := Blk.cell b1 3; have q4 : World.cell? w1 ⟨w.heap.size, 4, none⟩ = some (.int .i64 y.index) := Blk.cell b1 4; have q5 : World.cell? w1 ⟨w.heap.size, 5, none⟩ = some (.int .i64 y.logTerm) := Blk.cell b1 5; have q6 : World.cell? w1 ⟨w.heap.size, 6, none⟩ = some (.int .i64 y.commit) := Blk.cell b1 6; have q7 : World.cell? w1 ⟨w.heap.size, 7, none⟩ = some (.bool y.ok) := Blk.cell b1 7; have q8 : World.cell? w1 ⟨w.heap.size, 8, none⟩ = some (.slice A y.ents.length ec) := Blk.cell b1 8; have q9 : World.cell? w1 ⟨w.heap.size, 9, none⟩ = some (.string (bs y.snap)) := Blk.cell b1 9; clear b1; have H1 := Lib.hid h1; have T1 := Lib.hid n1; clear h1 n1) | (go_at_call 36; refine (HND.out _ _ H1.out).mono ?_; rintro e w2 ⟨rfl, rfl⟩) | fail)
  ((try simp only [Exit.inBlock, Exit.then]); refine bodyPost_ret (results_none rfl _ _ _) rfl ?_)
  exact ⟨rfl, T1.out⟩
end

end Go.Proofs.YtnlcipocobmgiaaGreatDoor
