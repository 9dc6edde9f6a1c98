/- The contracts of (*quorum.Net).Start and Crash. -/
import Derived.Test.YtnlcipocobmgiaaGreatDoorQNetB
import Derived.Test.YtnlcipocobmgiaaGreatDoorRaft10
import Derived.Test.YtnlcipocobmgiaaGreatDoorCrashes
import Derived.StillTailTactics
import Derived.Deep.RegionHeld3
import Derived.Deep.RegionWith
import Derived.Test.YtnlcipocobmgiaaGreatDoorHolds
namespace Go.Proofs.YtnlcipocobmgiaaGreatDoor
open Go.RowKit
attribute [local go_sem] size_bs bs_append bs_extract

section
variable {w0 : Bs} {w w' : World} {q : Nat} {P : List Pq} {way : List Mg} {N N' : Rn} {D D' : Dk} {Q Q' : Qv} {L L' : List Qn}
/-- A node has come or gone. -/
theorem NetAt.turnP (h : NetAt w Q L) {i : Nat} (hi : i < L.length) {y : Qn} (hk : Keep (Q.na :: L[i].fp) w w') (hn : Blk w' Q.na 34 ((L.set i y).map Qn.ptr).toArray) (hy : y.At w') (hfp : ∀ k ∈ y.fp, k ∈ L[i].fp ∨ w.heap.size ≤ k) (hb : y.dptr = L[i].dptr) : NetAt w' Q (L.set i y) ∧ NetGo Q L Q (L.set i y) w w' := by
  have hmem : L[i] ∈ L := List.getElem_mem hi
  have hnao : Q.na ∈ Q.own := Qv.mem.2 (.inr (.inl rfl))
  have hnt : ∀ k ∈ Q.na :: L[i].fp, k ≠ 0 := fun k hk e => by
    rcases List.mem_cons.1 hk with rfl | hk
    · exact h.tn (e ▸ hnao)
    · exact (h.nd _ hmem).tn h.tab (e ▸ hk)
  have hno : ∀ k ∈ Q.own, k ≠ Q.na → k ∉ Q.na :: L[i].fp := fun k hk hne hx => by
    rcases List.mem_cons.1 hx with rfl | hx
    · exact hne rfl
    · exact h.far _ hmem k hx hk
  have e1 : Q.q ≠ Q.na := fun e => h.nb.ne_ h.qb (by decide) e.symm
  have e2 : Q.da ≠ Q.na := h.db.ne_ h.nb (by decide)
  have e3 : ∀ k, Q.way.ownBlock = some k → k ≠ Q.na := fun k e e' => own_blk_ne h.wy h.nb (by decide) (e' ▸ e)
  have hset : ((L.set i y).map Qn.dptr) = L.map Qn.dptr := by
    rw [List.map_set, hb]
    apply List.ext_getElem
    · simp
    · intro j h1 h2
      rw [List.getElem_set]
      split
      · rename_i e; subst e; simp
      · rfl
  refine ⟨⟨?_, hn, ?_, ?_, ?_, ?_, ?_, ?_, ?_, h.tn, h.rm⟩, ⟨?_, ?_, rfl⟩⟩
  · rw [List.length_set]
    exact h.qb.keep hk (hno _ (Qv.mem.2 (.inl rfl)) e1)
  · rw [hset]
    exact h.db.keep hk (hno _ (Qv.mem.2 (.inr (.inr (.inl rfl)))) e2)
  · exact hk.owns h.wy fun k e => hno k (Qv.mem.2 (.inr (.inr (.inr e)))) (e3 k e)
  · intro p hp
    obtain ⟨h1, h2⟩ := h.es p hp
    have hx : ∀ k, p.2.ownBlock = some k → k ∉ Q.na :: L[i].fp := fun k e hx => by
      rcases List.mem_cons.1 hx with rfl | hx
      · exact (h2 _ e).2.1 hnao
      · exact (h2 k e).2.2 _ hmem hx
    refine ⟨h1.keepB hk hx, fun k e => ?_⟩
    obtain ⟨h3, h4, h5⟩ := h2 k e
    refine ⟨Nat.lt_of_lt_of_le h3 hk.size, h4, fun z hz => ?_⟩
    rcases List.mem_or_eq_of_mem_set hz with hz | rfl
    · exact h5 z hz
    · intro hx
      rcases hfp k hx with hx | hx
      · exact h5 _ hmem hx
      · omega
  · intro z hz
    obtain ⟨j, hj, rfl⟩ := List.getElem_of_mem hz
    rw [List.getElem_set]
    split
    · exact hy
    · rename_i hne
      have hj' : j < L.length := by simpa using hj
      refine (h.nd _ (List.getElem_mem hj')).keep hk fun k hkm => ⟨fun hx => ?_, hnt k hkm⟩
      rcases List.mem_cons.1 hkm with rfl | hkm
      · exact h.far _ (List.getElem_mem hj') _ hx hnao
      · exact pairwise_at (R := fun x y => ∀ k ∈ x.fp, k ∉ y.fp) (fun x y hxy k hy hx => hxy k hx hy) h.dis hi hj' hne k hkm hx
  · refine pairwise_set (fun x y hxy k hy hx => hxy k hx hy) h.dis fun j hj hne k hky => ?_
    rcases hfp k hky with hx | hx
    · exact pairwise_at (R := fun x y => ∀ k ∈ x.fp, k ∉ y.fp) (fun x y hxy k hy hx => hxy k hx hy) h.dis hi hj (Ne.symm hne) k hx
    · intro hm
      have := (h.nd _ (List.getElem_mem hj)).lt k hm
      omega
  · intro z hz k hkz
    rcases List.mem_or_eq_of_mem_set hz with hz | rfl
    · exact h.far z hz k hkz
    · rcases hfp k hkz with hx | hx
      · exact h.far _ hmem k hx
      · intro hm
        have := h.own_lt k hm
        omega
  · exact h.tab.keep hk fun hm => hnt _ hm rfl
  · exact hk.mono fun k hx => .inl (nfp_mem.2 (by
      rcases List.mem_cons.1 hx with rfl | hx
      · exact .inl hnao
      · exact .inr ⟨_, hmem, hx⟩))
  · intro k hx
    rcases nfp_mem.1 hx with h1 | ⟨x, h1, h2⟩
    · exact .inl (nfp_mem.2 (.inl h1))
    · rcases List.mem_or_eq_of_mem_set h1 with h3 | rfl
      · exact .inl (nfp_mem.2 (.inr ⟨x, h3, h2⟩))
      · rcases hfp k h2 with h4 | h4
        · exact .inl (nfp_mem.2 (.inr ⟨_, hmem, h4⟩))
        · exact .inr h4
theorem ptrs_set (i : Nat) (y : Qn) : (L.map Qn.ptr).toArray.setIfInBounds i y.ptr = ((L.set i y).map Qn.ptr).toArray := by
  rw [List.setIfInBounds_toArray, List.map_set]
theorem Dk.Good.armed_ (h : D.Good) : ({ D with armed := 0 } : Dk).Good := by
  obtain ⟨h1, h2⟩ := h
  exact ⟨⟨h1.room, h1.used, h1.fits, by show (0 : Int) ≤ 4294967296; omega⟩, h2⟩
set_option maxRecDepth 100000 in
set_option maxHeartbeats 2000000 in
/-- Start, of a node that is down. -/
theorem qstart_calls (h : NetIn w0 w q P way) (i : Nat) (hP : P[i]? = some (D, none)) (hg : D.Good) (hn : P.length ≤ 5) {s : Ts} (hl : ({ D with armed := 0 } : Dk).load = (D', s, 0)) :
    Calls Tryz.prog 37 #[.pointer (some ⟨q, 0, none⟩), .int .i64 (i : Int)] w fun e w' => e = .returned (.int .i64 0) ∧ NetIn w0 w' q (P.set i (D', some (Rn.opened i P.length s))) way := by
  obtain ⟨⟨Q, L, hA, rfl, rfl, rfl, hf⟩, hkk⟩ := h
  obtain ⟨hi, hup, rfl⟩ := pl_down hP
  have hmem : L[i] ∈ L := List.getElem_mem hi
  have hn5 : L.length ≤ 5 := by simpa using hn
  have hfp : L[i].fp = [L[i].b, L[i].m] := by unfold Qn.fp; rw [hup]
  have hat := hA.nd _ hmem
  unfold Qn.At at hat
  rw [hup] at hat
  have HH := Lib.hid (qhas_calls hA i hi)
  have z0 : w.cell? ⟨Q.q, 0, none⟩ = some (.slice (some ⟨Q.na, 0, none⟩) L.length L.length) := hA.qb.cell 0
  have z1 : w.cell? ⟨Q.q, 1, none⟩ = some (.slice (some ⟨Q.da, 0, none⟩) L.length L.length) := hA.qb.cell 1
  have p0 : w.cell? ⟨Q.na, i, none⟩ = some (.pointer none) := by
    rw [hA.ptr i hi]
    unfold Qn.ptr
    rw [hup]
  have p1 := hA.dptr i hi
  have hF := fail_off hat (-1) (by omega)
  have hga := hg.armed_
  obtain ⟨Da, hDa⟩ : ∃ Da, Da = ({ L[i].D with armed := 0 } : Dk) := ⟨_, rfl⟩
  rw [← hDa] at hl hF hga
  have HF := Lib.hid hF
  have HO : Hid (∀ w1, DiskAt w1 L[i].b L[i].m Da → Keep [L[i].b] w w1 → Calls Tryz.prog 10 #[.pointer (some ⟨L[i].b, 0, none⟩), .int .i64 (i : Int), .int .i64 (L.length : Int)] w1.drew fun e w' => ∃ V, e = .returned (.tuple #[.pointer (some ⟨V.r, 0, none⟩), .int .i64 0]) ∧ (NodeAt w' V (Rn.opened i L.length s) D' ∧ V.b = L[i].b ∧ V.m = L[i].m ∧ V.outs = [] ∧ (∀ x ∈ V.fp, x = L[i].b ∨ x = L[i].m ∨ w1.drew.heap.size ≤ x) ∧ Keep [L[i].b, L[i].m] w1.drew w')) := fun w1 h1 h2 => by
    have hb : ∀ k ∈ [L[i].b], k ∈ L[i].fp := fun k hk => by rw [hfp]; simp at hk ⊢; exact .inl hk
    have hT : Tab w1.drew := (hA.tab.keep h2 fun hm => (hA.nd _ hmem).tn hA.tab (hb _ hm)).keep (M := []) (Keep.refl _ _).drew (by simp)
    exact ropen_calls (h1.keep (M := []) (Keep.refl _ _).drew (by simp) (by simp)) hga hT i L.length hn5 hi hl
  have HEND : Hid (∀ w1 w2 V, Keep [L[i].b] w w1 → (NodeAt w2 V (Rn.opened i L.length s) D' ∧ V.b = L[i].b ∧ V.m = L[i].m ∧ V.outs = [] ∧ (∀ x ∈ V.fp, x = L[i].b ∨ x = L[i].m ∨ w1.drew.heap.size ≤ x) ∧ Keep [L[i].b, L[i].m] w1.drew w2) → NetIn w0 (w2.setCell ⟨Q.na, i, none⟩ (.pointer (some ⟨V.r, 0, none⟩))) Q.q ((L.map Qn.pl).set i (D', some (Rn.opened i L.length s))) (Q.ms.map Prod.fst)) := fun w1 w2 V h1 h2 => by
    obtain ⟨n1, n2, n3, n4, n5, n6⟩ := h2
    have hkA : Keep L[i].fp w w2 := by
      rw [hfp]
      exact ((h1.drew).mono (fun k hk => .inl (by simp at hk ⊢; exact .inl hk))).trans' n6 (fun k hk => .inl hk)
    have hnaf : Q.na ∉ L[i].fp := fun hx => hA.far _ hmem _ hx (Qv.mem.2 (.inr (.inl rfl)))
    have hfpV : ∀ k ∈ V.fp, k ∈ L[i].fp ∨ w.heap.size ≤ k := fun k hk => by
      rw [hfp]
      rcases n5 k hk with h3 | h3 | h3
      · exact .inl (by simp [h3])
      · exact .inl (by simp [h3])
      · exact .inr (Nat.le_trans h1.size h3)
    have hnaV : Q.na ∉ V.fp := fun hx => by
      rcases hfpV _ hx with h3 | h3
      · exact hnaf h3
      · have := hA.nb.lt; omega
    have hkS : Keep [Q.na] w2 (w2.setCell ⟨Q.na, i, none⟩ (.pointer (some ⟨V.r, 0, none⟩))) := (Keep.refl _ _).setCell (.inl (by simp)) _
    have hnt : Q.na ≠ 0 := fun e => hA.tn (e ▸ Qv.mem.2 (.inr (.inl rfl)))
    obtain ⟨r1, r2⟩ := hA.turnP hi (y := ⟨L[i].b, L[i].m, D', some (V, Rn.opened i L.length s)⟩) (w' := w2.setCell ⟨Q.na, i, none⟩ (.pointer (some ⟨V.r, 0, none⟩))) ((hkA.mono (fun k hk => .inl (List.mem_cons_of_mem _ hk))).trans' hkS (fun k hk => .inl (by simp at hk; simp [hk]))) (by
      have := (hA.nb.keep hkA hnaf).set_ i (.pointer (some ⟨V.r, 0, none⟩))
      rw [← ptrs_set i]
      exact this) ⟨n1.keep hkS (fun k hk => by simp at hk; subst hk; exact ⟨hnaV, by rw [n4]; simp, hnt⟩), n2, n3, n4⟩ hfpV rfl
    have := r2.in_ hkk hf r1 rfl
    rw [pl_set] at this
    exact this
  have HZ : Hid (∀ W, Keep [L[i].b, L[i].m] w W → (W.cell? ⟨Q.q, 0, none⟩ = some (.slice (some ⟨Q.na, 0, none⟩) L.length L.length) ∧ W.cell? ⟨Q.q, 1, none⟩ = some (.slice (some ⟨Q.da, 0, none⟩) L.length L.length) ∧ W.cell? ⟨Q.da, i, none⟩ = some (.pointer (some ⟨L[i].b, 0, none⟩))) ∧ W.cell? ⟨Q.na, i, none⟩ = some (.pointer none) ∧ W.frozen? ⟨Q.na, i, none⟩ = false) := fun W hkA => by
    rw [← hfp] at hkA
    have hx : ∀ k ∈ Q.own, k ∉ L[i].fp := fun k hk hx => hA.far _ hmem _ hx hk
    have hq := hA.qb.keep hkA (hx _ (Qv.mem.2 (.inl rfl)))
    have hb := hA.nb.keep hkA (hx _ (Qv.mem.2 (.inr (.inl rfl))))
    refine ⟨⟨hq.cell 0, hq.cell 1, ?_⟩, (hkA.cell (p := ⟨Q.na, i, none⟩) hA.nb.lt (hx _ (Qv.mem.2 (.inr (.inl rfl))))).trans p0, hb.frozen i⟩
    rw [(hA.db.keep hkA (hx _ (Qv.mem.2 (.inr (.inr (.inl rfl)))))).cell]
    simp [hi, Qn.dptr]
  have d1 : decide ((i : Int) < (L.length : Int)) = true := decide_eq_true (by omega)
  have d2 : (i : Int) < (L.length : Int) := by omega
  simp only [List.length_map]
  clear hA hf hkk hP hup hmem hfp hat hg hl hDa hF hga
  generalize L[i].b = b at *
  generalize L[i].m = m at *
  clear hi
  generalize L.length = n at *
  go_enter Tryz.func37, Tryz.ntmps37
  go_wp2_with (first | (go_at_call 70; refine HH.out.mono ?_; rintro e w1 ⟨rfl, rfl⟩) | (go_at_call 71; refine HF.out.mono ?_; rintro e w1 ⟨rfl, h1, k1⟩; have H1 := Lib.hid h1; have K1 := Lib.hid k1; clear h1 k1 z0 z1 p0 p1) | fail)
  have K1b : Hid (Keep [b, m] w w1) := K1.out.mono fun k hk => .inl (by simp at hk ⊢; exact .inl hk)
  have HS : Hid (∀ W, Keep [] w1 W → World.cell? W ⟨Q.q, 0, none⟩ = some (.slice (some ⟨Q.na, 0, none⟩) n n) ∧ World.cell? W ⟨Q.q, 1, none⟩ = some (.slice (some ⟨Q.da, 0, none⟩) n n) ∧ World.cell? W ⟨Q.da, i, none⟩ = some (.pointer (some ⟨b, 0, none⟩))) := fun W hk => (HZ.out W (K1b.out.trans hk.nil_)).1
  refine wp_region_held_drew (S := fun W => World.cell? W ⟨Q.q, 0, none⟩ = some (.slice (some ⟨Q.na, 0, none⟩) n n) ∧ World.cell? W ⟨Q.q, 1, none⟩ = some (.slice (some ⟨Q.da, 0, none⟩) n n) ∧ World.cell? W ⟨Q.da, i, none⟩ = some (.pointer (some ⟨b, 0, none⟩))) (by kernel_rfl) (HS.out _ (Keep.refl _ _).drew) (fun hHeld => ?_)
  refine wpAnyH_take (i := 0) (v := ?_) (by simp only [List.getElem?_toArray, List.getElem?_cons_zero]; rfl) (by kernel_rfl) (by kernel_rfl) (by kernel_rfl) (by exact fun _ _ _ h => h) ?_ hHeld ?_
  rotate_left
  · refine Or.inl ⟨by rfl, ?_⟩
    rintro W ⟨s0, s1, s2⟩
    go_simp
    with_reducible rfl
  try simp only [Act.put, List.setIfInBounds_toArray, List.set_cons_zero, List.set_cons_succ]
  refine wpAnyH_take (i := 1) (v := ?_) (by simp only [List.getElem?_toArray, List.getElem?_cons_succ, List.getElem?_cons_zero]; rfl) (by kernel_rfl) (by kernel_rfl) (by kernel_rfl) (by exact fun _ _ _ h => h) ?_ hHeld ?_
  rotate_left
  · refine Or.inl ⟨by rfl, ?_⟩
    rintro W ⟨s0, s1, s2⟩
    go_simp
    with_reducible rfl
  try simp only [Act.put, List.setIfInBounds_toArray, List.set_cons_zero, List.set_cons_succ]
  refine wpAnyH_take (i := 2) (v := ?_) (by simp only [List.getElem?_toArray, List.getElem?_cons_succ, List.getElem?_cons_zero]; rfl) (by kernel_rfl) (by kernel_rfl) (by kernel_rfl) (by exact fun _ _ _ h => h) ?_ hHeld ?_
  rotate_left
  · refine Or.inl ⟨by rfl, ?_⟩
    rintro W ⟨s0, s1, s2⟩
    go_simp
    with_reducible rfl
  try simp only [Act.put, List.setIfInBounds_toArray, List.set_cons_zero, List.set_cons_succ]
  refine wpAnyH_take (i := 3) (v := ?_) (by simp only [List.getElem?_toArray, List.getElem?_cons_succ, List.getElem?_cons_zero]; rfl) (by kernel_rfl) (by kernel_rfl) (by kernel_rfl) (by exact fun _ _ _ h => h) ?_ hHeld ?_
  rotate_left
  · refine Or.inl ⟨by rfl, ?_⟩
    rintro W ⟨s0, s1, s2⟩
    go_simp
    with_reducible rfl
  try simp only [Act.put, List.setIfInBounds_toArray, List.set_cons_zero, List.set_cons_succ]
  refine wpAnyH_take (i := 4) (v := ?_) (by simp only [List.getElem?_toArray, List.getElem?_cons_succ, List.getElem?_cons_zero]; rfl) (by kernel_rfl) (by kernel_rfl) (by kernel_rfl) (by exact fun _ _ _ h => h) ?_ hHeld ?_
  rotate_left
  · refine Or.inl ⟨by rfl, ?_⟩
    rintro W ⟨s0, s1, s2⟩
    go_simp
    with_reducible rfl
  try simp only [Act.put, List.setIfInBounds_toArray, List.set_cons_zero, List.set_cons_succ]
  refine wpAnyH_take (i := 5) (v := ?_) (by simp only [List.getElem?_toArray, List.getElem?_cons_succ, List.getElem?_cons_zero]; rfl) (by kernel_rfl) (by kernel_rfl) (by kernel_rfl) (by exact fun _ _ _ h => h) ?_ hHeld ?_
  rotate_left
  · refine Or.inl ⟨by rfl, ?_⟩
    rintro W ⟨s0, s1, s2⟩
    go_simp
    with_reducible rfl
  try simp only [Act.put, List.setIfInBounds_toArray, List.set_cons_zero, List.set_cons_succ]
  refine wpAnyH_take (i := 6) (v := ?_) (by simp only [List.getElem?_toArray, List.getElem?_cons_succ, List.getElem?_cons_zero]; rfl) (by kernel_rfl) (by kernel_rfl) (by kernel_rfl) (by exact fun _ _ _ h => h) ?_ hHeld ?_
  rotate_left
  · refine Or.inl ⟨by rfl, ?_⟩
    rintro W ⟨s0, s1, s2⟩
    go_simp
    with_reducible rfl
  try simp only [Act.put, List.setIfInBounds_toArray, List.set_cons_zero, List.set_cons_succ]
  refine wpAnyH_take (i := 7) (v := ?_) (by simp only [List.getElem?_toArray, List.getElem?_cons_succ, List.getElem?_cons_zero]; rfl) (by kernel_rfl) (by kernel_rfl) (by kernel_rfl) (by exact fun _ _ _ h => h) ?_ hHeld ?_
  rotate_left
  · refine Or.inl ⟨by rfl, ?_⟩
    rintro W ⟨s0, s1, s2⟩
    go_simp
    with_reducible rfl
  try simp only [Act.put, List.setIfInBounds_toArray, List.set_cons_zero, List.set_cons_succ]
  refine wpAnyH_take (i := 8) (v := ?_) (by simp only [List.getElem?_toArray, List.getElem?_cons_succ, List.getElem?_cons_zero]; rfl) (by kernel_rfl) (by kernel_rfl) (by kernel_rfl) (by exact fun _ _ _ h => h) ?_ hHeld ?_
  rotate_left
  · refine Or.inl ⟨by rfl, ?_⟩
    rintro W ⟨s0, s1, s2⟩
    go_simp
    with_reducible rfl
  try simp only [Act.put, List.setIfInBounds_toArray, List.set_cons_zero, List.set_cons_succ]
  refine wpAnyH_take (i := 9) (v := ?_) (by simp only [List.getElem?_toArray, List.getElem?_cons_succ, List.getElem?_cons_zero]; rfl) (by kernel_rfl) (by kernel_rfl) (by kernel_rfl) (by exact fun _ _ _ h => h) ?_ hHeld ?_
  rotate_left
  · refine Or.inl ⟨by rfl, ?_⟩
    rintro W ⟨s0, s1, s2⟩
    go_simp
    with_reducible rfl
  try simp only [Act.put, List.setIfInBounds_toArray, List.set_cons_zero, List.set_cons_succ]
  refine wpAnyH_take (i := 10) (v := ?_) (by simp only [List.getElem?_toArray, List.getElem?_cons_succ, List.getElem?_cons_zero]; rfl) (by kernel_rfl) (by kernel_rfl) (by kernel_rfl) (by exact fun _ _ _ h => h) ?_ hHeld ?_
  rotate_left
  · refine Or.inl ⟨by rfl, ?_⟩
    rintro W ⟨s0, s1, s2⟩
    go_simp
    with_reducible rfl
  try simp only [Act.put, List.setIfInBounds_toArray, List.set_cons_zero, List.set_cons_succ]
  refine wpAnyH_take (i := 11) (v := ?_) (by simp only [List.getElem?_toArray, List.getElem?_cons_succ, List.getElem?_cons_zero]; rfl) (by kernel_rfl) (by kernel_rfl) (by kernel_rfl) (by exact fun _ _ _ h => h) ?_ hHeld ?_
  rotate_left
  · refine Or.inl ⟨by rfl, ?_⟩
    rintro W ⟨s0, s1, s2⟩
    go_simp
    with_reducible rfl
  try simp only [Act.put, List.setIfInBounds_toArray, List.set_cons_zero, List.set_cons_succ]
  refine wpAnyH_take (i := 12) (v := ?_) (by simp only [List.getElem?_toArray, List.getElem?_cons_succ, List.getElem?_cons_zero]; rfl) (by kernel_rfl) (by kernel_rfl) (by kernel_rfl) (by exact fun _ _ _ h => h) ?_ hHeld ?_
  rotate_left
  · refine Or.inl ⟨by rfl, ?_⟩
    rintro W ⟨s0, s1, s2⟩
    go_simp
    with_reducible rfl
  try simp only [Act.put, List.setIfInBounds_toArray, List.set_cons_zero, List.set_cons_succ]
  refine wpAnyH_ready (rs := [13]) (by kernel_rfl) (by simp) (AllReadyH.cons rfl (fun K hK => ?_) AllReadyH.nil)
  go_simp
  go_at_call 10
  refine (HO.out _ H1.out K1.out).mono ?_
  rintro e w2 ⟨V, rfl, h2⟩
  have H2 := Lib.hid h2
  have K2 : Hid (Keep [b, m] w w2) := (K1b.out.drew).trans h2.2.2.2.2.2
  clear hHeld h2
  have hHeld := (HZ.out _ K2.out).1
  go_simp
  refine hK.out _ _ hHeld (fun _ => ?_)
  clear hK K
  try simp only [Act.put, List.setIfInBounds_toArray, List.set_cons_zero, List.set_cons_succ]
  refine wpAnyH_take (i := 14) (v := ?_) (by simp only [List.getElem?_toArray, List.getElem?_cons_succ, List.getElem?_cons_zero]; rfl) (by kernel_rfl) (by kernel_rfl) (by kernel_rfl) (by exact fun _ _ _ h => h) ?_ hHeld ?_
  rotate_left
  · refine Or.inl ⟨by rfl, ?_⟩
    rintro W ⟨s0, s1, s2⟩
    go_simp
    with_reducible rfl
  try simp only [Act.put, List.setIfInBounds_toArray, List.set_cons_zero, List.set_cons_succ]
  refine wpAnyH_take (i := 15) (v := ?_) (by simp only [List.getElem?_toArray, List.getElem?_cons_succ, List.getElem?_cons_zero]; rfl) (by kernel_rfl) (by kernel_rfl) (by kernel_rfl) (by exact fun _ _ _ h => h) ?_ hHeld ?_
  rotate_left
  · refine Or.inl ⟨by rfl, ?_⟩
    rintro W ⟨s0, s1, s2⟩
    go_simp
    with_reducible rfl
  try simp only [Act.put, List.setIfInBounds_toArray, List.set_cons_zero, List.set_cons_succ]
  refine wpAnyH_take (i := 16) (v := ?_) (by simp only [List.getElem?_toArray, List.getElem?_cons_succ, List.getElem?_cons_zero]; rfl) (by kernel_rfl) (by kernel_rfl) (by kernel_rfl) (by exact fun _ _ _ h => h) ?_ hHeld ?_
  rotate_left
  · refine Or.inl ⟨by rfl, ?_⟩
    rintro W ⟨s0, s1, s2⟩
    go_simp
    with_reducible rfl
  try simp only [Act.put, List.setIfInBounds_toArray, List.set_cons_zero, List.set_cons_succ]
  refine wpAnyH_take (i := 17) (v := ?_) (by simp only [List.getElem?_toArray, List.getElem?_cons_succ, List.getElem?_cons_zero]; rfl) (by kernel_rfl) (by kernel_rfl) (by kernel_rfl) (by exact fun _ _ _ h => h) ?_ hHeld ?_
  rotate_left
  · refine Or.inl ⟨by rfl, ?_⟩
    rintro W ⟨s0, s1, s2⟩
    go_simp
    with_reducible rfl
  try simp only [Act.put, List.setIfInBounds_toArray, List.set_cons_zero, List.set_cons_succ]
  refine wpAnyH_take (i := 18) (v := ?_) (by simp only [List.getElem?_toArray, List.getElem?_cons_succ, List.getElem?_cons_zero]; rfl) (by kernel_rfl) (by kernel_rfl) (by kernel_rfl) (by exact fun _ _ _ h => h) ?_ hHeld ?_
  rotate_left
  · refine Or.inl ⟨by rfl, ?_⟩
    rintro W ⟨s0, s1, s2⟩
    go_simp
    with_reducible rfl
  try simp only [Act.put, List.setIfInBounds_toArray, List.set_cons_zero, List.set_cons_succ]
  refine wpAnyH_done (by kernel_rfl) ?_ _
  obtain ⟨⟨z0, z1, p1⟩, p0, pf⟩ := HZ.out _ K2.out
  clear hHeld
  go_wp2_with fail
  go_ret
  exact ⟨rfl, HEND.out _ _ _ K1.out H2.out⟩
end

end Go.Proofs.YtnlcipocobmgiaaGreatDoor
/- The contract of quorum.New. -/
namespace Go.Proofs.YtnlcipocobmgiaaGreatDoor
open Go.RowKit
attribute [local go_sem] size_bs bs_append bs_extract

theorem Tryz.info34 : (Tryz.prog.info? 34).map (fun i => (i.zero, i.size, i.bytes)) = some (some (.pointer none), 1, 8) := by kernel_rfl
theorem Tryz.info28 : (Tryz.prog.info? 28).map (fun i => (i.zero, i.size, i.bytes)) = some (some (.pointer none), 1, 8) := by kernel_rfl
theorem Tryz.underlying94 : Tryz.prog.underlying 94 = some (.slice 34) := by kernel_rfl
theorem Tryz.underlying95 : Tryz.prog.underlying 95 = some (.slice 28) := by kernel_rfl
/-- A net of which some disks are made. -/
structure NetMk (w0 w : World) (q na da n : Nat) (D : Dk) (L : List Qn) : Prop where
  qb : Blk w q 97 #[.slice (some ⟨na, 0, none⟩) n n, .slice (some ⟨da, 0, none⟩) n n, .slice none 0 0]
  nb : Blk w na 34 (List.replicate n (Value.pointer none)).toArray
  db : Blk w da 28 (L.map Qn.dptr ++ List.replicate (n - L.length) (Value.pointer none)).toArray
  nd : ∀ x ∈ L, x.up = none ∧ x.D = D ∧ DiskAt w x.b x.m x.D
  dis : L.Pairwise fun x y => ∀ k ∈ x.fp, k ∉ y.fp
  new : ∀ x ∈ L, ∀ k ∈ x.fp, w0.heap.size ≤ k
  own : w0.heap.size ≤ q ∧ w0.heap.size ≤ na ∧ w0.heap.size ≤ da
  keep : Keep [] w0 w
section
variable {w0 w w' : World} {q na da n : Nat} {D : Dk} {L : List Qn}
theorem NetMk.fp (h : NetMk w0 w q na da n D L) {x : Qn} (hx : x ∈ L) : x.fp = [x.b, x.m] := by
  unfold Qn.fp
  rw [(h.nd x hx).1]
theorem NetMk.ne (h : NetMk w0 w q na da n D L) : ∀ x ∈ L, ∀ k ∈ x.fp, k ≠ q ∧ k ≠ na ∧ k ≠ da := fun x hx k hk => by
  rw [h.fp hx] at hk
  have hd := (h.nd x hx).2.2
  simp only [List.mem_cons, List.not_mem_nil, or_false] at hk
  rcases hk with rfl | rfl
  · exact ⟨hd.blk.ne_ h.qb (by decide), hd.blk.ne_ h.nb (by decide), hd.blk.ne_ h.db (by decide)⟩
  · exact ⟨hd.map.ne_ h.qb, hd.map.ne_ h.nb, hd.map.ne_ h.db⟩
theorem NetMk.more (h : NetMk w0 w q na da n D L) (hl : L.length < n) {w1 : World} {b m : Nat} (hb : w.heap.size ≤ b) (hm : w.heap.size ≤ m) (hD : DiskAt w1 b m D) (hk : Keep [] w w1) : NetMk w0 (w1.setCell ⟨da, L.length, none⟩ (.pointer (some ⟨b, 0, none⟩))) q na da n D (L ++ [⟨b, m, D, none⟩]) := by
  have hS : Keep [da] w1 (w1.setCell ⟨da, L.length, none⟩ (.pointer (some ⟨b, 0, none⟩))) := (Keep.refl _ _).setCell (.inl (by simp)) _
  have hq : q ≠ da := fun e => h.db.ne_ h.qb (by decide) e.symm
  have hn : na ≠ da := h.nb.ne_ h.db (by decide)
  have hdl := h.db.lt
  refine ⟨(h.qb.keep hk (by simp)).keep hS (by simpa using hq), (h.nb.keep hk (by simp)).keep hS (by simpa using hn), ?_, ?_, ?_, ?_, h.own, (h.keep.trans hk).trans' hS (fun k hk => by simp at hk; exact .inr (hk ▸ h.own.2.2))⟩
  · have := (h.db.keep hk (by simp)).set_ L.length (.pointer (some ⟨b, 0, none⟩))
    have e : (L.map Qn.dptr ++ List.replicate (n - L.length) (Value.pointer none)).toArray.setIfInBounds L.length (.pointer (some ⟨b, 0, none⟩)) = ((L ++ [(⟨b, m, D, none⟩ : Qn)]).map Qn.dptr ++ List.replicate (n - (L ++ [(⟨b, m, D, none⟩ : Qn)]).length) (Value.pointer none)).toArray := by
      rw [List.setIfInBounds_toArray]
      congr 1
      rw [List.set_append, if_neg (by simp), List.length_map, Nat.sub_self]
      obtain ⟨k, hk⟩ : ∃ k, n - L.length = k + 1 := ⟨n - L.length - 1, by omega⟩
      rw [hk, List.replicate_succ, List.set_cons_zero, List.length_append, List.length_singleton, show n - (L.length + 1) = k by omega]
      simp [Qn.dptr]
    rw [← e]
    exact this
  · intro x hx
    rcases List.mem_append.1 hx with hx | hx
    · obtain ⟨h1, h2, h3⟩ := h.nd x hx
      have hne := h.ne x hx
      rw [h.fp hx] at hne
      exact ⟨h1, h2, (h3.keep hk (by simp) (by simp)).keep hS (by have := (hne x.b (by simp)).2.2; simpa using this) (by have := (hne x.m (by simp)).2.2; simpa using this)⟩
    · simp only [List.mem_cons, List.not_mem_nil, or_false] at hx
      subst hx
      exact ⟨rfl, rfl, hD.keep hS (by simp; omega) (by simp; omega)⟩
  · refine List.pairwise_append.2 ⟨h.dis, by simp, fun x hx y hy k hkx hky => ?_⟩
    simp only [List.mem_cons, List.not_mem_nil, or_false] at hy
    subst hy
    have hd := (h.nd x hx).2.2
    have l1 := hd.blk.lt
    have l2 := hd.map.lt
    rw [h.fp hx] at hkx
    simp only [Qn.fp, List.mem_cons, List.not_mem_nil, or_false] at hkx hky
    omega
  · intro x hx k hkx
    rcases List.mem_append.1 hx with hx | hx
    · exact h.new x hx k hkx
    · simp only [List.mem_cons, List.not_mem_nil, or_false] at hx
      subst hx
      have := h.keep.size
      simp only [Qn.fp, List.mem_cons, List.not_mem_nil, or_false] at hkx
      omega
theorem NetMk.net (h : NetMk w0 w q na da n D L) (hl : L.length = n) (hT : Tab w0) : NetIn w0 w q (List.replicate n (D, none)) [] := by
  have hpl : L.map Qn.pl = List.replicate n (D, none) := by
    rw [← hl]
    refine List.eq_replicate_iff.2 ⟨by simp, fun p hp => ?_⟩
    obtain ⟨x, hx, rfl⟩ := List.mem_map.1 hp
    obtain ⟨h1, h2, -⟩ := h.nd x hx
    simp [Qn.pl, h1, h2]
  have hptr : L.map Qn.ptr = List.replicate n (Value.pointer none) := by
    rw [← hl]
    refine List.eq_replicate_iff.2 ⟨by simp, fun p hp => ?_⟩
    obtain ⟨x, hx, rfl⟩ := List.mem_map.1 hp
    obtain ⟨h1, h2, -⟩ := h.nd x hx
    simp [Qn.ptr, h1]
  have htn : 0 < w0.heap.size := by
    have := World.block_lt_of_cell? _ _ (hT 0 (by omega)); simpa using this
  have hown : ∀ k ∈ (⟨q, na, da, .slice none 0 0, []⟩ : Qv).own, k = q ∨ k = na ∨ k = da := fun k hk => by
    rcases Qv.mem.1 hk with h1 | h1 | h1 | h1
    · exact .inl h1
    · exact .inr (.inl h1)
    · exact .inr (.inr h1)
    · cases h1
  refine ⟨⟨⟨q, na, da, .slice none 0 0, []⟩, L, ⟨?_, ?_, ?_, World.ownsRow_nil _ _ _ _, by simp, ?_, h.dis, ?_, hT.keep h.keep (by simp), ?_, by simp⟩, rfl, hpl, rfl, ?_⟩, h.keep, by simp⟩
  · rw [hl]; exact h.qb
  · rw [hptr]; exact h.nb
  · have := h.db
    rw [hl, Nat.sub_self] at this
    simpa using this
  · intro x hx
    obtain ⟨h1, h2, h3⟩ := h.nd x hx
    unfold Qn.At
    rw [h1]
    exact h3
  · intro x hx k hk ho
    obtain ⟨h1, h2, h3⟩ := h.ne x hx k hk
    rcases hown k ho with h4 | h4 | h4
    · exact h1 h4
    · exact h2 h4
    · exact h3 h4
  · intro hm
    have := h.own
    rcases hown _ hm with h1 | h1 | h1 <;> omega
  · intro k hk
    refine ⟨?_, by simp⟩
    show w0.heap.size ≤ k
    have := h.own
    rcases nfp_mem.1 hk with h1 | ⟨x, hx, h1⟩
    · rcases hown k h1 with h2 | h2 | h2 <;> omega
    · exact h.new x hx k h1
/-- The nodes of a net that is new, of which some are up. -/
def upN (n i : Nat) (D : Dk) : List Pq := (List.range i).map (fun j => (D, some (Rn.opened j n Ts.zero))) ++ List.replicate (n - i) (D, none)
theorem upN_zero (n : Nat) (D : Dk) : upN n 0 D = List.replicate n (D, none) := by simp [upN]
theorem upN_len (n i : Nat) (D : Dk) (h : i ≤ n) : (upN n i D).length = n := by simp [upN]; omega
theorem upN_at (n i : Nat) (D : Dk) (h : i < n) : (upN n i D)[i]? = some (D, none) := by
  unfold upN
  rw [List.getElem?_append_right (by simp), List.length_map, List.length_range, Nat.sub_self]
  exact List.getElem?_replicate_of_lt (by omega)
theorem upN_set (n i : Nat) (D : Dk) (h : i < n) : (upN n i D).set i (D, some (Rn.opened i n Ts.zero)) = upN n (i + 1) D := by
  unfold upN
  rw [List.set_append, if_neg (by simp), List.length_map, List.length_range, Nat.sub_self]
  obtain ⟨k, hk⟩ : ∃ k, n - i = k + 1 := ⟨n - i - 1, by omega⟩
  rw [hk, List.replicate_succ, List.set_cons_zero, show n - (i + 1) = k by omega, List.range_succ]
  simp
theorem mk_zero (g1 g2 : Nat) (hg : (g1 = w.heap.size ∧ g2 = w.heap.size + 1) ∨ (g1 = w.heap.size + 1 ∧ g2 = w.heap.size)) (t1 t2 : TypeId) (ht : (t1 = 34 ∧ t2 = 28 ∧ g1 = w.heap.size) ∨ (t1 = 28 ∧ t2 = 34 ∧ g2 = w.heap.size)) (D : Dk) {w3 : World}
    (hw : w3 = ((w.alloc (.cells (madeCells #[Value.pointer none] n) t1)).alloc (.cells (madeCells #[Value.pointer none] n) t2)).alloc (.cells #[.slice (some ⟨g1, 0, none⟩) n n, .slice (some ⟨g2, 0, none⟩) n n, .slice none 0 0] 97)) : NetMk w w3.drew (w.heap.size + 2) g1 g2 n D [] := by
  subst hw
  have hk : Keep [] w (((w.alloc (.cells (madeCells #[Value.pointer none] n) t1)).alloc (.cells (madeCells #[Value.pointer none] n) t2)).alloc (.cells #[.slice (some ⟨g1, 0, none⟩) n n, .slice (some ⟨g2, 0, none⟩) n n, .slice none 0 0] 97)).drew := ((((Keep.refl [] w).alloc _).alloc _).alloc _).drew
  have hm : madeCells #[Value.pointer none] n = (List.replicate n (Value.pointer none)).toArray := made1 _ n
  rw [hm]
  rcases ht with ⟨rfl, rfl, rfl⟩ | ⟨rfl, rfl, rfl⟩
  · obtain rfl : g2 = w.heap.size + 1 := by omega
    exact ⟨Blk.drew (Blk.here _ _ _ _ (by simp)), Blk.drew (((Blk.new _ _ _).alloc _).alloc _), by
      simp only [List.map_nil, List.nil_append, List.length_nil, Nat.sub_zero]
      exact Blk.drew (Blk.alloc (Blk.here _ _ _ _ (by simp)) _), by simp, by simp, by simp, by omega, hm ▸ hk⟩
  · obtain rfl : g1 = w.heap.size + 1 := by omega
    exact ⟨Blk.drew (Blk.here _ _ _ _ (by simp)), Blk.drew (Blk.alloc (Blk.here _ _ _ _ (by simp)) _), by
      simp only [List.map_nil, List.nil_append, List.length_nil, Nat.sub_zero]
      exact Blk.drew (((Blk.new _ _ _).alloc _).alloc _), by simp, by simp, by simp, by omega, hm ▸ hk⟩
set_option maxRecDepth 100000 in
set_option maxHeartbeats 4000000 in
theorem qnew_calls (hT : Tab w) (n : Nat) (h1 : 1 ≤ n) (h5 : n ≤ 5) (room : Nat) (hr : room ≤ 274877906944) :
    Calls Tryz.prog 28 #[.int .i64 (n : Int), .int .i64 (room : Int)] w fun e w' => ∃ q, e = .returned (.tuple #[.pointer (some ⟨q, 0, none⟩), .int .i64 0]) ∧ NetIn w w' q (upN n n ⟨room, 0, false, 0, []⟩) [] := by
  have hH := Holds.start room hr
  obtain ⟨D, hD⟩ : ∃ D : Dk, D = ⟨room, 0, false, 0, []⟩ := ⟨_, rfl⟩
  rw [← hD] at hH ⊢
  have hload : ({ D with armed := 0 } : Dk).load = (D, Ts.zero, 0) := by
    have := hH.load Ts.fit_zero
    rw [hD] at this ⊢
    exact this
  have hmk := fun (W : World) => run_make_row' (P := Tryz.prog) 94 34 (.pointer none) 8 Tryz.underlying94 Tryz.info34 rfl .i64 .i64 n (by omega) (by omega) W
  have hmk2 := fun (W : World) => run_make_row' (P := Tryz.prog) 95 28 (.pointer none) 8 Tryz.underlying95 Tryz.info28 rfl .i64 .i64 n (by omega) (by omega) W
  have HNEW : Hid (∀ W, Calls Tryz.prog 38 #[.int .i64 (room : Int)] W fun e w' => ∃ b m, e = .returned (.pointer (some ⟨b, 0, none⟩)) ∧ W.heap.size ≤ b ∧ W.heap.size ≤ m ∧ DiskAt w' b m D ∧ Keep [] W w') := fun W => by
    rw [hD]
    exact new_calls (room : Int) (by omega) W
  have HST : Hid (∀ i W q, i < n → NetIn w W q (upN n i D) [] → Calls Tryz.prog 37 #[.pointer (some ⟨q, 0, none⟩), .int .i64 (i : Int)] W fun e w' => e = .returned (.int .i64 0) ∧ NetIn w w' q (upN n (i + 1) D) []) := fun i W q hi hN => by
    have := qstart_calls hN i (upN_at n i D hi) hH.good (by rw [upN_len n i D (by omega)]; exact h5) hload
    rw [upN_len n i D (by omega), upN_set n i D hi] at this
    exact this
  have HT := Lib.hid hT
  have HMK : Hid (∀ g1 g2 t1 t2, ((g1 = w.heap.size ∧ g2 = w.heap.size + 1) ∨ (g1 = w.heap.size + 1 ∧ g2 = w.heap.size)) → ((t1 = 34 ∧ t2 = 28 ∧ g1 = w.heap.size) ∨ (t1 = 28 ∧ t2 = 34 ∧ g2 = w.heap.size)) → NetMk w ((((w.alloc (.cells (madeCells #[Value.pointer none] n) t1)).alloc (.cells (madeCells #[Value.pointer none] n) t2)).alloc (.cells #[.slice (some ⟨g1, 0, none⟩) n n, .slice (some ⟨g2, 0, none⟩) n n, .slice none 0 0] 97))).drew (w.heap.size + 2) g1 g2 n D []) := fun g1 g2 t1 t2 hg ht => mk_zero g1 g2 hg t1 t2 ht D rfl
  have d1 : decide ((n : Int) < 1) = false := decide_eq_false (by omega)
  have d2 : decide ((5 : Int) < (n : Int)) = false := decide_eq_false (by omega)
  clear hT hH hload hD hr
  go_enter Tryz.func28, Tryz.ntmps28
  go_wp2_with fail
  go_region
  · have hM := HMK.out w.heap.size (w.heap.size + 1) _ _ (.inl ⟨rfl, rfl⟩) (.inl ⟨rfl, rfl, rfl⟩)
    generalize (((w.alloc (.cells (madeCells #[Value.pointer none] n) 34)).alloc (.cells (madeCells #[Value.pointer none] n) 28)).alloc (.cells #[.slice (some ⟨(w.heap.size : Nat), 0, none⟩) n n, .slice (some ⟨(w.heap.size + 1), 0, none⟩) n n, .slice none 0 0] 97)).drew = w3 at *
    generalize hq : w.heap.size + 1 + 1 = q at *
    clear hq HMK hmk hmk2
    generalize w.heap.size + 1 = da at *
    generalize w.heap.size = na at *
    have HM := Lib.hid hM
    clear hM
    go_wp2_with fail
    go_loopw [7, 23] (fun _ vi wr => ∃ L : List Qn, L.length ≤ n ∧ vi = .int .i64 (L.length : Int) ∧ NetMk w wr q na da n D L) (fun _ vi _ => n - (intOf vi).toNat)
    case atStart => exact ⟨[], Nat.zero_le _, rfl, HM.out⟩
    case round =>
      obtain ⟨L, hL, rfl, hR⟩ := hrel
      by_cases hlt : L.length < n
      · have dj : decide ((L.length : Int) < (n : Int)) = true := decide_eq_true (by omega)
        have hjn : (L.length : Int) < (n : Int) := by omega
        have HR := Lib.hid hR
        have HLT := Lib.hid hlt
        have HS : Hid (∀ W, Keep [] wr W → W.cell? ⟨q, 1, none⟩ = some (.slice (some ⟨da, 0, none⟩) n n)) := fun W hk => (hR.qb.keep hk (by simp)).cell 1
        have HDA : Hid (∀ W, Keep [] wr W → W.cell? ⟨da, L.length, none⟩ = some (.pointer none) ∧ W.frozen? ⟨da, L.length, none⟩ = false) := fun W hk => by
          have hb := hR.db.keep hk (by simp)
          refine ⟨?_, hb.frozen _⟩
          rw [hb.cell, List.getElem?_toArray, List.getElem?_append_right (by simp), List.length_map, Nat.sub_self]
          exact List.getElem?_replicate_of_lt (by omega)
        have HQD : Hid (q ≠ da) := (fun e => hR.db.ne_ hR.qb (by decide) e.symm)
        clear hR hlt
        go_wp2_with fail
        refine wp_region_held_drew (S := fun W' => W'.cell? ⟨q, 1, none⟩ = some (.slice (some ⟨da, 0, none⟩) n n)) (by kernel_rfl) (HS.out _ (Keep.refl _ _).drew) (fun hHeld => ?_)
        refine wpAnyH_take (i := 0) (v := ?_) (by simp only [List.getElem?_toArray, List.getElem?_cons_zero]; rfl) (by kernel_rfl) (by kernel_rfl) (by kernel_rfl) (by exact fun _ _ _ h => h) ?_ hHeld ?_
        rotate_left
        · refine Or.inl ⟨by rfl, ?_⟩
          rintro W s0
          go_simp
          with_reducible rfl
        try simp only [Act.put, List.setIfInBounds_toArray, List.set_cons_zero, List.set_cons_succ]
        refine wpAnyH_take (i := 1) (v := ?_) (by simp only [List.getElem?_toArray, List.getElem?_cons_succ, List.getElem?_cons_zero]; rfl) (by kernel_rfl) (by kernel_rfl) (by kernel_rfl) (by exact fun _ _ _ h => h) ?_ hHeld ?_
        rotate_left
        · refine Or.inl ⟨by rfl, ?_⟩
          rintro W s0
          go_simp
          with_reducible rfl
        try simp only [Act.put, List.setIfInBounds_toArray, List.set_cons_zero, List.set_cons_succ]
        refine wpAnyH_take (i := 2) (v := ?_) (by simp only [List.getElem?_toArray, List.getElem?_cons_succ, List.getElem?_cons_zero]; rfl) (by kernel_rfl) (by kernel_rfl) (by kernel_rfl) (by exact fun _ _ _ h => h) ?_ hHeld ?_
        rotate_left
        · refine Or.inl ⟨by rfl, ?_⟩
          rintro W s0
          go_simp
          with_reducible rfl
        try simp only [Act.put, List.setIfInBounds_toArray, List.set_cons_zero, List.set_cons_succ]
        refine wpAnyH_take (i := 3) (v := ?_) (by simp only [List.getElem?_toArray, List.getElem?_cons_succ, List.getElem?_cons_zero]; rfl) (by kernel_rfl) (by kernel_rfl) (by kernel_rfl) (by exact fun _ _ _ h => h) ?_ hHeld ?_
        rotate_left
        · refine Or.inl ⟨by rfl, ?_⟩
          rintro W s0
          go_simp
          with_reducible rfl
        try simp only [Act.put, List.setIfInBounds_toArray, List.set_cons_zero, List.set_cons_succ]
        refine wpAnyH_take (i := 4) (v := ?_) (by simp only [List.getElem?_toArray, List.getElem?_cons_succ, List.getElem?_cons_zero]; rfl) (by kernel_rfl) (by kernel_rfl) (by kernel_rfl) (by exact fun _ _ _ h => h) ?_ hHeld ?_
        rotate_left
        · refine Or.inl ⟨by rfl, ?_⟩
          rintro W s0
          go_simp
          with_reducible rfl
        try simp only [Act.put, List.setIfInBounds_toArray, List.set_cons_zero, List.set_cons_succ]
        refine wpAnyH_take (i := 5) (v := ?_) (by simp only [List.getElem?_toArray, List.getElem?_cons_succ, List.getElem?_cons_zero]; rfl) (by kernel_rfl) (by kernel_rfl) (by kernel_rfl) (by exact fun _ _ _ h => h) ?_ hHeld ?_
        rotate_left
        · refine Or.inl ⟨by rfl, ?_⟩
          rintro W s0
          go_simp
          with_reducible rfl
        try simp only [Act.put, List.setIfInBounds_toArray, List.set_cons_zero, List.set_cons_succ]
        refine wpAnyH_ready (rs := [6]) (by kernel_rfl) (by simp) (AllReadyH.cons rfl (fun K hK => ?_) AllReadyH.nil)
        go_simp
        go_at_call 38
        refine (HNEW.out _).mono ?_
        rintro e w5 ⟨b, m, rfl, hb5, hm5, hD5, hk5⟩
        have HK5 : Hid (Keep [] wr w5) := ((Keep.refl _ _).drew).trans hk5
        have HB5 := Lib.hid hb5
        have HM5 := Lib.hid hm5
        have HD5 := Lib.hid hD5
        clear hHeld hb5 hm5 hD5 hk5
        have hHeld := HS.out w5 HK5.out
        go_simp
        refine hK.out _ _ hHeld (fun _ => ?_)
        clear hK K
        try simp only [Act.put, List.setIfInBounds_toArray, List.set_cons_zero, List.set_cons_succ]
        refine wpAnyH_take (i := 7) (v := ?_) (by simp only [List.getElem?_toArray, List.getElem?_cons_succ, List.getElem?_cons_zero]; rfl) (by kernel_rfl) (by kernel_rfl) (by kernel_rfl) (by exact fun _ _ _ h => h) ?_ hHeld ?_
        rotate_left
        · refine Or.inl ⟨by rfl, ?_⟩
          rintro W s0
          go_simp
          with_reducible rfl
        try simp only [Act.put, List.setIfInBounds_toArray, List.set_cons_zero, List.set_cons_succ]
        obtain ⟨zc, zf⟩ := HDA.out w5 HK5.out
        refine wpAnyH_ready (rs := [8]) (by kernel_rfl) (by simp) (AllReadyH.cons rfl (fun K hK => ?_) AllReadyH.nil)
        go_simp
        have hHeld2 : (w5.setCell ⟨da, L.length, none⟩ (.pointer (some ⟨b, 0, none⟩))).cell? ⟨q, 1, none⟩ = some (.slice (some ⟨da, 0, none⟩) n n) := ((Keep.refl [da] w5).setCell (.inl (by simp)) _ |>.cell (p := ⟨q, 1, none⟩) (World.block_lt_of_cell? _ _ hHeld) (by simpa using HQD.out)).trans hHeld
        refine hK.out _ _ hHeld2 (fun _ => ?_)
        clear hK K hHeld
        refine wpAnyH_done (by kernel_rfl) ?_ _
        go_wp2_with fail
        go_roundw
        case rel => exact ⟨L ++ [⟨b, m, D, none⟩], (by have := HLT.out; simp; omega), (by simp only [List.length_append, List.length_singleton]; go_num), HR.out.more HLT.out HB5.out HM5.out HD5.out HK5.out⟩
        case measure => have hlt := HLT.out; simp [intOf]; omega
      · have dj : decide ((L.length : Int) < (n : Int)) = false := decide_eq_false (by omega)
        have HI := Lib.hid (hR.net (by omega : L.length = n) HT.out)
        clear hR
        go_wp2_with fail
        clear hlt
        go_loopw [8, 9, 36] (fun _ _ vi wr => ∃ i : Nat, i ≤ n ∧ vi = .int .i64 (i : Int) ∧ NetIn w wr q (upN n i D) []) (fun _ _ vi _ => n - (intOf vi).toNat)
        case atStart => exact ⟨0, Nat.zero_le _, rfl, (upN_zero n D) ▸ HI.out⟩
        case round =>
          obtain ⟨i, hi, rfl, hN⟩ := hrel
          by_cases hlt : i < n
          · have di : decide ((i : Int) < (n : Int)) = true := decide_eq_true (by omega)
            have hjn : (i : Int) < (n : Int) := by omega
            have HLT := Lib.hid hlt
            have HC := Lib.hid (HST.out i _ q hlt hN)
            clear hN hlt
            go_wp2_with (first | (go_at_call 37; refine HC.out.mono ?_; rintro e w6 ⟨rfl, h6⟩; have H6 := Lib.hid h6; clear h6) | fail)
            go_roundw
            case rel => exact ⟨i + 1, HLT.out, by go_num, H6.out⟩
            case measure => have hlt := HLT.out; simp [intOf]; omega
          · have di : decide ((i : Int) < (n : Int)) = false := decide_eq_false (by omega)
            have HJ : Hid (i = n) := (by omega : i = n)
            have HN := Lib.hid hN
            clear hN
            go_wp2_with fail
            go_ret2
            exact ⟨q, rfl, HJ.out ▸ HN.out⟩
  · have hM := HMK.out (w.heap.size + 1) w.heap.size _ _ (.inr ⟨rfl, rfl⟩) (.inr ⟨rfl, rfl, rfl⟩)
    generalize (((w.alloc (.cells (madeCells #[Value.pointer none] n) 28)).alloc (.cells (madeCells #[Value.pointer none] n) 34)).alloc (.cells #[.slice (some ⟨(w.heap.size + 1), 0, none⟩) n n, .slice (some ⟨(w.heap.size : Nat), 0, none⟩) n n, .slice none 0 0] 97)).drew = w3 at *
    generalize hq : w.heap.size + 1 + 1 = q at *
    clear hq HMK hmk hmk2
    generalize w.heap.size + 1 = na at *
    generalize w.heap.size = da at *
    have HM := Lib.hid hM
    clear hM
    go_wp2_with fail
    go_loopw [7, 23] (fun _ vi wr => ∃ L : List Qn, L.length ≤ n ∧ vi = .int .i64 (L.length : Int) ∧ NetMk w wr q na da n D L) (fun _ vi _ => n - (intOf vi).toNat)
    case atStart => exact ⟨[], Nat.zero_le _, rfl, HM.out⟩
    case round =>
      obtain ⟨L, hL, rfl, hR⟩ := hrel
      by_cases hlt : L.length < n
      · have dj : decide ((L.length : Int) < (n : Int)) = true := decide_eq_true (by omega)
        have hjn : (L.length : Int) < (n : Int) := by omega
        have HR := Lib.hid hR
        have HLT := Lib.hid hlt
        have HS : Hid (∀ W, Keep [] wr W → W.cell? ⟨q, 1, none⟩ = some (.slice (some ⟨da, 0, none⟩) n n)) := fun W hk => (hR.qb.keep hk (by simp)).cell 1
        have HDA : Hid (∀ W, Keep [] wr W → W.cell? ⟨da, L.length, none⟩ = some (.pointer none) ∧ W.frozen? ⟨da, L.length, none⟩ = false) := fun W hk => by
          have hb := hR.db.keep hk (by simp)
          refine ⟨?_, hb.frozen _⟩
          rw [hb.cell, List.getElem?_toArray, List.getElem?_append_right (by simp), List.length_map, Nat.sub_self]
          exact List.getElem?_replicate_of_lt (by omega)
        have HQD : Hid (q ≠ da) := (fun e => hR.db.ne_ hR.qb (by decide) e.symm)
        clear hR hlt
        go_wp2_with fail
        refine wp_region_held_drew (S := fun W' => W'.cell? ⟨q, 1, none⟩ = some (.slice (some ⟨da, 0, none⟩) n n)) (by kernel_rfl) (HS.out _ (Keep.refl _ _).drew) (fun hHeld => ?_)
        refine wpAnyH_take (i := 0) (v := ?_) (by simp only [List.getElem?_toArray, List.getElem?_cons_zero]; rfl) (by kernel_rfl) (by kernel_rfl) (by kernel_rfl) (by exact fun _ _ _ h => h) ?_ hHeld ?_
        rotate_left
        · refine Or.inl ⟨by rfl, ?_⟩
          rintro W s0
          go_simp
          with_reducible rfl
        try simp only [Act.put, List.setIfInBounds_toArray, List.set_cons_zero, List.set_cons_succ]
        refine wpAnyH_take (i := 1) (v := ?_) (by simp only [List.getElem?_toArray, List.getElem?_cons_succ, List.getElem?_cons_zero]; rfl) (by kernel_rfl) (by kernel_rfl) (by kernel_rfl) (by exact fun _ _ _ h => h) ?_ hHeld ?_
        rotate_left
        · refine Or.inl ⟨by rfl, ?_⟩
          rintro W s0
          go_simp
          with_reducible rfl
        try simp only [Act.put, List.setIfInBounds_toArray, List.set_cons_zero, List.set_cons_succ]
        refine wpAnyH_take (i := 2) (v := ?_) (by simp only [List.getElem?_toArray, List.getElem?_cons_succ, List.getElem?_cons_zero]; rfl) (by kernel_rfl) (by kernel_rfl) (by kernel_rfl) (by exact fun _ _ _ h => h) ?_ hHeld ?_
        rotate_left
        · refine Or.inl ⟨by rfl, ?_⟩
          rintro W s0
          go_simp
          with_reducible rfl
        try simp only [Act.put, List.setIfInBounds_toArray, List.set_cons_zero, List.set_cons_succ]
        refine wpAnyH_take (i := 3) (v := ?_) (by simp only [List.getElem?_toArray, List.getElem?_cons_succ, List.getElem?_cons_zero]; rfl) (by kernel_rfl) (by kernel_rfl) (by kernel_rfl) (by exact fun _ _ _ h => h) ?_ hHeld ?_
        rotate_left
        · refine Or.inl ⟨by rfl, ?_⟩
          rintro W s0
          go_simp
          with_reducible rfl
        try simp only [Act.put, List.setIfInBounds_toArray, List.set_cons_zero, List.set_cons_succ]
        refine wpAnyH_take (i := 4) (v := ?_) (by simp only [List.getElem?_toArray, List.getElem?_cons_succ, List.getElem?_cons_zero]; rfl) (by kernel_rfl) (by kernel_rfl) (by kernel_rfl) (by exact fun _ _ _ h => h) ?_ hHeld ?_
        rotate_left
        · refine Or.inl ⟨by rfl, ?_⟩
          rintro W s0
          go_simp
          with_reducible rfl
        try simp only [Act.put, List.setIfInBounds_toArray, List.set_cons_zero, List.set_cons_succ]
        refine wpAnyH_take (i := 5) (v := ?_) (by simp only [List.getElem?_toArray, List.getElem?_cons_succ, List.getElem?_cons_zero]; rfl) (by kernel_rfl) (by kernel_rfl) (by kernel_rfl) (by exact fun _ _ _ h => h) ?_ hHeld ?_
        rotate_left
        · refine Or.inl ⟨by rfl, ?_⟩
          rintro W s0
          go_simp
          with_reducible rfl
        try simp only [Act.put, List.setIfInBounds_toArray, List.set_cons_zero, List.set_cons_succ]
        refine wpAnyH_ready (rs := [6]) (by kernel_rfl) (by simp) (AllReadyH.cons rfl (fun K hK => ?_) AllReadyH.nil)
        go_simp
        go_at_call 38
        refine (HNEW.out _).mono ?_
        rintro e w5 ⟨b, m, rfl, hb5, hm5, hD5, hk5⟩
        have HK5 : Hid (Keep [] wr w5) := ((Keep.refl _ _).drew).trans hk5
        have HB5 := Lib.hid hb5
        have HM5 := Lib.hid hm5
        have HD5 := Lib.hid hD5
        clear hHeld hb5 hm5 hD5 hk5
        have hHeld := HS.out w5 HK5.out
        go_simp
        refine hK.out _ _ hHeld (fun _ => ?_)
        clear hK K
        try simp only [Act.put, List.setIfInBounds_toArray, List.set_cons_zero, List.set_cons_succ]
        refine wpAnyH_take (i := 7) (v := ?_) (by simp only [List.getElem?_toArray, List.getElem?_cons_succ, List.getElem?_cons_zero]; rfl) (by kernel_rfl) (by kernel_rfl) (by kernel_rfl) (by exact fun _ _ _ h => h) ?_ hHeld ?_
        rotate_left
        · refine Or.inl ⟨by rfl, ?_⟩
          rintro W s0
          go_simp
          with_reducible rfl
        try simp only [Act.put, List.setIfInBounds_toArray, List.set_cons_zero, List.set_cons_succ]
        obtain ⟨zc, zf⟩ := HDA.out w5 HK5.out
        refine wpAnyH_ready (rs := [8]) (by kernel_rfl) (by simp) (AllReadyH.cons rfl (fun K hK => ?_) AllReadyH.nil)
        go_simp
        have hHeld2 : (w5.setCell ⟨da, L.length, none⟩ (.pointer (some ⟨b, 0, none⟩))).cell? ⟨q, 1, none⟩ = some (.slice (some ⟨da, 0, none⟩) n n) := ((Keep.refl [da] w5).setCell (.inl (by simp)) _ |>.cell (p := ⟨q, 1, none⟩) (World.block_lt_of_cell? _ _ hHeld) (by simpa using HQD.out)).trans hHeld
        refine hK.out _ _ hHeld2 (fun _ => ?_)
        clear hK K hHeld
        refine wpAnyH_done (by kernel_rfl) ?_ _
        go_wp2_with fail
        go_roundw
        case rel => exact ⟨L ++ [⟨b, m, D, none⟩], (by have := HLT.out; simp; omega), (by simp only [List.length_append, List.length_singleton]; go_num), HR.out.more HLT.out HB5.out HM5.out HD5.out HK5.out⟩
        case measure => have hlt := HLT.out; simp [intOf]; omega
      · have dj : decide ((L.length : Int) < (n : Int)) = false := decide_eq_false (by omega)
        have HI := Lib.hid (hR.net (by omega : L.length = n) HT.out)
        clear hR
        go_wp2_with fail
        clear hlt
        go_loopw [8, 9, 36] (fun _ _ vi wr => ∃ i : Nat, i ≤ n ∧ vi = .int .i64 (i : Int) ∧ NetIn w wr q (upN n i D) []) (fun _ _ vi _ => n - (intOf vi).toNat)
        case atStart => exact ⟨0, Nat.zero_le _, rfl, (upN_zero n D) ▸ HI.out⟩
        case round =>
          obtain ⟨i, hi, rfl, hN⟩ := hrel
          by_cases hlt : i < n
          · have di : decide ((i : Int) < (n : Int)) = true := decide_eq_true (by omega)
            have hjn : (i : Int) < (n : Int) := by omega
            have HLT := Lib.hid hlt
            have HC := Lib.hid (HST.out i _ q hlt hN)
            clear hN hlt
            go_wp2_with (first | (go_at_call 37; refine HC.out.mono ?_; rintro e w6 ⟨rfl, h6⟩; have H6 := Lib.hid h6; clear h6) | fail)
            go_roundw
            case rel => exact ⟨i + 1, HLT.out, by go_num, H6.out⟩
            case measure => have hlt := HLT.out; simp [intOf]; omega
          · have di : decide ((i : Int) < (n : Int)) = false := decide_eq_false (by omega)
            have HJ : Hid (i = n) := (by omega : i = n)
            have HN := Lib.hid hN
            clear hN
            go_wp2_with fail
            go_ret2
            exact ⟨q, rfl, HJ.out ▸ HN.out⟩
end

end Go.Proofs.YtnlcipocobmgiaaGreatDoor
/- The contract of (*quorum.Net).Crash, of a node whose disk has no files. -/
namespace Go.Proofs.YtnlcipocobmgiaaGreatDoor
open Go.RowKit
attribute [local go_sem] size_bs bs_append bs_extract

section
variable {w0 : Bs} {w w' : World} {q : Nat} {P : List Pq} {way : List Mg} {N : Rn} {D : Dk}
theorem crash_none (hnf : D.files = []) (ch : List Int) : D.crash ch = D := by
  unfold Dk.crash Dk.all
  rw [hnf]
  simp [sorted, crashL]
set_option maxRecDepth 100000 in
set_option maxHeartbeats 2000000 in
theorem qcrash_calls (h : NetIn w0 w q P way) (i : Nat) (hP : P[i]? = some (D, some N)) (hg : D.Good) (hnf : D.files = []) :
    Calls Tryz.prog 34 #[.pointer (some ⟨q, 0, none⟩), .int .i64 (i : Int), .slice none 0 0] w fun e w' => e = .returned (.int .i64 0) ∧ NetIn w0 w' q (P.set i (D, none)) way := by
  obtain ⟨⟨Q, L, hA, rfl, rfl, rfl, hf⟩, hkk⟩ := h
  obtain ⟨hi, V, hup, rfl⟩ := pl_at hP
  have hmem : L[i] ∈ L := List.getElem_mem hi
  have hat := hA.nd _ hmem
  unfold Qn.At at hat
  rw [hup] at hat
  obtain ⟨hn, hb, hm, -⟩ := hat
  have hfp : L[i].fp = V.fp := by unfold Qn.fp; rw [hup]
  have hptr : L[i].ptr = .pointer (some ⟨V.r, 0, none⟩) := by unfold Qn.ptr; rw [hup]
  have HN := Lib.hid (qnode_calls hA i hi)
  rw [hptr] at HN
  have z0 : w.cell? ⟨Q.q, 0, none⟩ = some (.slice (some ⟨Q.na, 0, none⟩) L.length L.length) := hA.qb.cell 0
  have z1 : w.cell? ⟨Q.q, 1, none⟩ = some (.slice (some ⟨Q.da, 0, none⟩) L.length L.length) := hA.qb.cell 1
  have p0 : w.cell? ⟨Q.na, i, none⟩ = some (.pointer (some ⟨V.r, 0, none⟩)) := hptr ▸ hA.ptr i hi
  have pf : w.frozen? ⟨Q.na, i, none⟩ = false := hA.nb.frozen i
  have p1 := hA.dptr i hi
  have e1 : Q.q ≠ Q.na := fun e => hA.nb.ne_ hA.qb (by decide) e.symm
  have e2 : Q.da ≠ Q.na := hA.db.ne_ hA.nb (by decide)
  have hnao : Q.na ∈ Q.own := Qv.mem.2 (.inr (.inl rfl))
  have hnaf : Q.na ∉ V.fp := fun hx => hA.far _ hmem _ (hfp ▸ hx) hnao
  have hbf : L[i].b ∈ V.fp := hb ▸ Nv.mem.2 (.inr (.inl rfl))
  have hmf : L[i].m ∈ V.fp := hm ▸ Nv.mem.2 (.inr (.inr (.inl rfl)))
  have hD : DiskAt w L[i].b L[i].m L[i].D := hb ▸ hm ▸ hn.rest.disk
  have hkS : Keep [Q.na] w (w.setCell ⟨Q.na, i, none⟩ (.pointer none)) := (Keep.refl _ _).setCell (.inl (by simp)) _
  have hDS : DiskAt (w.setCell ⟨Q.na, i, none⟩ (.pointer none)) L[i].b L[i].m L[i].D := hD.keep hkS (by simp; exact fun e => hnaf (e ▸ hbf)) (by simp; exact fun e => hnaf (e ▸ hmf))
  have hCR := crash_calls hDS hg (by rw [hnf]; simp) (by rw [hnf]; simp) (.slice none 0 0) [] (by simp) (fun W hk => (by simp [IntsAt]))
  rw [crash_none hnf] at hCR
  have HEND : Hid (∀ w2, DiskAt w2 L[i].b L[i].m L[i].D ∧ Keep [L[i].b, L[i].m] (w.setCell ⟨Q.na, i, none⟩ (.pointer none)) w2 → NetIn w0 w2 Q.q ((L.map Qn.pl).set i (L[i].D, none)) (Q.ms.map Prod.fst)) := fun w2 h12 => by
    obtain ⟨h1, h2⟩ := h12
    have hk : Keep (Q.na :: L[i].fp) w w2 := (hkS.mono (fun k hk => .inl (by simp at hk; simp [hk]))).trans' h2 (fun k hk => .inl (List.mem_cons_of_mem _ (by
      rw [hfp]
      simp only [List.mem_cons, List.not_mem_nil, or_false] at hk
      rcases hk with rfl | rfl
      · exact hbf
      · exact hmf)))
    obtain ⟨r1, r2⟩ := hA.turnP hi (y := ⟨L[i].b, L[i].m, L[i].D, none⟩) (w' := w2) hk (by
      have := (hA.nb.set_ i (.pointer none)).keep h2 (fun hx => by
        simp only [List.mem_cons, List.not_mem_nil, or_false] at hx
        rcases hx with hx | hx
        · exact hnaf (hx ▸ hbf)
        · exact hnaf (hx ▸ hmf))
      rw [← ptrs_set i]
      exact this) h1 (fun k hk => .inl (by
      rw [hfp]
      simp only [Qn.fp, List.mem_cons, List.not_mem_nil, or_false] at hk
      rcases hk with rfl | rfl
      · exact hbf
      · exact hmf)) rfl
    have := r2.in_ hkk hf r1 rfl
    rw [pl_set] at this
    exact this
  have HCR := Lib.hid hCR
  have d1 : decide ((i : Int) < (L.length : Int)) = true := decide_eq_true (by omega)
  have d2 : (i : Int) < (L.length : Int) := by omega
  clear hA hf hkk hP hup hmem hfp hptr hg hnf hn hb hm hnao hnaf hbf hmf hD hkS hDS hCR
  generalize L[i].b = b at *
  generalize L[i].m = m at *
  generalize L[i].D = D at *
  clear hi
  generalize L.length = n at *
  go_enter Tryz.func34, Tryz.ntmps34
  go_wp2_with (first | (go_at_call 36; refine HN.out.mono ?_; rintro e w1 ⟨rfl, rfl⟩) | (go_at_call 69; refine HCR.out.mono ?_; rintro e w2 ⟨rfl, h2⟩) | fail)
  go_ret
  exact ⟨rfl, HEND.out _ h2⟩
end

end Go.Proofs.YtnlcipocobmgiaaGreatDoor
