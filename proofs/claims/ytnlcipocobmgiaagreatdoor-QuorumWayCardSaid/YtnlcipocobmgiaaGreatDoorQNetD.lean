/- The contracts of quorum.own, Again, On, Drop of a net of messages without entries. -/
import Derived.Test.YtnlcipocobmgiaaGreatDoorQNetB
import Derived.Test.YtnlcipocobmgiaaGreatDoorRaftKeep
namespace Go.Proofs.YtnlcipocobmgiaaGreatDoor
open Go.RowKit
attribute [local go_sem] size_bs bs_append bs_extract

/-- slices.Clone of nothing. -/
theorem clone_empty_calls {w : World} (A : Option Addr) (c : Nat) :
    Calls Tryz.prog 52 #[.slice A 0 c] w fun e w' => ∃ A' c', e = .returned (.slice A' 0 c') ∧ (∀ k, (Value.slice A' 0 c').ownBlock = some k → w.heap.size ≤ k ∧ k < w'.heap.size) ∧ Keep [] w w' := by
  obtain ⟨i0, hi, hz0, hz1, hz2⟩ := info_parts Tryz.info62
  have qT : ∀ (w : World) (a : Option Addr) (n c n' c' : Nat), (binOp .eql 40 (.slice a n c) (.slice none n' c')).run Tryz.prog w = .ok (.bool a.isNone) w := fun w a n c n' c' => Lib.run_eql_slice_nil w _ _ a n c n' c' Tryz.underlying40
  cases A with
  | none =>
    go_enter Tryz.func52, Tryz.ntmps52
    go_wp2
    go_ret
    exact ⟨none, 0, rfl, (fun k e => by cases e), Keep.refl _ _⟩
  | some A =>
    have hown0 : (w.alloc (.cells #[] 62)).ownsRow w.heap.size 62 3 (.slice (some ⟨w.heap.size, 0, none⟩) 0 0) 0 [] :=
      ⟨rfl, .inr ⟨w.heap.size, 0, #[], rfl, Nat.le_refl _, heap_alloc_new _ _, Nat.le_refl _, Nat.zero_le _, rfl, by simp⟩⟩
    have HO := Lib.hid hown0
    clear hown0
    go_enter Tryz.func52, Tryz.ntmps52
    go_wp2_with (at_builtin; refine wpList_append_own _ rfl (.tmp 5) (.tmp 6) 40 rfl w.heap.size 62 i0 _ 3 32 Tryz.underlying40 hi hz0 hz1 hz2 rfl (by omega) _ _ _ rfl HO.out A 0 c [] rfl rfl ?c1 ?c2 ?c3 ?c4 ?c5 ?_)
    case c1 =>
      intro j u hu
      simp at hu
    case c2 => simp
    case c3 => unfold maxLen; omega
    case c4 => omega
    case c5 => simp
    intro v' w2 hown2 hgrow _
    have hk2 : Keep [] w w2 := ((Keep.refl [] w).alloc _).grown hgrow (fun k hk => .inr (HO.out.lt k hk).1)
    obtain ⟨A', c', rfl⟩ := own_slice hown2
    have HO2 := Lib.hid hown2
    clear hown2
    go_wp2
    go_ret
    exact ⟨A', c', rfl, fun k e => HO2.out.lt k e, hk2⟩
theorem ten_cells {W : World} {r : Nat} {t : TypeId} {y0 y1 y2 y3 y4 y5 y6 y7 y8 y9 : Value} (h : Blk W r t #[y0, y1, y2, y3, y4, y5, y6, y7, y8, y9]) (x0 x1 x2 x3 x4 x5 x6 x7 x8 x9 : Value) :
    Blk ((((((((((W.setCell ⟨r, 0, none⟩ x0).setCell ⟨r, 1, none⟩ x1).setCell ⟨r, 2, none⟩ x2).setCell ⟨r, 3, none⟩ x3).setCell ⟨r, 4, none⟩ x4).setCell ⟨r, 5, none⟩ x5).setCell ⟨r, 6, none⟩ x6).setCell ⟨r, 7, none⟩ x7).setCell ⟨r, 8, none⟩ x8).setCell ⟨r, 9, none⟩ x9) r t #[x0, x1, x2, x3, x4, x5, x6, x7, x8, x9] ∧ Keep [r] W ((((((((((W.setCell ⟨r, 0, none⟩ x0).setCell ⟨r, 1, none⟩ x1).setCell ⟨r, 2, none⟩ x2).setCell ⟨r, 3, none⟩ x3).setCell ⟨r, 4, none⟩ x4).setCell ⟨r, 5, none⟩ x5).setCell ⟨r, 6, none⟩ x6).setCell ⟨r, 7, none⟩ x7).setCell ⟨r, 8, none⟩ x8).setCell ⟨r, 9, none⟩ x9) := by
  have hi : r ∈ [r] ∨ W.heap.size ≤ r := .inl (by simp)
  refine ⟨?_, (((((((((((Keep.refl [r] W).setCell (p := ⟨r, 0, none⟩) hi x0).setCell (p := ⟨r, 1, none⟩) hi x1).setCell (p := ⟨r, 2, none⟩) hi x2).setCell (p := ⟨r, 3, none⟩) hi x3).setCell (p := ⟨r, 4, none⟩) hi x4).setCell (p := ⟨r, 5, none⟩) hi x5).setCell (p := ⟨r, 6, none⟩) hi x6).setCell (p := ⟨r, 7, none⟩) hi x7).setCell (p := ⟨r, 8, none⟩) hi x8).setCell (p := ⟨r, 9, none⟩) hi x9)⟩
  have h9 := ((((((((((h.set_ 0 x0).set_ 1 x1).set_ 2 x2).set_ 3 x3).set_ 4 x4).set_ 5 x5).set_ 6 x6).set_ 7 x7).set_ 8 x8).set_ 9 x9)
  simp only [List.setIfInBounds_toArray, List.set_cons_zero, List.set_cons_succ] at h9
  exact h9
theorem own_ret {W : World} {r : Nat} {x0 x1 x2 x3 x4 x5 x6 x7 x8 x9 : Value} {t : Array Value} {R : Ending → World → Prop} (h2 : t[2]? = some (.pointer (some ⟨r, 0, none⟩)))
    (hB : Blk W r 56 #[x0, x1, x2, x3, x4, x5, x6, x7, x8, x9]) (hR : R (.returned (.agg #[x0, x1, x2, x3, x4, x5, x6, x7, x8, x9])) W) : bodyPost Tryz.prog Tryz.f66 R .ret { tmps := t, defers := [] } W := by
  have k0 : W.cell? ⟨r, 0, none⟩ = some x0 := hB.cell 0
  have k1 : W.cell? ⟨r, 1, none⟩ = some x1 := hB.cell 1
  have k2 : W.cell? ⟨r, 2, none⟩ = some x2 := hB.cell 2
  have k3 : W.cell? ⟨r, 3, none⟩ = some x3 := hB.cell 3
  have k4 : W.cell? ⟨r, 4, none⟩ = some x4 := hB.cell 4
  have k5 : W.cell? ⟨r, 5, none⟩ = some x5 := hB.cell 5
  have k6 : W.cell? ⟨r, 6, none⟩ = some x6 := hB.cell 6
  have k7 : W.cell? ⟨r, 7, none⟩ = some x7 := hB.cell 7
  have k8 : W.cell? ⟨r, 8, none⟩ = some x8 := hB.cell 8
  have k9 : W.cell? ⟨r, 9, none⟩ = some x9 := hB.cell 9
  refine bodyPost_ret (v := .agg #[x0, x1, x2, x3, x4, x5, x6, x7, x8, x9]) ?_ rfl hR
  simp [results, Tryz.results66, go_sem, h2, k0, k1, k2, k3, k4, k5, k6, k7, k8, k9]
set_option maxRecDepth 100000 in
set_option maxHeartbeats 1000000 in
/-- A message without entries, of its own. -/
theorem own_calls {w : World} (y : Mg) (A : Option Addr) (c : Nat) :
    Calls Tryz.prog 66 #[.agg #[.int .i64 y.kind, .int .i64 y.frm, .int .i64 y.to_, .int .i64 y.term, .int .i64 y.index, .int .i64 y.logTerm, .int .i64 y.commit, .bool y.ok, .slice A 0 c, .string (bs y.snap)]] w fun e w' => ∃ A' c', e = .returned (.agg #[.int .i64 y.kind, .int .i64 y.frm, .int .i64 y.to_, .int .i64 y.term, .int .i64 y.index, .int .i64 y.logTerm, .int .i64 y.commit, .bool y.ok, .slice A' 0 c', .string (bs y.snap)]) ∧ (∀ k, (Value.slice A' 0 c').ownBlock = some k → w.heap.size ≤ k ∧ k < w'.heap.size) ∧ Keep [] w w' := by
  have HC : Hid (∀ W, Keep [] w W → Calls Tryz.prog 52 #[.slice A 0 c] W fun e w' => ∃ A' c', e = .returned (.slice A' 0 c') ∧ (∀ k, (Value.slice A' 0 c').ownBlock = some k → w.heap.size ≤ k ∧ k < w'.heap.size) ∧ Keep [] W w') := fun W hk => by
    refine (clone_empty_calls A c).mono ?_
    rintro e w' ⟨A', c', rfl, h1, h2⟩
    exact ⟨A', c', rfl, fun k e => ⟨Nat.le_trans hk.size (h1 k e).1, (h1 k e).2⟩, h2⟩
  go_enter Tryz.func66, Tryz.ntmps66
  go_wp2_with (first | (go_at_call 52; refine (HC.out _ (by repeat (first | exact Keep.refl _ _ | refine Keep.drew ?_ | refine Keep.drewN ?_ _ | refine Keep.alloc ?_ _))).mono ?_; rintro e w1 ⟨A', c', rfl, hb, hk⟩; have hr : Blk w1 w.heap.size 56 #[.int .i64 y.kind, .int .i64 y.frm, .int .i64 y.to_, .int .i64 y.term, .int .i64 y.index, .int .i64 y.logTerm, .int .i64 y.commit, .bool y.ok, .slice A 0 c, .string (bs y.snap)] := ((Blk.new _ _ _).alloc _).keep hk (by simp); have hs : Blk w1 (w.heap.size + 1) 56 #[.int .i64 0, .int .i64 0, .int .i64 0, .int .i64 0, .int .i64 0, .int .i64 0, .int .i64 0, .bool false, .slice none 0 0, .string { data := #[] }] := Blk.keep (Blk.here _ _ _ _ (by simp)) hk (by simp); have r0 : w1.cell? ⟨w.heap.size, 0, none⟩ = some (.int .i64 y.kind) := hr.cell 0; have r1 : w1.cell? ⟨w.heap.size, 1, none⟩ = some (.int .i64 y.frm) := hr.cell 1; have r2 : w1.cell? ⟨w.heap.size, 2, none⟩ = some (.int .i64 y.to_) := hr.cell 2; have r3 : w1.cell? ⟨w.heap.size, 3, none⟩ = some (.int .i64 y.term) := hr.cell 3; have r4 : w1.cell? ⟨w.heap.size, 4, none⟩ = some (.int .i64 y.index) := hr.cell 4; have r5 : w1.cell? ⟨w.heap.size, 5, none⟩ = some (.int .i64 y.logTerm) := hr.cell 5; have r6 : w1.cell? ⟨w.heap.size, 6, none⟩ = some (.int .i64 y.commit) := hr.cell 6; have r7 : w1.cell? ⟨w.heap.size, 7, none⟩ = some (.bool y.ok) := hr.cell 7; have r8 : w1.cell? ⟨w.heap.size, 8, none⟩ = some (.slice A 0 c) := hr.cell 8; have r9 : w1.cell? ⟨w.heap.size, 9, none⟩ = some (.string (bs y.snap)) := hr.cell 9; have s0 : w1.cell? ⟨w.heap.size + 1, 0, none⟩ = some (.int .i64 0) := hs.cell 0; have s1 : w1.cell? ⟨w.heap.size + 1, 1, none⟩ = some (.int .i64 0) := hs.cell 1; have s2 : w1.cell? ⟨w.heap.size + 1, 2, none⟩ = some (.int .i64 0) := hs.cell 2; have s3 : w1.cell? ⟨w.heap.size + 1, 3, none⟩ = some (.int .i64 0) := hs.cell 3; have s4 : w1.cell? ⟨w.heap.size + 1, 4, none⟩ = some (.int .i64 0) := hs.cell 4; have s5 : w1.cell? ⟨w.heap.size + 1, 5, none⟩ = some (.int .i64 0) := hs.cell 5; have s6 : w1.cell? ⟨w.heap.size + 1, 6, none⟩ = some (.int .i64 0) := hs.cell 6; have s7 : w1.cell? ⟨w.heap.size + 1, 7, none⟩ = some (.bool false) := hs.cell 7; have s8 : w1.cell? ⟨w.heap.size + 1, 8, none⟩ = some (.slice none 0 0) := hs.cell 8; have s9 : w1.cell? ⟨w.heap.size + 1, 9, none⟩ = some (.string { data := #[] }) := hs.cell 9; have fr : ∀ i, w1.frozen? ⟨w.heap.size, i, none⟩ = false := fun i => hr.frozen i; have fs : ∀ i, w1.frozen? ⟨w.heap.size + 1, i, none⟩ = false := fun i => hs.frozen i; have HK : Hid (Keep [] w w1) := Keep.trans (M := []) (by repeat (first | exact Keep.refl _ _ | refine Keep.drew ?_ | refine Keep.drewN ?_ _ | refine Keep.alloc ?_ _)) hk; have HB := Lib.hid hb; have HS := Lib.hid hs; clear hb hk hr hs) | fail)
  obtain ⟨hB9, hK9⟩ := ten_cells (HS.out.far (p := ⟨w.heap.size, 8, none⟩) (by simp) (.slice A' 0 c')) (.int .i64 y.kind) (.int .i64 y.frm) (.int .i64 y.to_) (.int .i64 y.term) (.int .i64 y.index) (.int .i64 y.logTerm) (.int .i64 y.commit) (.bool y.ok) (.slice A' 0 c') (.string (bs y.snap))
  have hk7 : Keep [w.heap.size, w.heap.size + 1] w1 _ := Keep.trans' (M := [w.heap.size, w.heap.size + 1]) ((Keep.refl _ _).setCell (.inl (by simp)) _) hK9 (by simp)
  refine own_ret rfl hB9 ⟨A', c', rfl, fun k e => ⟨(HB.out k e).1, Nat.lt_of_lt_of_le (HB.out k e).2 hk7.size⟩, HK.out.trans' hk7 (by simp)⟩
section
variable {w0 : Bs} {w w' : World} {q : Nat} {P : List Pq} {way : List Mg}
theorem qon_in (h : NetIn w0 w q P way) : Calls Tryz.prog 30 #[.pointer (some ⟨q, 0, none⟩)] w fun e w' => e = .returned (.int .i64 (way.length : Int)) ∧ w = w' := by
  obtain ⟨⟨Q, L, hA, rfl, rfl, rfl, hf⟩, hkk⟩ := h
  have := qon_calls hA
  rw [List.length_map]
  exact this
theorem qdrop_in (h : NetIn w0 w q P way) (k : Nat) (hk : k < way.length) (hn : way.length ≤ 200) : Calls Tryz.prog 32 #[.pointer (some ⟨q, 0, none⟩), .int .i64 (k : Int)] w fun e w' => e = .returned (.tuple #[]) ∧ NetIn w0 w' q P (way.eraseIdx k) := by
  obtain ⟨⟨Q, L, hA, rfl, rfl, rfl, hf⟩, hkk⟩ := h
  rw [List.length_map] at hk hn
  refine (qdrop_calls hA k hk hn).mono ?_
  rintro e w' ⟨rfl, way', h1, h2⟩
  have := (h2.go (L := L)).in_ hkk hf h1 rfl
  rw [← map_eraseIdx']
  exact ⟨rfl, this⟩
end

end Go.Proofs.YtnlcipocobmgiaaGreatDoor
/- The contract of (*quorum.Net).Again, of a message without entries. -/
namespace Go.Proofs.YtnlcipocobmgiaaGreatDoor
open Go.RowKit
attribute [local go_sem] size_bs bs_append bs_extract

section
variable {w0 : Bs} {w w' : World} {q : Nat} {P : List Pq} {way : List Mg}
set_option maxRecDepth 100000 in
set_option maxHeartbeats 2000000 in
theorem qagain_calls (h : NetIn w0 w q P way) (k : Nat) (y : Mg) (hk : way[k]? = some y) (he : y.ents = []) (hl : way.length < 200) :
    Calls Tryz.prog 33 #[.pointer (some ⟨q, 0, none⟩), .int .i64 (k : Int)] w fun e w' => e = .returned (.tuple #[]) ∧ NetIn w0 w' q P (way ++ [y]) := by
  obtain ⟨⟨Q, L, hA, rfl, rfl, rfl, hf⟩, hkk⟩ := h
  obtain ⟨hkl, A, ec, g, c, hpe, hg, hgl, hc, hE, hE2, hR⟩ := hA.msg k y hk
  have hel : y.ents.length = 0 := by rw [he]; rfl
  have hl' : Q.ms.length < 200 := by simpa using hl
  have z2 : w.cell? ⟨Q.q, 2, none⟩ = some (.slice (some ⟨g, 0, none⟩) Q.ms.length c) := hg ▸ hA.qb.cell 2
  rw [hel] at hc
  have HO := Lib.hid (own_calls (w := w) y A ec)
  have HS : Hid (∀ w1 A' c', (∀ k, (Value.slice A' 0 c').ownBlock = some k → w.heap.size ≤ k ∧ k < w1.heap.size) → Keep [] w w1 → Calls Tryz.prog 68 #[.pointer (some ⟨Q.q, 0, none⟩), .agg #[.int .i64 y.kind, .int .i64 y.frm, .int .i64 y.to_, .int .i64 y.term, .int .i64 y.index, .int .i64 y.logTerm, .int .i64 y.commit, .bool y.ok, .slice A' 0 c', .string (bs y.snap)]] w1 fun e w' => e = .returned (.tuple #[]) ∧ NetIn w0 w' Q.q (L.map Qn.pl) (Q.ms.map Prod.fst ++ [y])) := fun w1 A' c' h1 h2 => by
    refine (qsend_calls (hA.grow h2) y (.slice A' 0 c') ⟨A', c', by rw [hel], fun hx => absurd he hx⟩ (fun k e => ⟨(h1 k e).2, fun hx => ?_, fun x hx hkx => ?_⟩) (fun A n c e => by injection e; omega) hl').mono ?_
    · have := hA.own_lt k hx
      have := (h1 k e).1
      omega
    · have := (hA.nd x hx).lt k hkx
      have := (h1 k e).1
      omega
    · rintro e w' ⟨rfl, way', h3, h4⟩
      have := ((NetGo.grow Q L h2).trans (h4.go (L := L))).in_ hkk hf h3 rfl
      rw [List.map_append] at this
      exact ⟨rfl, this⟩
  have d1 : decide ((k : Int) < 0) = false := decide_eq_false (by omega)
  have d2 : decide ((Q.ms.length : Int) ≤ (k : Int)) = false := decide_eq_false (by omega)
  have d3 : (k : Int) < (Q.ms.length : Int) := by omega
  have s0 : w.cell? ⟨g, k * 10, none⟩ = some (.int .i64 y.kind) := hc 0 _ (by omega) rfl
  have s1 : w.cell? ⟨g, k * 10 + 1, none⟩ = some (.int .i64 y.frm) := hc 1 _ (by omega) rfl
  have s2 : w.cell? ⟨g, k * 10 + 2, none⟩ = some (.int .i64 y.to_) := hc 2 _ (by omega) rfl
  have s3 : w.cell? ⟨g, k * 10 + 3, none⟩ = some (.int .i64 y.term) := hc 3 _ (by omega) rfl
  have s4 : w.cell? ⟨g, k * 10 + 4, none⟩ = some (.int .i64 y.index) := hc 4 _ (by omega) rfl
  have s5 : w.cell? ⟨g, k * 10 + 5, none⟩ = some (.int .i64 y.logTerm) := hc 5 _ (by omega) rfl
  have s6 : w.cell? ⟨g, k * 10 + 6, none⟩ = some (.int .i64 y.commit) := hc 6 _ (by omega) rfl
  have s7 : w.cell? ⟨g, k * 10 + 7, none⟩ = some (.bool y.ok) := hc 7 _ (by omega) rfl
  have s8 : w.cell? ⟨g, k * 10 + 8, none⟩ = some (.slice A 0 ec) := hc 8 _ (by omega) rfl
  have s9 : w.cell? ⟨g, k * 10 + 9, none⟩ = some (.string (bs y.snap)) := hc 9 _ (by omega) rfl
  clear hA hf hkk hk hpe hg hc hE hE2 hR he hel hl hl'
  generalize Q.ms.length = n at *
  go_enter Tryz.func33, Tryz.ntmps33
  go_wp2_with (first | (go_at_call 66; refine HO.out.mono ?_; rintro e w1 ⟨A', c', rfl, h1, h2⟩; have H1 := Lib.hid h1; have H2 := Lib.hid h2; clear h1 h2) | (go_at_call 68; refine (HS.out _ _ _ H1.out H2.out).mono ?_; rintro e w3 ⟨rfl, h3⟩) | fail)
  go_end0
  exact ⟨rfl, h3⟩
end

end Go.Proofs.YtnlcipocobmgiaaGreatDoor
