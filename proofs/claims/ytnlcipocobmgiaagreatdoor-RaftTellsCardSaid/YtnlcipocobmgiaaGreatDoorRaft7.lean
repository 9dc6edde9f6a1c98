/- The contract of (*raft.Node).count. -/
import Derived.Test.YtnlcipocobmgiaaGreatDoorRaft6
import Derived.Deep.OwnRows
namespace Go.Proofs.YtnlcipocobmgiaaGreatDoor
open Go.RowKit
attribute [local go_sem] size_bs bs_append bs_extract

theorem made1 (z : Value) (n : Nat) : madeCells #[z] n = (List.replicate n z).toArray := by
  apply Array.ext
  · simp [madeCells]
  · intro i h1 h2
    simp [madeCells, Nat.mod_one]
theorem madeInts (n : Nat) : madeCells #[Value.int .i64 0] n = (nums (List.replicate n 0)).toArray := by
  rw [made1]; simp [nums]
theorem Tryz.info3 : (Tryz.prog.info? 3).map (fun i => (i.zero, i.size, i.bytes)) = some (some (.int .i64 0), 1, 8) := by kernel_rfl
/-- The first ones have a number, the others 0. -/
def upto (n L j : Nat) : List Nat := List.replicate j L ++ List.replicate (n - j) 0
theorem upto_set (n L j : Nat) (h : j < n) : (upto n L j).set j L = upto n L (j + 1) := by
  unfold upto
  obtain ⟨k, hk⟩ : ∃ k, n - j = k + 1 := ⟨n - j - 1, by omega⟩
  rw [hk, show n - (j + 1) = k by omega, List.set_append, if_neg (by simp)]
  simp only [List.length_replicate, Nat.sub_self, List.replicate_succ (n := k), List.set_cons_zero]
  rw [List.replicate_succ', List.append_assoc]
  rfl
theorem upto_len (n L j : Nat) (h : j ≤ n) : (upto n L j).length = n := by simp [upto]; omega
section
variable {w : World} {V : Nv} {N : Rn} {D : Dk}
/-- The arrays are dropped, or new. -/
theorem NodeAt.rearr {w' : World} {vo' ma' ne' : Option Nat} {N' : Rn} (h : NodeAt w V N D) (hk : Keep [V.r] w w') (hB : Blk w' V.r 81 (nodeCells { V with vo := vo', ma := ma', ne := ne' } N')) (hlog : N'.st.log = N.st.log) (hout : N'.out = N.out)
    (hvo : ArrAt w' 4 vo' (bools N'.votes)) (hma : ArrAt w' 3 ma' (nums N'.mt)) (hne : ArrAt w' 3 ne' (nums N'.nx)) (dvo : ∀ g, vo' = some g → w.heap.size ≤ g) (dma : ∀ g, ma' = some g → w.heap.size ≤ g) (dne : ∀ g, ne' = some g → w.heap.size ≤ g) (dis : ∀ g, ma' = some g → ne' ≠ some g) :
    NodeAt w' { V with vo := vo', ma := ma', ne := ne' } N' D ∧ NodeTo V { V with vo := vo', ma := ma', ne := ne' } w w' := by
  have R := h.rest_keep hk
  have hfp' : ∀ x ∈ ({ V with vo := vo', ma := ma', ne := ne' } : Nv).fp, x ∈ V.fp ∨ w.heap.size ≤ x := fun x hx => by
    rcases Nv.mem.1 hx with h | h | h | h | h | h | h | h
    · exact .inl (Nv.mem.2 (.inl h))
    · exact .inl (Nv.mem.2 (.inr (.inl h)))
    · exact .inl (Nv.mem.2 (.inr (.inr (.inl h))))
    · exact .inl (Nv.mem.2 (.inr (.inr (.inr (.inl h)))))
    · exact .inr (dvo x h)
    · exact .inr (dma x h)
    · exact .inr (dne x h)
    · exact .inl (Nv.mem.2 (.inr (.inr (.inr (.inr (.inr (.inr (.inr h))))))))
  refine ⟨⟨hB, R.disk, by rw [hlog]; exact R.log, hvo, hma, hne, dis, R.ou, by rw [hout]; exact R.outs, fun p hp => ⟨(R.es p hp).1, fun k e => ⟨((R.es p hp).2 k e).1, fun hx => ?_⟩⟩, R.tab, fun hx => ?_⟩, (NodeTo.setR V hk).keep, hfp', fun _ h => .inl h, rfl, rfl, rfl⟩
  · rcases hfp' k hx with h1 | h1
    · exact ((R.es p hp).2 k e).2 h1
    · have := ((h.rest.es p hp).2 k e).1; omega
  · rcases hfp' _ hx with h1 | h1
    · exact R.tn h1
    · have := World.block_lt_of_cell? _ _ (h.rest.tab 0 (by omega)); simp at this; omega

theorem trues_take (l : List Bool) (j : Nat) (h : j < l.length) : trues (l.take (j + 1)) = trues (l.take j) + if l.getD j false = true then 1 else 0 := by
  unfold trues
  rw [List.take_succ_eq_append_getElem h, List.filter_append, List.length_append]
  simp only [List.getD, List.getElem?_eq_getElem h, Option.getD_some]
  cases hb : l[j] <;> simp
theorem trues_le (l : List Bool) : trues l ≤ l.length := List.length_filter_le _ _
theorem bools_len (l : List Bool) : (bools l).length = l.length := by simp [bools]
theorem bools_at (l : List Bool) (i : Nat) (h : i < l.length) : (bools l)[i]'(by simpa [bools] using h) = .bool (l.getD i false) := by simp [bools, List.getD, h]

set_option maxRecDepth 100000 in
set_option maxHeartbeats 4000000 in
theorem count_no (h : NodeAt w V N D) (hn5 : N.n ≤ 5) (hid : N.id < N.n) (hvo : N.votes.length = N.n) (hno : 2 * trues N.votes ≤ N.n) :
    Calls Tryz.prog 56 #[.pointer (some ⟨V.r, 0, none⟩)] w fun e w' => e = .returned (.tuple #[]) ∧ w = w' := by
  obtain ⟨gv, hgv, hvb, -⟩ := h.rest.vo.cell (i := 0) (by rw [bools_len]; omega)
  have c14 : w.cell? ⟨V.r, 14, none⟩ = some (arrV V.vo N.votes.length) := h.blk.cell 14
  rw [hgv, hvo] at c14
  change w.cell? ⟨V.r, 14, none⟩ = some (.slice (some ⟨gv, 0, none⟩) N.n N.n) at c14
  have c2 : w.cell? ⟨V.r, 2, none⟩ = some (.int .i64 (N.n : Int)) := h.blk.cell 2
  have HV : Hid (∀ j, j < N.n → w.cell? ⟨gv, j, none⟩ = some (.bool (N.votes.getD j false))) := fun j hj => by
    rw [hvb.cell j]
    have h1 : j < N.votes.length := by omega
    have h2 := bools_at N.votes j h1
    simp [h1, bools_len, h2]
  have H := Lib.hid h
  have HGV := Lib.hid hgv
  clear h hvb hgv
  go_enter Tryz.func56, Tryz.ntmps56
  go_wp2
  go_loop [2, 11] (fun vn vj => ∃ j : Nat, j ≤ N.n ∧ vj = .int .i64 (j : Int) ∧ vn = .int .i64 ((trues (N.votes.take j) : Nat) : Int)) (fun _ vj => N.n - (intOf vj).toNat)
  case atStart => exact ⟨0, Nat.zero_le _, rfl, rfl⟩
  case round =>
    obtain ⟨j, hj, rfl, rfl⟩ := hrel
    have htl := trues_le (N.votes.take j)
    have htl2 : (N.votes.take j).length ≤ N.n := by rw [List.length_take]; omega
    by_cases hlt : j < N.n
    · have d1 : decide ((j : Int) < (N.n : Int)) = true := by simp; omega
      have m0 := HV.out j hlt
      have HCT := Lib.hid (trues_take N.votes j (by omega))
      cases hvj : N.votes.getD j false with
      | true =>
        rw [hvj] at m0 HCT
        clear hvj
        go_wp2
        go_round
        case rel => exact ⟨j + 1, by omega, by go_num, by rw [HCT.out, if_pos rfl]; go_num⟩
        case measure => simp [intOf]; omega
      | false =>
        rw [hvj] at m0 HCT
        clear hvj
        go_wp2
        go_round
        case rel => exact ⟨j + 1, by omega, by go_num, by rw [HCT.out, if_neg (by simp)]; go_num⟩
        case measure => simp [intOf]; omega
    · have d1 : decide ((j : Int) < (N.n : Int)) = false := by simp; omega
      have htk : N.votes.take j = N.votes := List.take_of_length_le (by omega)
      rw [htk]
      generalize trues N.votes = tn at *
      clear htk
      have d2 : decide (2 * (tn : Int) ≤ (N.n : Int)) = true := by simp; omega
      go_wp2
      ((try simp only [Exit.inBlock, Exit.then]); refine bodyPost_ret (results_none rfl _ _ _) rfl ?_)
      exact ⟨rfl, rfl⟩

theorem lead_arr (h : NodeAt w V N D) (N2 : Rn) (hN2 : N2 = { N with role := 2, leader := (N.id : Int), votes := [], mt := List.replicate N.n 0 }) (L : Nat) (g1 g2 : Nat) (hg : (g1 = w.heap.size ∧ g2 = w.heap.size + 1) ∨ (g1 = w.heap.size + 1 ∧ g2 = w.heap.size)) :
    NodeAt (((((((w.setCell ⟨V.r, 9, none⟩ (.int .i64 2)).setCell ⟨V.r, 10, none⟩ (.int .i64 (N.id : Int))).setCell ⟨V.r, 14, none⟩ (.slice none 0 0)).setCell ⟨V.r, 15, none⟩ (.slice (some ⟨g1, 0, none⟩) N.n N.n)).setCell ⟨V.r, 16, none⟩ (.slice (some ⟨g2, 0, none⟩) N.n N.n)).alloc (.cells (madeCells #[Value.int .i64 0] N.n) 3)).alloc (.cells (madeCells #[Value.int .i64 0] N.n) 3)).drew { V with vo := none, ma := some g1, ne := some g2 } { N2 with nx := upto N.n L 0 } D ∧ NodeTo V { V with vo := none, ma := some g1, ne := some g2 } w (((((((w.setCell ⟨V.r, 9, none⟩ (.int .i64 2)).setCell ⟨V.r, 10, none⟩ (.int .i64 (N.id : Int))).setCell ⟨V.r, 14, none⟩ (.slice none 0 0)).setCell ⟨V.r, 15, none⟩ (.slice (some ⟨g1, 0, none⟩) N.n N.n)).setCell ⟨V.r, 16, none⟩ (.slice (some ⟨g2, 0, none⟩) N.n N.n)).alloc (.cells (madeCells #[Value.int .i64 0] N.n) 3)).alloc (.cells (madeCells #[Value.int .i64 0] N.n) 3)).drew := by
  subst hN2
  have hrl := h.blk.lt
  have hi : V.r ∈ [V.r] ∨ w.heap.size ≤ V.r := .inl (by simp)
  have hk : Keep [V.r] w (((((((w.setCell ⟨V.r, 9, none⟩ (.int .i64 2)).setCell ⟨V.r, 10, none⟩ (.int .i64 (N.id : Int))).setCell ⟨V.r, 14, none⟩ (.slice none 0 0)).setCell ⟨V.r, 15, none⟩ (.slice (some ⟨g1, 0, none⟩) N.n N.n)).setCell ⟨V.r, 16, none⟩ (.slice (some ⟨g2, 0, none⟩) N.n N.n)).alloc (.cells (madeCells #[Value.int .i64 0] N.n) 3)).alloc (.cells (madeCells #[Value.int .i64 0] N.n) 3)).drew := (((((((Keep.refl [V.r] w).setCell (p := ⟨V.r, 9, none⟩) hi _).setCell (p := ⟨V.r, 10, none⟩) hi _).setCell (p := ⟨V.r, 14, none⟩) hi _).setCell (p := ⟨V.r, 15, none⟩) hi _).setCell (p := ⟨V.r, 16, none⟩) hi _).alloc _).alloc _ |>.drew
  have hz : nums (upto N.n L 0) = nums (List.replicate N.n 0) := by simp [upto]
  have hb : ∀ g, g = w.heap.size ∨ g = w.heap.size + 1 → Blk (((((((w.setCell ⟨V.r, 9, none⟩ (.int .i64 2)).setCell ⟨V.r, 10, none⟩ (.int .i64 (N.id : Int))).setCell ⟨V.r, 14, none⟩ (.slice none 0 0)).setCell ⟨V.r, 15, none⟩ (.slice (some ⟨g1, 0, none⟩) N.n N.n)).setCell ⟨V.r, 16, none⟩ (.slice (some ⟨g2, 0, none⟩) N.n N.n)).alloc (.cells (madeCells #[Value.int .i64 0] N.n) 3)).alloc (.cells (madeCells #[Value.int .i64 0] N.n) 3)).drew g 3 (nums (List.replicate N.n 0)).toArray := by
    intro g hg
    rw [madeInts]
    rcases hg with rfl | rfl
    · exact Blk.drew (Blk.alloc (Blk.here _ _ _ _ (by simp)) _)
    · exact Blk.drew (Blk.here _ _ _ _ (by simp))
  refine h.rearr hk ?_ rfl rfl (ArrAt.nil _ _) (hb g1 (by omega)) (by rw [hz]; exact hb g2 (by omega)) (fun g e => by cases e) (fun g e => by injection e with e; omega) (fun g e => by injection e with e; omega) (fun g e e' => by injection e with e; injection e' with e'; omega)
  have e1 : (List.replicate N.n (0 : Nat)).length = N.n := by simp
  have e2 : (upto N.n L 0).length = N.n := upto_len _ _ _ (Nat.zero_le _)
  have hB := (((((h.blk.set_ 9 (.int .i64 2)).set_ 10 (.int .i64 (N.id : Int))).set_ 14 (.slice none 0 0)).set_ 15 (.slice (some ⟨g1, 0, none⟩) N.n N.n)).set_ 16 (.slice (some ⟨g2, 0, none⟩) N.n N.n))
  have hB2 := ((hB.alloc (.cells (madeCells #[Value.int IntKind.i64 0] N.n) 3)).alloc (.cells (madeCells #[Value.int IntKind.i64 0] N.n) 3)).drew
  unfold nodeCells
  simp only [e1, e2]
  exact hB2
theorem Rn.Sm.lead (h : N.Sm) (hl : N.st.last.1 < 2199023255552) : N.lead.Sm :=
  ⟨h.n, h.id, h.term, h.base, h.baseTerm, h.snap, h.log, h.ents, h.commit, h.applied, h.timer, h.out, .inl (by simp [Rn.lead]), .inl (by simp [Rn.lead]), .inr rfl, (by
    intro x hx
    simp only [Rn.lead] at hx
    have := List.eq_of_mem_replicate hx
    omega), (by
    intro x hx
    simp only [Rn.lead] at hx
    have := List.eq_of_mem_replicate hx
    omega)⟩

set_option maxRecDepth 100000 in
set_option maxHeartbeats 8000000 in
theorem count_yes (h : NodeAt w V N D) (hg : D.Good) (hS : N.Sm) (hvo : N.votes.length = N.n) (hyes : N.n < 2 * trues N.votes) (hout : N.out.length ≤ 999980) (hl : N.st.last.1 < 2199023255552) (hlog : N.st.log.length < 1000000) {D' : Dk} (hd : D.appendLog [N.newEn []] = (D', 0)) :
    Calls Tryz.prog 56 #[.pointer (some ⟨V.r, 0, none⟩)] w fun e w' => e = .returned (.tuple #[]) ∧ ∃ V', NodeAt w' V' N.won D' ∧ NodeTo V V' w w' := by
  have hn5 := hS.n
  have hid := hS.id
  have HSM := Lib.hid hS
  clear hS
  obtain ⟨gv, hgv, hvb, -⟩ := h.rest.vo.cell (i := 0) (by rw [bools_len]; omega)
  have c14 : w.cell? ⟨V.r, 14, none⟩ = some (arrV V.vo N.votes.length) := h.blk.cell 14
  rw [hgv, hvo] at c14
  change w.cell? ⟨V.r, 14, none⟩ = some (.slice (some ⟨gv, 0, none⟩) N.n N.n) at c14
  have c2 : w.cell? ⟨V.r, 2, none⟩ = some (.int .i64 (N.n : Int)) := h.blk.cell 2
  have HV : Hid (∀ j, j < N.n → w.cell? ⟨gv, j, none⟩ = some (.bool (N.votes.getD j false))) := fun j hj => by
    rw [hvb.cell j]
    have h1 : j < N.votes.length := by omega
    have h2 := bools_at N.votes j h1
    simp [h1, bools_len, h2]
  have H := Lib.hid h
  have HGV := Lib.hid hgv
  clear h hvb hgv
  go_enter Tryz.func56, Tryz.ntmps56
  go_wp2
  go_loop [2, 11] (fun vn vj => ∃ j : Nat, j ≤ N.n ∧ vj = .int .i64 (j : Int) ∧ vn = .int .i64 ((trues (N.votes.take j) : Nat) : Int)) (fun _ vj => N.n - (intOf vj).toNat)
  case atStart => exact ⟨0, Nat.zero_le _, rfl, rfl⟩
  case round =>
    obtain ⟨j, hj, rfl, rfl⟩ := hrel
    have htl := trues_le (N.votes.take j)
    have htl2 : (N.votes.take j).length ≤ N.n := by rw [List.length_take]; omega
    by_cases hlt : j < N.n
    · have d1 : decide ((j : Int) < (N.n : Int)) = true := by simp; omega
      have m0 := HV.out j hlt
      have HCT := Lib.hid (trues_take N.votes j (by omega))
      cases hvj : N.votes.getD j false with
      | true =>
        rw [hvj] at m0 HCT
        clear hvj
        go_wp2
        go_round
        case rel => exact ⟨j + 1, by omega, by go_num, by rw [HCT.out, if_pos rfl]; go_num⟩
        case measure => simp [intOf]; omega
      | false =>
        rw [hvj] at m0 HCT
        clear hvj
        go_wp2
        go_round
        case rel => exact ⟨j + 1, by omega, by go_num, by rw [HCT.out, if_neg (by simp)]; go_num⟩
        case measure => simp [intOf]; omega
    · have d1 : decide ((j : Int) < (N.n : Int)) = false := by simp; omega
      have htk : N.votes.take j = N.votes := List.take_of_length_le (by omega)
      rw [htk]
      have ht5 : trues N.votes ≤ 5 := by have := trues_le N.votes; omega
      generalize trues N.votes = tn at *
      clear htk
      have d2 : decide (2 * (tn : Int) ≤ (N.n : Int)) = false := by simp; omega
      have d3 : (N.n : Int) < 2 * (tn : Int) := by omega
      have c1 : w.cell? ⟨V.r, 1, none⟩ = some (.int .i64 (N.id : Int)) := H.out.blk.cell 1
      have c9 : w.cell? ⟨V.r, 9, none⟩ = some (.int .i64 (N.role : Int)) := H.out.blk.cell 9
      have c10 : w.cell? ⟨V.r, 10, none⟩ = some (.int .i64 N.leader) := H.out.blk.cell 10
      have hf : ∀ i, w.frozen? ⟨V.r, i, none⟩ = false := fun i => H.out.blk.frozen i
      have hmk := fun (W : World) => run_make_row' (P := Tryz.prog) 22 3 (.int .i64 0) 8 Tryz.underlying22 Tryz.info3 rfl .i64 .i64 N.n (by omega) (by omega) W
      have c15 : w.cell? ⟨V.r, 15, none⟩ = some (arrV V.ma N.mt.length) := H.out.blk.cell 15
      have c16 : w.cell? ⟨V.r, 16, none⟩ = some (arrV V.ne N.nx.length) := H.out.blk.cell 16
      have hrl := H.out.blk.lt
      go_wp2
      obtain ⟨L, hL⟩ : ∃ L, L = N.st.last.1 + 1 := ⟨_, rfl⟩
      obtain ⟨N2, hN2⟩ : ∃ N2 : Rn, N2 = { N with role := 2, leader := (N.id : Int), votes := [], mt := List.replicate N.n 0 } := ⟨_, rfl⟩
      have HX2 := Lib.hid hN2
      have HLL := Lib.hid hL
      have hL2 : IntKind.i64.wrap ((N.st.last.1 : Int) + 1) = (L : Int) := by rw [IntWalk.i64_in _ (by omega)]; omega
      have HLA := Lib.hid (lead_arr H.out N2 hN2 L)
      have HLAST : Hid (∀ W V2 j, NodeAt W V2 { N2 with nx := upto N.n L j } D → V2.r = V.r → Calls Tryz.prog 14 #[.pointer (some ⟨V.r, 0, none⟩)] W fun e w' => e = .returned (.int .i64 (N.st.last.1 : Int)) ∧ ∃ k, w' = W.drewN k) := fun W V2 j hW hr => by
        have := nlast_calls hW (by rw [hN2]; simp only; omega)
        rw [hr, hN2] at this
        exact this
      have HAPP : Hid (∀ W V2, NodeAt W V2 { N2 with nx := upto N.n L N.n } D → V2.r = V.r → NodeTo V V2 w W → Calls Tryz.prog 44 #[.pointer (some ⟨V.r, 0, none⟩), .string { data := #[] }] W fun e w' => ∃ k : Int, e = .returned (.int .i64 k) ∧ ∃ V', NodeAt w' V' N.won D' ∧ NodeTo V V' w w') := fun W V2 hW hr hT => by
        have e1 : ({ N2 with nx := upto N.n L N.n } : Rn) = N.lead := by
          rw [hN2, hL]
          simp [Rn.lead, upto]
        rw [e1] at hW
        have hsm : N.lead.Sm := HSM.out.lead hl
        have := nappend_calls hW hg hsm (by simp [Rn.lead]) (by simp [Rn.lead]) (by show N.out.length ≤ 999990; omega) [] hl hlog (by simp) hd
        rw [hr] at this
        refine this.mono ?_
        rintro e w' ⟨rfl, V', h1, h2⟩
        exact ⟨_, rfl, V', h1, hT.trans h2⟩
      clear hN2 hL hd hg HSM hout hlog
      go_region
      · go_wp2_with fail
        obtain ⟨hNA, hTA⟩ := HLA.out w.heap.size (w.heap.size + 1) (.inl ⟨rfl, rfl⟩)
        generalize (((((((w.setCell ⟨V.r, 9, none⟩ (.int .i64 2)).setCell ⟨V.r, 10, none⟩ (.int .i64 (N.id : Int))).setCell ⟨V.r, 14, none⟩ (.slice none 0 0)).setCell ⟨V.r, 15, none⟩ (.slice (some ⟨(w.heap.size : Nat), 0, none⟩) N.n N.n)).setCell ⟨V.r, 16, none⟩ (.slice (some ⟨(w.heap.size + 1), 0, none⟩) N.n N.n)).alloc (.cells (madeCells #[Value.int .i64 0] N.n) 3)).alloc (.cells (madeCells #[Value.int .i64 0] N.n) 3)).drew = W2 at *
        obtain ⟨V2, hV2⟩ : ∃ V2 : Nv, V2 = { V with vo := none, ma := some (w.heap.size : Nat), ne := some (w.heap.size + 1) } := ⟨_, rfl⟩
        obtain ⟨g2, hg2⟩ : ∃ g2 : Nat, g2 = (w.heap.size + 1) := ⟨_, rfl⟩
        have hr2 : V2.r = V.r := by rw [hV2]
        have hne2 : V2.ne = some g2 := by rw [hV2, hg2]
        rw [← hV2] at hNA hTA
        rw [← hg2]
        have HN0 := Lib.hid hNA
        have HT0 := Lib.hid hTA
        have HR2 := Lib.hid hr2
        have HNE2 := Lib.hid hne2
        clear hNA hTA hr2 hne2 hV2 hg2 HLA hmk c14 c2 c1 c9 c10 c15 c16 hf
        go_loopw [5, 60] (fun _ vj wr => ∃ k : Nat, k ≤ N.n ∧ vj = .int .i64 (k : Int) ∧ NodeAt wr V2 { N2 with nx := upto N.n L k } D ∧ NodeTo V V2 w wr) (fun _ vj _ => N.n - (intOf vj).toNat)
        case atStart => exact ⟨0, Nat.zero_le _, rfl, HN0.out, HT0.out⟩
        case round =>
          obtain ⟨k, hk, rfl, hU, hT⟩ := hrel
          have HU := Lib.hid hU
          have HT := Lib.hid hT
          have c16 : wr.cell? ⟨V2.r, 16, none⟩ = some (arrV V2.ne (upto N.n L k).length) := hU.blk.cell 16
          rw [HR2.out, HNE2.out, upto_len _ _ _ hk] at c16
          change wr.cell? ⟨V.r, 16, none⟩ = some (.slice (some ⟨g2, 0, none⟩) N.n N.n) at c16
          have hrl2 : V.r < wr.heap.size := by have := hU.blk.lt; rw [HR2.out] at this; exact this
          clear hU hT
          by_cases hlt2 : k < N.n
          · have d4 : decide ((k : Int) < (N.n : Int)) = true := by simp; omega
            obtain ⟨g3, hg3, hb3, hc3⟩ := HU.out.rest.ne.cell (i := k) (by rw [nums_len, upto_len _ _ _ hk]; exact hlt2)
            obtain rfl : g2 = g3 := by rw [HNE2.out] at hg3; injection hg3
            rw [nums_at _ _ (by rw [upto_len _ _ _ hk]; exact hlt2)] at hc3
            have mf : wr.frozen? ⟨g2, k, none⟩ = false := hb3.frozen k
            generalize (upto N.n L k).getD k 0 = mo at *
            have hgr : V.r ∉ [g2] := fun hx => by
              have h1 := Blk.ne_ HU.out.blk hb3 (by decide)
              rw [HR2.out] at h1
              simp at hx
              exact h1 hx
            clear hg3 hb3
            have HS6 : Hid (∀ W, Keep [g2] wr W → W.cell? ⟨V.r, 16, none⟩ = some (.slice (some ⟨g2, 0, none⟩) N.n N.n)) := fun W hk => (hk.cell (p := ⟨V.r, 16, none⟩) hrl2 hgr).trans c16
            clear hgr
            have HS7 : Hid (∀ n1 : Nat, ((wr.drewN n1).setCell ⟨g2, k, none⟩ (.int .i64 (L : Int))).cell? ⟨V.r, 16, none⟩ = some (.slice (some ⟨g2, 0, none⟩) N.n N.n)) := fun n1 => HS6.out _ (Keep.setCell (p := ⟨g2, k, none⟩) (Keep.drewN (Keep.refl _ _) _) (.inl (by simp)) _)
            go_wp2_with fail
            go_region_held3 (fun w' => w'.cell? ⟨V.r, 16, none⟩ = some (.slice (some ⟨g2, 0, none⟩) N.n N.n))
              (first
                | (refine HS6.out _ ?_; (repeat (first | exact Keep.refl _ _ | refine Keep.drew ?_ | refine Keep.drewN ?_ _ | refine Keep.alloc ?_ _)); done)
                | exact HS7.out _
                | go_keep)
              (first
                | (go_at_call 14; refine (HLAST.out _ V2 k (HU.out.grow (by repeat (first | exact Keep.refl _ _ | refine Keep.drew ?_ | refine Keep.drewN ?_ _ | refine Keep.alloc ?_ _))) HR2.out).mono ?_; rintro e w1 ⟨rfl, n1, rfl⟩)
                | fail)
            all_goals
              go_wp2_with fail
              go_roundw
              case rel =>
                obtain ⟨h1, h2⟩ := (HU.out.grow ((Keep.refl [] wr).drewN (1 + n1))).setNx (HT.out.trans (NodeTo.grow V2 ((Keep.refl [] wr).drewN (1 + n1)))) HNE2.out k L rfl
                have h3 : NodeAt _ V2 { N2 with nx := (upto N.n L k).set k L } D := h1
                rw [upto_set _ _ _ hlt2] at h3
                exact ⟨k + 1, by omega, by go_num, h3, h2⟩
              case measure => simp [intOf]; omega
          · have d4 : decide ((k : Int) < (N.n : Int)) = false := by simp; omega
            obtain rfl : k = N.n := by omega
            go_wp2_with (first
              | (go_at_call 44; refine (HAPP.out _ _ HU.out HR2.out HT.out).mono ?_; rintro e w9 ⟨kk, rfl, V9, h9, t9⟩; have H9 := Lib.hid h9; have HT9 := Lib.hid t9; clear h9 t9)
              | fail)
            go_end0
            exact ⟨rfl, V9, H9.out, HT9.out⟩
      · go_wp2_with fail
        obtain ⟨hNA, hTA⟩ := HLA.out (w.heap.size + 1) w.heap.size (.inr ⟨rfl, rfl⟩)
        generalize (((((((w.setCell ⟨V.r, 9, none⟩ (.int .i64 2)).setCell ⟨V.r, 10, none⟩ (.int .i64 (N.id : Int))).setCell ⟨V.r, 14, none⟩ (.slice none 0 0)).setCell ⟨V.r, 15, none⟩ (.slice (some ⟨(w.heap.size + 1), 0, none⟩) N.n N.n)).setCell ⟨V.r, 16, none⟩ (.slice (some ⟨(w.heap.size : Nat), 0, none⟩) N.n N.n)).alloc (.cells (madeCells #[Value.int .i64 0] N.n) 3)).alloc (.cells (madeCells #[Value.int .i64 0] N.n) 3)).drew = W2 at *
        obtain ⟨V2, hV2⟩ : ∃ V2 : Nv, V2 = { V with vo := none, ma := some (w.heap.size + 1), ne := some (w.heap.size : Nat) } := ⟨_, rfl⟩
        obtain ⟨g2, hg2⟩ : ∃ g2 : Nat, g2 = (w.heap.size : Nat) := ⟨_, rfl⟩
        have hr2 : V2.r = V.r := by rw [hV2]
        have hne2 : V2.ne = some g2 := by rw [hV2, hg2]
        rw [← hV2] at hNA hTA
        rw [← hg2]
        have HN0 := Lib.hid hNA
        have HT0 := Lib.hid hTA
        have HR2 := Lib.hid hr2
        have HNE2 := Lib.hid hne2
        clear hNA hTA hr2 hne2 hV2 hg2 HLA hmk c14 c2 c1 c9 c10 c15 c16 hf
        go_loopw [5, 60] (fun _ vj wr => ∃ k : Nat, k ≤ N.n ∧ vj = .int .i64 (k : Int) ∧ NodeAt wr V2 { N2 with nx := upto N.n L k } D ∧ NodeTo V V2 w wr) (fun _ vj _ => N.n - (intOf vj).toNat)
        case atStart => exact ⟨0, Nat.zero_le _, rfl, HN0.out, HT0.out⟩
        case round =>
          obtain ⟨k, hk, rfl, hU, hT⟩ := hrel
          have HU := Lib.hid hU
          have HT := Lib.hid hT
          have c16 : wr.cell? ⟨V2.r, 16, none⟩ = some (arrV V2.ne (upto N.n L k).length) := hU.blk.cell 16
          rw [HR2.out, HNE2.out, upto_len _ _ _ hk] at c16
          change wr.cell? ⟨V.r, 16, none⟩ = some (.slice (some ⟨g2, 0, none⟩) N.n N.n) at c16
          have hrl2 : V.r < wr.heap.size := by have := hU.blk.lt; rw [HR2.out] at this; exact this
          clear hU hT
          by_cases hlt2 : k < N.n
          · have d4 : decide ((k : Int) < (N.n : Int)) = true := by simp; omega
            obtain ⟨g3, hg3, hb3, hc3⟩ := HU.out.rest.ne.cell (i := k) (by rw [nums_len, upto_len _ _ _ hk]; exact hlt2)
            obtain rfl : g2 = g3 := by rw [HNE2.out] at hg3; injection hg3
            rw [nums_at _ _ (by rw [upto_len _ _ _ hk]; exact hlt2)] at hc3
            have mf : wr.frozen? ⟨g2, k, none⟩ = false := hb3.frozen k
            generalize (upto N.n L k).getD k 0 = mo at *
            have hgr : V.r ∉ [g2] := fun hx => by
              have h1 := Blk.ne_ HU.out.blk hb3 (by decide)
              rw [HR2.out] at h1
              simp at hx
              exact h1 hx
            clear hg3 hb3
            have HS6 : Hid (∀ W, Keep [g2] wr W → W.cell? ⟨V.r, 16, none⟩ = some (.slice (some ⟨g2, 0, none⟩) N.n N.n)) := fun W hk => (hk.cell (p := ⟨V.r, 16, none⟩) hrl2 hgr).trans c16
            clear hgr
            have HS7 : Hid (∀ n1 : Nat, ((wr.drewN n1).setCell ⟨g2, k, none⟩ (.int .i64 (L : Int))).cell? ⟨V.r, 16, none⟩ = some (.slice (some ⟨g2, 0, none⟩) N.n N.n)) := fun n1 => HS6.out _ (Keep.setCell (p := ⟨g2, k, none⟩) (Keep.drewN (Keep.refl _ _) _) (.inl (by simp)) _)
            go_wp2_with fail
            go_region_held3 (fun w' => w'.cell? ⟨V.r, 16, none⟩ = some (.slice (some ⟨g2, 0, none⟩) N.n N.n))
              (first
                | (refine HS6.out _ ?_; (repeat (first | exact Keep.refl _ _ | refine Keep.drew ?_ | refine Keep.drewN ?_ _ | refine Keep.alloc ?_ _)); done)
                | exact HS7.out _
                | go_keep)
              (first
                | (go_at_call 14; refine (HLAST.out _ V2 k (HU.out.grow (by repeat (first | exact Keep.refl _ _ | refine Keep.drew ?_ | refine Keep.drewN ?_ _ | refine Keep.alloc ?_ _))) HR2.out).mono ?_; rintro e w1 ⟨rfl, n1, rfl⟩)
                | fail)
            all_goals
              go_wp2_with fail
              go_roundw
              case rel =>
                obtain ⟨h1, h2⟩ := (HU.out.grow ((Keep.refl [] wr).drewN (1 + n1))).setNx (HT.out.trans (NodeTo.grow V2 ((Keep.refl [] wr).drewN (1 + n1)))) HNE2.out k L rfl
                have h3 : NodeAt _ V2 { N2 with nx := (upto N.n L k).set k L } D := h1
                rw [upto_set _ _ _ hlt2] at h3
                exact ⟨k + 1, by omega, by go_num, h3, h2⟩
              case measure => simp [intOf]; omega
          · have d4 : decide ((k : Int) < (N.n : Int)) = false := by simp; omega
            obtain rfl : k = N.n := by omega
            go_wp2_with (first
              | (go_at_call 44; refine (HAPP.out _ _ HU.out HR2.out HT.out).mono ?_; rintro e w9 ⟨kk, rfl, V9, h9, t9⟩; have H9 := Lib.hid h9; have HT9 := Lib.hid t9; clear h9 t9)
              | fail)
            go_end0
            exact ⟨rfl, V9, H9.out, HT9.out⟩
end

end Go.Proofs.YtnlcipocobmgiaaGreatDoor
