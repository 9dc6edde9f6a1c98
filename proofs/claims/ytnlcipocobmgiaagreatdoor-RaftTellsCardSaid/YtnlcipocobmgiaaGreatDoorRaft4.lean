/- The contract of (*raft.Node).advance. -/
import Derived.Test.YtnlcipocobmgiaaGreatDoorRaft3
namespace Go.Proofs.YtnlcipocobmgiaaGreatDoor
open Go.RowKit
attribute [local go_sem] size_bs bs_append bs_extract

theorem cnt_take (l : List Nat) (k j : Nat) (h : j < l.length) : cnt (l.take (j + 1)) k = cnt (l.take j) k + if k ≤ l.getD j 0 then 1 else 0 := by
  unfold cnt
  rw [List.take_succ_eq_append_getElem h, List.filter_append, List.length_append]
  simp only [List.getD, List.getElem?_eq_getElem h, Option.getD_some]
  split <;> rename_i hk <;> simp [hk]
theorem cnt_le (l : List Nat) (k : Nat) : cnt l k ≤ l.length := List.length_filter_le _ _
section
variable {w : World} {V : Nv} {N : Rn} {D : Dk}
theorem adv_take (l : List En) (k : Nat) (h : k < l.length) (hn : ¬ (l[k].term ≠ N.st.term ∨ l[k].index ≤ N.commit)) (hc : ¬ N.n < 2 * cnt N.mt l[k].index) : N.adv (l.take (k + 1)).reverse = N.adv (l.take k).reverse := by
  rw [List.take_succ_eq_append_getElem h, List.reverse_append]
  simp only [List.reverse_cons, List.reverse_nil, List.nil_append, List.singleton_append, Rn.adv]
  rw [if_neg hn, if_neg hc]
theorem adv_stop (l : List En) (k : Nat) (h : k < l.length) (hn : l[k].term ≠ N.st.term ∨ l[k].index ≤ N.commit) : N.adv (l.take (k + 1)).reverse = N.commit := by
  rw [List.take_succ_eq_append_getElem h, List.reverse_append]
  simp only [List.reverse_cons, List.reverse_nil, List.nil_append, List.singleton_append, Rn.adv]
  rw [if_pos hn]
theorem adv_hit (l : List En) (k : Nat) (h : k < l.length) (hn : ¬ (l[k].term ≠ N.st.term ∨ l[k].index ≤ N.commit)) (hc : N.n < 2 * cnt N.mt l[k].index) : N.adv (l.take (k + 1)).reverse = l[k].index := by
  rw [List.take_succ_eq_append_getElem h, List.reverse_append]
  simp only [List.reverse_cons, List.reverse_nil, List.nil_append, List.singleton_append, Rn.adv]
  rw [if_neg hn, if_pos hc]
theorem advance_same (h : N.adv N.st.log.reverse = N.commit) : N.advance = N := by
  unfold Rn.advance
  rw [h]

theorem adv_end {wr W w' : World} {xi : Nat} (h : NodeAt wr V N D) (hk0 : Keep [] w wr) (hk1 : Keep [] wr W) (hk : w' = W.setCell ⟨V.r, 11, none⟩ (.int .i64 (xi : Int))) : NodeAt w' V { N with commit := xi } D ∧ NodeTo V V w w' := by
  subst hk
  have h1 := h.grow hk1
  exact setR_end h1 (NodeTo.grow V (hk0.trans hk1)) ((Keep.refl _ _).setCell (.inl (by simp)) _) (h1.blk.set_ 11 _) rfl rfl rfl rfl rfl
set_option maxRecDepth 100000 in
set_option maxHeartbeats 4000000 in
theorem advance_calls (h : NodeAt w V N D) (hS : N.Sm) (hmt : N.mt.length = N.n) :
    Calls Tryz.prog 83 #[.pointer (some ⟨V.r, 0, none⟩)] w fun e w' => e = .returned (.tuple #[]) ∧ NodeAt w' V N.advance D ∧ NodeTo V V w w' := by
  obtain ⟨A, c, hlg, hcc⟩ := own_ents h.rest.log
  have c8 : w.cell? ⟨V.r, 8, none⟩ = some V.lg := h.blk.cell 8
  rw [hlg] at c8
  have hll := hS.log
  have hn5 := hS.n
  have hid := hS.id
  have H := Lib.hid h
  have HS := Lib.hid hS
  obtain ⟨gm, hgm, hmb, -⟩ := h.rest.ma.cell (i := 0) (by rw [nums_len]; omega)
  have HGM := Lib.hid hgm
  have HMB := Lib.hid hmb
  clear hgm hmb
  have HLG := Lib.hid hlg
  have HCC := Lib.hid hcc
  have HFULL : Hid (N.adv (N.st.log.take N.st.log.length).reverse = N.adv N.st.log.reverse) := by
    show N.adv (N.st.log.take N.st.log.length).reverse = N.adv N.st.log.reverse
    rw [List.take_of_length_le (Nat.le_refl _)]
  clear h hS hlg hcc
  go_enter Tryz.func83, Tryz.ntmps83
  go_wp2
  go_loopw [2] (fun vi wr => ∃ (k : Nat) (z : Int), k ≤ N.st.log.length ∧ z + 1 = (k : Int) ∧ vi = .int .i64 z ∧ N.adv (N.st.log.take k).reverse = N.adv N.st.log.reverse ∧ Keep [] w wr) (fun vi _ => (intOf vi + 1).toNat)
  case atStart => exact ⟨N.st.log.length, _, Nat.le_refl _, by omega, rfl, HFULL.out, Keep.refl _ _⟩
  case round =>
    obtain ⟨k0, z, hk0, hz1, rfl, hadv, hkw⟩ := hrel
    have HADV := Lib.hid hadv
    have HKW := Lib.hid hkw
    have HW := Lib.hid (H.out.grow hkw)
    have hrl := HW.out.blk.lt
    clear hadv hkw
    by_cases hz : k0 = 0
    · obtain rfl : z = -1 := by omega
      have hfin : N.adv N.st.log.reverse = N.commit := by rw [← HADV.out, hz]; simp [Rn.adv]
      have HF := Lib.hid hfin
      clear hfin
      go_wp2
      go_end0
      exact ⟨rfl, by rw [advance_same HF.out]; exact HW.out, NodeTo.grow V HKW.out⟩
    · obtain ⟨k, rfl⟩ : ∃ k, k0 = k + 1 := ⟨k0 - 1, by omega⟩
      obtain rfl : z = (k : Int) := by omega
      clear hz hz1
      have hkl : k < N.st.log.length := by omega
      have hne : N.st.log ≠ [] := by intro e; rw [e] at hkl; simp at hkl
      obtain ⟨g, o, rfl, hcells⟩ := HCC.out hne
      obtain ⟨e0, e1, e2⟩ := entsV_at N.st.log k hkl
      have q0 := (HKW.out.cell (p := ⟨g, o + 3 * k, none⟩) (World.block_lt_of_cell? _ _ (hcells _ _ e0)) (by simp)).trans (hcells _ _ e0)
      have q1 := (HKW.out.cell (p := ⟨g, o + (3 * k + 1), none⟩) (World.block_lt_of_cell? _ _ (hcells _ _ e1)) (by simp)).trans (hcells _ _ e1)
      have q2 := (HKW.out.cell (p := ⟨g, o + (3 * k + 2), none⟩) (World.block_lt_of_cell? _ _ (hcells _ _ e2)) (by simp)).trans (hcells _ _ e2)
      rw [Nat.mul_comm] at q0
      rw [Nat.mul_comm, ← Nat.add_assoc] at q1 q2
      have hxe := HS.out.ents N.st.log[k] (List.getElem_mem hkl)
      have HX1 := Lib.hid (adv_take (N := N) N.st.log k hkl)
      have HX2 := Lib.hid (adv_stop (N := N) N.st.log k hkl)
      have HX3 := Lib.hid (adv_hit (N := N) N.st.log k hkl)
      generalize N.st.log[k] = x at *
      obtain ⟨xi, xt, xc⟩ := x
      simp only at q0 q1 q2 hxe HX1 HX2 HX3
      have d0 : decide ((0 : Int) ≤ (k : Int)) = true := by simp
      have c8 : wr.cell? ⟨V.r, 8, none⟩ = some V.lg := HW.out.blk.cell 8
      rw [HLG.out] at c8
      have c3 : wr.cell? ⟨V.r, 3, none⟩ = some (.int .i64 (N.st.term : Int)) := HW.out.blk.cell 3
      have c11 : wr.cell? ⟨V.r, 11, none⟩ = some (.int .i64 (N.commit : Int)) := HW.out.blk.cell 11
      have c2 : wr.cell? ⟨V.r, 2, none⟩ = some (.int .i64 (N.n : Int)) := HW.out.blk.cell 2
      have hfr : wr.frozen? ⟨V.r, 11, none⟩ = false := HW.out.blk.frozen 11
      have hgl : g < wr.heap.size := World.block_lt_of_cell? _ _ q0
      clear e0 e1 e2 hcells hne
      generalize N.st.log.length = ln at *
      have d1 : decide ((k : Int) < (ln : Int)) = true := by simp; omega
      by_cases hn : xt ≠ N.st.term ∨ xi ≤ N.commit
      · have HF : Hid (N.adv N.st.log.reverse = N.commit) := by rw [← HADV.out]; exact HX2.out hn
        by_cases ht : xt = N.st.term
        · have d2 : ((xt : Int) != (N.st.term : Int)) = false := by simp [ht]
          have d3 : decide (xi ≤ N.commit) = true := by simp; omega
          clear hn
          go_wp2
          go_quiet (fail)
          go_wp2
          ((try simp only [Exit.inBlock, Exit.then]); refine bodyPost_ret (results_none rfl _ _ _) rfl ?_)
          exact ⟨rfl, by rw [advance_same HF.out]; exact HW.out.grow (by repeat (first | exact Keep.refl _ _ | refine Keep.drew ?_ | refine Keep.drewN ?_ _ | refine Keep.alloc ?_ _)), NodeTo.grow V (Keep.trans HKW.out (by repeat (first | exact Keep.refl _ _ | refine Keep.drew ?_ | refine Keep.drewN ?_ _ | refine Keep.alloc ?_ _)))⟩
        · have d2 : ((xt : Int) != (N.st.term : Int)) = true := by simp; omega
          clear hn
          go_wp2
          go_quiet (fail)
          go_wp2
          ((try simp only [Exit.inBlock, Exit.then]); refine bodyPost_ret (results_none rfl _ _ _) rfl ?_)
          exact ⟨rfl, by rw [advance_same HF.out]; exact HW.out.grow (by repeat (first | exact Keep.refl _ _ | refine Keep.drew ?_ | refine Keep.drewN ?_ _ | refine Keep.alloc ?_ _)), NodeTo.grow V (Keep.trans HKW.out (by repeat (first | exact Keep.refl _ _ | refine Keep.drew ?_ | refine Keep.drewN ?_ _ | refine Keep.alloc ?_ _)))⟩
      · have d2 : ((xt : Int) != (N.st.term : Int)) = false := by simp; omega
        have d3 : decide (xi ≤ N.commit) = false := by simp; omega
        have HN := Lib.hid hn
        have c15 : wr.cell? ⟨V.r, 15, none⟩ = some (arrV V.ma N.mt.length) := HW.out.blk.cell 15
        rw [HGM.out, hmt] at c15
        change wr.cell? ⟨V.r, 15, none⟩ = some (.slice (some ⟨gm, 0, none⟩) N.n N.n) at c15
        have HMC : Hid (∀ j, j < N.n → wr.cell? ⟨gm, j, none⟩ = some (.int .i64 ((N.mt.getD j 0 : Nat) : Int))) := fun j hj => by
          rw [(HMB.out.keep HKW.out (by simp)).cell j]
          have h1 : j < N.mt.length := by omega
          have h2 := nums_at N.mt j h1
          simp [h1, nums_len, h2]
        have hgml : gm < wr.heap.size := (HMB.out.keep HKW.out (by simp)).lt
        have hxi := hxe.1
        clear hn
        go_wp2
        go_quiet (fail)
        go_wp2
        go_loop [4, 48] (fun vn vj => ∃ j : Nat, j ≤ N.n ∧ vj = .int .i64 (j : Int) ∧ vn = .int .i64 ((cnt (N.mt.take j) xi : Nat) : Int)) (fun _ vj => N.n - (intOf vj).toNat)
        case atStart => exact ⟨0, Nat.zero_le _, rfl, rfl⟩
        case round =>
          obtain ⟨j, hj, rfl, rfl⟩ := hrel
          have hcl := cnt_le (N.mt.take j) xi
          have hcl2 : (N.mt.take j).length ≤ N.n := by rw [List.length_take]; omega
          by_cases hlt : j < N.n
          · have d4 : decide ((j : Int) < (N.n : Int)) = true := by simp; omega
            have m0 := HMC.out j hlt
            have HCT := Lib.hid (cnt_take N.mt xi j (by omega))
            generalize N.mt.getD j 0 = mj at *
            by_cases hge : xi ≤ mj
            · have d5 : decide (xi ≤ mj) = true := by simpa using hge
              go_wp2
              go_round
              case rel => exact ⟨j + 1, by omega, by go_num, by rw [HCT.out, if_pos hge]; go_num⟩
              case measure => simp [intOf]; omega
            · have d5 : decide (xi ≤ mj) = false := by simpa using hge
              go_wp2
              go_round
              case rel => exact ⟨j + 1, by omega, by go_num, by rw [HCT.out, if_neg hge]; go_num⟩
              case measure => simp [intOf]; omega
          · have d4 : decide ((j : Int) < (N.n : Int)) = false := by simp; omega
            have htk : N.mt.take j = N.mt := List.take_of_length_le (by omega)
            rw [htk] at hcl ⊢
            generalize cnt N.mt xi = cn at *

            clear htk
            have hcn5 : cn ≤ 5 := by omega
            have w1 : IntKind.i64.wrap (2 * (cn : Int)) = 2 * (cn : Int) := IntWalk.i64_in _ (by omega)
            by_cases hmaj : N.n < 2 * cn
            · have d6 : decide ((N.n : Int) < 2 * (cn : Int)) = true := by simp; omega
              have HAV : Hid (N.advance = { N with commit := xi }) := by
                show N.advance = { N with commit := xi }
                unfold Rn.advance
                rw [← HADV.out, HX3.out HN.out hmaj]
              go_wp2
              ((try simp only [Exit.inBlock, Exit.then]); refine bodyPost_ret (results_none rfl _ _ _) rfl ?_)
              rw [HAV.out]
              refine ⟨rfl, adv_end HW.out HKW.out ?_ rfl⟩
              exact (by repeat (first | exact Keep.refl _ _ | refine Keep.drew ?_ | refine Keep.drewN ?_ _ | refine Keep.alloc ?_ _))
            · have d6 : decide ((N.n : Int) < 2 * (cn : Int)) = false := by simp; omega
              go_wp2
              go_roundw
              case rel => exact ⟨k, (k : Int) - 1, by omega, by omega, rfl, by rw [← HADV.out]; exact (HX1.out HN.out hmaj).symm, Keep.trans HKW.out (by repeat (first | exact Keep.refl _ _ | refine Keep.drew ?_ | refine Keep.drewN ?_ _ | refine Keep.alloc ?_ _))⟩
              case measure => simp [intOf]
end

end Go.Proofs.YtnlcipocobmgiaaGreatDoor
