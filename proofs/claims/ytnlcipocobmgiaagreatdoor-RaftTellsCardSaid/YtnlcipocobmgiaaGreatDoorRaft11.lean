/- The contracts of (*raft.Node).Fresh, State. -/
import Derived.Test.YtnlcipocobmgiaaGreatDoorRaft10
namespace Go.Proofs.YtnlcipocobmgiaaGreatDoor
open Go.RowKit
attribute [local go_sem] size_bs bs_append bs_extract

def Rn.handed (N : Rn) : List En := N.st.from_ (N.applied + 1) (N.commit - N.applied)
def Rn.fresh (N : Rn) : Rn := { N with applied := match N.handed.getLast? with
  | some e => e.index
  | none => N.applied }
section
variable {w : World} {V : Nv} {N : Rn} {D : Dk}
set_option maxRecDepth 100000 in
set_option maxHeartbeats 2000000 in
theorem fresh_calls (h : NodeAt w V N D) (hS : N.Sm) (hb : N.st.base ≤ N.applied) (hc : N.applied ≤ N.commit) :
    Calls Tryz.prog 13 #[.pointer (some ⟨V.r, 0, none⟩)] w fun e w' => ∃ A c, e = .returned (.tuple #[.string (bs []), .bool false, .slice A N.handed.length c]) ∧ w'.ownsRow w.heap.size 62 3 (.slice A N.handed.length c) N.handed.length (entsV N.handed) ∧ NodeAt w' V N.fresh D ∧ NodeTo V V w w' := by
  have hap := hS.applied
  have hcm := hS.commit
  have hbs := hS.base
  have hlg := hS.log
  have T1 : ∀ W, NodeAt W V N D → Calls Tryz.prog 45 #[.pointer (some ⟨V.r, 3, none⟩), .int .i64 ((N.applied + 1 : Nat) : Int), .int .i64 ((N.commit - N.applied : Nat) : Int)] W fun e w' => ∃ A c, e = .returned (.slice A N.handed.length c) ∧ w'.ownsRow W.heap.size 62 3 (.slice A N.handed.length c) N.handed.length (entsV N.handed) ∧ Keep [] W w' := fun W hW =>
    fromO_calls N.st V.lg hW.sto (N.applied + 1) (N.commit - N.applied) (by omega) (by omega) (by omega) (by omega)
  have c12 : w.cell? ⟨V.r, 12, none⟩ = some (.int .i64 (N.applied : Int)) := h.blk.cell 12
  have c11 : w.cell? ⟨V.r, 11, none⟩ = some (.int .i64 (N.commit : Int)) := h.blk.cell 11
  have c5 : w.cell? ⟨V.r, 5, none⟩ = some (.int .i64 (N.st.base : Int)) := h.blk.cell 5
  have HS : Hid (∀ W, Keep [] w W → W.cell? ⟨V.r, 12, none⟩ = some (.int .i64 (N.applied : Int)) ∧ W.cell? ⟨V.r, 11, none⟩ = some (.int .i64 (N.commit : Int))) := fun W hk => by
    have h1 := h.blk.keep hk (by simp)
    exact ⟨h1.cell 12, h1.cell 11⟩
  have H := Lib.hid h
  have HT1 := Lib.hid T1
  have HFR : Hid (N.fresh = { N with applied := match N.handed.getLast? with
    | some e => e.index
    | none => N.applied }) := rfl
  have hln : N.handed.length ≤ 1000000 := by
    unfold Rn.handed Ts.from_
    split
    · rw [List.length_take, List.length_drop]; omega
    · simp
  clear h T1 hS
  have d1 : decide ((N.applied : Int) < (N.st.base : Int)) = false := by simp; omega
  have w1 : IntKind.i64.wrap ((N.applied : Int) + 1) = ((N.applied + 1 : Nat) : Int) := by rw [IntWalk.i64_in _ (by omega)]; omega
  have w2 : IntKind.i64.wrap ((N.commit : Int) - (N.applied : Int)) = ((N.commit - N.applied : Nat) : Int) := by rw [IntWalk.i64_in _ (by omega)]; omega
  generalize hx1 : N.applied + 1 = a1 at *
  generalize hx2 : N.commit - N.applied = a2 at *
  clear hx1 hx2
  go_enter Tryz.func13, Tryz.ntmps13
  go_wp2
  go_quiet (fail)
  go_wp2
  go_region_held3 (fun w' => w'.cell? ⟨V.r, 12, none⟩ = some (.int .i64 (N.applied : Int)) ∧ w'.cell? ⟨V.r, 11, none⟩ = some (.int .i64 (N.commit : Int)))
    (first
      | (refine HS.out _ ?_; (repeat (first | exact Keep.refl _ _ | exact HK5.out | refine Keep.drew ?_ | refine Keep.drewN ?_ _ | refine Keep.alloc ?_ _)); done)
      | go_keep)
    (first
      | (go_at_call 45; refine (HT1.out _ (H.out.grow (by repeat (first | exact Keep.refl _ _ | refine Keep.drew ?_ | refine Keep.drewN ?_ _ | refine Keep.alloc ?_ _)))).mono ?_; rintro e w5 ⟨A5, c5', rfl, hO, hk⟩; have HO := Lib.hid hO; have HK5 : Hid (Keep [] w w5) := Keep.trans' (M := []) (by repeat (first | exact Keep.refl _ _ | refine Keep.drew ?_ | refine Keep.drewN ?_ _ | refine Keep.alloc ?_ _)) hk (by simp); clear hO hk)
      | fail)
  clear w1 w2 HT1 HS c12 c11 c5
  have H5 := Lib.hid (H.out.grow HK5.out)
  have HO2 : Hid (w5.ownsRow w.heap.size 62 3 (.slice A5 N.handed.length c5') N.handed.length (entsV N.handed)) := HO.out
  have c12 : w5.cell? ⟨V.r, 12, none⟩ = some (.int .i64 (N.applied : Int)) := H5.out.blk.cell 12
  have f12 : w5.frozen? ⟨V.r, 12, none⟩ = false := H5.out.blk.frozen 12
  have hwz := HK5.out.size
  have hrl : V.r < w.heap.size := H.out.blk.lt
  by_cases h0 : N.handed = []
  · have HE : Hid (N.fresh = N) := by
      show N.fresh = N
      rw [HFR.out, h0]
      rfl
    have hl0 : N.handed.length = 0 := by rw [h0]; rfl
    have HL0 := Lib.hid hl0
    rw [hl0] at HO HO2 ⊢
    clear h0 hl0
    go_wp2
    go_ret3
    exact ⟨A5, c5', by show Ending.returned (.tuple #[.string (bs []), .bool false, .slice A5 0 c5']) = _; rw [HL0.out], by rw [HL0.out]; exact HO2.out, by rw [HE.out]; exact H5.out, NodeTo.grow V HK5.out⟩
  · have hpos : 0 < N.handed.length := List.length_pos_iff.2 h0
    have hlast : N.handed.getLast? = some (N.handed[N.handed.length - 1]'(by omega)) := by rw [List.getLast?_eq_getElem?]; simp
    have HFR2 : Hid (N.fresh = { N with applied := (N.handed[N.handed.length - 1]'(by omega)).index }) := by
      show N.fresh = _
      rw [HFR.out, hlast]
    obtain ⟨A', c', he, hcc⟩ := own_ents HO2.out
    injection he with he1 _ he3
    subst he1 he3
    obtain ⟨g, o, rfl, hc⟩ := hcc h0
    obtain ⟨h1, -, -⟩ := entsV_at N.handed (N.handed.length - 1) (by omega)
    have k0 := hc _ _ h1
    clear hcc hc h1 hlast HFR
    generalize (N.handed[N.handed.length - 1]'(by omega)).index = xi at *
    clear h0
    obtain ⟨ln, hlnn⟩ : ∃ ln, ln = N.handed.length := ⟨_, rfl⟩
    rw [← hlnn] at hpos k0 hln HO HO2 ⊢
    have HLN := Lib.hid hlnn
    clear hlnn
    obtain ⟨k, hk⟩ : ∃ k, ln = k + 1 := ⟨ln - 1, by omega⟩
    have hk1 : ln - 1 = k := by omega
    have hsub : IntKind.i64.wrap ((ln : Int) - 1) = (k : Int) := by rw [IntWalk.i64_in _ (by omega)]; omega
    have hkn : k < ln := by omega
    rw [hk1, Nat.mul_comm] at k0
    clear hk hk1
    have hd : decide ((0 : Int) < (ln : Int)) = true := by simpa using hpos
    go_wp2
    go_ret3
    have hk8 : Keep [] w w5 := HK5.out
    obtain ⟨h7, h8⟩ := setR_end (N' := { N with applied := xi }) H5.out (NodeTo.grow V hk8) ((Keep.refl [V.r] w5).setCell (.inl (by simp)) _) (H5.out.blk.set_ 12 _) rfl rfl rfl rfl rfl
    refine ⟨_, _, (by show Ending.returned (.tuple #[.string (bs []), .bool false, .slice (some ⟨g, o, none⟩) ln c5']) = _; rw [HLN.out]), ?_, by rw [HFR2.out]; exact h7, h8⟩
    rw [← HLN.out]
    exact Keep.owns ((Keep.refl [V.r] w5).setCell (.inl (by simp)) _) HO2.out (fun q e => by
      have := (HO2.out.lt q e).1
      simp
      omega)
end

end Go.Proofs.YtnlcipocobmgiaaGreatDoor
