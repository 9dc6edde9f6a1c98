/- Proved: glacierlaw11.QuorumWay answers true whatever its input, which reads behind the call as it did (the row, and the card over it). -/
import Derived.Test.YtnlcipocobmgiaaGreatDoorQuorumWay
import Derived.Test.YtnlcipocobmgiaaGreatDoorDoor
import Derived.Test.YtnlcipocobmgiaaGreatDoorDoorSl
import Derived.Test.YtnlcipocobmgiaaGreatDoorTie
import Derived.Test.YtnlcipocobmgiaaGreatDoorCards
import Derived.SevenTiedAt
import Derived.ShutString
namespace Go.Proofs.YtnlcipocobmgiaaGreatDoor
open Go.ChangeShapes Go.WideShapes Go.ChangeAt Go.RowKit
open Go.ChangeMaps (open_string)
set_option maxRecDepth 100000

theorem quorumWay_lifted (os : Os) (started : os.Started) (H : Type) (enc : TypeId × Value → H) :
    ReturnsInHanded {} Tryz.checked os 6 .any (fun w args => (Rows.quorumWaySpec.pre enc Tryz.prog Tryz.f6 [] false w args ∧ laidMetH Tryz.prog [("glacier/seal.steps", Rows.laid_glacier_seal_steps)] w) ∧ sizedMet enc Tryz.prog Tryz.f6 (OpenSpec.ofChange Rows.quorumWaySpec) false w args)
      (Rows.quorumWaySpec.post enc Tryz.prog Tryz.f6 false true false false) := by
  refine returnsInHanded_of_change_and (C := Tryz.checked) (X := fun w _ => laidMetH Tryz.prog [("glacier/seal.steps", Rows.laid_glacier_seal_steps)] w) (fun _ _ _ hh h => h.of_heap hh) doorOwn started (by kernel_rfl) Tryz.func6
    (ChangeSpec.witness_shaped (enc := enc) (C := Tryz.checked) (os := os) (X := fun w _ => laidMetH Tryz.prog [("glacier/seal.steps", Rows.laid_glacier_seal_steps)] w) false (World.doorLaid Tryz.prog 400 os) #[.int .i64 0, .slice none 0 0] 8 rfl (World.shaped_of_RefB (by kernel_rfl) (by kernel_rfl)) (by kernel_rfl) (by kernel_rfl) (by kernel_rfl) (door_met os _)) ?_
  intro W base args ds gs before hval0 hW _ _ hL _
  have hval : ∀ (j : Nat) t v, Tryz.f6.params[j]? = some t → args[j]? = some v → Value.okWide Tryz.prog W .any base t v := hval0
  have hW' := hW
  obtain ⟨p, q, hA0, hV, rfl, hfz, hnd⟩ := hW
  have hA : DataW.TrodAll enc Tryz.prog W 0 (fun _ => true) true Tryz.f6.params.toList args.toList ds p := hA0
  rw [Tryz.params6] at hA hval
  obtain ⟨v0, vs0, d0, ds0, p0, q0, hargs, rfl, rfl, h0, r0⟩ := trodAll_cons hA
  obtain ⟨v1, vs1, d1, ds1, p1, q1, rfl, rfl, rfl, h1, r1⟩ := trodAll_cons r0
  obtain ⟨rfl, rfl, rfl⟩ := trodAll_nil r1
  obtain rfl : args = #[v0, v1] := by cases args; simp_all
  obtain ⟨rfl, rfl⟩ := trodVars_none hV
  obtain ⟨a0, rfl, rfl, rfl, w0⟩ := open_int Tryz.underlying3 (hval 0 3 v0 rfl rfl) h0
  have hb0 := bounds_i64 w0
  obtain ⟨l1, hl1⟩ := wacts_at (hval 1 64 v1 rfl rfl) h1
  refine (quorumWay_calls W (tab_of_laid hL) a0 hb0.1 hb0.2 v1 l1 hl1).mono fun e W' ⟨he, hk⟩ => ?_
  subst he
  exact ⟨_, rfl, law_post doorLaidOut Tryz.underlying4 (by kernel_rfl) (by kernel_rfl) rfl hW' rfl hk⟩

theorem quorumWay_holds : Rows.QuorumWaySaid :=
  OpenClaim.holds_of_wide 6 Tryz.f6 rfl rfl rfl rfl rfl rfl rfl ⟨rfl, rfl, rfl, rfl, rfl⟩ rfl rfl rfl rfl rfl (by kernel_rfl) Tryz.func6 (by kernel_rfl)
    (of_decide_eq_true (by kernel_rfl)) (by unfold Func.isWrapper; first | (rw [if_pos (by decide +kernel)]; kernel_rfl) | (rw [if_neg (by decide +kernel)]; exact ⟨rfl, rfl⟩))
    (fun os started H enc _ => quorumWay_lifted os started H enc)

theorem quorumWay_card : Rows.QuorumWayCardSaid :=
  Claim7.holds_tied_plain_at .later [] [.data] true (true, "00ec3f5bb09e763b5b38020922b58569e2024976a322f518cf0d9a132bbc0b56") false
    quorumWay_holds (fun _ h => by cases h) (by kernel_rfl) (fun _ h => by cases h) quorumWay_row_tie rfl ⟨rfl, rfl⟩ (by kernel_rfl) rfl
    (fun f fn hf hfn => by
      obtain rfl : f = 6 := Option.some.inj ((show Tryz.prog.funcNamed "glacier/glacierlaw11.QuorumWay" = some 6 by kernel_rfl).symm.trans hf) |>.symm
      obtain rfl : fn = Tryz.f6 := (Option.some.inj (Tryz.func6.symm.trans hfn)).symm
      exact ⟨by kernel_rfl, fun j t ht => by
        rw [Tryz.params6] at ht
        have hall : ((#[3, 64] : Array TypeId).toList.all fun t => !Tryz.prog.wantsStandIn t) = true := by kernel_rfl
        have hm : t ∈ (#[3, 64] : Array TypeId).toList := by
          have := Array.mem_of_getElem? ht
          simpa using this
        have h5 : Tryz.prog.wantsStandIn t = false := by simpa using List.all_eq_true.1 hall t hm
        exact h5⟩)
    (by kernel_rfl)
end Go.Proofs.YtnlcipocobmgiaaGreatDoor
