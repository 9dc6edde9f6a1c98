/- Proved: glacierlaw22.ServiceExpires answers true whatever its input, which reads behind the call as it did (the row, and the card over it). -/
import Derived.Test.YtpnoiagjgkajdaaGreatDoorWExp
import Derived.Test.YtpnoiagjgkajdaaGreatDoorWDoors
import Derived.Test.YtpnoiagjgkajdaaGreatDoorWFacts
import Derived.Test.YtpnoiagjgkajdaaGreatDoorTie
import Derived.Test.YtpnoiagjgkajdaaGreatDoorCards
import Derived.SevenTiedAt
import Derived.ShutString
namespace Go.Proofs.YtpnoiagjgkajdaaGreatDoor
open Go.ChangeShapes Go.WideShapes Go.ChangeAt Go.RowKit
open Go.ChangeMaps (open_string)
set_option maxRecDepth 100000

theorem serviceExpires_lifted (os : Os) (started : os.Started) (H : Type) (enc : TypeId × Value → H) :
    ReturnsInHanded {} Tryz.checked os 3 .any (fun w args => (Rows.serviceExpiresSpec.pre enc Tryz.prog Tryz.f3 [] false w args ∧ laidMetH Tryz.prog [("math/bits.deBruijn32tab", Rows.laid_math_bits_deBruijn32tab), ("math/bits.deBruijn64tab", Rows.laid_math_bits_deBruijn64tab), ("internal/strconv.uint64pow10", Rows.laid_internal_strconv_uint64pow10), ("glacier/seal.steps", Rows.laid_glacier_seal_steps)] w) ∧ sizedMet enc Tryz.prog Tryz.f3 (OpenSpec.ofChange Rows.serviceExpiresSpec) false w args)
      (Rows.serviceExpiresSpec.post enc Tryz.prog Tryz.f3 false true false false) := by
  refine returnsInHanded_of_change_and (C := Tryz.checked) (X := fun w _ => laidMetH Tryz.prog [("math/bits.deBruijn32tab", Rows.laid_math_bits_deBruijn32tab), ("math/bits.deBruijn64tab", Rows.laid_math_bits_deBruijn64tab), ("internal/strconv.uint64pow10", Rows.laid_internal_strconv_uint64pow10), ("glacier/seal.steps", Rows.laid_glacier_seal_steps)] w) (fun _ _ _ hh h => h.of_heap hh) doorOwn started (by kernel_rfl) Tryz.func3
    (ChangeSpec.witness_shaped (enc := enc) (C := Tryz.checked) (os := os) (X := fun w _ => laidMetH Tryz.prog [("math/bits.deBruijn32tab", Rows.laid_math_bits_deBruijn32tab), ("math/bits.deBruijn64tab", Rows.laid_math_bits_deBruijn64tab), ("internal/strconv.uint64pow10", Rows.laid_internal_strconv_uint64pow10), ("glacier/seal.steps", Rows.laid_glacier_seal_steps)] w) false (World.doorLaid Tryz.prog 400 os) #[.int .i64 0, .slice none 0 0] 8 rfl (World.shaped_of_RefB (by kernel_rfl) (by kernel_rfl)) (by kernel_rfl) (by kernel_rfl) (by kernel_rfl) (door_met os _)) ?_
  intro W base args ds gs before hval0 hW _ _ hL _
  have hval : ∀ (j : Nat) t v, Tryz.f3.params[j]? = some t → args[j]? = some v → Value.okWide Tryz.prog W .any base t v := hval0
  have hW' := hW
  obtain ⟨p, q, hA0, hV, rfl, hfz, hnd⟩ := hW
  have hA : DataW.TrodAll enc Tryz.prog W 0 (fun _ => true) true Tryz.f3.params.toList args.toList ds p := hA0
  rw [Tryz.params3] at hA hval
  obtain ⟨v0, vs0, d0, ds0, p0, q0, hargs, rfl, rfl, h0, r0⟩ := trodAll_cons hA
  obtain ⟨v1, vs1, d1, ds1, p1, q1, rfl, rfl, rfl, h1, r1⟩ := trodAll_cons r0
  obtain ⟨rfl, rfl, rfl⟩ := trodAll_nil r1
  obtain rfl : args = #[v0, v1] := by cases args; simp_all
  obtain ⟨rfl, rfl⟩ := trodVars_none hV
  obtain ⟨a0, rfl, rfl, rfl, w0⟩ := open_int Tryz.underlying3 (hval 0 3 v0 rfl rfl) h0
  obtain ⟨l1, hl1, hi1⟩ := ints_at_ (hval 1 22 v1 rfl rfl) h1
  obtain ⟨ty, hty⟩ := tabs_of_laid hL
  refine (serviceExpires_calls W hty a0 v1 l1 hl1 hi1).mono fun e W' ⟨he, hk⟩ => ?_
  subst he
  exact ⟨_, rfl, law_post doorLaidOut Tryz.underlying4 (by kernel_rfl) (by kernel_rfl) rfl hW' rfl hk⟩

theorem serviceExpires_holds : Rows.ServiceExpiresSaid :=
  OpenClaim.holds_of_wide 3 Tryz.f3 rfl rfl rfl rfl rfl rfl rfl ⟨rfl, rfl, rfl, rfl, rfl⟩ rfl rfl rfl rfl rfl (by kernel_rfl) Tryz.func3 facts
    (of_decide_eq_true (by kernel_rfl)) (by unfold Func.isWrapper; first | (rw [if_pos (by decide +kernel)]; kernel_rfl) | (rw [if_neg (by decide +kernel)]; exact ⟨rfl, rfl⟩))
    (fun os started H enc _ => serviceExpires_lifted os started H enc)

theorem serviceExpires_card : Rows.ServiceExpiresCardSaid :=
  Claim7.holds_tied_plain_at .later [] [.data, .data, .data, .data] true (true, "b2f948c55d6195b5ff05d4d35c4c40ecb39a4607d16a5c3f21f78f6683d79213") false
    serviceExpires_holds (fun _ h => by cases h) (by kernel_rfl) (fun _ h => by cases h) serviceExpires_row_tie rfl ⟨rfl, rfl⟩ (by kernel_rfl) rfl
    (fun f fn hf hfn => by
      obtain rfl : f = 3 := Option.some.inj ((show Tryz.prog.funcNamed "glacier/glacierlaw22.ServiceExpires" = some 3 by kernel_rfl).symm.trans hf) |>.symm
      obtain rfl : fn = Tryz.f3 := (Option.some.inj (Tryz.func3.symm.trans hfn)).symm
      exact ⟨fLo, fun j t ht => by
        rw [Tryz.params3] at ht
        have hall : ((#[3, 22] : Array TypeId).toList.all fun t => !Tryz.prog.wantsStandIn t) = true := by kernel_rfl
        have hm : t ∈ (#[3, 22] : Array TypeId).toList := by
          have := Array.mem_of_getElem? ht
          simpa using this
        have h5 : Tryz.prog.wantsStandIn t = false := by simpa using List.all_eq_true.1 hall t hm
        exact h5⟩)
    fGo
end Go.Proofs.YtpnoiagjgkajdaaGreatDoor
