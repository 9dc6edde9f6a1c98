/- The row's closed facts on the program, each by itself. -/
import Derived.Test.YtdgjkejfmehphaaGreatDoorRows
import Derived.JoinedOf
import Derived.KernelRfl
namespace Go.Proofs.YtdgjkejfmehphaaGreatDoor
open Go
theorem fLaid : laidOutB Tryz.prog = true := by kernel_rfl
theorem fMaps : mapsRowed Tryz.prog = true := by kernel_rfl
theorem fIn : (Rows.serviceMayRow.inPlace == Tryz.prog.inPlace 3) = true := by kernel_rfl
theorem fUn : (Rows.serviceMayRow.unfollowed == Tryz.prog.unfollowed 3) = true := by kernel_rfl
theorem fRe : (Rows.serviceMayRow.recurses == Tryz.prog.recurses 3) = true := by kernel_rfl
theorem fNa : (Rows.serviceMayRow.named == Tryz.prog.varsNamed 3) = true := by kernel_rfl
theorem fHe : Tryz.prog.stopsHeard = true := by kernel_rfl
theorem fEn : Tryz.prog.mayEnter = true := by kernel_rfl
theorem facts : joinedFacts Tryz.prog 3 Tryz.f3 Rows.serviceMaySpec Rows.serviceMayRow = true := by
  simp only [joinedFacts, Bool.and_eq_true]
  repeat' apply And.intro
  all_goals first
    | with_reducible exact fLaid
    | with_reducible exact fMaps
    | with_reducible exact fIn
    | with_reducible exact fUn
    | with_reducible exact fRe
    | with_reducible exact fNa
    | with_reducible exact fHe
    | with_reducible exact fEn
    | (as_aux_lemma => kernel_rfl)
end Go.Proofs.YtdgjkejfmehphaaGreatDoor
