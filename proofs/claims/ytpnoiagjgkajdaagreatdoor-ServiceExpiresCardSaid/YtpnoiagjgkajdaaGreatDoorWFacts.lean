/- The row's closed facts on the program, each by itself. -/
import Derived.Test.YtpnoiagjgkajdaaGreatDoorRows
import Derived.JoinedOf
import Derived.KernelRfl
namespace Go.Proofs.YtpnoiagjgkajdaaGreatDoor
open Go
theorem fLaid : laidOutB Tryz.prog = true := by kernel_rfl
theorem fMaps : mapsRowed Tryz.prog = true := by kernel_rfl
theorem fIn : (Rows.serviceExpiresRow.inPlace == Tryz.prog.inPlace 3) = true := by kernel_rfl
theorem fUn : (Rows.serviceExpiresRow.unfollowed == Tryz.prog.unfollowed 3) = true := by kernel_rfl
theorem fRe : (Rows.serviceExpiresRow.recurses == Tryz.prog.recurses 3) = true := by kernel_rfl
theorem fNa : (Rows.serviceExpiresRow.named == Tryz.prog.varsNamed 3) = true := by kernel_rfl
theorem fHe : Tryz.prog.stopsHeard = true := by kernel_rfl
theorem fEn : Tryz.prog.mayEnter = true := by kernel_rfl
theorem facts : joinedFacts Tryz.prog 3 Tryz.f3 Rows.serviceExpiresSpec Rows.serviceExpiresRow = true := by
  simp only [joinedFacts, Bool.and_eq_true]
  repeat' apply And.intro
  all_goals first
    | with_reducible exact fLaid
    | with_reducible exact fMaps
    | with_reducible exact fIn
    | with_reducible exact fUn
    | with_reducible exact fRe
    | with_reducible exact fNa
    | with_reducible exact fHe
    | with_reducible exact fEn
    | (as_aux_lemma => kernel_rfl)
end Go.Proofs.YtpnoiagjgkajdaaGreatDoor
