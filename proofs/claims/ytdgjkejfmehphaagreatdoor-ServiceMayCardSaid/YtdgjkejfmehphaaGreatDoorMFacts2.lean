/- The card's closed facts on the program, each by itself. -/
import Derived.Test.YtdgjkejfmehphaaGreatDoorRows
import Derived.Test.YtdgjkejfmehphaaGreatDoorCards
import Derived.SevenTiedAt
import Derived.KernelRfl
namespace Go.Proofs.YtdgjkejfmehphaaGreatDoor
open Go
theorem fLo : false = Tryz.prog.looks [] := by kernel_rfl
theorem fGo : false = Rows.serviceMayRow.goesBy Tryz.prog := by kernel_rfl
end Go.Proofs.YtdgjkejfmehphaaGreatDoor
