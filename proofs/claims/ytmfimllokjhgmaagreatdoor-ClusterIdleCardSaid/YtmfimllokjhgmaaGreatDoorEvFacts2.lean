/- The card's closed facts on the program, each by itself. -/
import Derived.Test.YtmfimllokjhgmaaGreatDoorRows
import Derived.Test.YtmfimllokjhgmaaGreatDoorCards
import Derived.SevenTiedAt
import Derived.KernelRfl
namespace Go.Proofs.YtmfimllokjhgmaaGreatDoor
open Go
theorem fLo : false = Tryz.prog.looks [] := by kernel_rfl
theorem fGo : false = Rows.clusterIdleRow.goesBy Tryz.prog := by kernel_rfl
end Go.Proofs.YtmfimllokjhgmaaGreatDoor
