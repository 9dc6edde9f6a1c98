/- A run by the kernel. -/
import Derived.Test.YtmfimllokjhgmaaGreatDoorEvRun
import Derived.KernelRfl
namespace Go.Proofs.YtmfimllokjhgmaaGreatDoor.Av
open Go
theorem run1_8 (ty : Nat → Nat) : goS 8 (newA 2 ty) = some (S1_8 ty, p 16 0) := by kernel_rfl
end Go.Proofs.YtmfimllokjhgmaaGreatDoor.Av
