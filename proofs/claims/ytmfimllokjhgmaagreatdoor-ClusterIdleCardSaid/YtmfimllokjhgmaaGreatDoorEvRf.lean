/- A run by the kernel. -/
import Derived.Test.YtmfimllokjhgmaaGreatDoorEvRun
import Derived.KernelRfl
namespace Go.Proofs.YtmfimllokjhgmaaGreatDoor.Av
open Go
theorem run2_12 (ty : Nat → Nat) : goS 4 (some (S2_8 ty, p 16 0)) = some (S2_12 ty, p 16 0) := by kernel_rfl
theorem per2 (ty : Nat → Nat) : goS 4 (some (S2_12 ty, p 16 0)) = some (S2_12 ty, p 16 0) := by kernel_rfl
end Go.Proofs.YtmfimllokjhgmaaGreatDoor.Av
