/- A run by the kernel. -/
import Derived.Test.YtmfimllokjhgmaaGreatDoorEvRun
import Derived.KernelRfl
namespace Go.Proofs.YtmfimllokjhgmaaGreatDoor.Av
open Go
theorem run0_8 (ty : Nat → Nat) : goS 8 (newA 1 ty) = some (S0_8 ty, p 16 0) := by kernel_rfl
theorem per0 (ty : Nat → Nat) : goS 4 (some (S0_8 ty, p 16 0)) = some (S0_8 ty, p 16 0) := by kernel_rfl
end Go.Proofs.YtmfimllokjhgmaaGreatDoor.Av
