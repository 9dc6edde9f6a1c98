/- The kernel's runs at 2 nodes: the start; a round more; fourteen commands. -/
import Derived.Test.YtpnoiagjgkajdaaGreatDoorWRun
import Derived.KernelRfl
namespace Go.Proofs.YtpnoiagjgkajdaaGreatDoor.Av
open Go
theorem new_run2 (ty : Nat → Nat) : newR 2 ty = some (S2 ty, cl) := by kernel_rfl
theorem per_run2 (ty : Nat → Nat) : per 2 (S2 ty) = some (S2 ty, cl) := by kernel_rfl
theorem ch_run2 (ty : Nat → Nat) : chB 2 14 0 (S2 ty) = true := by kernel_rfl
end Go.Proofs.YtpnoiagjgkajdaaGreatDoor.Av
