/- The kernel's runs at 1 nodes: the start; a round more; fourteen commands. -/
import Derived.Test.YtpnoiagjgkajdaaGreatDoorWRun
import Derived.KernelRfl
namespace Go.Proofs.YtpnoiagjgkajdaaGreatDoor.Av
open Go
theorem new_run1 (ty : Nat → Nat) : newR 1 ty = some (S1 ty, cl) := by kernel_rfl
theorem per_run1 (ty : Nat → Nat) : per 1 (S1 ty) = some (S1 ty, cl) := by kernel_rfl
theorem ch_run1 (ty : Nat → Nat) : chB 1 14 0 (S1 ty) = true := by kernel_rfl
end Go.Proofs.YtpnoiagjgkajdaaGreatDoor.Av
