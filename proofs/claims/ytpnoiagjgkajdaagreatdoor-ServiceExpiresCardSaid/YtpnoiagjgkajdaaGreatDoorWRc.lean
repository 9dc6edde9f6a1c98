/- The kernel's runs at 3 nodes: the start; a round more; fourteen commands. -/
import Derived.Test.YtpnoiagjgkajdaaGreatDoorWRun
import Derived.KernelRfl
namespace Go.Proofs.YtpnoiagjgkajdaaGreatDoor.Av
open Go
theorem new_run3 (ty : Nat → Nat) : newR 3 ty = some (S3 ty, cl) := by kernel_rfl
theorem per_run3 (ty : Nat → Nat) : per 3 (S3 ty) = some (S3 ty, cl) := by kernel_rfl
theorem ch_run3 (ty : Nat → Nat) : chB 3 14 0 (S3 ty) = true := by kernel_rfl
end Go.Proofs.YtpnoiagjgkajdaaGreatDoor.Av
