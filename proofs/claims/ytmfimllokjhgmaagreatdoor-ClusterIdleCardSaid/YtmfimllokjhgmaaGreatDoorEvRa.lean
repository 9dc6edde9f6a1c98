/- A run by the kernel. -/
import Derived.Test.YtmfimllokjhgmaaGreatDoorEvRun
import Derived.KernelRfl
namespace Go.Proofs.YtmfimllokjhgmaaGreatDoor.Av
open Go
theorem awake_run (ty : Nat → Nat) : okV none (run 4 [] (s0 ty)) (fun v _ => some v) = some T := by kernel_rfl
end Go.Proofs.YtmfimllokjhgmaaGreatDoor.Av
