/- The kernel's runs of ServiceMay. -/
import Derived.Test.YtdgjkejfmehphaaGreatDoorMRun
import Derived.KernelRfl
namespace Go.Proofs.YtdgjkejfmehphaaGreatDoor.Av
open Go
theorem p9_2_run (ty : Nat → Nat) : says (bdsM 1 32 0 4000 1 1000 0 0) (fldO 2 aNc) false [aC, .int .i64 (.ofNat 2), aN, aD, .bool true] ty = true := by kernel_rfl
theorem p9_5_run (ty : Nat → Nat) : says (bdsM 1 32 0 4000 1 1000 0 0) (fldO 5 aNc) false [aC, .int .i64 (.ofNat 5), aN, aD, .bool true] ty = true := by kernel_rfl
theorem p1T_run (ty : Nat → Nat) : says (bdsM 0 40 0 5000 1 1 0 9223372036854775808) (fldO 4 (.str [])) false [aK 0 (-1), .sp (.a 10), aN, aD, .bool true] ty = true := by kernel_rfl
theorem p4T_run (ty : Nat → Nat) : says (bdsM 0 40 0 5000 1 1000 0 9223372036854775808) (fldO 4 (.str [])) false [aC, aK 6 1, aN, aD, .bool true] ty = true := by kernel_rfl
theorem p7aT_run (ty : Nat → Nat) : says (bdsM 0 0 0 4000 1 1000 0 2) (fldO 4 (.str [])) false [aC, aK 1 1, .str [], aD, .bool true] ty = true := by kernel_rfl
theorem p2F_run (ty : Nat → Nat) : says (bdsM 0 40 0 5000 1 1 0 9223372036854775808) (fldO 4 (.str [])) false [aK 1001 1, .sp (.a 10), aN, aD, .bool false] ty = true := by kernel_rfl
theorem p5F_run (ty : Nat → Nat) : says (bdsM 33 40 0 5000 1 1000 0 4) (fldO 4 (.str [])) false [aC, aK 1 1, aN, aD, .bool false] ty = true := by kernel_rfl
theorem p7bF_run (ty : Nat → Nat) : says (bdsM 0 0 0 4000 1 1000 0 0) (fldO 4 (.str [])) false [aC, .int .i64 (.ofNat 5), .str [], aD, .bool false] ty = true := by kernel_rfl
end Go.Proofs.YtdgjkejfmehphaaGreatDoor.Av
