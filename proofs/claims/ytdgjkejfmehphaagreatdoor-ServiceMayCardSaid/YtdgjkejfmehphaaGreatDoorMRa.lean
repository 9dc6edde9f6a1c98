/- The kernel's runs of ServiceMay. -/
import Derived.Test.YtdgjkejfmehphaaGreatDoorMRun
import Derived.KernelRfl
namespace Go.Proofs.YtdgjkejfmehphaaGreatDoor.Av
open Go
theorem p9_1_run (ty : Nat → Nat) : says (bdsM 1 32 0 4000 1 1000 0 0) fldP true [aC, .int .i64 (.ofNat 1), aN, aD, .bool true] ty = true := by kernel_rfl
theorem p9_0_run (ty : Nat → Nat) : says (bdsM 0 0 0 4000 1 1000 0 0) (fldO 4 (.str [])) false [aC, .int .i64 (.ofNat 4), .str [], aD, .bool true] ty = true := by kernel_rfl
theorem p3T_run (ty : Nat → Nat) : says (bdsM 0 40 0 5000 1 1000 0 9223372036854775808) (fldO 4 (.str [])) false [aC, aK 0 (-1), aN, aD, .bool true] ty = true := by kernel_rfl
theorem p6T_run (ty : Nat → Nat) : says (bdsM 0 32 4001 5000 1 1000 0 4) (fldO 4 (.str [])) false [aC, aK 1 1, aN, aD, .bool true] ty = true := by kernel_rfl
theorem p1F_run (ty : Nat → Nat) : says (bdsM 0 40 0 5000 1 1 0 9223372036854775808) (fldO 4 (.str [])) false [aK 0 (-1), .sp (.a 10), aN, aD, .bool false] ty = true := by kernel_rfl
theorem p4F_run (ty : Nat → Nat) : says (bdsM 0 40 0 5000 1 1000 0 9223372036854775808) (fldO 4 (.str [])) false [aC, aK 6 1, aN, aD, .bool false] ty = true := by kernel_rfl
theorem p7aF_run (ty : Nat → Nat) : says (bdsM 0 0 0 4000 1 1000 0 2) (fldO 4 (.str [])) false [aC, aK 1 1, .str [], aD, .bool false] ty = true := by kernel_rfl
theorem p8b_run (ty : Nat → Nat) : says (bdsM 0 0 0 4000 1 1000 0 0) (fldO 4 (.str [])) false [aC, .int .i64 (.ofNat 4), .str [], aD, .bool false] ty = true := by kernel_rfl
end Go.Proofs.YtdgjkejfmehphaaGreatDoor.Av
