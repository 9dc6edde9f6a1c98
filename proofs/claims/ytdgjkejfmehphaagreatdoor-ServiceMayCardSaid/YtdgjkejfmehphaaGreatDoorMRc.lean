/- The kernel's runs of ServiceMay. -/
import Derived.Test.YtdgjkejfmehphaaGreatDoorMRun
import Derived.KernelRfl
namespace Go.Proofs.YtdgjkejfmehphaaGreatDoor.Av
open Go
theorem p9_3_run (ty : Nat → Nat) : says (bdsM 1 32 0 4000 1 1000 0 0) (fldO 3 aNc) false [aC, .int .i64 (.ofNat 3), aN, aD, .bool true] ty = true := by kernel_rfl
theorem p9_4_run (ty : Nat → Nat) : says (bdsM 1 32 0 4000 1 1000 0 0) (fldO 4 (.str [])) false [aC, .int .i64 (.ofNat 4), aN, aD, .bool true] ty = true := by kernel_rfl
theorem p2T_run (ty : Nat → Nat) : says (bdsM 0 40 0 5000 1 1 0 9223372036854775808) (fldO 4 (.str [])) false [aK 1001 1, .sp (.a 10), aN, aD, .bool true] ty = true := by kernel_rfl
theorem p5T_run (ty : Nat → Nat) : says (bdsM 33 40 0 5000 1 1000 0 4) (fldO 4 (.str [])) false [aC, aK 1 1, aN, aD, .bool true] ty = true := by kernel_rfl
theorem p7bT_run (ty : Nat → Nat) : says (bdsM 0 0 0 4000 1 1000 0 0) (fldO 4 (.str [])) false [aC, .int .i64 (.ofNat 5), .str [], aD, .bool true] ty = true := by kernel_rfl
theorem p3F_run (ty : Nat → Nat) : says (bdsM 0 40 0 5000 1 1000 0 9223372036854775808) (fldO 4 (.str [])) false [aC, aK 0 (-1), aN, aD, .bool false] ty = true := by kernel_rfl
theorem p6F_run (ty : Nat → Nat) : says (bdsM 0 32 4001 5000 1 1000 0 4) (fldO 4 (.str [])) false [aC, aK 1 1, aN, aD, .bool false] ty = true := by kernel_rfl
theorem p8a_run (ty : Nat → Nat) : says (bdsM 1 32 0 4000 1 1000 0 4) (fldO 4 (.str [])) false [aC, aK 1 1, aN, aD, .bool false] ty = true := by kernel_rfl
end Go.Proofs.YtdgjkejfmehphaaGreatDoor.Av
