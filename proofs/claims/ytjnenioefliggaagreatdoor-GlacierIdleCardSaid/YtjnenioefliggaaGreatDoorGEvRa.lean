/- The kernel's runs: the start; each command; the end. -/
import Derived.Test.YtjnenioefliggaaGreatDoorGEvRun
import Derived.KernelRfl
namespace Go.Proofs.YtjnenioefliggaaGreatDoor.Av
open Go
theorem pre_run (ty : Nat → Nat) : preR ty = some (S0 ty, cl) := by kernel_rfl
theorem prop_run0 (ty : Nat → Nat) : propS 0 (S0 ty) = some (S1 ty, cl) := by kernel_rfl
theorem prop_run1 (ty : Nat → Nat) : propS 1 (S1 ty) = some (S2 ty, cl) := by kernel_rfl
theorem prop_run2 (ty : Nat → Nat) : propS 2 (S2 ty) = some (S3 ty, cl) := by kernel_rfl
theorem prop_run3 (ty : Nat → Nat) : propS 3 (S3 ty) = some (S4 ty, cl) := by kernel_rfl
theorem prop_run4 (ty : Nat → Nat) : propS 4 (S4 ty) = some (S5 ty, cl) := by kernel_rfl
theorem prop_run5 (ty : Nat → Nat) : propS 5 (S5 ty) = some (S6 ty, cl) := by kernel_rfl
theorem prop_run6 (ty : Nat → Nat) : propS 6 (S6 ty) = some (S7 ty, cl) := by kernel_rfl
theorem prop_run7 (ty : Nat → Nat) : propS 7 (S7 ty) = some (S8 ty, cl) := by kernel_rfl
theorem prop_run8 (ty : Nat → Nat) : propS 8 (S8 ty) = some (S9 ty, cl) := by kernel_rfl
theorem prop_run9 (ty : Nat → Nat) : propS 9 (S9 ty) = some (S10 ty, cl) := by kernel_rfl
theorem fin_run0 (ty : Nat → Nat) : finS (S0 ty) = true := by kernel_rfl
theorem fin_run1 (ty : Nat → Nat) : finS (S1 ty) = true := by kernel_rfl
theorem fin_run2 (ty : Nat → Nat) : finS (S2 ty) = true := by kernel_rfl
theorem fin_run3 (ty : Nat → Nat) : finS (S3 ty) = true := by kernel_rfl
theorem fin_run4 (ty : Nat → Nat) : finS (S4 ty) = true := by kernel_rfl
theorem fin_run5 (ty : Nat → Nat) : finS (S5 ty) = true := by kernel_rfl
theorem fin_run6 (ty : Nat → Nat) : finS (S6 ty) = true := by kernel_rfl
theorem fin_run7 (ty : Nat → Nat) : finS (S7 ty) = true := by kernel_rfl
theorem fin_run8 (ty : Nat → Nat) : finS (S8 ty) = true := by kernel_rfl
theorem fin_run9 (ty : Nat → Nat) : finS (S9 ty) = true := by kernel_rfl
theorem fin_run10 (ty : Nat → Nat) : finS (S10 ty) = true := by kernel_rfl
theorem prop_run (ty : Nat → Nat) : ∀ k, k < 10 → propS k (St ty k) = some (St ty (k + 1), cl)
  | 0, _ => prop_run0 ty
  | 1, _ => prop_run1 ty
  | 2, _ => prop_run2 ty
  | 3, _ => prop_run3 ty
  | 4, _ => prop_run4 ty
  | 5, _ => prop_run5 ty
  | 6, _ => prop_run6 ty
  | 7, _ => prop_run7 ty
  | 8, _ => prop_run8 ty
  | 9, _ => prop_run9 ty
  | k + 10, h => absurd h (by omega)
theorem fin_run (ty : Nat → Nat) : ∀ k, k ≤ 10 → finS (St ty k) = true
  | 0, _ => fin_run0 ty
  | 1, _ => fin_run1 ty
  | 2, _ => fin_run2 ty
  | 3, _ => fin_run3 ty
  | 4, _ => fin_run4 ty
  | 5, _ => fin_run5 ty
  | 6, _ => fin_run6 ty
  | 7, _ => fin_run7 ty
  | 8, _ => fin_run8 ty
  | 9, _ => fin_run9 ty
  | 10, _ => fin_run10 ty
  | k + 11, h => absurd h (by omega)
end Go.Proofs.YtjnenioefliggaaGreatDoor.Av
