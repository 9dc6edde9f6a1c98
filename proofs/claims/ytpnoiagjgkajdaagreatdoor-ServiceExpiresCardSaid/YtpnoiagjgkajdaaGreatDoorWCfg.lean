/- The walk of glacierlaw21.Config, as ServiceExpires calls it. -/
import Derived.Test.YtpnoiagjgkajdaaGreatDoorProg
import Derived.WalkKit
import Derived.WalkSpells
import Derived.Below
import Derived.Lib.Hide
import Derived.IntWalk
set_option linter.unusedVariables false
namespace Go.Proofs.YtpnoiagjgkajdaaGreatDoor
open Go.RowKit
theorem rem3 (n : Int) : ∃ k, 0 ≤ k ∧ k < 3 ∧ Int.tmod (Int.tmod n 3 + 3) 3 = k ∧ -3 < Int.tmod n 3 ∧ Int.tmod n 3 < 3 := by
  have h1 := Int.tmod_lt_of_pos n (show (0 : Int) < 3 by decide)
  have h2 : -3 < Int.tmod n 3 := by
    have := Int.tmod_lt_of_pos (-n) (show (0 : Int) < 3 by decide)
    rw [Int.neg_tmod] at this
    omega
  have h4 : Int.tmod (Int.tmod n 3 + 3) 3 = (Int.tmod n 3 + 3) % 3 := Int.tmod_eq_emod_of_nonneg (by omega)
  exact ⟨_, by omega, by omega, h4, h2, h1⟩
/-- How many nodes. -/
def nOf (n : Int) : Int := 1 + Int.tmod (Int.tmod n 3 + 3) 3
theorem nOf_cases (n : Int) : nOf n = 1 ∨ nOf n = 2 ∨ nOf n = 3 := by
  obtain ⟨k, k1, k2, k3, -, -⟩ := rem3 n
  unfold nOf
  omega
set_option maxRecDepth 100000 in
set_option maxHeartbeats 1000000 in
theorem config_calls (n : Int) (w : World) : Calls Tryz.prog 22 #[.int .i64 n, .int .i64 0, .int .i64 0, .int .i64 900] w fun e w' => e = .returned (.agg #[.int .i64 3, .int .i64 50000, .int .i64 6, .int .i64 900, .int .i64 1, .int .i64 2, .int .i64 0, .int .i64 50, .int .i64 300, .int .i64 (nOf n), .int .i64 4194304]) ∧ Below w.heap.size w w' := by
  go_enter Tryz.func22, Tryz.ntmps22
  go_wp2
  refine bodyPost_ret (by simp [results, Tryz.results22, go_sem]; try rfl) rfl ?_
  obtain ⟨k, k1, k2, k3, k5, k6⟩ := rem3 n
  have k0 : wrap64 (n.tmod 3 + 3) = n.tmod 3 + 3 := by unfold wrap64; omega
  have k4 : wrap64 (1 + k) = 1 + k := by unfold wrap64; omega
  have k7 : nOf n = 1 + k := by unfold nOf; rw [k3]
  rw [k0, k3, k4, k7]
  exact ⟨rfl, (Below.refl _ w).alloc (Nat.le_refl _) _⟩
end Go.Proofs.YtpnoiagjgkajdaaGreatDoor
