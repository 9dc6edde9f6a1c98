/- The contract of glacierlaw01.Cut. -/
import Derived.Test.YtdgjkejfmehphaaGreatDoorProg
import Derived.Test.YtdgjkejfmehphaaGreatDoorBase
import Derived.BigQuiet
namespace Go.Proofs.YtdgjkejfmehphaaGreatDoor
open Go.RowKit
attribute [local go_sem] size_bs bs_append bs_extract

set_option maxHeartbeats 400000 in
theorem cut_calls (s : List UInt8) (n : Nat) (w : World) :
    Calls Tryz.prog 5 #[.string (bs s), .int .i64 (n : Int)] w fun e w' => e = .returned (.string (bs (s.take n))) ∧ w' = w := by
  by_cases h : n < s.length
  · have hd : decide ((n : Int) < (s.length : Int)) = true := by simpa using h
    go_enter Tryz.func5, Tryz.ntmps5
    go_wp2
    go_ret
    refine ⟨?_, rfl⟩
    simp
  · have hd : decide ((n : Int) < (s.length : Int)) = false := by simpa using h
    go_enter Tryz.func5, Tryz.ntmps5
    go_wp2
    go_ret
    rw [List.take_of_length_le (by omega)]
    exact ⟨rfl, rfl⟩

end Go.Proofs.YtdgjkejfmehphaaGreatDoor
