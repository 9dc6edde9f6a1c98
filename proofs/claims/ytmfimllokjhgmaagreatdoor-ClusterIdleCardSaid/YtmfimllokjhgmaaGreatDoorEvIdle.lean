/- The walk of glacierlaw21.ClusterIdle. -/
import Derived.Test.YtmfimllokjhgmaaGreatDoorEvAt
import Derived.Test.YtmfimllokjhgmaaGreatDoorEvCfg
set_option linter.unusedVariables false
namespace Go.Proofs.YtmfimllokjhgmaaGreatDoor
open Go.RowKit
theorem below_then {a b c : World} (h : Below a.heap.size a b) (k : Below b.heap.size b c) : Below a.heap.size a c :=
  ⟨k.os.trans h.os, k.tape.trans h.tape, k.output.trans h.output, Nat.le_trans h.size k.size, fun x hx => (k.block x (Nat.lt_of_lt_of_le hx h.size)).trans (h.block x hx)⟩
set_option maxRecDepth 100000 in
set_option maxHeartbeats 2000000 in
theorem idle_out (W : World) {ty : Nat → Nat} (hT : Av.Tabs W ty) (n r : Int) (hr : r < 0 ∨ (¬ r < 0 ∧ 60 < r)) :
    Calls Tryz.prog 3 #[.int .i64 n, .int .i64 r] W fun e w' => e = .returned (.bool true) ∧ Below W.heap.size W w' := by
  have HT := Lib.hid hT
  have tok1 : True := trivial
  clear hT
  rcases hr with hr | ⟨hr, hr2⟩
  · go_enter Tryz.func3, Tryz.ntmps3
    go_wp2_with (first
      | (clear tok1; go_at_call 4; refine (Av.awake_calls HT.out).mono ?_; rintro e w1 ⟨rfl, hb1⟩; have HB1 := Lib.hid hb1; clear hb1)
      | (go_at_call 4; refine (Av.awake_calls (HT.out.below HB1.out)).mono ?_; rintro e w2 ⟨rfl, hb2⟩; have HB2 := Lib.hid hb2; clear hb2))
    go_ret
    exact ⟨rfl, below_then HB1.out HB2.out⟩
  · go_enter Tryz.func3, Tryz.ntmps3
    go_wp2_with (first
      | (clear tok1; go_at_call 4; refine (Av.awake_calls HT.out).mono ?_; rintro e w1 ⟨rfl, hb1⟩; have HB1 := Lib.hid hb1; clear hb1)
      | (go_at_call 4; refine (Av.awake_calls (HT.out.below HB1.out)).mono ?_; rintro e w2 ⟨rfl, hb2⟩; have HB2 := Lib.hid hb2; clear hb2))
    go_ret
    exact ⟨rfl, below_then HB1.out HB2.out⟩
set_option maxRecDepth 100000 in
set_option maxHeartbeats 2000000 in
theorem idle_in (W : World) {ty : Nat → Nat} (hT : Av.Tabs W ty) (n r : Int) (hr : ¬ r < 0) (hr2 : ¬ 60 < r) :
    Calls Tryz.prog 3 #[.int .i64 n, .int .i64 r] W fun e w' => e = .returned (.bool true) ∧ Below W.heap.size W w' := by
  have HT := Lib.hid hT
  clear hT
  go_enter Tryz.func3, Tryz.ntmps3
  go_wp2_with (first
    | (go_at_call 4; refine (Av.awake_calls HT.out).mono ?_; rintro e w1 ⟨rfl, hb1⟩; have HB1 := Lib.hid hb1; clear hb1)
    | (go_at_call 6; refine (config_calls n w1).mono ?_; rintro e w2 ⟨k, hk, rfl, hb2⟩; have HB2 := Lib.hid hb2; have HK := Lib.hid hk; clear hb2 hk)
    | (go_at_call 5; refine (Av.new_calls (W := W) ((HT.out.below HB1.out).below HB2.out) (below_then HB1.out HB2.out) k HK.out).mono ?_; rintro e w3 ⟨b, rfl, hi⟩; have HI3 := Lib.hid hi; clear hi))
  go_loopw [7] (fun x wr => ∃ i : Int, x = .int .i64 i ∧ 0 ≤ i ∧ i ≤ r ∧ Av.Inv W b wr) (fun x _ => 61 - (intOf x).toNat)
  case atStart => exact ⟨0, rfl, Int.le_refl _, by omega, HI3.out⟩
  case round =>
    obtain ⟨i, rfl, h1, h2, hi⟩ := hrel
    have HI := Lib.hid hi
    clear hi
    by_cases h : i < r
    · go_wp2_with (first
        | (go_at_call 7; refine (Av.round_calls HI.out).mono ?_; rintro e w4 ⟨rfl, hm⟩; have HM := Lib.hid hm; clear hm)
        | (go_at_call 8; refine (Av.work_calls HM.out).mono ?_; rintro e w5 ⟨rfl, hi5⟩; have HI5 := Lib.hid hi5; clear hi5))
      go_roundw
      case rel => exact ⟨i + 1, rfl, by omega, by omega, HI5.out.grow ((Below.refl _ _).alloc (Nat.le_refl _) _)⟩
      case measure => simp only [intOf]; omega
    · go_wp2_with (first
        | (go_at_call 9; refine (Av.furthest_calls HI.out).mono ?_; rintro e w4 ⟨a, rfl, hm⟩; have HM := Lib.hid hm; clear hm)
        | (go_at_call 10; refine (Av.count_calls HM.out).mono ?_; rintro e w5 ⟨z, rfl, hz, hm⟩; have HM5 := Lib.hid hm; clear hm)
        | (go_at_call 11; refine (Av.catalog_calls HM5.out).mono ?_; rintro e w6 ⟨v, rfl, hm⟩; have HM6 := Lib.hid hm; clear hm)
        | (go_at_call 12; refine (Av.blobs_calls HM6.out).mono ?_; rintro e w7 ⟨A, c, rfl, hb7⟩; have HB7 := Lib.hid hb7; clear hb7))
      go_ret
      exact ⟨rfl, HB7.out⟩
theorem clusterIdle_calls (W : World) (hT : ∃ ty, Av.Tabs W ty) (n r : Int) :
    Calls Tryz.prog 3 #[.int .i64 n, .int .i64 r] W fun e w' => e = .returned (.bool true) ∧ Below W.heap.size W w' := by
  obtain ⟨ty, hT⟩ := hT
  by_cases h1 : r < 0
  · exact idle_out W hT n r (.inl h1)
  · by_cases h2 : 60 < r
    · exact idle_out W hT n r (.inr ⟨h1, h2⟩)
    · exact idle_in W hT n r h1 h2
end Go.Proofs.YtmfimllokjhgmaaGreatDoor
