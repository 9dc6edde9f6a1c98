/- The contracts of meter.Made, platter.New, Luck.Fail. -/
import Derived.Test.YtnlcipocobmgiaaGreatDoorDisks
namespace Go.Proofs.YtnlcipocobmgiaaGreatDoor
open Go.RowKit

set_option maxHeartbeats 400000 in
theorem made_calls (n : Int) (_h0 : 0 ≤ n) (w : World) :
    Calls Tryz.prog 72 #[.int .i64 n] w fun e w' => e = .returned (.agg #[.int .i64 n, .int .i64 0]) ∧ Keep [] w w' := by
  go_enter Tryz.func72, Tryz.ntmps72
  go_wp2
  exact bodyPost_ret (v := .agg #[.int .i64 n, .int .i64 0]) (by simp [results, Tryz.results72, go_sem]) rfl ⟨rfl, (Keep.refl _ _).alloc _⟩

set_option maxHeartbeats 400000 in
theorem new_calls (n : Int) (h0 : 0 ≤ n) (w : World) :
    Calls Tryz.prog 38 #[.int .i64 n] w fun e w' => ∃ b m, e = .returned (.pointer (some ⟨b, 0, none⟩)) ∧ w.heap.size ≤ b ∧ w.heap.size ≤ m ∧ DiskAt w' b m ⟨n, 0, false, 0, []⟩ ∧ Keep [] w w' := by
  have hmm := @run_makeMap Tryz.prog
  go_enter Tryz.func38, Tryz.ntmps38
  go_wp2_with (go_at_call 72; refine (made_calls n h0 _).mono ?_; rintro e w1 ⟨rfl, hk⟩; have HK := Lib.hid hk; clear hk)
  go_ret
  refine ⟨w1.heap.size + 1, w1.heap.size, rfl, Nat.le_trans HK.out.size (by omega), HK.out.size, ⟨?_, (MapIs.made w1).alloc _⟩, (HK.out.alloc _).alloc _⟩
  have := Blk.new (w1.alloc (Obj.map #[] 0)) 108 #[.int .i64 n, .int .i64 0, .bool false, .int .i64 0, .map (some w1.heap.size)]
  simpa using this

set_option maxHeartbeats 400000 in
theorem fail_off {w : World} {b m : Nat} {D : Dk} (h : DiskAt w b m D) (n : Int) (hn : n < 0) :
    Calls Tryz.prog 71 #[.pointer (some ⟨b, 2, none⟩), .int .i64 n] w fun e w' => e = .returned (.tuple #[]) ∧ DiskAt w' b m { D with armed := 0 } ∧ Keep [b] w w' := by
  have c3 := h.c3
  have f3 := h.blk.frozen 3
  have H := Lib.hid h
  clear h
  go_enter Tryz.func71, Tryz.ntmps71
  go_wp2
  refine bodyPost_ret (results_none rfl _ _ _) rfl ?_
  exact ⟨rfl, H.out.armed_ 0, (Keep.refl _ _).setCell (.inl (by simp)) _⟩

set_option maxHeartbeats 400000 in
theorem fail_on {w : World} {b m : Nat} {D : Dk} (h : DiskAt w b m D) (n : Int) (hn : 0 ≤ n) (hn2 : n ≤ 1073741824) :
    Calls Tryz.prog 71 #[.pointer (some ⟨b, 2, none⟩), .int .i64 n] w fun e w' => e = .returned (.tuple #[]) ∧ DiskAt w' b m { D with armed := n + 1 } ∧ Keep [b] w w' := by
  have c3 := h.c3
  have f3 := h.blk.frozen 3
  have H := Lib.hid h
  clear h
  go_enter Tryz.func71, Tryz.ntmps71
  go_wp2
  go_end0
  exact ⟨rfl, H.out.armed_ _, (Keep.refl _ _).setCell (.inl (by simp)) _⟩

end Go.Proofs.YtnlcipocobmgiaaGreatDoor
