/- The contracts of command.upTo, Good, IsClient. -/
import Derived.Test.YtpnoiagjgkajdaaGreatDoorGCm
import Derived.Test.YtpnoiagjgkajdaaGreatDoorAppend
namespace Go.Proofs.YtpnoiagjgkajdaaGreatDoor
open Go.RowKit
attribute [local go_sem] size_bs bs_append

def Cm.cells (c : Cm) (dv : Value) : Array Value := #[.int .i64 (c.kind : Int), .int .i64 (c.client : Int), .int .i64 (c.seq : Int), .string (bs c.name), .int .u64 (c.blob : Int), .int .i64 (c.size : Int), .int .u32 (c.sum : Int), dv, .int .i64 (c.pool : Int), .int .i64 (c.vol : Int), .int .i64 (c.at_ : Int)]
section
variable {w w' : World}
set_option maxHeartbeats 400000 in
theorem upTo_yes (n m : Int) (h0 : 0 ≤ n) (h1 : n ≤ m) (w : World) : Calls Tryz.prog 57 #[.int .i64 n, .int .i64 m] w fun e w' => e = .returned (.bool true) ∧ w = w' := by
  have d0 : decide (0 ≤ n) = true := decide_eq_true h0
  have d1 : decide (n ≤ m) = true := decide_eq_true h1
  go_enter Tryz.func57, Tryz.ntmps57
  go_wp2
  go_ret
  exact ⟨rfl, rfl⟩
set_option maxHeartbeats 400000 in
theorem isClient_calls (c : Cm) (dv : Value) (w : World) : Calls Tryz.prog 125 #[.agg #[.int .i64 (c.kind : Int), .int .i64 (c.client : Int), .int .i64 (c.seq : Int), .string (bs c.name), .int .u64 (c.blob : Int), .int .i64 (c.size : Int), .int .u32 (c.sum : Int), dv, .int .i64 (c.pool : Int), .int .i64 (c.vol : Int), .int .i64 (c.at_ : Int)]] w fun e w' => e = .returned (.bool (decide (1 ≤ c.kind) && decide (c.kind ≤ 5))) ∧ Keep [] w w' := by
  have d0 : decide ((1 : Int) ≤ (c.kind : Int)) = decide (1 ≤ c.kind) := by simp; omega
  have d1 : decide ((c.kind : Int) ≤ 5) = decide (c.kind ≤ 5) := by simp; omega
  go_enter Tryz.func125, Tryz.ntmps125
  by_cases h : 1 ≤ c.kind
  · rw [decide_eq_true h] at d0 ⊢
    have h' : (1 : Int) ≤ (c.kind : Int) := by omega
    go_wp2
    go_ret
    exact ⟨by simp, (Keep.refl _ _).alloc _⟩
  · rw [decide_eq_false h] at d0 ⊢
    have h' : ¬ (1 : Int) ≤ (c.kind : Int) := by omega
    go_wp2
    go_ret
    exact ⟨by simp, (Keep.refl _ _).alloc _⟩
theorem disk_asc {c : Cm} (hc : c.Ok) {k : Nat} (hk : k < c.disks.length) (h0 : 0 < k) : c.disks[k - 1]'(by omega) < c.disks[k] := List.pairwise_iff_getElem.1 hc.disks _ _ _ _ (by omega)
set_option maxRecDepth 100000 in
set_option maxHeartbeats 2000000 in
theorem good_calls (c : Cm) (hc : c.Ok) (dv : Value) (w : World) (hd : SlAt w dv c.disks.length (ints c.disks)) :
    Calls Tryz.prog 202 #[.agg #[.int .i64 (c.kind : Int), .int .i64 (c.client : Int), .int .i64 (c.seq : Int), .string (bs c.name), .int .u64 (c.blob : Int), .int .i64 (c.size : Int), .int .u32 (c.sum : Int), dv, .int .i64 (c.pool : Int), .int .i64 (c.vol : Int), .int .i64 (c.at_ : Int)]] w fun e w' => e = .returned (.bool true) ∧ Keep [] w w' := by
  obtain ⟨A, cap, rfl, hcell⟩ := hd
  have HCL : Hid (∀ k (hk : k < c.disks.length), ∃ g o, A = some ⟨g, o, none⟩ ∧ w.cell? ⟨g, o + k, none⟩ = some (.int .i64 (c.disks[k] : Int)) ∧ g < w.heap.size) := fun k hk => by
    obtain ⟨g, o, h1, h2⟩ := hcell (by intro h; simp only [ints, List.map_eq_nil_iff] at h; rw [h] at hk; simp at hk)
    have h3 := h2 k (.int .i64 (c.disks[k] : Int)) (by simp [ints, hk])
    exact ⟨g, o, h1, h3, World.block_lt_of_cell? _ _ h3⟩
  have hl := hc.len
  have k1 := hc.kind
  have k2 := hc.client
  have k3 := hc.seq
  have k4 := hc.name
  have k5 := hc.size
  have k6 := hc.pool
  have k7 := hc.vol
  have k8 := hc.at_
  have hk0 : (c.kind : Int) ≠ 0 := by omega
  have hkb : ((c.kind : Int) == 0) = false := beq_eq_false_iff_ne.2 hk0
  have HD := Lib.hid hc.disk
  have HASC := Lib.hid (fun (k : Nat) (hk : k < c.disks.length) (h0 : 0 < k) => disk_asc hc hk h0)
  have hnm : decide ((c.name.length : Int) ≤ 32) = true := decide_eq_true (by omega)
  clear hcell hc
  go_enter Tryz.func202, Tryz.ntmps202
  go_wp2_with (go_at_call 57; refine (upTo_yes _ _ (by omega) (by omega) _).mono ?_; rintro e w1 ⟨rfl, rfl⟩)
  go_loopw [17] (fun vi wr => ∃ k : Nat, k ≤ c.disks.length ∧ vi = .int .i64 (k : Int) ∧ wr = w.alloc (.cells #[.int .i64 (c.kind : Int), .int .i64 (c.client : Int), .int .i64 (c.seq : Int), .string (bs c.name), .int .u64 (c.blob : Int), .int .i64 (c.size : Int), .int .u32 (c.sum : Int), .slice A c.disks.length cap, .int .i64 (c.pool : Int), .int .i64 (c.vol : Int), .int .i64 (c.at_ : Int)] 81)) (fun vi _ => c.disks.length - (intOf vi).toNat)
  case atStart => exact ⟨0, Nat.zero_le _, rfl, rfl⟩
  case round =>
    obtain ⟨k, hk, rfl, rfl⟩ := hrel
    by_cases hlt : k < c.disks.length
    · have hli : (k : Int) < (c.disks.length : Int) := by omega
      obtain ⟨g, o, rfl, hcw, hgl⟩ := HCL.out k hlt
      have hcw2 : (w.alloc (.cells #[.int .i64 (c.kind : Int), .int .i64 (c.client : Int), .int .i64 (c.seq : Int), .string (bs c.name), .int .u64 (c.blob : Int), .int .i64 (c.size : Int), .int .u32 (c.sum : Int), .slice (some ⟨g, o, none⟩) c.disks.length cap, .int .i64 (c.pool : Int), .int .i64 (c.vol : Int), .int .i64 (c.at_ : Int)] 81)).cell? ⟨g, o + k, none⟩ = some (.int .i64 (c.disks[k] : Int)) := by rw [World.cell?_alloc_old _ _ _ (Nat.ne_of_lt hgl)]; exact hcw
      have hd5 := HD.out _ (List.getElem_mem hlt)
      have hw2 : IntKind.i64.wrap ((k : Int) + 1) = (k : Int) + 1 := IntWalk.i64_in _ (by omega)
      by_cases h0 : 0 < k
      · have hgt : decide ((0 : Int) < (k : Int)) = true := decide_eq_true (by omega)
        have hw1 : IntKind.i64.wrap ((k : Int) - 1) = ((k - 1 : Nat) : Int) := by rw [IntWalk.i64_in _ (by omega)]; omega
        obtain ⟨g', o', hA', hcp, -⟩ := HCL.out (k - 1) (by omega)
        have hA'' := hA'
        injection hA'' with hA''
        injection hA'' with e1 e2
        subst e1 e2
        have hcp2 : (w.alloc (.cells #[.int .i64 (c.kind : Int), .int .i64 (c.client : Int), .int .i64 (c.seq : Int), .string (bs c.name), .int .u64 (c.blob : Int), .int .i64 (c.size : Int), .int .u32 (c.sum : Int), .slice (some ⟨g, o, none⟩) c.disks.length cap, .int .i64 (c.pool : Int), .int .i64 (c.vol : Int), .int .i64 (c.at_ : Int)] 81)).cell? ⟨g, o + (k - 1), none⟩ = some (.int .i64 (c.disks[k - 1] : Int)) := by rw [World.cell?_alloc_old _ _ _ (Nat.ne_of_lt hgl)]; exact hcp
        have hasc := HASC.out k hlt h0
        have hli1 : ((k - 1 : Nat) : Int) < (c.disks.length : Int) := by omega
        have hle : decide ((c.disks[k] : Int) ≤ (c.disks[k - 1] : Int)) = false := decide_eq_false (by omega)
        clear hA'
        go_wp2_with (go_at_call 57; refine (upTo_yes _ _ (by omega) (by omega) _).mono ?_; rintro e w1 ⟨rfl, rfl⟩)
        go_roundw
        case rel => exact ⟨k + 1, hlt, by go_num, by first | rfl | trivial⟩
        case measure => simp [intOf]; omega
      · have hgt : decide ((0 : Int) < (k : Int)) = false := decide_eq_false (by omega)
        go_wp2_with (go_at_call 57; refine (upTo_yes _ _ (by omega) (by omega) _).mono ?_; rintro e w1 ⟨rfl, rfl⟩)
        go_roundw
        case rel => exact ⟨k + 1, hlt, by go_num, by first | rfl | trivial⟩
        case measure => simp [intOf]; omega
    · have hli : ¬ (k : Int) < (c.disks.length : Int) := by omega
      go_wp2_with (go_at_call 57; refine (upTo_yes _ _ (by omega) (by omega) _).mono ?_; rintro e w1 ⟨rfl, rfl⟩)
      go_ret
      exact ⟨rfl, (Keep.refl _ _).alloc _⟩
end
end Go.Proofs.YtpnoiagjgkajdaaGreatDoor
