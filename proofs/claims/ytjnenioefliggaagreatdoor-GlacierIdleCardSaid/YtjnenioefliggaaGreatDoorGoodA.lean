/- The contract of command.Good at any command. -/
import Derived.Test.YtjnenioefliggaaGreatDoorGCmd1
namespace Go.Proofs.YtjnenioefliggaaGreatDoor
open Go.RowKit
attribute [local go_sem] size_bs bs_append

/-- What Good says of a command's parts. -/
structure GoodI (K C S : Int) (nm : List UInt8) (Z : Int) (ds : List Int) (Po V At : Int) : Prop where
  kind : 1 ≤ K ∧ K ≤ 14
  client : 0 ≤ C ∧ C ≤ 1073741824
  seq : 0 ≤ S ∧ S ≤ 1073741824
  name : nm.length ≤ 32
  size : 0 ≤ Z ∧ Z ≤ 4000
  disk : ∀ k (h : k < ds.length), 0 ≤ ds[k] ∧ ds[k] ≤ 5
  disks : ∀ k (h : k < ds.length), 0 < k → ds[k - 1]'(by omega) < ds[k]
  pool : 0 ≤ Po ∧ Po ≤ 1
  vol : 0 ≤ V ∧ V ≤ 11
  at_ : 0 ≤ At ∧ At ≤ 1073741824
set_option maxHeartbeats 400000 in
theorem upTo_no (n m : Int) (h : ¬ (0 ≤ n ∧ n ≤ m)) (w : World) : Calls Tryz.prog 27 #[.int .i64 n, .int .i64 m] w fun e w' => e = .returned (.bool false) ∧ w = w' := by
  by_cases h0 : 0 ≤ n
  · have d0 : decide (0 ≤ n) = true := decide_eq_true h0
    have d1 : decide (n ≤ m) = false := decide_eq_false (by omega)
    go_enter Tryz.func27, Tryz.ntmps27
    go_wp2
    go_ret
    exact ⟨rfl, rfl⟩
  · have d0 : decide (0 ≤ n) = false := decide_eq_false h0
    go_enter Tryz.func27, Tryz.ntmps27
    go_wp2
    go_ret
    exact ⟨rfl, rfl⟩
set_option maxRecDepth 100000 in
set_option maxHeartbeats 4000000 in
theorem goodA_calls (K C S : Int) (nm : List UInt8) (B Z U : Int) (ds : List Int) (Po V At : Int) (hn : ds.length ≤ 4611686018427387904) (dv : Value) (w : World)
    (hd : ∃ A cap, dv = .slice A ds.length cap ∧ ∀ k (hk : k < ds.length), ∃ g o, A = some ⟨g, o, none⟩ ∧ w.cell? ⟨g, o + k, none⟩ = some (.int .i64 ds[k]) ∧ g < w.heap.size) :
    Calls Tryz.prog 11 #[.agg #[.int .i64 K, .int .i64 C, .int .i64 S, .string (bs nm), .int .u64 B, .int .i64 Z, .int .u32 U, dv, .int .i64 Po, .int .i64 V, .int .i64 At]] w fun e w' => ∃ b, e = .returned (.bool b) ∧ (b = true ↔ GoodI K C S nm Z ds Po V At) ∧ Keep [] w w' := by
  obtain ⟨A, cap, rfl, hcell⟩ := hd
  have HCL := Lib.hid hcell
  clear hcell
  by_cases hk1 : 0 ≤ K ∧ K ≤ 14
  case neg =>
    go_enter Tryz.func11, Tryz.ntmps11
    go_wp2_with (go_at_call 27; first | (refine (upTo_yes _ _ (by omega) (by omega) _).mono ?_; rintro e w1 ⟨rfl, rfl⟩) | (refine (upTo_no _ _ (by omega) _).mono ?_; rintro e w1 ⟨rfl, rfl⟩))
    go_ret
    exact ⟨false, rfl, ⟨fun h => (by cases h), fun h => False.elim (by have := h.kind; omega)⟩, (Keep.refl _ _).alloc _⟩
  by_cases hk0 : K = 0
  case pos =>
    subst hk0
    go_enter Tryz.func11, Tryz.ntmps11
    go_wp2_with (go_at_call 27; first | (refine (upTo_yes _ _ (by omega) (by omega) _).mono ?_; rintro e w1 ⟨rfl, rfl⟩) | (refine (upTo_no _ _ (by omega) _).mono ?_; rintro e w1 ⟨rfl, rfl⟩))
    go_ret
    exact ⟨false, rfl, ⟨fun h => (by cases h), fun h => False.elim (by have := h.kind; omega)⟩, (Keep.refl _ _).alloc _⟩
  have hkb : (K == 0) = false := beq_eq_false_iff_ne.2 hk0
  go_enter Tryz.func11, Tryz.ntmps11
  go_wp2_with (go_at_call 27; first | (refine (upTo_yes _ _ (by omega) (by omega) _).mono ?_; rintro e w1 ⟨rfl, rfl⟩) | (refine (upTo_no _ _ (by omega) _).mono ?_; rintro e w1 ⟨rfl, rfl⟩))
  go_loopw [17] (fun vi wr => ∃ k : Nat, k ≤ ds.length ∧ vi = .int .i64 (k : Int) ∧ wr = w.alloc (.cells #[.int .i64 K, .int .i64 C, .int .i64 S, .string (bs nm), .int .u64 B, .int .i64 Z, .int .u32 U, .slice A ds.length cap, .int .i64 Po, .int .i64 V, .int .i64 At] 41) ∧ (∀ j (h : j < ds.length), j < k → 0 ≤ ds[j] ∧ ds[j] ≤ 5) ∧ (∀ j (h : j < ds.length), j < k → 0 < j → ds[j - 1]'(by omega) < ds[j])) (fun vi _ => ds.length - (intOf vi).toNat)
  case atStart => exact ⟨0, Nat.zero_le _, rfl, rfl, fun j _ h => by omega, fun j _ h => by omega⟩
  case round =>
    obtain ⟨k, hk, rfl, rfl, hin, hup⟩ := hrel
    have HIN := Lib.hid hin
    have HUP := Lib.hid hup
    clear hin hup
    by_cases hlt : k < ds.length
    · have hli : (k : Int) < (ds.length : Int) := by omega
      obtain ⟨g, o, rfl, hcw, hgl⟩ := HCL.out k hlt
      have hcw2 : (w.alloc (.cells #[.int .i64 K, .int .i64 C, .int .i64 S, .string (bs nm), .int .u64 B, .int .i64 Z, .int .u32 U, .slice (some ⟨g, o, none⟩) ds.length cap, .int .i64 Po, .int .i64 V, .int .i64 At] 41)).cell? ⟨g, o + k, none⟩ = some (.int .i64 ds[k]) := by rw [World.cell?_alloc_old _ _ _ (Nat.ne_of_lt hgl)]; exact hcw
      obtain ⟨d, hdd⟩ : ∃ d, d = ds[k] := ⟨_, rfl⟩
      rw [← hdd] at hcw2
      have HDD := Lib.hid hdd
      clear hdd hcw
      by_cases hd5 : 0 ≤ d ∧ d ≤ 5
      case neg =>
        go_wp2_with (go_at_call 27; first | (refine (upTo_yes _ _ (by omega) (by omega) _).mono ?_; rintro e w1 ⟨rfl, rfl⟩) | (refine (upTo_no _ _ (by omega) _).mono ?_; rintro e w1 ⟨rfl, rfl⟩))
        go_ret
        exact ⟨false, rfl, ⟨fun h => (by cases h), fun h => False.elim (by have := h.disk k hlt; rw [← HDD.out] at this; exact hd5 this)⟩, (Keep.refl _ _).alloc _⟩
      have hw2 : IntKind.i64.wrap ((k : Int) + 1) = (k : Int) + 1 := IntWalk.i64_in _ (by omega)
      have hin' : Hid (∀ j (h : j < ds.length), j < k + 1 → 0 ≤ ds[j] ∧ ds[j] ≤ 5) := Lib.hid fun j h hj => by
        rcases Nat.lt_or_ge j k with h1 | h1
        · exact HIN.out j h h1
        · obtain rfl : j = k := by omega
          rw [← HDD.out]; exact hd5
      by_cases h0 : 0 < k
      · have hgt : decide ((0 : Int) < (k : Int)) = true := decide_eq_true (by omega)
        have hw1 : IntKind.i64.wrap ((k : Int) - 1) = ((k - 1 : Nat) : Int) := by rw [IntWalk.i64_in _ (by omega)]; omega
        obtain ⟨g', o', hA', hcp, -⟩ := HCL.out (k - 1) (by omega)
        have hA'' := hA'
        injection hA'' with hA''
        injection hA'' with e1 e2
        subst e1 e2
        have hcp2 : (w.alloc (.cells #[.int .i64 K, .int .i64 C, .int .i64 S, .string (bs nm), .int .u64 B, .int .i64 Z, .int .u32 U, .slice (some ⟨g, o, none⟩) ds.length cap, .int .i64 Po, .int .i64 V, .int .i64 At] 41)).cell? ⟨g, o + (k - 1), none⟩ = some (.int .i64 (ds[k - 1]'(by omega))) := by rw [World.cell?_alloc_old _ _ _ (Nat.ne_of_lt hgl)]; exact hcp
        obtain ⟨d1, hd1⟩ : ∃ d1, d1 = ds[k - 1]'(by omega) := ⟨_, rfl⟩
        rw [← hd1] at hcp2
        have HD1 := Lib.hid hd1
        have hli1 : ((k - 1 : Nat) : Int) < (ds.length : Int) := by omega
        clear hA' hcp hd1
        by_cases hasc : d ≤ d1
        · have hle : decide (d ≤ d1) = true := decide_eq_true hasc
          go_wp2_with (go_at_call 27; first | (refine (upTo_yes _ _ (by omega) (by omega) _).mono ?_; rintro e w1 ⟨rfl, rfl⟩) | (refine (upTo_no _ _ (by omega) _).mono ?_; rintro e w1 ⟨rfl, rfl⟩))
          go_ret
          exact ⟨false, rfl, ⟨fun h => (by cases h), fun h => False.elim (by have := h.disks k hlt h0; rw [← HDD.out, ← HD1.out] at this; omega)⟩, (Keep.refl _ _).alloc _⟩
        · have hle : decide (d ≤ d1) = false := decide_eq_false hasc
          go_wp2_with (go_at_call 27; first | (refine (upTo_yes _ _ (by omega) (by omega) _).mono ?_; rintro e w1 ⟨rfl, rfl⟩) | (refine (upTo_no _ _ (by omega) _).mono ?_; rintro e w1 ⟨rfl, rfl⟩))
          go_roundw
          case rel =>
            refine ⟨k + 1, hlt, by go_num, by first | rfl | trivial, hin'.out, fun j h hj hj0 => ?_⟩
            rcases Nat.lt_or_ge j k with h1 | h1
            · exact HUP.out j h h1 hj0
            · obtain rfl : j = k := by omega
              rw [← HDD.out, ← HD1.out]; omega
          case measure => simp [intOf]; omega
      · have hgt : decide ((0 : Int) < (k : Int)) = false := decide_eq_false (by omega)
        go_wp2_with (go_at_call 27; first | (refine (upTo_yes _ _ (by omega) (by omega) _).mono ?_; rintro e w1 ⟨rfl, rfl⟩) | (refine (upTo_no _ _ (by omega) _).mono ?_; rintro e w1 ⟨rfl, rfl⟩))
        go_roundw
        case rel => exact ⟨k + 1, hlt, by go_num, by first | rfl | trivial, hin'.out, fun j h hj hj0 => by exfalso; omega⟩
        case measure => simp [intOf]; omega
    · have hli : ¬ (k : Int) < (ds.length : Int) := by omega
      by_cases q1 : 0 ≤ C ∧ C ≤ 1073741824
      case neg =>
        go_wp2_with (go_at_call 27; first | (refine (upTo_yes _ _ (by omega) (by omega) _).mono ?_; rintro e w1 ⟨rfl, rfl⟩) | (refine (upTo_no _ _ (by omega) _).mono ?_; rintro e w1 ⟨rfl, rfl⟩))
        go_ret
        exact ⟨false, rfl, ⟨fun h => (by cases h), fun h => False.elim (q1 h.client)⟩, (Keep.refl _ _).alloc _⟩
      by_cases q2 : 0 ≤ S ∧ S ≤ 1073741824
      case neg =>
        go_wp2_with (go_at_call 27; first | (refine (upTo_yes _ _ (by omega) (by omega) _).mono ?_; rintro e w1 ⟨rfl, rfl⟩) | (refine (upTo_no _ _ (by omega) _).mono ?_; rintro e w1 ⟨rfl, rfl⟩))
        go_ret
        exact ⟨false, rfl, ⟨fun h => (by cases h), fun h => False.elim (q2 h.seq)⟩, (Keep.refl _ _).alloc _⟩
      by_cases q3 : nm.length ≤ 32
      case neg =>
        have hnm : decide ((nm.length : Int) ≤ 32) = false := decide_eq_false (by omega)
        go_wp2_with (go_at_call 27; first | (refine (upTo_yes _ _ (by omega) (by omega) _).mono ?_; rintro e w1 ⟨rfl, rfl⟩) | (refine (upTo_no _ _ (by omega) _).mono ?_; rintro e w1 ⟨rfl, rfl⟩))
        go_ret
        exact ⟨false, rfl, ⟨fun h => (by cases h), fun h => False.elim (q3 h.name)⟩, (Keep.refl _ _).alloc _⟩
      have hnm : decide ((nm.length : Int) ≤ 32) = true := decide_eq_true (by omega)
      by_cases q4 : 0 ≤ Z ∧ Z ≤ 4000
      case neg =>
        go_wp2_with (go_at_call 27; first | (refine (upTo_yes _ _ (by omega) (by omega) _).mono ?_; rintro e w1 ⟨rfl, rfl⟩) | (refine (upTo_no _ _ (by omega) _).mono ?_; rintro e w1 ⟨rfl, rfl⟩))
        go_ret
        exact ⟨false, rfl, ⟨fun h => (by cases h), fun h => False.elim (q4 h.size)⟩, (Keep.refl _ _).alloc _⟩
      by_cases q5 : 0 ≤ Po ∧ Po ≤ 1
      case neg =>
        go_wp2_with (go_at_call 27; first | (refine (upTo_yes _ _ (by omega) (by omega) _).mono ?_; rintro e w1 ⟨rfl, rfl⟩) | (refine (upTo_no _ _ (by omega) _).mono ?_; rintro e w1 ⟨rfl, rfl⟩))
        go_ret
        exact ⟨false, rfl, ⟨fun h => (by cases h), fun h => False.elim (q5 h.pool)⟩, (Keep.refl _ _).alloc _⟩
      by_cases q6 : 0 ≤ V ∧ V ≤ 11
      case neg =>
        go_wp2_with (go_at_call 27; first | (refine (upTo_yes _ _ (by omega) (by omega) _).mono ?_; rintro e w1 ⟨rfl, rfl⟩) | (refine (upTo_no _ _ (by omega) _).mono ?_; rintro e w1 ⟨rfl, rfl⟩))
        go_ret
        exact ⟨false, rfl, ⟨fun h => (by cases h), fun h => False.elim (q6 h.vol)⟩, (Keep.refl _ _).alloc _⟩
      by_cases q7 : 0 ≤ At ∧ At ≤ 1073741824
      case neg =>
        go_wp2_with (go_at_call 27; first | (refine (upTo_yes _ _ (by omega) (by omega) _).mono ?_; rintro e w1 ⟨rfl, rfl⟩) | (refine (upTo_no _ _ (by omega) _).mono ?_; rintro e w1 ⟨rfl, rfl⟩))
        go_ret
        exact ⟨false, rfl, ⟨fun h => (by cases h), fun h => False.elim (q7 h.at_)⟩, (Keep.refl _ _).alloc _⟩
      go_wp2_with (go_at_call 27; first | (refine (upTo_yes _ _ (by omega) (by omega) _).mono ?_; rintro e w1 ⟨rfl, rfl⟩) | (refine (upTo_no _ _ (by omega) _).mono ?_; rintro e w1 ⟨rfl, rfl⟩))
      go_ret
      exact ⟨true, rfl, ⟨fun _ => ⟨by omega, q1, q2, q3, q4, fun j h => HIN.out j h (by omega), fun j h h0 => HUP.out j h (by omega) h0, q5, q6, q7⟩, fun _ => rfl⟩, (Keep.refl _ _).alloc _⟩
end Go.Proofs.YtjnenioefliggaaGreatDoor
