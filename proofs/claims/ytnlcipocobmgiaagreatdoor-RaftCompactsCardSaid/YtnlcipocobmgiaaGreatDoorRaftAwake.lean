/- The contract of glacierlaw10.awake. -/
import Derived.Test.YtnlcipocobmgiaaGreatDoorLones
namespace Go.Proofs.YtnlcipocobmgiaaGreatDoor
open Go.RowKit
attribute [local go_sem] size_bs bs_append bs_extract ba_self

def sA : Ts := Ts.zero.led.more [120]
theorem sA_log : sA.log = [⟨1, 1, []⟩, ⟨2, 1, [120]⟩] := rfl
theorem sA_fit1 : Ts.zero.led.log.length < 1000 := by decide
set_option maxRecDepth 100000 in
set_option maxHeartbeats 2000000 in
theorem rawake_calls (w : World) (hT : Tab w) : Calls Tryz.prog 7 #[] w fun e w' => e = .returned (.bool true) ∧ Keep [] w w' := by
  have T1 : ∀ W b m, DiskAt W b m ⟨10000, 0, false, 0, []⟩ → Tab W → Calls Tryz.prog 10 #[.pointer (some ⟨b, 0, none⟩), .int .i64 0, .int .i64 1] W fun e w' => ∃ r, e = .returned (.tuple #[.pointer (some ⟨r, 0, none⟩), .int .i64 0]) ∧ EarlyAt W w' r b m Ts.zero 0 10000 := fun W b m hD hT =>
    open_one hD hT (Holds.start 10000 (by decide)) Ts.fit_zero
  have T2 : ∀ w W r b m j, EarlyAt w W r b m Ts.zero j 10000 → j < 3 → Calls Tryz.prog 11 #[.pointer (some ⟨r, 0, none⟩)] W fun e w' => e = .returned (.tuple #[]) ∧ EarlyAt w w' r b m Ts.zero (j + 1) 10000 := fun w W r b m j h hj => early_tick h Ts.fit_zero (by decide) hj
  have T3 : ∀ w W r b m, EarlyAt w W r b m Ts.zero 3 10000 → Calls Tryz.prog 11 #[.pointer (some ⟨r, 0, none⟩)] W fun e w' => e = .returned (.tuple #[]) ∧ LoneAt w w' r b m Ts.zero.led 0 9900 := fun w W r b m h => early_late h Ts.fit_zero (by decide) (by decide) (by decide)
  have T4 : ∀ w W r b m, LoneAt w W r b m Ts.zero.led 0 9900 → Calls Tryz.prog 12 #[.pointer (some ⟨r, 0, none⟩), .string { data := #[120] }] W fun e w' => e = .returned (.tuple #[.int .i64 2, .int .i64 1, .int .i64 0]) ∧ LoneAt w w' r b m sA 0 9849 := fun w W r b m h => lone_propose h [120] (by decide) sA_fit1 (by decide)
  have T5 : ∀ w W r b m, LoneAt w W r b m sA 0 9849 → Calls Tryz.prog 13 #[.pointer (some ⟨r, 0, none⟩)] W fun e w' => ∃ g o c, e = .returned (.tuple #[.string (bs []), .bool false, .slice (some ⟨g, o, none⟩) 2 c]) ∧ LoneAt w w' r b m sA 2 9849 ∧ w'.cell? ⟨g, o + 3 + 2, none⟩ = some (.string { data := #[120] }) := fun w W r b m h => by
    refine (lone_fresh h).mono ?_
    rintro e w' ⟨A, c, rfl, h1, h2⟩
    obtain ⟨A', c', he, hc⟩ := own_ents h1
    injection he with he1 _ he3
    subst he1 he3
    obtain ⟨g, o, rfl, hcc⟩ := hc (by rw [sA_log]; simp)
    have := hcc 5 (.string (bs [120])) (by rw [sA_log]; rfl)
    exact ⟨g, o, c, rfl, h2, this⟩
  have T6 : ∀ w W r b m, LoneAt w W r b m sA 2 9849 → Calls Tryz.prog 39 #[.pointer (some ⟨r, 0, none⟩)] W fun e w' => e = .returned (.int .i64 2) ∧ W = w' := fun w W r b m h => lone_role h
  have T7 : ∀ w W r b m, LoneAt w W r b m sA 2 9849 → Calls Tryz.prog 25 #[.pointer (some ⟨r, 0, none⟩)] W fun e w' => e = .returned (.int .i64 2) ∧ W = w' := fun w W r b m h => lone_commit h
  have T8 : ∀ w W r b m, LoneAt w W r b m sA 2 9849 → Calls Tryz.prog 23 #[.pointer (some ⟨r, 0, none⟩)] W fun e w' => e = .returned (.int .i64 1) ∧ W = w' := fun w W r b m h => lone_term h
  have HT1 := Lib.hid T1
  have HT2 := Lib.hid T2
  have HT3 := Lib.hid T3
  have HT4 := Lib.hid T4
  have HT5 := Lib.hid T5
  have HT6 := Lib.hid T6
  have HT7 := Lib.hid T7
  have HT8 := Lib.hid T8
  have HT := Lib.hid hT
  clear T1 T2 T3 T4 T5 T6 T7 T8 hT
  go_enter Tryz.func7, Tryz.ntmps7
  go_wp2_with (first
    | (go_at_call 38; refine (new_calls 10000 (by decide) w).mono ?_; rintro e w1 ⟨b, m, rfl, hb, hm, hD1, hk1⟩; have HD1 : Hid (DiskAt w1 b m ⟨10000, 0, false, 0, []⟩) := hD1; have HK1 := Lib.hid hk1; clear hD1 hk1)
    | (go_at_call 10; refine (HT1.out _ _ _ HD1.out (HT.out.keep HK1.out (by simp))).mono ?_; rintro e w2 ⟨r, rfl, h2⟩; have H2 := Lib.hid h2; clear h2))
  go_loopw [3] (fun a wr => ∃ j : Nat, j ≤ 3 ∧ a = .int .i64 (j : Int) ∧ EarlyAt w1 wr r b m Ts.zero j 10000) (fun a _ => 3 - (intOf a).toNat)
  case atStart => exact ⟨0, by decide, rfl, H2.out⟩
  case round =>
    obtain ⟨j, hj, rfl, hE⟩ := hrel
    have HE := Lib.hid hE
    clear hE
    by_cases hlt : j < 3
    · have d1 : decide ((j : Int) < 3) = true := by simp; omega
      go_wp2_with (go_at_call 11; refine (HT2.out _ _ _ _ _ _ HE.out hlt).mono ?_; rintro e w3 ⟨rfl, h3⟩; have H3 := Lib.hid h3; clear h3)
      go_roundw
      case rel => exact ⟨j + 1, by omega, by go_num, H3.out⟩
      case measure => simp [intOf]; omega
    · obtain rfl : j = 3 := by omega
      go_wp2_with (first
        | (go_at_call 39; refine (early_role HE.out).mono ?_; rintro e w4 ⟨rfl, rfl⟩)
        | (go_at_call 11; refine (HT3.out _ _ _ _ _ HE.out).mono ?_; rintro e w5 ⟨rfl, h5⟩; have H5 := Lib.hid h5; clear h5)
        | (go_at_call 12; refine (HT4.out _ _ _ _ _ H5.out).mono ?_; rintro e w6 ⟨rfl, h6⟩; have H6 := Lib.hid h6; clear h6)
        | (go_at_call 13; refine (HT5.out _ _ _ _ _ H6.out).mono ?_; rintro e w7 ⟨g, o, cc, rfl, h7, hc7⟩; have H7 := Lib.hid h7; clear h7)
        | (go_at_call 39; refine (HT6.out _ _ _ _ _ H7.out).mono ?_; rintro e w8 ⟨rfl, rfl⟩)
        | (go_at_call 25; refine (HT7.out _ _ _ _ _ H7.out).mono ?_; rintro e w8 ⟨rfl, rfl⟩)
        | (go_at_call 23; refine (HT8.out _ _ _ _ _ H7.out).mono ?_; rintro e w8 ⟨rfl, rfl⟩))
      go_ret
      exact ⟨rfl, HK1.out.trans' H7.out.keep (by simp; omega)⟩

end Go.Proofs.YtnlcipocobmgiaaGreatDoor
