/- The contract of glacierlaw19.shows, for a node that is up. -/
import Derived.Test.YtkplffkchanipaaGreatDoorNodesC
import Derived.Test.YtkplffkchanipaaGreatDoorRefSums
import Derived.Test.YtkplffkchanipaaGreatDoorRefNds
namespace Go.Proofs.YtkplffkchanipaaGreatDoor
open Go.RowKit
attribute [local go_sem] size_bs bs_append ba_self
variable {w w' w0 : World} {n s b m g c k : Nat} {C C' : Ck} {D D' : Dk} {X : List (Nat × List UInt8)} {u : Bool}

theorem num_ne {p q o : Nat} {t : TypeId} {cs : Array Value} {z : Int} (hB : Blk w p t cs) (hcs : ∀ (o : Nat) (z : Int), cs[o]? ≠ some (Value.int .u64 z)) (hc : w.cell? ⟨q, o, none⟩ = some (.int .u64 z)) : q ≠ p := by
  rintro rfl
  rw [hB.cell] at hc
  exact hcs _ _ hc
/-- A number of a slice of numbers stays. -/
theorem NdUp.num (h : NdUp w0 w n s b m g c C D) (hk : Keep [n, s, b, m, g] w w') {q o : Nat} {z : Int} (hc : w.cell? ⟨q, o, none⟩ = some (.int .u64 z)) : w'.cell? ⟨q, o, none⟩ = some (.int .u64 z) := by
  have e1 : q ≠ n := num_ne h.blk (fun o z => by
    match o with
    | 0 => simp [nodeV]
    | 1 => simp [nodeV]
    | 2 => simp [nodeV]
    | o + 3 => simp [nodeV]) hc
  have e2 : q ≠ s := num_ne h.at_.blk (fun o z => by
    match o with
    | 0 => simp [Ck.cells]
    | 1 => simp [Ck.cells]
    | 2 => simp [Ck.cells]
    | 3 => simp [Ck.cells]
    | 4 => simp [Ck.cells]
    | 5 => simp [Ck.cells]
    | o + 6 => simp [Ck.cells]) hc
  have e3 : q ≠ b := num_ne h.at_.disk.blk (fun o z => by
    match o with
    | 0 => simp
    | 1 => simp
    | 2 => simp
    | 3 => simp
    | 4 => simp
    | o + 5 => simp) hc
  have e4 : q ≠ m := by
    rintro rfl
    obtain ⟨es, x, hm, _⟩ := h.at_.disk.map
    simp [World.cell?, hm] at hc
  have e5 : q ≠ g := by
    rintro rfl
    obtain ⟨es, x, hm, _⟩ := h.at_.map
    simp [World.cell?, hm] at hc
  exact (hk.cell (World.block_lt_of_cell? _ _ hc) (by simp [e1, e2, e3, e4, e5])).trans hc
/-- IDs, laid open. -/
theorem NdUp.idsl (h : NdUp w0 w n s b m g c C D) (hH : Hot C D X) (hX : X.length ≤ 1000) :
    Calls Tryz.prog 36 #[.pointer (some ⟨n, 0, none⟩)] w fun e w' => ∃ A p, e = .returned (.slice A X.length p) ∧ (X ≠ [] → ∃ q, A = some ⟨q, 0, none⟩ ∧ ∀ j (hj : j < X.length), w'.cell? ⟨q, j, none⟩ = some (.int .u64 (X[j].1 : Int))) ∧ NdUp w0 w' n s b m g c C D ∧ Keep [] w w' := by
  refine (nids_calls h hH hX).mono ?_
  rintro e w' ⟨v, rfl, ⟨A, p, rfl, hn⟩, h1, h2⟩
  refine ⟨A, p, by rw [List.length_map], fun hne => ?_, h1, h2⟩
  obtain ⟨q, hq, hj⟩ := hn (by simpa using hne)
  exact ⟨q, hq, fun j hlt => by
    have := hj j (by simpa using hlt)
    rw [List.getElem_map] at this
    exact this⟩

set_option maxRecDepth 100000 in
set_option maxHeartbeats 4000000 in
theorem shows_up (h : NdUp w0 w n s b m g c C D) (hH : Hot C D X) (ha : D.armed = 0) (hX : X.length ≤ 1000) (hdat : ∀ p ∈ X, p.2.length ≤ 40) {vx : Value} {base : Nat} (hO : OwnX w base vx X) (i : Nat) :
    Calls Tryz.prog 48 #[.pointer (some ⟨n, 0, none⟩), .agg #[vx, .bool true, .bool false], .int .u64 (i : Int)] w fun e w' => e = .returned (.bool true) ∧ NdUp w0 w' n s b m g c C D ∧ Keep [n, s, b, m, g] w w' := by
  obtain ⟨Ax, cx, rfl⟩ := hO.slice
  have HI := Lib.hid (NdUp.idsl (w0 := w0) (w := w.alloc (.cells #[.slice Ax X.length cx, .bool true, .bool false] 84)) (h.grow ((Keep.refl _ _).alloc _)) hH hX)
  have HB0 : Hid (Blk (w.alloc (.cells #[.slice Ax X.length cx, .bool true, .bool false] 84)) w.heap.size 84 #[.slice Ax X.length cx, .bool true, .bool false]) := Blk.new w _ _
  have HO0 : Hid (OwnX (w.alloc (.cells #[.slice Ax X.length cx, .bool true, .bool false] 84)) base (.slice Ax X.length cx) X) := hO.keep2 ((Keep.refl [] w).alloc _) (by simp)
  have HH := Lib.hid hH
  have HD := Lib.hid (And.intro ha hdat)
  clear h hH ha hdat hO
  go_enter Tryz.func48, Tryz.ntmps48
  go_upto_region 4 with (go_at_call 36; refine HI.out.mono ?_; rintro e w2 ⟨Ai, ci, rfl, hids, hu, hk⟩; have hb2 := HB0.out.keep hk (by simp); have z0 : w2.cell? ⟨w.heap.size, 0, none⟩ = some (.slice Ax X.length cx) := hb2.cell 0; have z1 : w2.cell? ⟨w.heap.size, 1, none⟩ = some (.bool true) := hb2.cell 1; have z2 : w2.cell? ⟨w.heap.size, 2, none⟩ = some (.bool false) := hb2.cell 2; have HB2 := Lib.hid hb2; have HU2 := Lib.hid hu; have HO2 := Lib.hid (HO0.out.keep2 hk (by simp)); have HIDS := Lib.hid hids; have HK2 : Hid (Keep [] w w2) := ((Keep.refl [] w).alloc _).trans hk; clear hids hu hk hb2)
  obtain ⟨hz, HZ⟩ : ∃ y : Bool, Hid ((lookX i X).isSome = y ∧ decide (0 ≤ findV i X) = y) := by
    cases hl : lookX i X with
    | none => exact ⟨false, rfl, by rw [findV_none hl]; rfl⟩
    | some d =>
      obtain ⟨k, _, h2, _⟩ := findV_some hl
      exact ⟨true, rfl, by rw [h2]; exact decide_eq_true (by omega)⟩
  have HC4 : Hid (∀ W, Keep [] w2 W → World.cell? W ⟨w.heap.size, 0, none⟩ = some (.slice Ax X.length cx)) := fun W hW => (HB2.out.keep hW (by simp)).cell 0
  have TH : Hid (∀ W, Keep [] w2 W → Calls Tryz.prog 35 #[.pointer (some ⟨n, 0, none⟩), .int .u64 (i : Int)] W fun e w' => e = .returned (.bool hz) ∧ Keep [] W w') := fun W hW => by
    have T := nhas_calls (HU2.out.grow hW) HH.out i
    rw [HZ.out.1] at T
    exact T.mono fun e w' ⟨h1, _, h3⟩ => ⟨h1, h3⟩
  have TF : Hid (∀ W, Keep [] w2 W → Calls Tryz.prog 76 #[.slice Ax X.length cx, .int .u64 (i : Int)] W fun e w' => e = .returned (.int .i64 (findV i X)) ∧ Keep [] W w') := fun W hW => findX_calls X _ i W (HO2.out.at_.keep hW) (by omega)
  have hf := HZ.out.2
  generalize findV i X = fv at *
  go_region_held3 (fun w' => World.cell? w' ⟨w.heap.size, 0, none⟩ = some (.slice Ax X.length cx))
    (first
      | (exact HC4.out _ (by repeat (first | exact Keep.refl _ _ | exact HK4.out | refine Keep.drew ?_ | refine Keep.drewN ?_ _ | refine Keep.alloc ?_ _)))
      | fail)
    (first
      | (go_at_call 35; refine (TH.out _ (by repeat (first | exact Keep.refl _ _ | exact HK4.out | refine Keep.drew ?_ | refine Keep.drewN ?_ _ | refine Keep.alloc ?_ _))).mono ?_; rintro e w3 ⟨rfl, hk3⟩; have HK4 : Hid (Keep [] w2 w3) := Keep.trans (M := []) (by repeat (first | exact Keep.refl _ _ | exact HK4.out | refine Keep.drew ?_ | refine Keep.drewN ?_ _ | refine Keep.alloc ?_ _)) hk3; clear hk3)
      | (go_at_call 76; refine (TF.out _ (by repeat (first | exact Keep.refl _ _ | exact HK4.out | refine Keep.drew ?_ | refine Keep.drewN ?_ _ | refine Keep.alloc ?_ _))).mono ?_; rintro e w4 ⟨rfl, hk3⟩; have HK4 : Hid (Keep [] w2 w4) := Keep.trans (M := []) (by repeat (first | exact Keep.refl _ _ | exact HK4.out | refine Keep.drew ?_ | refine Keep.drewN ?_ _ | refine Keep.alloc ?_ _)) hk3; clear hk3)
      | fail)
  have z0 : w4.cell? ⟨w.heap.size, 0, none⟩ = some (.slice Ax X.length cx) := HC4.out _ HK4.out
  have HU4 := Lib.hid (HU2.out.grow HK4.out)
  have HO4 := Lib.hid (HO2.out.keep2 HK4.out (by simp))
  have HI4 : Hid (X ≠ [] → ∃ q, Ai = some ⟨q, 0, none⟩ ∧ ∀ j (hj : j < X.length), w4.cell? ⟨q, j, none⟩ = some (.int .u64 (X[j].1 : Int))) := fun hne => by
    obtain ⟨q, h1, h2⟩ := HIDS.out hne
    exact ⟨q, h1, fun j hj => (HK4.out.cell (World.block_lt_of_cell? _ _ (h2 j hj)) (by simp)).trans (h2 j hj)⟩
  have HK0 : Hid (Keep [n, s, b, m, g] w w4) := (HK2.out.trans HK4.out).mono (by simp)
  clear HI HB0 HO0 HB2 HU2 HO2 HIDS HK2 HK4 HC4 TH TF HZ hf
  go_wp2
  go_loopw [53] (fun x wr => ∃ j : Nat, j ≤ X.length ∧ x = .int .i64 (j : Int) ∧ NdUp w0 wr n s b m g c C D ∧ Keep [n, s, b, m, g] w4 wr) (fun x _ => X.length - (intOf x).toNat)
  case atStart => exact ⟨0, Nat.zero_le _, rfl, HU4.out, Keep.refl _ _⟩
  case round =>
    obtain ⟨j, hj, rfl, hu, hk⟩ := hrel
    have HU := Lib.hid hu
    have HK := Lib.hid hk
    by_cases hlt : j < X.length
    · have d3 : decide ((j : Int) < (X.length : Int)) = true := decide_eq_true (by omega)
      have hne : X ≠ [] := by intro h; rw [h] at hlt; simp at hlt
      obtain ⟨A1, c1, hv1, hc1⟩ := ((HU4.out.stay hk).own _ _ _ HO4.out).at_
      injection hv1 with e1 e2 e3
      subst e1
      clear e2 e3
      obtain ⟨gy, o2, rfl, hc⟩ := hc1 hne
      obtain ⟨y0, y1⟩ := hc j hlt
      obtain ⟨gi, rfl, hidj⟩ := HI4.out hne
      have y2 := HU4.out.num hk (hidj j hlt)
      have hlook := look_ofX HH.out.sure.asc (List.getElem_mem hlt)
      have hd : X[j].2.length ≤ 40 := HD.out.2 _ (List.getElem_mem hlt)
      clear hc hc1 hidj hu hk
      generalize X[j] = ee at *
      obtain ⟨ei, ed⟩ := ee
      simp only at y0 y1 y2 hlook hd
      have hcb := crc_bd ed
      have hd2 : ed.length ≤ 4611686018427387904 := Nat.le_trans hd (by decide)
      have TV : Hid (∀ W, NdUp w0 W n s b m g c C D → _) := fun W (hW : NdUp w0 W n s b m g c C D) => nver_ok hW HH.out HD.out.1 hlook hd2
      have TB : Hid (∀ W q, NdUp w0 W n s b m g c C D → (crc ed == q) = false → _) := fun W q (hW : NdUp w0 W n s b m g c C D) hq => nver_bad hW HH.out HD.out.1 hlook hd2 q hq
      have TS : Hid (∀ W, NdUp w0 W n s b m g c C D → _) := fun W (hW : NdUp w0 W n s b m g c C D) => nsure_up hW HH.out HD.out.1 hlook hd2
      have TL : Hid (∀ W q y, NdUp w0 W n s b m g c C D → ((ed.length : Int) == q) = false → _) := fun W q y (hW : NdUp w0 W n s b m g c C D) hq => nsure_long hW HH.out HD.out.1 hlook q y hq
      have TR : Hid (∀ W, _) := fun W => refSum_calls ed (Nat.le_trans hd (by decide)) W
      clear hlook hd2
      generalize crc ed = z at *
      have HBW : Hid (Blk (wr.alloc (.cells #[.int .u64 (ei : Int), .string (bs ed)] 32)) wr.heap.size 32 #[.int .u64 (ei : Int), .string (bs ed)]) := Blk.new wr 32 #[.int .u64 (ei : Int), .string (bs ed)]
      have HKA : Hid (Keep [] wr (wr.alloc (.cells #[.int .u64 (ei : Int), .string (bs ed)] 32))) := (Keep.refl [] wr).alloc _
      have HUA := Lib.hid (HU.out.grow HKA.out)
      go_upto_region 12 with (first
        | (go_at_call 41; refine (TR.out _).mono ?_; rintro e w5 ⟨rfl, hk⟩; have hb5 := HBW.out.keep hk (by simp); have y0 : w5.cell? ⟨wr.heap.size, 0, none⟩ = some (.int .u64 (ei : Int)) := hb5.cell 0; have y1 : w5.cell? ⟨wr.heap.size, 1, none⟩ = some (.string (bs ed)) := hb5.cell 1; have HB5 := Lib.hid hb5; have HU5 := Lib.hid (HUA.out.grow hk); have HK5 : Hid (Keep [n, s, b, m, g] wr w5) := (HKA.out.trans hk).mono (by simp); clear hb5 hk)
        | (go_at_call 77; (with_reducible refine (TV.out _ HU5.out).mono ?_); rintro e w6 ⟨rfl, hu, hk⟩; have hb6 := (HU5.out.stay hk).blk _ _ _ (by decide) (by decide) (by decide) HB5.out; have y0 : w6.cell? ⟨wr.heap.size, 0, none⟩ = some (.int .u64 (ei : Int)) := hb6.cell 0; have y1 : w6.cell? ⟨wr.heap.size, 1, none⟩ = some (.string (bs ed)) := hb6.cell 1; have HB6 := Lib.hid hb6; have HU6 := Lib.hid hu; have HK6 : Hid (Keep [n, s, b, m, g] wr w6) := HK5.out.trans hk; clear hb6 hk hu)
        | (go_at_call 77; refine (TB.out _ _ HU6.out (beq_eq_false_iff_ne.2 (by omega))).mono ?_; rintro e w7 ⟨rfl, hu, hk⟩; have hb7 := (HU6.out.stay hk).blk _ _ _ (by decide) (by decide) (by decide) HB6.out; have y0 : w7.cell? ⟨wr.heap.size, 0, none⟩ = some (.int .u64 (ei : Int)) := hb7.cell 0; have y1 : w7.cell? ⟨wr.heap.size, 1, none⟩ = some (.string (bs ed)) := hb7.cell 1; have HB7 := Lib.hid hb7; have HU7 := Lib.hid hu; have HK7 : Hid (Keep [n, s, b, m, g] wr w7) := HK6.out.trans hk; have y2 := HU.out.num HK7.out y2; clear hb7 hk hu))
      have hwr : IntKind.i64.wrap ((ed.length : Int) + 1) = (ed.length : Int) + 1 := by rw [IntWalk.i64_in _ (by omega)]
      have HS : Hid (∀ W, Keep [n, s, b, m, g] w7 W → World.cell? W ⟨gi, j, none⟩ = some (.int .u64 (ei : Int)) ∧ World.cell? W ⟨wr.heap.size, 0, none⟩ = some (.int .u64 (ei : Int)) ∧ World.cell? W ⟨wr.heap.size, 1, none⟩ = some (.string (bs ed))) := fun W hW => by
        have hb := (HU7.out.stay hW).blk _ _ _ (by decide) (by decide) (by decide) HB7.out
        exact ⟨HU7.out.num hW y2, hb.cell 0, hb.cell 1⟩
      go_region_held3 (fun w' => World.cell? w' ⟨gi, j, none⟩ = some (.int .u64 (ei : Int)) ∧ World.cell? w' ⟨wr.heap.size, 0, none⟩ = some (.int .u64 (ei : Int)) ∧ World.cell? w' ⟨wr.heap.size, 1, none⟩ = some (.string (bs ed)))
        (first
          | (exact HS.out _ (by repeat (first | exact Keep.refl _ _ | exact HK9.out | exact HK8.out | refine Keep.drew ?_ | refine Keep.drewN ?_ _ | refine Keep.alloc ?_ _)))
          | fail)
        (first
          | (go_at_call 40; (with_reducible refine (TS.out _ (HU7.out.grow (by repeat (first | exact Keep.refl _ _ | refine Keep.drew ?_ | refine Keep.drewN ?_ _ | refine Keep.alloc ?_ _)))).mono ?_); rintro e w8 ⟨rfl, hu, hk⟩; have HK8 : Hid (Keep [n, s, b, m, g] w7 w8) := Keep.trans (M := [n, s, b, m, g]) (by repeat (first | exact Keep.refl _ _ | refine Keep.drew ?_ | refine Keep.drewN ?_ _ | refine Keep.alloc ?_ _)) hk; have HU8 := Lib.hid hu; clear hu hk)
          | (go_at_call 40; refine (TL.out _ _ _ (HU8.out.grow (by repeat (first | exact Keep.refl _ _ | refine Keep.drew ?_ | refine Keep.drewN ?_ _ | refine Keep.alloc ?_ _))) (beq_eq_false_iff_ne.2 (by omega))).mono ?_; rintro e w9 ⟨rfl, hu, hk⟩; have HK9 : Hid (Keep [n, s, b, m, g] w7 w9) := Keep.trans (M := [n, s, b, m, g]) (by repeat (first | exact Keep.refl _ _ | exact HK9.out | exact HK8.out | refine Keep.drew ?_ | refine Keep.drewN ?_ _ | refine Keep.alloc ?_ _)) hk; have HU9 := Lib.hid hu; clear hu hk)
          | fail)
      all_goals
        go_wp2
        go_roundw
        case rel => exact ⟨j + 1, by omega, by go_num, HU9.out, (HK.out.trans HK7.out).trans HK9.out⟩
        case measure => simp [intOf]; omega
    · obtain rfl : j = X.length := by omega
      have d3 : decide ((X.length : Int) < (X.length : Int)) = false := by simp
      clear hu hk
      go_wp2
      go_ret
      exact ⟨rfl, HU.out, HK0.out.trans HK.out⟩

end Go.Proofs.YtkplffkchanipaaGreatDoor
/- What a walk of NodePlays carries: the node, lost or not, and the document's own. -/
namespace Go.Proofs.YtkplffkchanipaaGreatDoor
open Go.RowKit
attribute [local go_sem] size_bs bs_append ba_self
variable {w w' w0 : World} {n s b m g c k k' : Nat} {C C' : Ck} {D D' : Dk} {X X' : List (Nat × List UInt8)} {u lo : Bool} {vx : Value}

/-- A node in memory, whatever its disk holds. -/
def NB (u : Bool) (w0 w : World) (n b m : Nat) (D : Dk) : Prop := match u with
  | true => D.Names segNames ∧ ∃ s g c C, NdUp w0 w n s b m g c C D
  | false => ∃ c, NdDown w0 w n b m c D
/-- A node whose disk is lost. -/
def LSt (u : Bool) (w0 w : World) (n b m : Nat) (D : Dk) : Prop := D.lost = true ∧ D.Good ∧ NB u w0 w n b m D
theorem LSt.off (h : LSt u w0 w n b m D) : Off w n := by
  obtain ⟨h1, _, h⟩ := h
  cases u with
  | true => obtain ⟨_, s, g, c, C, h⟩ := h; exact h.off h1
  | false => obtain ⟨c, h⟩ := h; exact h.off
theorem LSt.grow (h : LSt u w0 w n b m D) (hk : Keep [] w w') : LSt u w0 w' n b m D := by
  obtain ⟨h1, h2, h⟩ := h
  refine ⟨h1, h2, ?_⟩
  cases u with
  | true => obtain ⟨h3, s, g, c, C, h⟩ := h; exact ⟨h3, s, g, c, C, h.grow hk⟩
  | false => obtain ⟨c, h⟩ := h; exact ⟨c, h.grow hk⟩
theorem LSt.keep (h : LSt u w0 w n b m D) : Keep [] w0 w := by
  obtain ⟨_, _, h⟩ := h
  cases u with
  | true => obtain ⟨_, s, g, c, C, h⟩ := h; exact h.keep
  | false => obtain ⟨c, h⟩ := h; exact h.keep
theorem LSt.c0 (h : LSt u w0 w n b m D) : w.cell? ⟨n, 0, none⟩ = some (.pointer (some ⟨b, 0, none⟩)) := by
  obtain ⟨_, _, h⟩ := h
  cases u with
  | true => obtain ⟨_, s, g, c, C, h⟩ := h; exact h.blk.cell 0
  | false => obtain ⟨c, h⟩ := h; exact h.blk.cell 0
/-- A node, lost or not. -/
def PN (u lo : Bool) (w0 w : World) (n b m k : Nat) (D : Dk) (X : List (Nat × List UInt8)) : Prop := match lo with
  | false => NdS u w0 w n b m k D X ∧ D.armed = 0 ∧ D.room = 1048576 ∧ D.used ≤ 10050 * (k : Int)
  | true => LSt u w0 w n b m D
theorem PN.keep (h : PN u lo w0 w n b m k D X) : Keep [] w0 w := by
  cases lo with
  | false => exact h.1.keep
  | true => exact LSt.keep h
theorem PN.c0 (h : PN u lo w0 w n b m k D X) : w.cell? ⟨n, 0, none⟩ = some (.pointer (some ⟨b, 0, none⟩)) := by
  cases lo with
  | false => exact h.1.c0
  | true => exact LSt.c0 h
theorem PN.grow (h : PN u lo w0 w n b m k D X) (hk : Keep [] w w') : PN u lo w0 w' n b m k D X := by
  cases lo with
  | false => exact ⟨h.1.grow hk, h.2⟩
  | true => exact LSt.grow h hk
theorem PN.mono (h : PN u lo w0 w n b m k D X) (hk : k ≤ k') : PN u lo w0 w n b m k' D X := by
  cases lo with
  | false => exact ⟨h.1.mono hk, h.2.1, h.2.2.1, by have := h.2.2.2; omega⟩
  | true => exact h
theorem NdUp.beside {p : Nat} {t : TypeId} {cs : Array Value} (h : NdUp w0 w n s b m g c C D) (hB : Blk w p t cs) (hk : Keep [p] w w') (t1 : t ≠ 69) (t2 : t ≠ 94) (t3 : t ≠ 44) (hc : cs[0]? ≠ some (.int .u32 0)) (hp : w0.heap.size ≤ p) : NdUp w0 w' n s b m g c C D := by
  have e1 : p ≠ n := hB.ne_ h.blk t1
  have e2 : p ≠ s := hB.ne_ h.at_.blk t2
  have e3 : p ≠ b := hB.ne_ h.at_.disk.blk t3
  have e4 : p ≠ m := fun e => h.at_.disk.map.ne_ hB e.symm
  have e5 : p ≠ g := fun e => h.at_.map.ne_ hB e.symm
  have e6 := h.at_.tab.ne_blk hB hc
  refine ⟨h.blk.keep hk (by simpa using Ne.symm e1), h.at_.keep hk fun x hx => ?_, h.lo, h.keep.trans' hk fun x hx => .inr ?_⟩
  · simp only [List.mem_cons, List.not_mem_nil, or_false] at hx
    subst hx
    exact ⟨by simp [e2, e3, e4, e5], e6.symm⟩
  · simp only [List.mem_cons, List.not_mem_nil, or_false] at hx
    subst hx
    exact hp
theorem NdDown.beside {p : Nat} {t : TypeId} {cs : Array Value} (h : NdDown w0 w n b m c D) (hB : Blk w p t cs) (hk : Keep [p] w w') (t1 : t ≠ 69) (t3 : t ≠ 44) (hc : cs[0]? ≠ some (.int .u32 0)) (hp : w0.heap.size ≤ p) : NdDown w0 w' n b m c D := by
  have e1 : p ≠ n := hB.ne_ h.blk t1
  have e3 : p ≠ b := hB.ne_ h.disk.blk t3
  have e4 : p ≠ m := fun e => h.disk.map.ne_ hB e.symm
  have e6 := h.tab.ne_blk hB hc
  refine ⟨h.blk.keep hk (by simpa using Ne.symm e1), h.disk.keep hk (by simpa using Ne.symm e3) (by simpa using Ne.symm e4), h.tab.keep hk (by simpa using e6), h.lo, h.keep.trans' hk fun x hx => .inr ?_⟩
  simp only [List.mem_cons, List.not_mem_nil, or_false] at hx
  subst hx
  exact hp
theorem PN.beside {p : Nat} {t : TypeId} {cs : Array Value} (h : PN u lo w0 w n b m k D X) (hB : Blk w p t cs) (hk : Keep [p] w w') (t1 : t ≠ 69) (t2 : t ≠ 94) (t3 : t ≠ 44) (hc : cs[0]? ≠ some (.int .u32 0)) (hp : w0.heap.size ≤ p) : PN u lo w0 w' n b m k D X := by
  cases lo with
  | false =>
    obtain ⟨⟨h0, h⟩, h2⟩ := h
    refine ⟨⟨h0, ?_⟩, h2⟩
    cases u with
    | true => obtain ⟨s, g, c, C, h, h3⟩ := h; exact ⟨s, g, c, C, h.beside hB hk t1 t2 t3 hc hp, h3⟩
    | false => obtain ⟨c, h, h3⟩ := h; exact ⟨c, h.beside hB hk t1 t3 hc hp, h3⟩
  | true =>
    obtain ⟨h1, h2, h⟩ := h
    refine ⟨h1, h2, ?_⟩
    cases u with
    | true => obtain ⟨h3, s, g, c, C, h⟩ := h; exact ⟨h3, s, g, c, C, h.beside hB hk t1 t2 t3 hc hp⟩
    | false => obtain ⟨c, h⟩ := h; exact ⟨c, h.beside hB hk t1 t3 hc hp⟩
theorem PN.up (h : PN u lo w0 w n b m k D X) : Calls Tryz.prog 43 #[.pointer (some ⟨n, 0, none⟩)] w fun e w' => e = .returned (.bool (u && !lo)) ∧ w = w' := by
  cases lo with
  | false => rw [Bool.not_false, Bool.and_true]; exact h.1.up
  | true => rw [Bool.not_true, Bool.and_false]; exact LSt.off h
/-- What is there behind a Put, a Drop. -/
def putS (a : Bool) (X : List (Nat × List UInt8)) (i : Nat) (d : List UInt8) : List (Nat × List UInt8) := if putE a X i d = 0 then putX (i, d) X else X
def dropS (a : Bool) (X : List (Nat × List UInt8)) (i : Nat) : List (Nat × List UInt8) := if dropE a X i = 0 then dropX i X else X
theorem putE_off (X : List (Nat × List UInt8)) (i : Nat) (d : List UInt8) : putE false X i d = 9 := rfl
theorem dropE_off (X : List (Nat × List UInt8)) (i : Nat) : dropE false X i = 9 := rfl
theorem putS_off (X : List (Nat × List UInt8)) (i : Nat) (d : List UInt8) : putS false X i d = X := rfl
theorem dropS_off (X : List (Nat × List UInt8)) (i : Nat) : dropS false X i = X := rfl
theorem getE_off (X : List (Nat × List UInt8)) (i : Nat) : getE false X i = ([], 9) := rfl
theorem PN.put (h : PN u lo w0 w n b m k D X) (hk : k < 97) {i : Nat} (hi : i < 18446744073709551616) {d : List UInt8} (hd : d.length ≤ 40) :
    Calls Tryz.prog 32 #[.pointer (some ⟨n, 0, none⟩), .int .u64 (i : Int), .string (bs d)] w fun e w' => e = .returned (.int .i64 (putE (u && !lo) X i d)) ∧ Stay w w' ∧ ∃ D', PN u lo w0 w' n b m (k + 3) D' (putS (u && !lo) X i d) := by
  cases lo with
  | false =>
    rw [Bool.not_false, Bool.and_true]
    obtain ⟨h1, h2, h3, h4⟩ := h
    refine (h1.put_ok hk h2 (by omega) hi hd).mono ?_
    rintro e w' ⟨q1, rfl, D', q2, q3, q4, q5⟩
    exact ⟨rfl, q1, D', q2, q4, q3.trans h3, by omega⟩
  | true =>
    rw [Bool.not_true, Bool.and_false]
    refine (nput_off (LSt.off h) (i : Int) (bs d)).mono ?_
    rintro e w' ⟨rfl, rfl⟩
    exact ⟨rfl, Stay.refl _, D, h⟩
theorem PN.drop (h : PN u lo w0 w n b m k D X) (hk : k < 97) {i : Nat} (hi : i < 18446744073709551616) :
    Calls Tryz.prog 34 #[.pointer (some ⟨n, 0, none⟩), .int .u64 (i : Int)] w fun e w' => e = .returned (.int .i64 (dropE (u && !lo) X i)) ∧ Stay w w' ∧ ∃ D', PN u lo w0 w' n b m (k + 3) D' (dropS (u && !lo) X i) := by
  cases lo with
  | false =>
    rw [Bool.not_false, Bool.and_true]
    obtain ⟨h1, h2, h3, h4⟩ := h
    refine (h1.drop_ok hk h2 (by omega) hi).mono ?_
    rintro e w' ⟨q1, rfl, D', q2, q3, q4, q5⟩
    exact ⟨rfl, q1, D', q2, q4, q3.trans h3, by omega⟩
  | true =>
    rw [Bool.not_true, Bool.and_false]
    refine (ndrop_off (LSt.off h) (i : Int)).mono ?_
    rintro e w' ⟨rfl, rfl⟩
    exact ⟨rfl, Stay.refl _, D, h⟩
theorem PN.get (h : PN u lo w0 w n b m k D X) (i : Nat) :
    Calls Tryz.prog 33 #[.pointer (some ⟨n, 0, none⟩), .int .u64 (i : Int)] w fun e w' => e = .returned (.tuple #[.string (bs (getE (u && !lo) X i).1), .int .i64 (getE (u && !lo) X i).2]) ∧ Stay w w' ∧ PN u lo w0 w' n b m k D X := by
  cases lo with
  | false =>
    rw [Bool.not_false, Bool.and_true]
    obtain ⟨h1, h2, h3, h4⟩ := h
    refine (h1.get h2 i).mono ?_
    rintro e w' ⟨q1, rfl, q2⟩
    exact ⟨rfl, q1, q2, h2, h3, h4⟩
  | true =>
    rw [Bool.not_true, Bool.and_false]
    refine (nget_off (LSt.off h) (i : Int)).mono ?_
    rintro e w' ⟨rfl, rfl⟩
    exact ⟨rfl, Stay.refl _, h⟩
theorem PN.stop (h : PN u lo w0 w n b m k D X) (hk : k < 97) (v : Value) (ch : List Int) (hb : ∀ x ∈ ch, -9223372036854775808 ≤ x ∧ x ≤ 9223372036854775807) (hv : ∀ W, Keep [] w0 W → IntsAt W v ch) :
    Calls Tryz.prog 38 #[.pointer (some ⟨n, 0, none⟩), v] w fun e w' => e = .returned (.int .i64 (if u = true then 0 else 9)) ∧ Stay w w' ∧ ∃ D', PN false lo w0 w' n b m (k + 3) D' X := by
  cases lo with
  | false =>
    obtain ⟨h1, h2, h3, h4⟩ := h
    refine (h1.stop hk v ch hb fun W _ hW => hv W hW).mono ?_
    rintro e w' ⟨q1, rfl, q2⟩
    exact ⟨rfl, q1, D, q2, h2, h3, by omega⟩
  | true =>
    obtain ⟨h1, h2, h⟩ := h
    cases u with
    | false =>
      obtain ⟨c, h⟩ := h
      refine (nstop_down h v).mono ?_
      rintro e w' ⟨rfl, rfl⟩
      exact ⟨rfl, Stay.refl _, D, h1, h2, c, h⟩
    | true =>
      obtain ⟨h3, s, g, c, C, h⟩ := h
      obtain ⟨a1, a2, a3, _⟩ := Dk.crash_look h2 h3 ch
      refine (nstop_up h h2 h3 v ch hb fun W hW => hv W (h.keep.trans' hW fun x hx => h.sub x (by simp at hx ⊢; rcases hx with hx | hx | hx <;> simp [hx]))).mono ?_
      rintro e w' ⟨rfl, q1, q2⟩
      exact ⟨rfl, h.stay (q2.mono (by simp)), _, a3.trans h1, a1, c, q1⟩
theorem PN.start (h : PN u lo w0 w n b m k D X) (h1k : 1 ≤ k) (hk : k < 97) :
    Calls Tryz.prog 39 #[.pointer (some ⟨n, 0, none⟩)] w fun e w' => e = .returned (.int .i64 (if lo = true then 14 else if u = true then 6 else 0)) ∧ Stay w w' ∧ ∃ D', PN (u || !lo) lo w0 w' n b m (k + 3) D' X := by
  cases lo with
  | false =>
    rw [Bool.not_false, Bool.or_true]
    obtain ⟨h1, h2, h3, h4⟩ := h
    refine (h1.start h1k hk).mono ?_
    rintro e w' ⟨q1, rfl, D', q2, q3, q4, q5, _⟩
    exact ⟨rfl, q1, D', q2, q5 h2, q3.trans h3, by omega⟩
  | true =>
    rw [Bool.not_true, Bool.or_false]
    have h0 := h
    obtain ⟨h1, h2, h⟩ := h
    cases u with
    | false =>
      obtain ⟨c, h⟩ := h
      refine (nstart_lost h h1).mono ?_
      rintro e w' ⟨rfl, rfl⟩
      exact ⟨rfl, Stay.refl _, D, h0⟩
    | true =>
      obtain ⟨h3, s, g, c, C, h⟩ := h
      have T := nstart_up h
      rw [h1, if_pos rfl] at T
      refine T.mono ?_
      rintro e w' ⟨rfl, rfl⟩
      exact ⟨rfl, Stay.refl _, D, h0⟩
theorem Dk.Good.lose (h : D.Good) : Dk.Good { D with lost := true } := ⟨⟨h.ok.room, h.ok.used, h.ok.fits, h.ok.armed⟩, h.clean⟩
theorem PN.lose (h : PN u lo w0 w n b m k D X) :
    Calls Tryz.prog 42 #[.pointer (some ⟨b, 2, none⟩)] w fun e w' => e = .returned (.tuple #[]) ∧ Stay w w' ∧ ∃ D', PN u true w0 w' n b m (k + 3) D' X := by
  have key : D.Good ∧ NB u w0 w n b m D := by
    cases lo with
    | false =>
      obtain ⟨h1, _⟩ := h
      refine ⟨h1.here.good, ?_⟩
      have hN := h1.here.names
      obtain ⟨_, h⟩ := h1
      cases u with
      | true => obtain ⟨s, g, c, C, h, _⟩ := h; exact ⟨hN, s, g, c, C, h⟩
      | false => obtain ⟨c, h, _⟩ := h; exact ⟨c, h⟩
    | true => exact ⟨h.2.1, h.2.2⟩
  obtain ⟨hg, hx⟩ := key
  clear h
  cases u with
  | true =>
    obtain ⟨hN, s, g, c, C, h⟩ := hx
    refine (lose_calls h.at_.disk).mono ?_
    rintro e w' ⟨rfl, hd, hk⟩
    exact ⟨rfl, h.stay (hk.mono (by simp)), _, rfl, hg.lose, ⟨hN.nodup, hN.mem⟩, s, g, c, C, h.set (hk.mono (by simp)) (h.at_.setDisk (hk.mono (by simp)) hd)⟩
  | false =>
    obtain ⟨c, h⟩ := hx
    refine (lose_calls h.disk).mono ?_
    rintro e w' ⟨rfl, hd, hk⟩
    exact ⟨rfl, h.stay (hk.mono (by simp)), _, rfl, hg.lose, c, h.setd (hk.mono (by simp)) hd⟩

end Go.Proofs.YtkplffkchanipaaGreatDoor
/- The document's node and shows, whatever the node is. -/
namespace Go.Proofs.YtkplffkchanipaaGreatDoor
open Go.RowKit
attribute [local go_sem] size_bs bs_append ba_self
variable {w w' w0 : World} {n s b m g c k k' : Nat} {C C' : Ck} {D D' : Dk} {X X' : List (Nat × List UInt8)} {u lo : Bool} {vx : Value}

theorem rput_calls {base : Nat} (hO : OwnX w base vx X) (hb : base ≤ w.heap.size) (hn : X.length ≤ 1000000) (u lo : Bool) (i : Nat) (d : List UInt8) :
    Calls Tryz.prog 45 #[.agg #[vx, .bool u, .bool lo], .agg #[.int .u64 (i : Int), .string (bs d)]] w fun e w' => ∃ A p, e = .returned (.tuple #[.agg #[.slice A (putS (u && !lo) X i d).length p, .bool u, .bool lo], .int .i64 (putE (u && !lo) X i d)]) ∧ OwnX w' base (.slice A (putS (u && !lo) X i d).length p) (putS (u && !lo) X i d) ∧ Keep [] w w' := by
  obtain ⟨A, p, rfl⟩ := hO.slice
  cases ha : (u && !lo) with
  | false =>
    refine (rput_off (w := w) (i := i) (d := d) A X.length p ha).mono ?_
    rintro e w' ⟨rfl, hk⟩
    exact ⟨A, p, rfl, hO.keep2 hk (by simp), hk⟩
  | true =>
    obtain ⟨rfl, rfl⟩ : u = true ∧ lo = false := by revert ha; cases u <;> cases lo <;> simp
    cases hl : lookX i X with
    | none =>
      have e1 : putE true X i d = 0 := by unfold putE; rw [if_neg (by simp), hl]
      have e2 : putS true X i d = putX (i, d) X := by unfold putS; rw [if_pos e1]
      rw [e1, e2]
      refine (rput_none (d := d) hO.at_ hn hl).mono ?_
      rintro e w' ⟨q, p', rfl, h1, h2⟩
      exact ⟨_, p', rfl, h1.mono hb, h2⟩
    | some d0 =>
      by_cases hd : d0 = d
      · subst hd
        have e1 : putE true X i d0 = 0 := by unfold putE; rw [if_neg (by simp), hl]; simp
        have e2 : putS true X i d0 = putX (i, d0) X := by unfold putS; rw [if_pos e1]
        rw [e1, e2]
        refine (rput_same hO.at_ hn hl).mono ?_
        rintro e w' ⟨q, p', rfl, h1, h2⟩
        exact ⟨_, p', rfl, h1.mono hb, h2⟩
      · have e1 : putE true X i d = 6 := by unfold putE; rw [if_neg (by simp), hl]; simp [hd]
        have e2 : putS true X i d = X := by unfold putS; rw [if_neg (by rw [e1]; decide)]
        rw [e1, e2]
        refine (rput_diff hO.at_ hn hl hd).mono ?_
        rintro e w' ⟨rfl, h2⟩
        exact ⟨A, p, rfl, hO.keep2 h2 (by simp), h2⟩
theorem rdrop_calls {base : Nat} (hO : OwnX w base vx X) (hb : base ≤ w.heap.size) (hn : X.length ≤ 1000000) (u lo : Bool) (i : Nat) :
    Calls Tryz.prog 46 #[.agg #[vx, .bool u, .bool lo], .int .u64 (i : Int)] w fun e w' => ∃ A p, e = .returned (.tuple #[.agg #[.slice A (dropS (u && !lo) X i).length p, .bool u, .bool lo], .int .i64 (dropE (u && !lo) X i)]) ∧ OwnX w' base (.slice A (dropS (u && !lo) X i).length p) (dropS (u && !lo) X i) ∧ Keep [] w w' := by
  obtain ⟨A, p, rfl⟩ := hO.slice
  cases ha : (u && !lo) with
  | false =>
    refine (rdrop_off (w := w) A X.length p ha (i : Int)).mono ?_
    rintro e w' ⟨rfl, hk⟩
    exact ⟨A, p, rfl, hO.keep2 hk (by simp), hk⟩
  | true =>
    obtain ⟨rfl, rfl⟩ : u = true ∧ lo = false := by revert ha; cases u <;> cases lo <;> simp
    cases hl : lookX i X with
    | none =>
      have e1 : dropE true X i = 5 := by unfold dropE; rw [if_neg (by simp), hl]; rfl
      have e2 : dropS true X i = X := by unfold dropS; rw [if_neg (by rw [e1]; decide)]
      rw [e1, e2]
      refine (rdrop_none hO.at_ hn hl).mono ?_
      rintro e w' ⟨rfl, h2⟩
      exact ⟨A, p, rfl, hO.keep2 h2 (by simp), h2⟩
    | some d0 =>
      have e1 : dropE true X i = 0 := by unfold dropE; rw [if_neg (by simp), hl]; rfl
      have e2 : dropS true X i = dropX i X := by unfold dropS; rw [if_pos e1]
      rw [e1, e2]
      refine (rdrop_some hO.at_ hn hl).mono ?_
      rintro e w' ⟨q, p', rfl, h1, h2⟩
      exact ⟨_, p', rfl, h1.mono hb, h2⟩
theorem rget_calls {base : Nat} (hO : OwnX w base vx X) (hn : X.length ≤ 1000000) (u lo : Bool) (i : Nat) :
    Calls Tryz.prog 47 #[.agg #[vx, .bool u, .bool lo], .int .u64 (i : Int)] w fun e w' => e = .returned (.tuple #[.string (bs (getE (u && !lo) X i).1), .int .i64 (getE (u && !lo) X i).2]) ∧ Keep [] w w' := by
  cases ha : (u && !lo) with
  | false => exact rget_off ha (i : Int)
  | true =>
    obtain ⟨rfl, rfl⟩ : u = true ∧ lo = false := by revert ha; cases u <;> cases lo <;> simp
    cases hl : lookX i X with
    | none =>
      have e1 : getE true X i = ([], 5) := by unfold getE; rw [if_neg (by simp), hl]
      rw [e1]
      exact rget_none hO.at_ hn hl
    | some d0 =>
      have e1 : getE true X i = (d0, 0) := by unfold getE; rw [if_neg (by simp), hl]
      rw [e1]
      exact rget_some hO.at_ hn hl

set_option maxRecDepth 100000 in
set_option maxHeartbeats 800000 in
theorem shows_off (h : ∀ W, Keep [] w W → Off W n) (A : Option Addr) (l p : Nat) (ha : (u && !lo) = false) (i : Int) :
    Calls Tryz.prog 48 #[.pointer (some ⟨n, 0, none⟩), .agg #[.slice A l p, .bool u, .bool lo], .int .u64 i] w fun e w' => e = .returned (.bool true) ∧ Keep [] w w' := by
  have HI := Lib.hid (nids_off (h (w.alloc (.cells #[.slice A l p, .bool u, .bool lo] 84)) ((Keep.refl _ _).alloc _)))
  have HH := Lib.hid (nhas_off (h (w.alloc (.cells #[.slice A l p, .bool u, .bool lo] 84)) ((Keep.refl _ _).alloc _)) i)
  clear h
  cases u with
  | false =>
    clear ha
    go_enter Tryz.func48, Tryz.ntmps48
    go_wp2_with (first
      | (go_at_call 36; refine HI.out.mono ?_; rintro e w2 ⟨rfl, rfl⟩)
      | (go_at_call 35; refine HH.out.mono ?_; rintro e w2 ⟨rfl, rfl⟩))
    go_ret
    exact ⟨rfl, (Keep.refl _ _).alloc _⟩
  | true =>
    obtain rfl : lo = true := by revert ha; cases lo <;> simp
    clear ha
    go_enter Tryz.func48, Tryz.ntmps48
    go_wp2_with (first
      | (go_at_call 36; refine HI.out.mono ?_; rintro e w2 ⟨rfl, rfl⟩)
      | (go_at_call 35; refine HH.out.mono ?_; rintro e w2 ⟨rfl, rfl⟩))
    go_ret
    exact ⟨rfl, (Keep.refl _ _).alloc _⟩
theorem PN.off (h : PN u lo w0 w n b m k D X) (ha : (u && !lo) = false) : Off w n := by
  have T := h.up
  rw [ha] at T
  exact T
theorem shows_calls {base : Nat} (h : PN u lo w0 w n b m k D X) (hO : OwnX w base vx X) (hk : k < 1000) (i : Nat) :
    Calls Tryz.prog 48 #[.pointer (some ⟨n, 0, none⟩), .agg #[vx, .bool u, .bool lo], .int .u64 (i : Int)] w fun e w' => e = .returned (.bool true) ∧ Stay w w' ∧ PN u lo w0 w' n b m k D X := by
  cases ha : (u && !lo) with
  | false =>
    obtain ⟨A, p, rfl⟩ := hO.slice
    refine (shows_off (fun W hW => (h.grow hW).off ha) A X.length p ha (i : Int)).mono ?_
    rintro e w' ⟨rfl, hk⟩
    exact ⟨rfl, Stay.keep hk, h.grow hk⟩
  | true =>
    obtain ⟨rfl, rfl⟩ : u = true ∧ lo = false := by revert ha; cases u <;> cases lo <;> simp
    obtain ⟨⟨h0, s, g, c, C, h1, h2, h3, h4⟩, h5, h6⟩ := h
    refine (shows_up h1 h2 h5 (by have := h0.len; omega) h0.data hO i).mono ?_
    rintro e w' ⟨rfl, q1, q2⟩
    exact ⟨rfl, h1.stay q2, ⟨h0, s, g, c, C, q1, h2, h3, h4⟩, h5, h6⟩

/-- The node, and the document's own at px. -/
structure PSt (w0 w : World) (n b m px k : Nat) (u lo : Bool) (D : Dk) (X : List (Nat × List UInt8)) (vx : Value) : Prop where
  pn : PN u lo w0 w n b m k D X
  fit : FitS X k
  own : OwnX w w0.heap.size vx X
  xb : Blk w px 84 #[vx, .bool u, .bool lo]
theorem PSt.grow {px : Nat} (h : PSt w0 w n b m px k u lo D X vx) (hk : Keep [] w w') : PSt w0 w' n b m px k u lo D X vx := ⟨h.pn.grow hk, h.fit, h.own.keep2 hk (by simp), h.xb.keep hk (by simp)⟩
theorem FitS.putS (h : FitS X k) (a : Bool) {i : Nat} {d : List UInt8} (hi : i < 18446744073709551616) (hd : d.length ≤ 40) : FitS (putS a X i d) (k + 3) := by
  unfold Go.Proofs.YtkplffkchanipaaGreatDoor.putS
  split
  · exact (h.put hi hd).mono (by omega)
  · exact h.mono (by omega)
theorem FitS.dropS (h : FitS X k) (a : Bool) (i : Nat) : FitS (dropS a X i) (k + 3) := by
  unfold Go.Proofs.YtkplffkchanipaaGreatDoor.dropS
  split
  · exact (h.drop i).mono (by omega)
  · exact h.mono (by omega)
/-- A law stores into the document's node. -/
theorem PSt.put_ {px : Nat} {u' lo' : Bool} {vx' : Value} {cs : Array Value} (hp : PN u' lo' w0 w n b m k D' X') (hf : FitS X' k) (hO : OwnX w w0.heap.size vx' X') (hB : Blk w px 84 cs) (hc : cs[0]? ≠ some (.int .u32 0)) (hpx : w0.heap.size ≤ px) (hk : Keep [px] w w') (hB' : Blk w' px 84 #[vx', .bool u', .bool lo']) : PSt w0 w' n b m px k u' lo' D' X' vx' := by
  refine ⟨hp.beside hB hk (by decide) (by decide) (by decide) hc hpx, hf, hO.keep2 hk fun j e hm => ?_, hB'⟩
  simp only [List.mem_cons, List.not_mem_nil, or_false] at hm
  subst hm
  exact own_blk_ne hO.own hB (by decide) e

end Go.Proofs.YtkplffkchanipaaGreatDoor
