/- The contract of platter's put. -/
import Derived.Test.YtnlcipocobmgiaaGreatDoorPlatter
import Derived.StillTailTactics
namespace Go.Proofs.YtnlcipocobmgiaaGreatDoor
open Go.RowKit
theorem zero_file (w : World) : (zeroValue 138).run Tryz.prog w = .ok Fil.none_.val w := by kernel_rfl
theorem DiskAt.look {w : World} {b m : Nat} {D : Dk} (h : DiskAt w b m D) (s : List UInt8) :
    (Instr.lookup 106 (.map (some m)) (.string (bs s)) false).run Tryz.prog w = .ok (lookF s D.files).val w := by
  rw [h.map.look Tryz.underlying106 Tryz.underlying9 (zero_file w) s, look_vals]

theorem DiskAt.and_look {w : World} {b m : Nat} {D : Dk} (h : DiskAt w b m D) (s : List UInt8) :
    DiskAt w b m D ∧ (Instr.lookup 106 (.map (some m)) (.string (bs s)) false).run Tryz.prog w = .ok (lookF s D.files).val w := ⟨h, h.look s⟩
theorem weight_lit (a : Bool) (s : List UInt8) (c : Bool) (t : List UInt8) (w : World) (h1 : s.length ≤ 4611686018427387904) (h2 : t.length ≤ 4611686018427387904) :
    Calls Tryz.prog 115 #[.agg #[.bool a, .string (bs s), .bool c, .string (bs t)]] w fun e w' => e = .returned (.int .i64 (Fil.weight ⟨⟨a, s⟩, ⟨c, t⟩⟩)) ∧ Keep [] w w' :=
  weight_calls ⟨⟨a, s⟩, ⟨c, t⟩⟩ w h1 h2

theorem give_min {w : World} {b m : Nat} {D : Dk} (h : DiskAt w b m D) (g : Int) (hn : -g ≤ D.used) (h0 : 0 ≤ -g) (hu : D.used ≤ 1099511627776) :
    Calls Tryz.prog 117 #[.pointer (some ⟨b, 0, none⟩), .int .i64 (if D.used < -g then D.used else -g)] w fun e w' => e = .returned (.int .i64 0) ∧ DiskAt w' b m { D with used := D.used - -g } ∧ Keep [b] w w' := by
  rw [if_neg (by omega)]
  exact give_ok h (-g) h0 (by omega) hu
set_option maxRecDepth 100000 in
set_option maxHeartbeats 1000000 in
theorem put_calls {w : World} {b m : Nat} {D : Dk} (h : DiskAt w b m D) (hok : D.Ok) (name : List UInt8) (f : Fil) (hf1 : f.now.text.length ≤ 4398046511104) (hf2 : f.sure.text.length ≤ 4398046511104) :
    Calls Tryz.prog 96 #[.pointer (some ⟨b, 0, none⟩), .string (bs name), f.val] w fun e w' => e = .returned (.int .i64 (D.put name f).2) ∧ DiskAt w' b m (D.put name f).1 ∧ Keep [b, m] w w' := by
  have hlb := h.blk.lt
  have hw0 := hok.weight name
  have hw1 := hok.nonneg
  have hw2 := hok.fits
  have hw3 : D.room ≤ 1099511627776 := by have := hok.room; omega
  have hw4 := (lookF name D.files).weight_nonneg
  have hw5 := f.weight_nonneg
  have hw6 : f.weight ≤ 4398046511104 := by unfold Fil.weight; split <;> omega
  have hg1 := (lookF name D.files).weight_now
  have hg2 := (lookF name D.files).weight_sure
  have H := Lib.hid h
  clear h
  obtain ⟨⟨fa, fs⟩, ⟨fc, ft⟩⟩ := f
  unfold Fil.val
  simp only at *
  have HS : Hid (∀ W : World, Blk W w.heap.size 138 #[.bool fa, .string (bs fs), .bool fc, .string (bs ft)] → DiskAt W b m D → Blk W w.heap.size 138 #[.bool fa, .string (bs fs), .bool fc, .string (bs ft)] ∧ DiskAt W b m D ∧ W.cell? ⟨b, 4, none⟩ = some (.map (some m)) ∧ W.cell? ⟨w.heap.size, 0, none⟩ = some (.bool fa) ∧ W.cell? ⟨w.heap.size, 1, none⟩ = some (.string (bs fs)) ∧ W.cell? ⟨w.heap.size, 2, none⟩ = some (.bool fc) ∧ W.cell? ⟨w.heap.size, 3, none⟩ = some (.string (bs ft)) ∧ (Instr.lookup 106 (.map (some m)) (.string (bs name)) false).run Tryz.prog W = .ok (lookF name D.files).val W) := fun W hB hD => ⟨hB, hD, hD.c4, hB.cell 0, hB.cell 1, hB.cell 2, hB.cell 3, hD.look name⟩
  go_enter Tryz.func96, Tryz.ntmps96
  go_upto_region 1 with fail
  go_cut [7] (fun s7 wx => s7 = .int .i64 (Fil.weight ⟨⟨fa, fs⟩, ⟨fc, ft⟩⟩ - (lookF name D.files).weight) ∧ Keep [] (w.alloc (.cells #[.bool fa, .string (bs fs), .bool fc, .string (bs ft)] 138)) wx)
  case first =>
    go_region_held3 (fun w' => Blk w' w.heap.size 138 #[.bool fa, .string (bs fs), .bool fc, .string (bs ft)] ∧ DiskAt w' b m D ∧ w'.cell? ⟨b, 4, none⟩ = some (.map (some m)) ∧ w'.cell? ⟨w.heap.size, 0, none⟩ = some (.bool fa) ∧ w'.cell? ⟨w.heap.size, 1, none⟩ = some (.string (bs fs)) ∧ w'.cell? ⟨w.heap.size, 2, none⟩ = some (.bool fc) ∧ w'.cell? ⟨w.heap.size, 3, none⟩ = some (.string (bs ft)) ∧ (Instr.lookup 106 (.map (some m)) (.string (bs name)) false).run Tryz.prog w' = .ok (lookF name D.files).val w')
      (first
        | (exact HS.out _ (Blk.new _ _ _) (H.out.alloc _).drew)
        | (go_split_ands; refine HS.out _ ?_ ?_ <;> assumption)
        | (go_split_ands; refine HS.out _ (Blk.keep ?_ hkA ?_) (DiskAt.keep ?_ hkA ?_ ?_) <;> (first | assumption | simp))
        | (go_split_ands; refine HS.out _ (Blk.keep ?_ hkB ?_) (DiskAt.keep ?_ hkB ?_ ?_) <;> (first | assumption | simp)))
      (first
        | (go_at_call_of 115 (lookF name D.files).val; refine (weight_calls _ _ (by omega) (by omega)).mono ?_; rintro e w' ⟨rfl, hkA⟩)
        | (go_at_call 115; refine (weight_lit _ _ _ _ _ (by omega) (by omega)).mono ?_; rintro e w' ⟨rfl, hkB⟩))
    all_goals (go_wp2_with fail; go_meet; refine ⟨by rw [IntWalk.i64_in _ (by omega)], ?_⟩; first | exact ((Keep.refl _ _).drew.trans hkA).trans hkB | exact ((Keep.refl _ _).drew.trans hkB).trans hkA)
  case rest =>
    obtain ⟨rfl, hkc⟩ := hcut
    have hB : Blk wc w.heap.size 138 #[.bool fa, .string (bs fs), .bool fc, .string (bs ft)] := (Blk.new w _ _).keep hkc (by simp)
    have hD : DiskAt wc b m D := (H.out.alloc _).keep hkc (by simp) (by simp)
    have HK : Hid (Keep [] w wc) := ((Keep.refl [] w).alloc _).trans hkc
    clear hkc
    have hput : D.put name ⟨⟨fa, fs⟩, ⟨fc, ft⟩⟩ = if D.room - D.used < Fil.weight ⟨⟨fa, fs⟩, ⟨fc, ft⟩⟩ - (lookF name D.files).weight then (D, 7) else (D.store name ⟨⟨fa, fs⟩, ⟨fc, ft⟩⟩, 0) := rfl
    have hst : D.store name ⟨⟨fa, fs⟩, ⟨fc, ft⟩⟩ = { D with used := D.used + (Fil.weight ⟨⟨fa, fs⟩, ⟨fc, ft⟩⟩ - (lookF name D.files).weight), files := if fa || fc then putF name ⟨⟨fa, fs⟩, ⟨fc, ft⟩⟩ D.files else delF name D.files } := rfl
    rw [hst] at hput
    have Hput := Lib.hid hput
    clear hput hst
    have hgl : -(1099511627776 : Int) ≤ Fil.weight ⟨⟨fa, fs⟩, ⟨fc, ft⟩⟩ - (lookF name D.files).weight := by omega
    have hgh : Fil.weight ⟨⟨fa, fs⟩, ⟨fc, ft⟩⟩ - (lookF name D.files).weight ≤ 4398046511104 := by omega
    have hgu : -(Fil.weight ⟨⟨fa, fs⟩, ⟨fc, ft⟩⟩ - (lookF name D.files).weight) ≤ D.used := by omega
    generalize Fil.weight ⟨⟨fa, fs⟩, ⟨fc, ft⟩⟩ - (lookF name D.files).weight = g at *
    by_cases hfull : D.room - D.used < g
    · have hgp : 0 < g := by omega
      have HB := Lib.hid hB
      have HD := Lib.hid hD
      clear hB hD
      go_wp2_with (go_at_call 116; refine (take_full HD.out hw1 hw2 hw3 g (by omega) hfull).mono ?_; rintro e w' ⟨rfl, hD', hk'⟩)
      go_ret
      rw [Hput.out, if_pos hfull]
      exact ⟨rfl, hD', HK.out.nil_.trans (hk'.mono (by simp))⟩
    · have q : ∀ (w : World) (r : Option Nat), (binOp .eql 106 (.map r) (.map none)).run Tryz.prog w = .ok (.bool r.isNone) w := fun w r => run_eql_map_nil w _ _ _ r Tryz.underlying106
      have HB := Lib.hid hB
      have HD := Lib.hid hD
      clear hB hD
      by_cases hgp : 0 < g
      · go_upto_region 7 with (go_at_call 116; refine (take_ok HD.out hw1 hw2 hw3 g (by omega) (by omega)).mono ?_; rintro e w' ⟨rfl, hD', hk'⟩)
        have hB' := HB.out.keep hk' (by simp; omega)
        have c4 := hD'.c4
        have e0 : w'.cell? ⟨w.heap.size, 0, none⟩ = some (.bool fa) := hB'.cell 0
        have e1 : w'.cell? ⟨w.heap.size, 1, none⟩ = some (.string (bs fs)) := hB'.cell 1
        have e2 : w'.cell? ⟨w.heap.size, 2, none⟩ = some (.bool fc) := hB'.cell 2
        have e3 : w'.cell? ⟨w.heap.size, 3, none⟩ = some (.string (bs ft)) := hB'.cell 3
        have HK2 : Hid (Keep [b, m] w w') := HK.out.nil_.trans (hk'.mono (by simp))
        have HD2 := Lib.hid hD'
        clear hB' hk' hD'
        by_cases hth : fa = false ∧ fc = false
        · obtain ⟨rfl, rfl⟩ := hth
          obtain ⟨w3, hdel, hM3, hK3, -⟩ := HD2.out.map.del Tryz.underlying106 Tryz.underlying9 name
          have HM := Lib.hid hM3
          have HK3 := Lib.hid hK3
          clear hM3 hK3
          go_wp2
          go_ret
          rw [Hput.out, if_neg (by omega)]
          refine ⟨rfl, ⟨HD2.out.blk.keep HK3.out (by simpa using HD2.out.ne_.symm), ?_⟩, HK2.out.trans (HK3.out.mono (by simp))⟩
          rw [del_vals] at HM
          exact HM.out
        · obtain ⟨w3, hmu, hM3, hK3, -⟩ := HD2.out.map.drew.put Tryz.underlying106 Tryz.underlying9 name (.agg #[.bool fa, .string (bs fs), .bool fc, .string (bs ft)])
          have HM := Lib.hid hM3
          have HK3 := Lib.hid hK3
          clear hM3 hK3
          have hor : (fa || fc) = true := by cases fa <;> cases fc <;> simp at hth ⊢
          rw [hor] at Hput
          have hput2 := put_vals name ⟨⟨fa, fs⟩, ⟨fc, ft⟩⟩ D.files
          unfold Fil.val at hput2
          rw [hput2] at HM
          clear hput2 hor
          cases fa <;> cases fc
          · exact absurd ⟨rfl, rfl⟩ hth
          all_goals
            clear hth
            go_wp2
            go_region
            go_wp2
            go_ret
            rw [Hput.out, if_neg (by omega)]
            exact ⟨rfl, ⟨HD2.out.drew.blk.keep HK3.out (by simpa using HD2.out.ne_.symm), HM.out⟩, (HK2.out.drew).trans (HK3.out.mono (by simp))⟩
      · have hmin : -g ≤ D.used := hgu
        have hng : 0 ≤ -g := by omega
        have hc1 := HD.out.c1
        have hgu2 : D.used ≤ 1099511627776 := by omega
        have hwr : IntKind.i64.wrap (-g) = -g := IntWalk.i64_in _ (by omega)
        go_upto_region 6 with fail
        go_region_held3 (fun w' => w'.cell? ⟨b, 4, none⟩ = some (.map (some m)))
          (first
            | (exact hD'.c4)
            | (exact HD.out.drew.c4)
            | assumption)
          (first
            | (go_at_call 118; refine (used_calls HD.out.drew).mono ?_; rintro e w' ⟨rfl, rfl⟩)
            | (go_at_call 117; refine (give_min HD.out.drew g hmin hng hgu2).mono ?_; rintro e w' ⟨rfl, hD', hk'⟩))
        have heq : D.used - -g = D.used + g := by omega
        rw [heq] at hD'
        replace hk' := (Keep.refl _ wc).drew.trans hk'
        clear heq hwr
        have hB' := HB.out.keep hk' (by simp; omega)
        have c4 := hD'.c4
        have e0 : w'.cell? ⟨w.heap.size, 0, none⟩ = some (.bool fa) := hB'.cell 0
        have e1 : w'.cell? ⟨w.heap.size, 1, none⟩ = some (.string (bs fs)) := hB'.cell 1
        have e2 : w'.cell? ⟨w.heap.size, 2, none⟩ = some (.bool fc) := hB'.cell 2
        have e3 : w'.cell? ⟨w.heap.size, 3, none⟩ = some (.string (bs ft)) := hB'.cell 3
        have HK2 : Hid (Keep [b, m] w w') := HK.out.nil_.trans (hk'.mono (by simp))
        have HD2 := Lib.hid hD'
        clear hB' hk' hD'
        by_cases hth : fa = false ∧ fc = false
        · obtain ⟨rfl, rfl⟩ := hth
          obtain ⟨w3, hdel, hM3, hK3, -⟩ := HD2.out.map.del Tryz.underlying106 Tryz.underlying9 name
          have HM := Lib.hid hM3
          have HK3 := Lib.hid hK3
          clear hM3 hK3
          go_wp2
          go_ret
          rw [Hput.out, if_neg (by omega)]
          refine ⟨rfl, ⟨HD2.out.blk.keep HK3.out (by simpa using HD2.out.ne_.symm), ?_⟩, HK2.out.trans (HK3.out.mono (by simp))⟩
          rw [del_vals] at HM
          exact HM.out
        · obtain ⟨w3, hmu, hM3, hK3, -⟩ := HD2.out.map.drew.put Tryz.underlying106 Tryz.underlying9 name (.agg #[.bool fa, .string (bs fs), .bool fc, .string (bs ft)])
          have HM := Lib.hid hM3
          have HK3 := Lib.hid hK3
          clear hM3 hK3
          have hor : (fa || fc) = true := by cases fa <;> cases fc <;> simp at hth ⊢
          rw [hor] at Hput
          have hput2 := put_vals name ⟨⟨fa, fs⟩, ⟨fc, ft⟩⟩ D.files
          unfold Fil.val at hput2
          rw [hput2] at HM
          clear hput2 hor
          cases fa <;> cases fc
          · exact absurd ⟨rfl, rfl⟩ hth
          all_goals
            clear hth
            go_wp2
            go_region
            go_wp2
            go_ret
            rw [Hput.out, if_neg (by omega)]
            exact ⟨rfl, ⟨HD2.out.drew.blk.keep HK3.out (by simpa using HD2.out.ne_.symm), HM.out⟩, (HK2.out.drew).trans (HK3.out.mono (by simp))⟩

end Go.Proofs.YtnlcipocobmgiaaGreatDoor
