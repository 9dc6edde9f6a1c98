/- A chunk store: Get. -/
import Derived.Test.YtkplffkchanipaaGreatDoorStoresA
import Derived.Test.YtkplffkchanipaaGreatDoorChPlains
import Derived.Laws.StructEq
import Derived.BigQuiet
import Derived.Test.YtkplffkchanipaaGreatDoorChRec
import Derived.Test.YtkplffkchanipaaGreatDoorGoods
namespace Go.Proofs.YtkplffkchanipaaGreatDoor
open Go.RowKit
attribute [local go_sem] size_bs bs_append bs_extract
variable {w w' : World} {s b m g : Nat} {C C' : Ck} {D D' : Dk}

theorem head_eq (a0 a1 a2 a3 a4 a5 a6 a7 b0 b1 b2 b3 b4 b5 b6 b7 : Int) (w : World) :
    (Op.equalIn 10000 99 (.agg #[.int .u8 a0, .int .u8 a1, .int .u8 a2, .int .u8 a3, .int .u8 a4, .int .u8 a5, .int .u8 a6, .int .u8 a7]) (.agg #[.int .u8 b0, .int .u8 b1, .int .u8 b2, .int .u8 b3, .int .u8 b4, .int .u8 b5, .int .u8 b6, .int .u8 b7])).run Tryz.prog w =
      .ok (decide ([a0, a1, a2, a3, a4, a5, a6, a7] = [b0, b1, b2, b3, b4, b5, b6, b7])) w := by
  have u3 := Tryz.underlying5
  have a3' := Tryz.isAgg5
  have z3 := Tryz.sizeOf5
  rw [show (10000 : Nat) = 9999 + 1 from rfl, Op.equalIn]
  simp only [Sem.run_bind, run_underlying Tryz.underlying99, Result.andThen_ok]
  simp only [Std.Legacy.Range.forIn_eq_forIn_range', Std.Legacy.Range.size, Nat.sub_zero, Nat.add_sub_cancel, Nat.div_one, List.range'_succ, List.range'_zero, List.forIn_cons, List.forIn_nil]
  go_simp
  by_cases h0 : a0 = b0
  rotate_left
  · simp [h0]
  by_cases h1 : a1 = b1
  rotate_left
  · simp [h0, h1]
  by_cases h2 : a2 = b2
  rotate_left
  · simp [h0, h1, h2]
  by_cases h3 : a3 = b3
  rotate_left
  · simp [h0, h1, h2, h3]
  by_cases h4 : a4 = b4
  rotate_left
  · simp [h0, h1, h2, h3, h4]
  by_cases h5 : a5 = b5
  rotate_left
  · simp [h0, h1, h2, h3, h4, h5]
  by_cases h6 : a6 = b6
  rotate_left
  · simp [h0, h1, h2, h3, h4, h5, h6]
  by_cases h7 : a7 = b7
  rotate_left
  · simp [h0, h1, h2, h3, h4, h5, h6, h7]
  simp [h0, h1, h2, h3, h4, h5, h6, h7]

attribute [local go_sem] head_eq
theorem Ck.get_some {C : Ck} {D : Dk} {i : Nat} {p : Pl} (h : lookC (i : Int) C.map = some p) : C.get D i = if (D.read (segName p.seg)).2 ≠ 0 then ([], (D.read (segName p.seg)).2) else atF p i (D.read (segName p.seg)).1 := by
  unfold Ck.get
  rw [h]
theorem Ck.got_some {C : Ck} {D : Dk} {i : Nat} {p : Pl} (h : lookC (i : Int) C.map = some p) : C.got D i = D.tries.1 := by
  unfold Ck.got
  rw [h]
  rfl
theorem openF_small {s : List UInt8} (h : (openF s).2.2 = 0) : (openF s).1.length ≤ 1048576 := by
  by_cases h8 : s.length < 8
  · rw [openF_short h8]; simp
  · obtain ⟨a, b, c, d, e, f, g, h', r, rfl⟩ := eight h8
    obtain ⟨n, hn⟩ := Int.eq_ofNat_of_zero_le (val4_bd a b c d).1
    rw [openF_eight a b c d e f g h' r n hn]
    by_cases h1 : 1048576 < n
    · rw [if_pos h1]; simp
    rw [if_neg h1]
    by_cases h2 : r.length < n
    · rw [if_pos h2]; simp
    rw [if_neg h2]
    by_cases h3 : crc ([a, b, c, d] ++ r.take n) = val4 e f g h'
    · rw [if_pos h3]; simp only [List.length_take]; omega
    · rw [if_neg h3]; simp
theorem read_len {D : Dk} (h : D.Good) (n : List UInt8) : (D.read n).1.length ≤ 274877906944 := by
  have h1 := h.tries.ok.weight n
  have h2 := h.tries.ok.fits
  have h3 := h.tries.ok.room
  have h4 := (lookF n D.tries.1.files).weight_now
  unfold Dk.read
  split
  · simp
  · split
    · simp only; omega
    · simp

set_option maxRecDepth 100000 in
set_option maxHeartbeats 3200000 in
theorem sget_calls (h : StoreAt w s b m g C D) (hC : C.Ok) (hD : D.Good) (i : Nat) :
    Calls Tryz.prog 25 #[.pointer (some ⟨s, 0, none⟩), .int .u64 (i : Int)] w fun e w' => e = .returned (.tuple #[.string (bs (C.get D i).1), .int .i64 (C.get D i).2]) ∧ StoreAt w' s b m g C (C.got D i) ∧ Keep [b, m] w w' := by
  have hl := h.look (i : Int)
  have z2 : w.cell? ⟨s, 2, none⟩ = some (.map (some g)) := h.blk.cell 2
  have H := Lib.hid h
  cases hx : lookC (i : Int) C.map with
  | none =>
    have hg1 : C.get D i = ([], 5) := Ck.get_none (by rw [hx]; rfl)
    have hg2 : C.got D i = D := by unfold Ck.got; rw [hx]; rfl
    rw [hg1, hg2]
    rw [hx] at hl
    simp only [Option.getD_none, zeroPl, Pl.val, Pl.cells, List.map_cons, List.map_nil, Option.isSome_none] at hl
    clear h hx hg1 hg2
    go_enter Tryz.func25, Tryz.ntmps25
    go_wp2
    go_ret2
    exact ⟨rfl, H.out.grow ((Keep.refl [] _).alloc _), (Keep.refl _ _).alloc _⟩
  | some p =>
    have hg1 := Ck.get_some (D := D) hx
    have hg2 := Ck.got_some (D := D) hx
    have hpl := hC.map.pl _ (look_mem _ _ _ hx)
    have h8 := hC.map.head _ (look_mem _ _ _ hx)
    have hrl := read_len hD (segName p.seg)
    rw [hg2]
    rw [hx] at hl
    simp only at hpl h8
    obtain ⟨c0, c1, c2, c3, c4, c5, c6, c7, h9⟩ := eightL h8
    obtain ⟨ps, pa, pz, ph⟩ := p
    simp only at h9 hpl hg1 hrl
    subst h9
    obtain ⟨hp1, hp2, hp3, hp4⟩ := hpl
    simp only [Option.getD_some, Pl.val, Pl.cells, List.map_cons, List.map_nil, Option.isSome_some] at hl
    have TR := fun (W : World) (hW : DiskAt W b m D) => read_calls hW hD.ok (segName ps)
    generalize C.get D i = R at *
    generalize D.read (segName ps) = Q at *
    obtain ⟨tx, er⟩ := Q
    simp only at TR hg1 hrl
    have HR := Lib.hid hg1
    have HTR := Lib.hid TR
    have hz := h.blk.lt
    clear h hx h8 hg1 hg2 TR
    go_enter Tryz.func25, Tryz.ntmps25
    go_upto_region 4 with fail
    have HB0 : Hid (Blk (w.alloc (.cells #[.int .i64 (ps : Int), .int .i64 (pa : Int), .int .i64 (pz : Int), .int .u8 (c0.toNat : Int), .int .u8 (c1.toNat : Int), .int .u8 (c2.toNat : Int), .int .u8 (c3.toNat : Int), .int .u8 (c4.toNat : Int), .int .u8 (c5.toNat : Int), .int .u8 (c6.toNat : Int), .int .u8 (c7.toNat : Int)] 101)) w.heap.size 101 #[.int .i64 (ps : Int), .int .i64 (pa : Int), .int .i64 (pz : Int), .int .u8 (c0.toNat : Int), .int .u8 (c1.toNat : Int), .int .u8 (c2.toNat : Int), .int .u8 (c3.toNat : Int), .int .u8 (c4.toNat : Int), .int .u8 (c5.toNat : Int), .int .u8 (c6.toNat : Int), .int .u8 (c7.toNat : Int)]) := Blk.new _ _ _
    have HA0 : Hid (StoreAt (w.alloc (.cells #[.int .i64 (ps : Int), .int .i64 (pa : Int), .int .i64 (pz : Int), .int .u8 (c0.toNat : Int), .int .u8 (c1.toNat : Int), .int .u8 (c2.toNat : Int), .int .u8 (c3.toNat : Int), .int .u8 (c4.toNat : Int), .int .u8 (c5.toNat : Int), .int .u8 (c6.toNat : Int), .int .u8 (c7.toNat : Int)] 101)) s b m g C D) := H.out.grow ((Keep.refl [] _).alloc _)
    have HK0 : Hid (Keep [] w (w.alloc (.cells #[.int .i64 (ps : Int), .int .i64 (pa : Int), .int .i64 (pz : Int), .int .u8 (c0.toNat : Int), .int .u8 (c1.toNat : Int), .int .u8 (c2.toNat : Int), .int .u8 (c3.toNat : Int), .int .u8 (c4.toNat : Int), .int .u8 (c5.toNat : Int), .int .u8 (c6.toNat : Int), .int .u8 (c7.toNat : Int)] 101))) := (Keep.refl [] _).alloc _
    have hws : w.heap.size < (w.alloc (.cells #[.int .i64 (ps : Int), .int .i64 (pa : Int), .int .i64 (pz : Int), .int .u8 (c0.toNat : Int), .int .u8 (c1.toNat : Int), .int .u8 (c2.toNat : Int), .int .u8 (c3.toNat : Int), .int .u8 (c4.toNat : Int), .int .u8 (c5.toNat : Int), .int .u8 (c6.toNat : Int), .int .u8 (c7.toNat : Int)] 101)).heap.size := by simp
    clear z2 hl
    generalize w.alloc (.cells #[.int .i64 (ps : Int), .int .i64 (pa : Int), .int .i64 (pz : Int), .int .u8 (c0.toNat : Int), .int .u8 (c1.toNat : Int), .int .u8 (c2.toNat : Int), .int .u8 (c3.toNat : Int), .int .u8 (c4.toNat : Int), .int .u8 (c5.toNat : Int), .int .u8 (c6.toNat : Int), .int .u8 (c7.toNat : Int)] 101) = W0 at *
    have hne : w.heap.size ≠ b ∧ w.heap.size ≠ m := by have := H.out.disk.blk.lt; have := H.out.disk.map.lt; omega
    have HNE := Lib.hid hne
    clear hne
    have hns := H.out.ne_
    have HC : Hid (∀ W, Keep [b, m] W0 W → W.cell? ⟨s, 0, none⟩ = some (.pointer (some ⟨b, 0, none⟩)) ∧ W.cell? ⟨w.heap.size, 0, none⟩ = some (.int .i64 (ps : Int))) := fun W hW => ⟨(HA0.out.blk.keep hW (by simp; exact ⟨hns.1, hns.2.1⟩)).cell 0, (HB0.out.keep hW (by simp; exact HNE.out)).cell 0⟩
    clear hns
    go_region_held3 (fun w' => w'.cell? ⟨s, 0, none⟩ = some (.pointer (some ⟨b, 0, none⟩)) ∧ w'.cell? ⟨w.heap.size, 0, none⟩ = some (.int .i64 (ps : Int)))
      (first
        | (exact (HC.out _ (by repeat (first | exact Keep.refl _ _ | exact HK1.out.nil_ | exact HK2.out | refine Keep.drew ?_ | refine Keep.drewN ?_ _ | refine Keep.alloc ?_ _))))
        | fail)
      (first
        | (go_at_call 24; refine (name_calls ps hp1 hp2 _).mono ?_; rintro e w1 ⟨rfl, hk1⟩; have HK1 : Hid (Keep [] W0 w1) := Keep.trans' (M := []) (by repeat (first | exact Keep.refl _ _ | exact HK1.out | refine Keep.drew ?_ | refine Keep.drewN ?_ _ | refine Keep.alloc ?_ _)) hk1 (by simp); clear hk1)
        | (go_at_call 52; refine (HTR.out _ (HA0.out.grow (by repeat (first | exact Keep.refl _ _ | exact HK1.out | refine Keep.drew ?_ | refine Keep.drewN ?_ _ | refine Keep.alloc ?_ _))).disk).mono ?_; rintro e w2 ⟨rfl, hD2, hk2⟩; have HK2 : Hid (Keep [b, m] W0 w2) := Keep.trans' (M := [b, m]) (by repeat (first | exact Keep.refl _ _ | exact HK1.out.nil_ | exact HK2.out | refine Keep.drew ?_ | refine Keep.drewN ?_ _ | refine Keep.alloc ?_ _)) hk2 (fun x hx => .inl hx); have HD2 := Lib.hid hD2; clear hD2 hk2)
        | fail)
    all_goals
      have hS2 : StoreAt w2 s b m g C D.tries.1 := HA0.out.setDisk HK2.out HD2.out
      have hB2 : Blk w2 w.heap.size 101 #[.int .i64 (ps : Int), .int .i64 (pa : Int), .int .i64 (pz : Int), .int .u8 (c0.toNat : Int), .int .u8 (c1.toNat : Int), .int .u8 (c2.toNat : Int), .int .u8 (c3.toNat : Int), .int .u8 (c4.toNat : Int), .int .u8 (c5.toNat : Int), .int .u8 (c6.toNat : Int), .int .u8 (c7.toNat : Int)] := HB0.out.keep HK2.out (by simp; exact HNE.out)
      have hK2 : Keep [b, m] w w2 := HK0.out.nil_.trans HK2.out
      have HS2 := Lib.hid hS2
      have HB2 := Lib.hid hB2
      have HKT := Lib.hid hK2
      clear hS2 hB2 hK2 HA0 HB0 HK0 HC
      by_cases he : er = 0
      · have b1 : (er != 0) = false := by simpa using he
        have HE := Lib.hid he
        have hr := HR.out
        rw [if_neg (by rw [he]; simp)] at hr
        have HRR := Lib.hid hr
        have y0 : w2.cell? ⟨w.heap.size, 0, none⟩ = some (.int .i64 (ps : Int)) := HB2.out.cell 0
        have y1 : w2.cell? ⟨w.heap.size, 1, none⟩ = some (.int .i64 (pa : Int)) := HB2.out.cell 1
        have y2 : w2.cell? ⟨w.heap.size, 2, none⟩ = some (.int .i64 (pz : Int)) := HB2.out.cell 2
        have y3 : w2.cell? ⟨w.heap.size, 3, none⟩ = some (.int .u8 (c0.toNat : Int)) := HB2.out.cell 3
        have y4 : w2.cell? ⟨w.heap.size, 4, none⟩ = some (.int .u8 (c1.toNat : Int)) := HB2.out.cell 4
        have y5 : w2.cell? ⟨w.heap.size, 5, none⟩ = some (.int .u8 (c2.toNat : Int)) := HB2.out.cell 5
        have y6 : w2.cell? ⟨w.heap.size, 6, none⟩ = some (.int .u8 (c3.toNat : Int)) := HB2.out.cell 6
        have y7 : w2.cell? ⟨w.heap.size, 7, none⟩ = some (.int .u8 (c4.toNat : Int)) := HB2.out.cell 7
        have y8 : w2.cell? ⟨w.heap.size, 8, none⟩ = some (.int .u8 (c5.toNat : Int)) := HB2.out.cell 8
        have y9 : w2.cell? ⟨w.heap.size, 9, none⟩ = some (.int .u8 (c6.toNat : Int)) := HB2.out.cell 9
        have y10 : w2.cell? ⟨w.heap.size, 10, none⟩ = some (.int .u8 (c7.toNat : Int)) := HB2.out.cell 10
        unfold atF at HRR
        simp only at HRR
        clear he hr HR
        by_cases hlt : tx.length < pa + pz
        · have d1 : decide ((tx.length : Int) < (pa : Int) + (pz : Int)) = true := by simp; omega
          have hr := HRR.out
          rw [if_pos hlt] at hr
          have HRF := Lib.hid hr
          clear hr HRR
          go_wp2
          go_ret2
          rw [HRF.out]
          exact ⟨rfl, HS2.out, HKT.out⟩
        · have d1 : decide ((tx.length : Int) < (pa : Int) + (pz : Int)) = false := by simp; omega
          have hr := HRR.out
          rw [if_neg hlt] at hr
          have HRF := Lib.hid hr
          have hsub : pa + pz - pa = pz := by omega
          have TO := fun (W : World) (hW : Keep [] w2 W) => only_calls ((tx.drop pa).take pz) W (HS2.out.tab.keep hW (by simp)) (by rw [List.length_take, List.length_drop]; omega)
          clear hr HRR
          go_upto_region 10 with fail
          try rw [hsub]
          have hF8 : pz ≤ 274877906944 := by omega
          generalize (tx.drop pa).take pz = F at *
          have hO : ∃ c e3, OnlyF F = (c, e3) := ⟨_, _, rfl⟩
          obtain ⟨c, e3, hO⟩ := hO
          rw [hO] at TO HRF
          simp only at TO HRF
          have HTO := Lib.hid TO
          have HO := Lib.hid hO
          have hF9 : e3 = 0 → 8 ≤ F.length ∧ c.length ≤ 1048576 := fun h => by
            have h1 : (openF F).2.2 = 0 := by
              unfold OnlyF at hO
              split at hO
              · rename_i h2
                simp only [Prod.mk.injEq] at hO
                exact absurd (hO.2.trans h) h2
              · rename_i h2
                exact Decidable.not_not.1 h2
            have h2 := openF_cut h1
            have h3 := openF_ok h1
            have hc : c = (openF F).1 := by
              unfold OnlyF at hO
              rw [if_neg (by simp [h1])] at hO
              split at hO
              · simp only [Prod.mk.injEq] at hO
                omega
              · simp only [Prod.mk.injEq] at hO
                exact hO.1.symm
            rw [hc]
            exact ⟨by omega, openF_small h1⟩
          have HF9 := Lib.hid hF9
          clear TO hO hsub hF9
          by_cases he3 : e3 = 0
          · have f1 : (e3 != 0) = false := by simpa using he3
            have f1' : (e3 == 0) = true := by simpa using he3
            have hr := HRF.out
            simp only [he3, ne_eq, not_true_eq_false, false_or] at hr
            have HRG := Lib.hid hr
            obtain ⟨hf8, hcl⟩ := HF9.out he3
            clear hr HRF he3
            go_upto_region 11 with (go_at_call 61; refine (HTO.out _ (Keep.refl _ _)).mono ?_; rintro e w3 ⟨rfl, hk3⟩; have HK3 := Lib.hid hk3; clear hk3)
            obtain ⟨d0, d1', d2, d3, d4, d5, d6, d7, hf⟩ := eightL (l := F.take 8) (by rw [List.length_take]; omega)
            rw [hf] at HRG
            have TH := fun (W : World) => headOf_calls F hf8 W
            rw [hf] at TH
            simp only [headV, List.map_cons, List.map_nil] at TH
            have HTH := Lib.hid TH
            clear TH hf
            have HB3 : Hid (Blk w3 w.heap.size 101 #[.int .i64 (ps : Int), .int .i64 (pa : Int), .int .i64 (pz : Int), .int .u8 (c0.toNat : Int), .int .u8 (c1.toNat : Int), .int .u8 (c2.toNat : Int), .int .u8 (c3.toNat : Int), .int .u8 (c4.toNat : Int), .int .u8 (c5.toNat : Int), .int .u8 (c6.toNat : Int), .int .u8 (c7.toNat : Int)]) := HB2.out.keep HK3.out (by simp)
            have HS3 := Lib.hid (HS2.out.grow HK3.out)
            have HKT3 : Hid (Keep [b, m] w w3) := HKT.out.trans HK3.out.nil_
            have HC3 : Hid (∀ W, Keep [] w3 W → W.cell? ⟨w.heap.size, 3, none⟩ = some (.int .u8 (c0.toNat : Int)) ∧ W.cell? ⟨w.heap.size, 4, none⟩ = some (.int .u8 (c1.toNat : Int)) ∧ W.cell? ⟨w.heap.size, 5, none⟩ = some (.int .u8 (c2.toNat : Int)) ∧ W.cell? ⟨w.heap.size, 6, none⟩ = some (.int .u8 (c3.toNat : Int)) ∧ W.cell? ⟨w.heap.size, 7, none⟩ = some (.int .u8 (c4.toNat : Int)) ∧ W.cell? ⟨w.heap.size, 8, none⟩ = some (.int .u8 (c5.toNat : Int)) ∧ W.cell? ⟨w.heap.size, 9, none⟩ = some (.int .u8 (c6.toNat : Int)) ∧ W.cell? ⟨w.heap.size, 10, none⟩ = some (.int .u8 (c7.toNat : Int))) := fun W hW => by
              have hb := HB3.out.keep hW (by simp)
              exact ⟨hb.cell 3, hb.cell 4, hb.cell 5, hb.cell 6, hb.cell 7, hb.cell 8, hb.cell 9, hb.cell 10⟩
            clear y0 y1 y2 y3 y4 y5 y6 y7 y8 y9 y10
            by_cases hh : [d0, d1', d2, d3, d4, d5, d6, d7] = [c0, c1, c2, c3, c4, c5, c6, c7]
            · have hh' := hh.symm
              have hr := HRG.out
              rw [if_neg (by simp only [hh, not_true_eq_false, not_false_eq_true])] at hr
              have HRH := Lib.hid hr
              simp only [List.cons.injEq, and_true] at hh'
              clear hr HRG hh
              obtain ⟨rfl, rfl, rfl, rfl, rfl, rfl, rfl, rfl⟩ := hh'
              have TP := fun (W : World) => parse_calls c (by omega) W
              generalize parseF c = q at *
              obtain ⟨k, n, x, ok⟩ := q
              simp only at TP HRH
              have HTP := Lib.hid TP
              clear TP
              go_region_held3 (fun w' => w'.cell? ⟨w.heap.size, 3, none⟩ = some (.int .u8 (c0.toNat : Int)) ∧ w'.cell? ⟨w.heap.size, 4, none⟩ = some (.int .u8 (c1.toNat : Int)) ∧ w'.cell? ⟨w.heap.size, 5, none⟩ = some (.int .u8 (c2.toNat : Int)) ∧ w'.cell? ⟨w.heap.size, 6, none⟩ = some (.int .u8 (c3.toNat : Int)) ∧ w'.cell? ⟨w.heap.size, 7, none⟩ = some (.int .u8 (c4.toNat : Int)) ∧ w'.cell? ⟨w.heap.size, 8, none⟩ = some (.int .u8 (c5.toNat : Int)) ∧ w'.cell? ⟨w.heap.size, 9, none⟩ = some (.int .u8 (c6.toNat : Int)) ∧ w'.cell? ⟨w.heap.size, 10, none⟩ = some (.int .u8 (c7.toNat : Int)))
              (first
                | (exact (HC3.out _ (by repeat (first | exact Keep.refl _ _ | exact HK4.out | refine Keep.drew ?_ | refine Keep.drewN ?_ _ | refine Keep.alloc ?_ _))))
                | fail)
              (first
                | (go_at_call 62; refine (HTH.out _).mono ?_; rintro e w4 ⟨rfl, hk4⟩; have HK4 : Hid (Keep [] w3 w4) := Keep.trans' (M := []) (by repeat (first | exact Keep.refl _ _ | exact HK4.out | refine Keep.drew ?_ | refine Keep.drewN ?_ _ | refine Keep.alloc ?_ _)) hk4 (by simp); clear hk4)
                | fail)
              cases ok with
              | false =>
                have hr := HRH.out
                rw [if_pos (.inl rfl)] at hr
                have HRI := Lib.hid hr
                clear hr HRH
                go_wp2_with (go_at_call 63; refine (HTP.out _).mono ?_; rintro e w5 ⟨rfl, hk5⟩; have HK5 := Lib.hid hk5; clear hk5)
                go_ret2
                rw [HRI.out]
                exact ⟨rfl, ((HS3.out.grow HK4.out).grow HK5.out).grow ((Keep.refl [] _).alloc _), ((HKT3.out.trans HK4.out.nil_).trans HK5.out.nil_).alloc _⟩
              | true =>
                by_cases hk1 : k = 1
                · have e1 : ((k : Int) != 1) = false := by rw [bne_eq_false_iff_eq]; omega
                  have e1' : ((k : Int) == 1) = true := by rw [beq_iff_eq]; omega
                  by_cases hn1 : n = i
                  · have e2 : ((n : Int) != (i : Int)) = false := by rw [bne_eq_false_iff_eq]; omega
                    have e2' : ((n : Int) == (i : Int)) = true := by rw [beq_iff_eq]; omega
                    have hr := HRH.out
                    rw [if_neg (by simp [hk1, hn1])] at hr
                    have HRI := Lib.hid hr
                    clear hr HRH hk1 hn1
                    go_wp2_with (go_at_call 63; refine (HTP.out _).mono ?_; rintro e w5 ⟨rfl, hk5⟩; have HK5 := Lib.hid hk5; clear hk5)
                    go_ret2
                    rw [HRI.out]
                    exact ⟨rfl, ((HS3.out.grow HK4.out).grow HK5.out).grow ((Keep.refl [] _).alloc _), ((HKT3.out.trans HK4.out.nil_).trans HK5.out.nil_).alloc _⟩
                  · have e2 : ((n : Int) != (i : Int)) = true := by rw [bne_iff_ne]; omega
                    have e2' : ((n : Int) == (i : Int)) = false := by rw [beq_eq_false_iff_ne]; omega
                    have hr := HRH.out
                    rw [if_pos (.inr (.inr hn1))] at hr
                    have HRI := Lib.hid hr
                    clear hr HRH hk1 hn1
                    go_wp2_with (go_at_call 63; refine (HTP.out _).mono ?_; rintro e w5 ⟨rfl, hk5⟩; have HK5 := Lib.hid hk5; clear hk5)
                    go_ret2
                    rw [HRI.out]
                    exact ⟨rfl, ((HS3.out.grow HK4.out).grow HK5.out).grow ((Keep.refl [] _).alloc _), ((HKT3.out.trans HK4.out.nil_).trans HK5.out.nil_).alloc _⟩
                · have e1 : ((k : Int) != 1) = true := by rw [bne_iff_ne]; omega
                  have e1' : ((k : Int) == 1) = false := by rw [beq_eq_false_iff_ne]; omega
                  have hr := HRH.out
                  rw [if_pos (.inr (.inl hk1))] at hr
                  have HRI := Lib.hid hr
                  clear hr HRH hk1
                  go_wp2_with (go_at_call 63; refine (HTP.out _).mono ?_; rintro e w5 ⟨rfl, hk5⟩; have HK5 := Lib.hid hk5; clear hk5)
                  go_ret2
                  rw [HRI.out]
                  exact ⟨rfl, ((HS3.out.grow HK4.out).grow HK5.out).grow ((Keep.refl [] _).alloc _), ((HKT3.out.trans HK4.out.nil_).trans HK5.out.nil_).alloc _⟩
            · have HH := Lib.hid hh
              have hr := HRG.out
              rw [if_pos (by simpa using hh)] at hr
              have HRH := Lib.hid hr
              clear hr HRG hh
              go_region_held3 (fun w' => w'.cell? ⟨w.heap.size, 3, none⟩ = some (.int .u8 (c0.toNat : Int)) ∧ w'.cell? ⟨w.heap.size, 4, none⟩ = some (.int .u8 (c1.toNat : Int)) ∧ w'.cell? ⟨w.heap.size, 5, none⟩ = some (.int .u8 (c2.toNat : Int)) ∧ w'.cell? ⟨w.heap.size, 6, none⟩ = some (.int .u8 (c3.toNat : Int)) ∧ w'.cell? ⟨w.heap.size, 7, none⟩ = some (.int .u8 (c4.toNat : Int)) ∧ w'.cell? ⟨w.heap.size, 8, none⟩ = some (.int .u8 (c5.toNat : Int)) ∧ w'.cell? ⟨w.heap.size, 9, none⟩ = some (.int .u8 (c6.toNat : Int)) ∧ w'.cell? ⟨w.heap.size, 10, none⟩ = some (.int .u8 (c7.toNat : Int)))
              (first
                | (exact (HC3.out _ (by repeat (first | exact Keep.refl _ _ | exact HK4.out | refine Keep.drew ?_ | refine Keep.drewN ?_ _ | refine Keep.alloc ?_ _))))
                | fail)
              (first
                | (go_at_call 62; refine (HTH.out _).mono ?_; rintro e w4 ⟨rfl, hk4⟩; have HK4 : Hid (Keep [] w3 w4) := Keep.trans' (M := []) (by repeat (first | exact Keep.refl _ _ | exact HK4.out | refine Keep.drew ?_ | refine Keep.drewN ?_ _ | refine Keep.alloc ?_ _)) hk4 (by simp); clear hk4)
                | fail)
              go_wp2
              all_goals
                first
                  | (have hbr : (!decide ((d0.toNat : Int) = (c0.toNat : Int))) = false ∧ (!decide ((d1'.toNat : Int) = (c1.toNat : Int))) = false ∧ (!decide ((d2.toNat : Int) = (c2.toNat : Int))) = false ∧ (!decide ((d3.toNat : Int) = (c3.toNat : Int))) = false ∧ (!decide ((d4.toNat : Int) = (c4.toNat : Int))) = false ∧ (!decide ((d5.toNat : Int) = (c5.toNat : Int))) = false ∧ (!decide ((d6.toNat : Int) = (c6.toNat : Int))) = false ∧ (!decide ((d7.toNat : Int) = (c7.toNat : Int))) = false := by assumption
                     exfalso
                     apply HH.out
                     simp only [Bool.not_eq_false', decide_eq_true_eq] at hbr
                     simp only [List.cons.injEq, and_true, UInt8.toNat_inj.symm]
                     omega)
                  | (go_ret2
                     rw [HRH.out]
                     exact ⟨rfl, HS3.out.grow HK4.out, HKT3.out.trans HK4.out.nil_⟩)
          · have f1 : (e3 != 0) = true := by simpa using he3
            have f1' : (e3 == 0) = false := by simpa using he3
            have hr := HRF.out
            simp only [he3, ne_eq, not_false_eq_true, true_or, if_true] at hr
            have HRG := Lib.hid hr
            clear hr HRF he3
            go_upto_region 11 with (go_at_call 61; refine (HTO.out _ (Keep.refl _ _)).mono ?_; rintro e w3 ⟨rfl, hk3⟩; have HK3 := Lib.hid hk3; clear hk3)
            go_quiet (fail)
            go_wp2
            go_ret2
            rw [HRG.out]
            exact ⟨rfl, (HS2.out.grow HK3.out).grow ((Keep.refl [] _).drewN _), (HKT.out.trans HK3.out.nil_).drewN _⟩
      · have b1 : (er != 0) = true := by simpa using he
        have hr := HR.out
        rw [if_pos he] at hr
        have HRR := Lib.hid hr
        clear he hr HR
        go_wp2
        go_ret2
        rw [HRR.out]
        exact ⟨rfl, HS2.out, HKT.out⟩

end Go.Proofs.YtkplffkchanipaaGreatDoor
/- A chunk store: add. -/
namespace Go.Proofs.YtkplffkchanipaaGreatDoor
open Go.RowKit
attribute [local go_sem] size_bs bs_append
variable {w w' : World} {s b m g : Nat} {C C' : Ck} {D D' : Dk}

theorem StoreAt.fresh (h : StoreAt w s b m g C D) {x : Nat} (hx : w.heap.size ≤ x) : x ∉ [s, b, m, g] ∧ x ≠ 0 := by
  have h1 := h.blk.lt
  have h2 := h.disk.blk.lt
  have h3 := h.disk.map.lt
  have h4 := h.map.lt
  have h5 := World.block_lt_of_cell? _ _ (h.tab 0 (by omega))
  simp only at h5
  simp only [List.mem_cons, List.not_mem_nil, or_false]
  omega
/-- A place is stored into a variable. -/
theorem sets_place {r : Nat} {t : TypeId} {a0 a1 a2 a3 a4 a5 a6 a7 a8 a9 a10 : Value} (h : Blk w r t #[a0, a1, a2, a3, a4, a5, a6, a7, a8, a9, a10]) (v0 v1 v2 v3 v4 v5 v6 v7 v8 v9 v10 : Value) :
    Blk (((((((((((w.setCell ⟨r, 0, none⟩ v0).setCell ⟨r, 1, none⟩ v1).setCell ⟨r, 2, none⟩ v2).setCell ⟨r, 3, none⟩ v3).setCell ⟨r, 4, none⟩ v4).setCell ⟨r, 5, none⟩ v5).setCell ⟨r, 6, none⟩ v6).setCell ⟨r, 7, none⟩ v7).setCell ⟨r, 8, none⟩ v8).setCell ⟨r, 9, none⟩ v9).setCell ⟨r, 10, none⟩ v10) r t #[v0, v1, v2, v3, v4, v5, v6, v7, v8, v9, v10] ∧
    Keep [r] w (((((((((((w.setCell ⟨r, 0, none⟩ v0).setCell ⟨r, 1, none⟩ v1).setCell ⟨r, 2, none⟩ v2).setCell ⟨r, 3, none⟩ v3).setCell ⟨r, 4, none⟩ v4).setCell ⟨r, 5, none⟩ v5).setCell ⟨r, 6, none⟩ v6).setCell ⟨r, 7, none⟩ v7).setCell ⟨r, 8, none⟩ v8).setCell ⟨r, 9, none⟩ v9).setCell ⟨r, 10, none⟩ v10) := by
  have b0 := h.set_ 0 v0
  simp only [List.setIfInBounds_toArray, List.set_cons_zero] at b0
  have b1 := b0.set_ 1 v1
  simp only [List.setIfInBounds_toArray, List.set_cons_zero, List.set_cons_succ] at b1
  have b2 := b1.set_ 2 v2
  simp only [List.setIfInBounds_toArray, List.set_cons_zero, List.set_cons_succ] at b2
  have b3 := b2.set_ 3 v3
  simp only [List.setIfInBounds_toArray, List.set_cons_zero, List.set_cons_succ] at b3
  have b4 := b3.set_ 4 v4
  simp only [List.setIfInBounds_toArray, List.set_cons_zero, List.set_cons_succ] at b4
  have b5 := b4.set_ 5 v5
  simp only [List.setIfInBounds_toArray, List.set_cons_zero, List.set_cons_succ] at b5
  have b6 := b5.set_ 6 v6
  simp only [List.setIfInBounds_toArray, List.set_cons_zero, List.set_cons_succ] at b6
  have b7 := b6.set_ 7 v7
  simp only [List.setIfInBounds_toArray, List.set_cons_zero, List.set_cons_succ] at b7
  have b8 := b7.set_ 8 v8
  simp only [List.setIfInBounds_toArray, List.set_cons_zero, List.set_cons_succ] at b8
  have b9 := b8.set_ 9 v9
  simp only [List.setIfInBounds_toArray, List.set_cons_zero, List.set_cons_succ] at b9
  have b10 := b9.set_ 10 v10
  simp only [List.setIfInBounds_toArray, List.set_cons_zero, List.set_cons_succ] at b10
  refine ⟨b10, ?_⟩
  have hk : ∀ (W : World) i v, Keep [r] w W → Keep [r] w (W.setCell ⟨r, i, none⟩ v) := fun W i v h => h.setCell (.inl (by simp)) v
  iterate 11 refine hk _ _ _ ?_
  exact Keep.refl _ _

set_option maxRecDepth 100000 in
set_option maxHeartbeats 1600000 in
theorem add_calls (h : StoreAt w s b m g C D) (hD : D.Good) (h1 : 1 ≤ C.seg) (h2 : C.seg + 1 < 100) (hz : C.size ≤ 1000000000000)
    (k n : Nat) (x : List UInt8) (hk : k < 18446744073709551616) (hn : n < 18446744073709551616) (hs : x.length ≤ 1000000) :
    Calls Tryz.prog 54 #[.pointer (some ⟨s, 0, none⟩), .agg #[.int .u64 (k : Int), .int .u64 (n : Int), .string (bs x)]] w fun e w' => e = .returned (.tuple #[(C.add D (frame (encRec k n x))).2.2.1.val, .int .i64 (C.add D (frame (encRec k n x))).2.2.2]) ∧ StoreAt w' s b m g (C.add D (frame (encRec k n x))).1 (C.add D (frame (encRec k n x))).2.1 ∧ Keep [s, b, m] w w' := by
  have hel : (encRec k n x).length ≤ 1000100 := encRec_len k n x hk hn hs
  have hfl : (frame (encRec k n x)).length ≤ 1000108 := by rw [frame_len]; omega
  have h8 : 8 ≤ (frame (encRec k n x)).length := by rw [frame_len]; omega
  have TF := fun (W : World) (hW : Tab W) => recFrame_calls k n x hk hn hs W hW
  generalize frame (encRec k n x) = f at *
  obtain ⟨c0, c1, c2, c3, c4, c5, c6, c7, hf8⟩ := eightL (l := f.take 8) (by simp; omega)
  have TH := fun (W : World) => headOf_calls f h8 W
  rw [hf8] at TH
  simp only [headV, List.map_cons, List.map_nil] at TH
  have HTH := Lib.hid TH
  have HF8 := Lib.hid hf8
  clear TH hf8 h8
  clear hel hs
  have H := Lib.hid h
  have z4 : w.cell? ⟨s, 4, none⟩ = some (.int .i64 (C.size : Int)) := h.blk.cell 4
  have HZ : Hid (∀ W, Keep [] w W → W.cell? ⟨s, 4, none⟩ = some (.int .i64 (C.size : Int)) ∧ W.cell? ⟨s, 1, none⟩ = some (.int .i64 C.limit)) := fun W hW => ⟨(h.blk.keep hW (by simp)).cell 4, (h.blk.keep hW (by simp)).cell 1⟩
  have wr : IntKind.i64.wrap ((C.size : Int) + (f.length : Int)) = (C.size : Int) + (f.length : Int) := IntWalk.i64_in _ (by omega)
  have ha : C.add D f = if C.full f.length = true then (if (C.sync D).2.2 = 0 then (C.sync D).1.next.put (C.sync D).2.1 f else ((C.sync D).1, (C.sync D).2.1, zeroPl, (C.sync D).2.2)) else C.put D f := rfl
  generalize C.add D f = R at *
  have HA := Lib.hid ha
  have HTF := Lib.hid TF
  clear h ha TF z4
  by_cases h0 : 0 < C.size
  · have q0 : decide ((0 : Int) < (C.size : Int)) = true := by simp; omega
    have q0n : decide (0 < C.size) = true := by simpa using h0
    by_cases hfu : C.limit < (C.size : Int) + (f.length : Int)
    · have q1 : decide (C.limit < (C.size : Int) + (f.length : Int)) = true := by simpa using hfu
      have HFU : Hid (C.full f.length = true) := by simp [Hid, Ck.full, h0, hfu]
      clear hfu h0
      have hsame := Ck.sync_same (C := C) (D := D)
      have hgood := Ck.sync_good (C := C) hD
      have TS := fun (W : World) (hW : StoreAt W s b m g C D) => ssync_calls hW hD.ok h1 (by omega)
      generalize C.sync D = r2 at *
      obtain ⟨C2, D2, e2⟩ := r2
      simp only at TS HA hsame hgood
      obtain ⟨m1, m2, m3, m4⟩ := hsame
      have HM := Lib.hid m1
      have HG2 := Lib.hid hgood
      have HTS := Lib.hid TS
      have hs100 : C2.seg + 1 < 100 := by omega
      clear m1 m2 m3 m4 hgood TS
      have wr3 : IntKind.i64.wrap ((C2.seg : Int) + 1) = (C2.seg : Int) + 1 := IntWalk.i64_in _ (by omega)
      by_cases he2 : e2 = 0
      · have hb2 : (e2 != 0) = false := by simpa using he2
        have hAX : R = C2.next.put D2 f := by rw [HA.out, if_pos HFU.out, if_pos he2]
        have HAX := Lib.hid hAX
        clear hAX
        clear he2
        go_enter Tryz.func54, Tryz.ntmps54
        go_upto_region 2 with (go_at_call 80; refine (HTF.out _ (H.out.tab.keep (M := []) (by repeat (first | exact Keep.refl _ _ | exact HK1.out | refine Keep.drew ?_ | refine Keep.drewN ?_ _ | refine Keep.alloc ?_ _)) (by simp))).mono ?_; rintro e w1 ⟨rfl, hk1⟩; have HKF := Lib.hid hk1; have HK1 : Hid (Keep [] w w1) := Keep.trans' (M := []) (by repeat (first | exact Keep.refl _ _ | exact HK1.out | refine Keep.drew ?_ | refine Keep.drewN ?_ _ | refine Keep.alloc ?_ _)) hk1 (by simp); obtain ⟨z4, z1⟩ := HZ.out _ HK1.out; clear hk1)
        have hb := Blk.new (w.alloc (.cells #[.int .u64 (k : Int), .int .u64 (n : Int), .string (bs x)] 105)) 101 #[.int .i64 0, .int .i64 0, .int .i64 0, .int .u8 0, .int .u8 0, .int .u8 0, .int .u8 0, .int .u8 0, .int .u8 0, .int .u8 0, .int .u8 0]
        rw [World.size_alloc] at hb
        have HR1 : Hid (Blk w1 (w.heap.size + 1) 101 #[.int .i64 0, .int .i64 0, .int .i64 0, .int .u8 0, .int .u8 0, .int .u8 0, .int .u8 0, .int .u8 0, .int .u8 0, .int .u8 0, .int .u8 0]) := hb.keep HKF.out (by simp)
        clear hb HKF
        have HS1 : Hid (StoreAt w1 s b m g C D) := H.out.grow HK1.out
        have HKA : Hid (Keep [s, b, m] w w1) := HK1.out.mono (by simp)
        go_quiet (fail)
        go_upto_region 8 with (go_at_call 21; refine (HTS.out _ (HS1.out.grow (by repeat (first | exact Keep.refl _ _ | refine Keep.drew ?_ | refine Keep.drewN ?_ _ | refine Keep.alloc ?_ _)))).mono ?_; rintro e w2 ⟨rfl, hS2, hk2⟩; have HS2 := Lib.hid hS2; have HK2 := Lib.hid hk2; have y3 : w2.cell? ⟨s, 3, none⟩ = some (.int .i64 (C2.seg : Int)) := hS2.blk.cell 3; have y4 : w2.cell? ⟨s, 4, none⟩ = some (.int .i64 (C2.size : Int)) := hS2.blk.cell 4; have yf : ∀ i, w2.frozen? ⟨s, i, none⟩ = false := fun i => hS2.blk.frozen i; clear hS2 hk2)
        have hkS : Keep [s] w2 ((w2.setCell ⟨s, 3, none⟩ (.int .i64 ((C2.seg : Int) + 1))).setCell ⟨s, 4, none⟩ (.int .i64 0)) := ((Keep.refl _ _).setCell (.inl (by simp)) _).setCell (.inl (by simp)) _
        have hbS : Blk ((w2.setCell ⟨s, 3, none⟩ (.int .i64 ((C2.seg : Int) + 1))).setCell ⟨s, 4, none⟩ (.int .i64 0)) s 94 (C2.next.cells b g) := by
          have h := (HS2.out.blk.set_ 3 (.int .i64 ((C2.seg : Int) + 1))).set_ 4 (.int .i64 0)
          unfold Ck.cells Ck.next
          simp only [Int.natCast_add]
          exact h
        have HS8 := Lib.hid (HS2.out.setS (C' := C2.next) hkS hbS rfl)
        have hrs : w.heap.size + 1 ≠ s := by have := H.out.blk.lt; omega
        have HR8 : Hid (Blk ((w2.setCell ⟨s, 3, none⟩ (.int .i64 ((C2.seg : Int) + 1))).setCell ⟨s, 4, none⟩ (.int .i64 0)) (w.heap.size + 1) 101 #[.int .i64 0, .int .i64 0, .int .i64 0, .int .u8 0, .int .u8 0, .int .u8 0, .int .u8 0, .int .u8 0, .int .u8 0, .int .u8 0, .int .u8 0]) := ((HR1.out.drewN nq).keep HK2.out (by have h9 := (H.out.fresh (Nat.le_succ _)).1; simp at h9 ⊢; omega)).keep hkS (by simpa using hrs)
        have HK8 : Hid (Keep [s, b, m] w ((w2.setCell ⟨s, 3, none⟩ (.int .i64 ((C2.seg : Int) + 1))).setCell ⟨s, 4, none⟩ (.int .i64 0))) := ((HKA.out.drewN nq).trans HK2.out).trans (hkS.mono (by simp))
        clear z4 z1 y3 y4 yf hkS hbS hrs HS1 HR1 HKA HK1 HK2
        generalize (w2.setCell ⟨s, 3, none⟩ (.int .i64 ((C2.seg : Int) + 1))).setCell ⟨s, 4, none⟩ (.int .i64 0) = W8 at *
        have HGX := HG2
        have hx1 : 1 ≤ C2.next.seg := by simp [Ck.next]
        have hx2 : C2.next.seg < 100 := hs100
        have hx3 : C2.next.size ≤ 1000000000000 := by simp [Ck.next]
        obtain ⟨CX, hcx⟩ : ∃ CX, CX = C2.next := ⟨_, rfl⟩
        obtain ⟨DX, hdx⟩ : ∃ DX, DX = D2 := ⟨_, rfl⟩
        rw [← hcx, ← hdx] at HS8
        rw [← hdx] at HGX
        rw [← hcx] at hx1 hx2 hx3
        rw [← hcx, ← hdx] at HAX
        clear hcx hdx
        have HC8 : Hid (∀ (W : World), Keep [b, m] W8 W → (W.cell? ⟨s, 0, none⟩ = some (.pointer (some ⟨b, 0, none⟩)) ∧ W.cell? ⟨s, 3, none⟩ = some (.int .i64 (CX.seg : Int))) ∧ Blk W s 94 (CX.cells b g)) := fun W hk => by
          have hb := HS8.out.blk.keep hk (by simp [HS8.out.ne_.1, HS8.out.ne_.2.1])
          exact ⟨⟨hb.cell 0, hb.cell 3⟩, hb⟩
        have T8 := fun (W : World) (hW : DiskAt W b m DX) => append_calls hW HGX.out.ok (segName CX.seg) (segName_ne _) f (by omega)
        have hput : CX.put DX f = if (DX.append (segName CX.seg) f).2 = 0 then ({ CX with dirty := true, size := CX.size + f.length }, (DX.append (segName CX.seg) f).1, ⟨CX.seg, CX.size, f.length, f.take 8⟩, 0) else (CX, (DX.append (segName CX.seg) f).1, zeroPl, (DX.append (segName CX.seg) f).2) := rfl
        generalize DX.append (segName CX.seg) f = r at *
        obtain ⟨D9, e9⟩ := r
        simp only at T8 hput
        have HT8 := Lib.hid T8
        have HPUT := Lib.hid hput
        clear T8 hput
        go_region_held3 (fun w' => w'.cell? ⟨s, 0, none⟩ = some (.pointer (some ⟨b, 0, none⟩)) ∧ w'.cell? ⟨s, 3, none⟩ = some (.int .i64 (CX.seg : Int)))
          (first
            | (exact (HC8.out _ (by repeat (first | exact Keep.refl _ _ | exact HKN.out.nil_ | exact HK9.out | refine Keep.drew ?_ | refine Keep.drewN ?_ _ | refine Keep.alloc ?_ _))).1)
            | fail)
          (first
            | (go_at_call 24; refine (name_calls CX.seg hx1 hx2 _).mono ?_; rintro e wn ⟨rfl, hkn⟩; have HKN : Hid (Keep [] W8 wn) := Keep.trans' (M := []) (by repeat (first | exact Keep.refl _ _ | exact HKN.out | refine Keep.drew ?_ | refine Keep.drewN ?_ _ | refine Keep.alloc ?_ _)) hkn (by simp); clear hkn)
            | (go_at_call 81; refine (HT8.out _ (HS8.out.disk.keep (M := []) (by repeat (first | exact Keep.refl _ _ | exact HKN.out | refine Keep.drew ?_ | refine Keep.drewN ?_ _ | refine Keep.alloc ?_ _)) (by simp) (by simp))).mono ?_; rintro e w9 ⟨rfl, hD9, hk9⟩; have HK9 : Hid (Keep [b, m] W8 w9) := Keep.trans' (M := [b, m]) (by repeat (first | exact Keep.refl _ _ | exact HKN.out.nil_ | exact HK9.out | refine Keep.drew ?_ | refine Keep.drewN ?_ _ | refine Keep.alloc ?_ _)) hk9 (fun x hx => .inl hx); have HD9 := Lib.hid hD9; clear hD9 hk9)
            | fail)
        all_goals
          have hr9 : Blk w9 (w.heap.size + 1) 101 #[.int .i64 0, .int .i64 0, .int .i64 0, .int .u8 0, .int .u8 0, .int .u8 0, .int .u8 0, .int .u8 0, .int .u8 0, .int .u8 0, .int .u8 0] := HR8.out.keep HK9.out (by have := H.out.disk.blk.lt; have := H.out.disk.map.lt; simp; omega)
          have hA9 : StoreAt w9 s b m g CX D9 := HS8.out.setDisk HK9.out HD9.out
          have hK9 : Keep [s, b, m] w w9 := HK8.out.trans (HK9.out.mono (by simp))
          have hsr : s ≠ w.heap.size + 1 := by have := H.out.blk.lt; omega
          by_cases he : e9 = 0
          · have hb : (e9 != 0) = false := by simpa using he
            have hAdd : R = ({ CX with dirty := true, size := CX.size + f.length }, D9, ⟨CX.seg, CX.size, f.length, f.take 8⟩, 0) := by rw [HAX.out, HPUT.out, if_pos he]
            have HAdd := Lib.hid hAdd
            clear hAdd
            have hy := hA9.blk.cell 5
            have z5 : w9.cell? ⟨s, 5, none⟩ = some (.bool CX.dirty) := hy
            have f5 : w9.frozen? ⟨s, 5, none⟩ = false := hA9.blk.frozen 5
            have HA9 := Lib.hid hA9
            have HR9 := Lib.hid hr9
            have HKT := Lib.hid hK9
            have HSR := Lib.hid hsr
            have hk10 : Keep [s] w9 (w9.setCell ⟨s, 5, none⟩ (.bool true)) := (Keep.refl _ _).setCell (.inl (by simp)) _
            have HA10 := Lib.hid (hA9.setS (C' := { CX with dirty := true }) hk10 (hA9.blk.set_ 5 _) rfl)
            have HR10 := Lib.hid (hr9.far (p := ⟨s, 5, none⟩) (fun e => hsr e.symm) (.bool true))
            have HK10 := Lib.hid (hK9.trans (hk10.mono (by simp)))
            have HW9 : Hid (w.heap.size + 1 < w9.heap.size) := hr9.lt
            clear he hy hA9 hr9 hK9 hsr hk10
            go_upto_region 12 with fail
            clear z5 f5
            have HC12 : Hid (∀ (W : World), Keep [] (w9.setCell ⟨s, 5, none⟩ (.bool true)) W → W.cell? ⟨s, 3, none⟩ = some (.int .i64 (CX.seg : Int)) ∧ W.cell? ⟨s, 4, none⟩ = some (.int .i64 (CX.size : Int))) := fun W hk => by
              have hb := HA10.out.blk.keep hk (by simp)
              exact ⟨hb.cell 3, hb.cell 4⟩
            have HW10 : Hid (w.heap.size + 1 < (w9.setCell ⟨s, 5, none⟩ (.bool true)).heap.size) := HR10.out.lt
            generalize w9.setCell ⟨s, 5, none⟩ (.bool true) = W10 at *
            go_region_held3 (fun w' => w'.cell? ⟨s, 3, none⟩ = some (.int .i64 (CX.seg : Int)) ∧ w'.cell? ⟨s, 4, none⟩ = some (.int .i64 (CX.size : Int)))
              (first
                | (exact (HC12.out _ (by repeat (first | refine Keep.setCell ?_ (.inr (by first | exact Nat.le_refl _ | exact HKH.out.size | (have := HKH.out.size; (focus simp); omega))) _ | exact Keep.refl _ _ | exact HKH.out | refine Keep.drew ?_ | refine Keep.drewN ?_ _ | refine Keep.alloc ?_ _))))
                | fail)
              (first
                | (go_at_call 62; refine (HTH.out _).mono ?_; rintro e wh ⟨rfl, hkh⟩; have HKH : Hid (Keep [] W10 wh) := Keep.trans' (M := []) (by repeat (first | refine Keep.setCell ?_ (.inr (by first | exact Nat.le_refl _ | exact HKH.out.size | (have := HKH.out.size; (focus simp); omega))) _ | exact Keep.refl _ _ | exact HKH.out | refine Keep.drew ?_ | refine Keep.drewN ?_ _ | refine Keep.alloc ?_ _)) hkh (by simp); (first | (have hnb : Blk wh W10.heap.size 101 #[.int .i64 0, .int .i64 0, .int .i64 0, .int .u8 0, .int .u8 0, .int .u8 0, .int .u8 0, .int .u8 0, .int .u8 0, .int .u8 0, .int .u8 0] := Blk.keep (w := W10.drew.alloc (.cells #[.int .i64 0, .int .i64 0, .int .i64 0, .int .u8 0, .int .u8 0, .int .u8 0, .int .u8 0, .int .u8 0, .int .u8 0, .int .u8 0, .int .u8 0] 101)) (g := W10.heap.size) (Blk.new W10.drew 101 #[.int .i64 0, .int .i64 0, .int .i64 0, .int .u8 0, .int .u8 0, .int .u8 0, .int .u8 0, .int .u8 0, .int .u8 0, .int .u8 0, .int .u8 0]) hkh (by simp); have n0 : wh.cell? ⟨W10.heap.size, 0, none⟩ = some (.int .i64 0) := hnb.cell 0; have n1 : wh.cell? ⟨W10.heap.size, 1, none⟩ = some (.int .i64 0) := hnb.cell 1; have n2 : wh.cell? ⟨W10.heap.size, 2, none⟩ = some (.int .i64 0) := hnb.cell 2; have n3 : wh.cell? ⟨W10.heap.size, 3, none⟩ = some (.int .u8 0) := hnb.cell 3; have n4 : wh.cell? ⟨W10.heap.size, 4, none⟩ = some (.int .u8 0) := hnb.cell 4; have n5 : wh.cell? ⟨W10.heap.size, 5, none⟩ = some (.int .u8 0) := hnb.cell 5; have n6 : wh.cell? ⟨W10.heap.size, 6, none⟩ = some (.int .u8 0) := hnb.cell 6; have n7 : wh.cell? ⟨W10.heap.size, 7, none⟩ = some (.int .u8 0) := hnb.cell 7; have n8 : wh.cell? ⟨W10.heap.size, 8, none⟩ = some (.int .u8 0) := hnb.cell 8; have n9 : wh.cell? ⟨W10.heap.size, 9, none⟩ = some (.int .u8 0) := hnb.cell 9; have n10 : wh.cell? ⟨W10.heap.size, 10, none⟩ = some (.int .u8 0) := hnb.cell 10; have nf : ∀ i, wh.frozen? ⟨W10.heap.size, i, none⟩ = false := fun i => hnb.frozen i; have HNB := Lib.hid hnb; clear hnb) | skip); clear hkh)
                | fail)
            all_goals
              first
                | (have hqq := sets_place HNB.out (.int .i64 (CX.seg : Int)) (.int .i64 (CX.size : Int)) (.int .i64 (f.length : Int)) (.int .u8 (c0.toNat : Int)) (.int .u8 (c1.toNat : Int)) (.int .u8 (c2.toNat : Int)) (.int .u8 (c3.toNat : Int)) (.int .u8 (c4.toNat : Int)) (.int .u8 (c5.toNat : Int)) (.int .u8 (c6.toNat : Int)) (.int .u8 (c7.toNat : Int)); have hk11 : Keep [] W10 _ := HKH.out.trans' hqq.2 (by simp); have hq1 : W10.heap.size ≤ W10.heap.size := Nat.le_refl _; generalize (((((((((((wh.setCell ⟨W10.heap.size, 0, none⟩ (.int .i64 (CX.seg : Int))).setCell ⟨W10.heap.size, 1, none⟩ (.int .i64 (CX.size : Int))).setCell ⟨W10.heap.size, 2, none⟩ (.int .i64 (f.length : Int))).setCell ⟨W10.heap.size, 3, none⟩ (.int .u8 (c0.toNat : Int))).setCell ⟨W10.heap.size, 4, none⟩ (.int .u8 (c1.toNat : Int))).setCell ⟨W10.heap.size, 5, none⟩ (.int .u8 (c2.toNat : Int))).setCell ⟨W10.heap.size, 6, none⟩ (.int .u8 (c3.toNat : Int))).setCell ⟨W10.heap.size, 7, none⟩ (.int .u8 (c4.toNat : Int))).setCell ⟨W10.heap.size, 8, none⟩ (.int .u8 (c5.toNat : Int))).setCell ⟨W10.heap.size, 9, none⟩ (.int .u8 (c6.toNat : Int))).setCell ⟨W10.heap.size, 10, none⟩ (.int .u8 (c7.toNat : Int))) = W11 at *; generalize hqv : W10.heap.size = q at hqq hq1 ⊢; rw [← hqv] at hq1)
                | (have hqq := And.intro (Blk.new wh 101 #[.int .i64 (CX.seg : Int), .int .i64 (CX.size : Int), .int .i64 (f.length : Int), .int .u8 (c0.toNat : Int), .int .u8 (c1.toNat : Int), .int .u8 (c2.toNat : Int), .int .u8 (c3.toNat : Int), .int .u8 (c4.toNat : Int), .int .u8 (c5.toNat : Int), .int .u8 (c6.toNat : Int), .int .u8 (c7.toNat : Int)]) trivial; have hk11 : Keep [] W10 _ := HKH.out.alloc (.cells #[.int .i64 (CX.seg : Int), .int .i64 (CX.size : Int), .int .i64 (f.length : Int), .int .u8 (c0.toNat : Int), .int .u8 (c1.toNat : Int), .int .u8 (c2.toNat : Int), .int .u8 (c3.toNat : Int), .int .u8 (c4.toNat : Int), .int .u8 (c5.toNat : Int), .int .u8 (c6.toNat : Int), .int .u8 (c7.toNat : Int)] 101); have hq1 : W10.heap.size ≤ wh.heap.size := HKH.out.size; generalize wh.alloc (.cells #[.int .i64 (CX.seg : Int), .int .i64 (CX.size : Int), .int .i64 (f.length : Int), .int .u8 (c0.toNat : Int), .int .u8 (c1.toNat : Int), .int .u8 (c2.toNat : Int), .int .u8 (c3.toNat : Int), .int .u8 (c4.toNat : Int), .int .u8 (c5.toNat : Int), .int .u8 (c6.toNat : Int), .int .u8 (c7.toNat : Int)] 101) = W11 at *; generalize wh.heap.size = q at hqq hq1 ⊢)
              have hq := hqq.1
              clear hqq
              have HA11 := Lib.hid (HA10.out.grow hk11)
              have HR11 := Lib.hid (HR10.out.keep hk11 (by simp))
              have HK11 := Lib.hid (HK10.out.trans (hk11.mono (by simp)))
              have hqr : q ≠ w.heap.size + 1 := by have := HW10.out; omega
              have hqs : q ≠ s := by have := HW10.out; have := H.out.blk.lt; omega
              have HQ := Lib.hid hq
              have HQR := Lib.hid hqr
              have HQS := Lib.hid hqs
              have wrx : IntKind.i64.wrap ((CX.size : Int) + (f.length : Int)) = (CX.size : Int) + (f.length : Int) := IntWalk.i64_in _ (by omega)
              have z4 : W11.cell? ⟨s, 4, none⟩ = some (.int .i64 (CX.size : Int)) := HA11.out.blk.cell 4
              have f4 : W11.frozen? ⟨s, 4, none⟩ = false := HA11.out.blk.frozen 4
              clear hk11 hq hqr hqs hq1
              go_upto_region 14 with fail
              clear z4 f4
              have hk12 : Keep [s] W11 (W11.setCell ⟨s, 4, none⟩ (.int .i64 ((CX.size : Int) + (f.length : Int)))) := (Keep.refl _ _).setCell (.inl (by simp)) _
              have hb12 : Blk (W11.setCell ⟨s, 4, none⟩ (.int .i64 ((CX.size : Int) + (f.length : Int)))) s 94 (({ CX with dirty := true, size := CX.size + f.length } : Ck).cells b g) := by
                have h := HA11.out.blk.set_ 4 (.int .i64 ((CX.size : Int) + (f.length : Int)))
                unfold Ck.cells
                rw [Int.natCast_add]
                exact h
              have hA12 := HA11.out.setS (C' := { CX with dirty := true, size := CX.size + f.length }) hk12 hb12 rfl
              have hr9 := HR11.out.far (p := ⟨s, 4, none⟩) (fun e => HSR.out e.symm) (.int .i64 ((CX.size : Int) + (f.length : Int)))
              have hQ12 := HQ.out.far (p := ⟨s, 4, none⟩) HQS.out (.int .i64 ((CX.size : Int) + (f.length : Int)))
              have hK12 := HK11.out.trans (hk12.mono (by simp))
              generalize W11.setCell ⟨s, 4, none⟩ (.int .i64 ((CX.size : Int) + (f.length : Int))) = W12 at *
              have u0 : W12.cell? ⟨q, 0, none⟩ = some (.int .i64 (CX.seg : Int)) := hQ12.cell 0
              have u1 : W12.cell? ⟨q, 1, none⟩ = some (.int .i64 (CX.size : Int)) := hQ12.cell 1
              have u2 : W12.cell? ⟨q, 2, none⟩ = some (.int .i64 (f.length : Int)) := hQ12.cell 2
              have u3 : W12.cell? ⟨q, 3, none⟩ = some (.int .u8 (c0.toNat : Int)) := hQ12.cell 3
              have u4 : W12.cell? ⟨q, 4, none⟩ = some (.int .u8 (c1.toNat : Int)) := hQ12.cell 4
              have u5 : W12.cell? ⟨q, 5, none⟩ = some (.int .u8 (c2.toNat : Int)) := hQ12.cell 5
              have u6 : W12.cell? ⟨q, 6, none⟩ = some (.int .u8 (c3.toNat : Int)) := hQ12.cell 6
              have u7 : W12.cell? ⟨q, 7, none⟩ = some (.int .u8 (c4.toNat : Int)) := hQ12.cell 7
              have u8 : W12.cell? ⟨q, 8, none⟩ = some (.int .u8 (c5.toNat : Int)) := hQ12.cell 8
              have u9 : W12.cell? ⟨q, 9, none⟩ = some (.int .u8 (c6.toNat : Int)) := hQ12.cell 9
              have u10 : W12.cell? ⟨q, 10, none⟩ = some (.int .u8 (c7.toNat : Int)) := hQ12.cell 10
              have y0 : W12.cell? ⟨w.heap.size + 1, 0, none⟩ = some (.int .i64 0) := hr9.cell 0
              have y1 : W12.cell? ⟨w.heap.size + 1, 1, none⟩ = some (.int .i64 0) := hr9.cell 1
              have y2 : W12.cell? ⟨w.heap.size + 1, 2, none⟩ = some (.int .i64 0) := hr9.cell 2
              have y3 : W12.cell? ⟨w.heap.size + 1, 3, none⟩ = some (.int .u8 0) := hr9.cell 3
              have y4 : W12.cell? ⟨w.heap.size + 1, 4, none⟩ = some (.int .u8 0) := hr9.cell 4
              have y5 : W12.cell? ⟨w.heap.size + 1, 5, none⟩ = some (.int .u8 0) := hr9.cell 5
              have y6 : W12.cell? ⟨w.heap.size + 1, 6, none⟩ = some (.int .u8 0) := hr9.cell 6
              have y7 : W12.cell? ⟨w.heap.size + 1, 7, none⟩ = some (.int .u8 0) := hr9.cell 7
              have y8 : W12.cell? ⟨w.heap.size + 1, 8, none⟩ = some (.int .u8 0) := hr9.cell 8
              have y9 : W12.cell? ⟨w.heap.size + 1, 9, none⟩ = some (.int .u8 0) := hr9.cell 9
              have y10 : W12.cell? ⟨w.heap.size + 1, 10, none⟩ = some (.int .u8 0) := hr9.cell 10
              have yf : ∀ i, W12.frozen? ⟨w.heap.size + 1, i, none⟩ = false := fun i => hr9.frozen i
              have hqr := HQR.out
              have HA12 := Lib.hid hA12
              have HR12 := Lib.hid hr9
              have HK12 := Lib.hid hK12
              clear hk12 hb12 hA12 hr9 hQ12 hK12
              go_wp2
              obtain ⟨hrB, hkB⟩ := sets_place HR12.out (.int .i64 (CX.seg : Int)) (.int .i64 (CX.size : Int)) (.int .i64 (f.length : Int)) (.int .u8 (c0.toNat : Int)) (.int .u8 (c1.toNat : Int)) (.int .u8 (c2.toNat : Int)) (.int .u8 (c3.toNat : Int)) (.int .u8 (c4.toNat : Int)) (.int .u8 (c5.toNat : Int)) (.int .u8 (c6.toNat : Int)) (.int .u8 (c7.toNat : Int))
              generalize (((((((((((W12.setCell ⟨w.heap.size + 1, 0, none⟩ (.int .i64 (CX.seg : Int))).setCell ⟨w.heap.size + 1, 1, none⟩ (.int .i64 (CX.size : Int))).setCell ⟨w.heap.size + 1, 2, none⟩ (.int .i64 (f.length : Int))).setCell ⟨w.heap.size + 1, 3, none⟩ (.int .u8 (c0.toNat : Int))).setCell ⟨w.heap.size + 1, 4, none⟩ (.int .u8 (c1.toNat : Int))).setCell ⟨w.heap.size + 1, 5, none⟩ (.int .u8 (c2.toNat : Int))).setCell ⟨w.heap.size + 1, 6, none⟩ (.int .u8 (c3.toNat : Int))).setCell ⟨w.heap.size + 1, 7, none⟩ (.int .u8 (c4.toNat : Int))).setCell ⟨w.heap.size + 1, 8, none⟩ (.int .u8 (c5.toNat : Int))).setCell ⟨w.heap.size + 1, 9, none⟩ (.int .u8 (c6.toNat : Int))).setCell ⟨w.heap.size + 1, 10, none⟩ (.int .u8 (c7.toNat : Int))) = wB at *
              clear y0 y1 y2 y3 y4 y5 y6 y7 y8 y9 y10 yf u0 u1 u2 u3 u4 u5 u6 u7 u8 u9 u10
              have y0 : wB.cell? ⟨w.heap.size + 1, 0, none⟩ = some (.int .i64 (CX.seg : Int)) := hrB.cell 0
              have y1 : wB.cell? ⟨w.heap.size + 1, 1, none⟩ = some (.int .i64 (CX.size : Int)) := hrB.cell 1
              have y2 : wB.cell? ⟨w.heap.size + 1, 2, none⟩ = some (.int .i64 (f.length : Int)) := hrB.cell 2
              have y3 : wB.cell? ⟨w.heap.size + 1, 3, none⟩ = some (.int .u8 (c0.toNat : Int)) := hrB.cell 3
              have y4 : wB.cell? ⟨w.heap.size + 1, 4, none⟩ = some (.int .u8 (c1.toNat : Int)) := hrB.cell 4
              have y5 : wB.cell? ⟨w.heap.size + 1, 5, none⟩ = some (.int .u8 (c2.toNat : Int)) := hrB.cell 5
              have y6 : wB.cell? ⟨w.heap.size + 1, 6, none⟩ = some (.int .u8 (c3.toNat : Int)) := hrB.cell 6
              have y7 : wB.cell? ⟨w.heap.size + 1, 7, none⟩ = some (.int .u8 (c4.toNat : Int)) := hrB.cell 7
              have y8 : wB.cell? ⟨w.heap.size + 1, 8, none⟩ = some (.int .u8 (c5.toNat : Int)) := hrB.cell 8
              have y9 : wB.cell? ⟨w.heap.size + 1, 9, none⟩ = some (.int .u8 (c6.toNat : Int)) := hrB.cell 9
              have y10 : wB.cell? ⟨w.heap.size + 1, 10, none⟩ = some (.int .u8 (c7.toNat : Int)) := hrB.cell 10
              refine bodyPost_ret (v := .tuple #[.agg #[.int .i64 (CX.seg : Int), .int .i64 (CX.size : Int), .int .i64 (f.length : Int), .int .u8 (c0.toNat : Int), .int .u8 (c1.toNat : Int), .int .u8 (c2.toNat : Int), .int .u8 (c3.toNat : Int), .int .u8 (c4.toNat : Int), .int .u8 (c5.toNat : Int), .int .u8 (c6.toNat : Int), .int .u8 (c7.toNat : Int)], .int .i64 0]) (by simp [results, Tryz.results54, go_sem, y0, y1, y2, y3, y4, y5, y6, y7, y8, y9, y10]) rfl ?_
              rw [HAdd.out]
              exact ⟨by simp [Pl.val, Pl.cells, HF8.out], HA12.out.keep hkB (by have h9 := H.out.fresh (Nat.le_succ _); simpa using h9), HK12.out.trans' hkB (by simp)⟩
          · have hb : (e9 != 0) = true := by simpa using he
            have hAdd : R = (CX, D9, zeroPl, e9) := by rw [HAX.out, HPUT.out, if_neg he]
            have HAdd := Lib.hid hAdd
            clear hAdd
            have y0 : w9.cell? ⟨w.heap.size + 1, 0, none⟩ = some (.int .i64 0) := hr9.cell 0
            have y1 : w9.cell? ⟨w.heap.size + 1, 1, none⟩ = some (.int .i64 0) := hr9.cell 1
            have y2 : w9.cell? ⟨w.heap.size + 1, 2, none⟩ = some (.int .i64 0) := hr9.cell 2
            have y3 : w9.cell? ⟨w.heap.size + 1, 3, none⟩ = some (.int .u8 0) := hr9.cell 3
            have y4 : w9.cell? ⟨w.heap.size + 1, 4, none⟩ = some (.int .u8 0) := hr9.cell 4
            have y5 : w9.cell? ⟨w.heap.size + 1, 5, none⟩ = some (.int .u8 0) := hr9.cell 5
            have y6 : w9.cell? ⟨w.heap.size + 1, 6, none⟩ = some (.int .u8 0) := hr9.cell 6
            have y7 : w9.cell? ⟨w.heap.size + 1, 7, none⟩ = some (.int .u8 0) := hr9.cell 7
            have y8 : w9.cell? ⟨w.heap.size + 1, 8, none⟩ = some (.int .u8 0) := hr9.cell 8
            have y9 : w9.cell? ⟨w.heap.size + 1, 9, none⟩ = some (.int .u8 0) := hr9.cell 9
            have y10 : w9.cell? ⟨w.heap.size + 1, 10, none⟩ = some (.int .u8 0) := hr9.cell 10
            have yf : ∀ i, w9.frozen? ⟨w.heap.size + 1, i, none⟩ = false := fun i => hr9.frozen i
            have HA9 := Lib.hid hA9
            have HR9 := Lib.hid hr9
            have HKT := Lib.hid hK9
            have HSR := Lib.hid hsr
            clear he hA9 hr9 hK9 hsr
            go_wp2
            obtain ⟨hrB, hkB⟩ := sets_place HR9.out (.int .i64 0) (.int .i64 0) (.int .i64 0) (.int .u8 0) (.int .u8 0) (.int .u8 0) (.int .u8 0) (.int .u8 0) (.int .u8 0) (.int .u8 0) (.int .u8 0)
            generalize (((((((((((w9.setCell ⟨w.heap.size + 1, 0, none⟩ (.int .i64 0)).setCell ⟨w.heap.size + 1, 1, none⟩ (.int .i64 0)).setCell ⟨w.heap.size + 1, 2, none⟩ (.int .i64 0)).setCell ⟨w.heap.size + 1, 3, none⟩ (.int .u8 0)).setCell ⟨w.heap.size + 1, 4, none⟩ (.int .u8 0)).setCell ⟨w.heap.size + 1, 5, none⟩ (.int .u8 0)).setCell ⟨w.heap.size + 1, 6, none⟩ (.int .u8 0)).setCell ⟨w.heap.size + 1, 7, none⟩ (.int .u8 0)).setCell ⟨w.heap.size + 1, 8, none⟩ (.int .u8 0)).setCell ⟨w.heap.size + 1, 9, none⟩ (.int .u8 0)).setCell ⟨w.heap.size + 1, 10, none⟩ (.int .u8 0)) = wB at *
            clear y0 y1 y2 y3 y4 y5 y6 y7 y8 y9 y10 yf
            have hr9 := hrB
            have y0 : wB.cell? ⟨w.heap.size + 1, 0, none⟩ = some (.int .i64 0) := hr9.cell 0
            have y1 : wB.cell? ⟨w.heap.size + 1, 1, none⟩ = some (.int .i64 0) := hr9.cell 1
            have y2 : wB.cell? ⟨w.heap.size + 1, 2, none⟩ = some (.int .i64 0) := hr9.cell 2
            have y3 : wB.cell? ⟨w.heap.size + 1, 3, none⟩ = some (.int .u8 0) := hr9.cell 3
            have y4 : wB.cell? ⟨w.heap.size + 1, 4, none⟩ = some (.int .u8 0) := hr9.cell 4
            have y5 : wB.cell? ⟨w.heap.size + 1, 5, none⟩ = some (.int .u8 0) := hr9.cell 5
            have y6 : wB.cell? ⟨w.heap.size + 1, 6, none⟩ = some (.int .u8 0) := hr9.cell 6
            have y7 : wB.cell? ⟨w.heap.size + 1, 7, none⟩ = some (.int .u8 0) := hr9.cell 7
            have y8 : wB.cell? ⟨w.heap.size + 1, 8, none⟩ = some (.int .u8 0) := hr9.cell 8
            have y9 : wB.cell? ⟨w.heap.size + 1, 9, none⟩ = some (.int .u8 0) := hr9.cell 9
            have y10 : wB.cell? ⟨w.heap.size + 1, 10, none⟩ = some (.int .u8 0) := hr9.cell 10
            have yf : ∀ i, wB.frozen? ⟨w.heap.size + 1, i, none⟩ = false := fun i => hr9.frozen i
            refine bodyPost_ret (v := .tuple #[zeroPl.val, .int .i64 e9]) (by simp [results, Tryz.results54, go_sem, y0, y1, y2, y3, y4, y5, y6, y7, y8, y9, y10, zeroPl, Pl.val, Pl.cells]) rfl ?_
            rw [HAdd.out]
            exact ⟨rfl, HA9.out.keep hkB (by have h9 := H.out.fresh (Nat.le_succ _); simpa using h9), HKT.out.trans' hkB (by simp)⟩
      · have hb2 : (e2 != 0) = true := by simpa using he2
        have hAdd : R = (C2, D2, zeroPl, e2) := by rw [HA.out, if_pos HFU.out, if_neg he2]
        have HAdd := Lib.hid hAdd
        clear hAdd he2
        go_enter Tryz.func54, Tryz.ntmps54
        go_upto_region 2 with (go_at_call 80; refine (HTF.out _ (H.out.tab.keep (M := []) (by repeat (first | exact Keep.refl _ _ | exact HK1.out | refine Keep.drew ?_ | refine Keep.drewN ?_ _ | refine Keep.alloc ?_ _)) (by simp))).mono ?_; rintro e w1 ⟨rfl, hk1⟩; have HKF := Lib.hid hk1; have HK1 : Hid (Keep [] w w1) := Keep.trans' (M := []) (by repeat (first | exact Keep.refl _ _ | exact HK1.out | refine Keep.drew ?_ | refine Keep.drewN ?_ _ | refine Keep.alloc ?_ _)) hk1 (by simp); obtain ⟨z4, z1⟩ := HZ.out _ HK1.out; clear hk1)
        have hb := Blk.new (w.alloc (.cells #[.int .u64 (k : Int), .int .u64 (n : Int), .string (bs x)] 105)) 101 #[.int .i64 0, .int .i64 0, .int .i64 0, .int .u8 0, .int .u8 0, .int .u8 0, .int .u8 0, .int .u8 0, .int .u8 0, .int .u8 0, .int .u8 0]
        rw [World.size_alloc] at hb
        have HR1 : Hid (Blk w1 (w.heap.size + 1) 101 #[.int .i64 0, .int .i64 0, .int .i64 0, .int .u8 0, .int .u8 0, .int .u8 0, .int .u8 0, .int .u8 0, .int .u8 0, .int .u8 0, .int .u8 0]) := hb.keep HKF.out (by simp)
        clear hb HKF
        have HS1 : Hid (StoreAt w1 s b m g C D) := H.out.grow HK1.out
        have HKA : Hid (Keep [s, b, m] w w1) := HK1.out.mono (by simp)
        go_quiet (fail)
        go_wp2_with (go_at_call 21; refine (HTS.out _ (HS1.out.grow (by repeat (first | exact Keep.refl _ _ | refine Keep.drew ?_ | refine Keep.drewN ?_ _ | refine Keep.alloc ?_ _)))).mono ?_; rintro e w2 ⟨rfl, hS2, hk2⟩; have HS2 := Lib.hid hS2; have HK2 := Lib.hid hk2; have hr9 : Blk w2 (w.heap.size + 1) 101 #[.int .i64 0, .int .i64 0, .int .i64 0, .int .u8 0, .int .u8 0, .int .u8 0, .int .u8 0, .int .u8 0, .int .u8 0, .int .u8 0, .int .u8 0] := (HR1.out.drewN nq).keep hk2 (by have h9 := (H.out.fresh (Nat.le_succ _)).1; simp at h9 ⊢; omega); have HR9 := Lib.hid hr9; have y0 : w2.cell? ⟨w.heap.size + 1, 0, none⟩ = some (.int .i64 0) := hr9.cell 0; have y1 : w2.cell? ⟨w.heap.size + 1, 1, none⟩ = some (.int .i64 0) := hr9.cell 1; have y2 : w2.cell? ⟨w.heap.size + 1, 2, none⟩ = some (.int .i64 0) := hr9.cell 2; have y3 : w2.cell? ⟨w.heap.size + 1, 3, none⟩ = some (.int .u8 0) := hr9.cell 3; have y4 : w2.cell? ⟨w.heap.size + 1, 4, none⟩ = some (.int .u8 0) := hr9.cell 4; have y5 : w2.cell? ⟨w.heap.size + 1, 5, none⟩ = some (.int .u8 0) := hr9.cell 5; have y6 : w2.cell? ⟨w.heap.size + 1, 6, none⟩ = some (.int .u8 0) := hr9.cell 6; have y7 : w2.cell? ⟨w.heap.size + 1, 7, none⟩ = some (.int .u8 0) := hr9.cell 7; have y8 : w2.cell? ⟨w.heap.size + 1, 8, none⟩ = some (.int .u8 0) := hr9.cell 8; have y9 : w2.cell? ⟨w.heap.size + 1, 9, none⟩ = some (.int .u8 0) := hr9.cell 9; have y10 : w2.cell? ⟨w.heap.size + 1, 10, none⟩ = some (.int .u8 0) := hr9.cell 10; have yf : ∀ i, w2.frozen? ⟨w.heap.size + 1, i, none⟩ = false := fun i => hr9.frozen i; clear hS2 hk2 hr9)
        obtain ⟨hrB, hkB⟩ := sets_place HR9.out (.int .i64 0) (.int .i64 0) (.int .i64 0) (.int .u8 0) (.int .u8 0) (.int .u8 0) (.int .u8 0) (.int .u8 0) (.int .u8 0) (.int .u8 0) (.int .u8 0)
        generalize (((((((((((w2.setCell ⟨w.heap.size + 1, 0, none⟩ (.int .i64 0)).setCell ⟨w.heap.size + 1, 1, none⟩ (.int .i64 0)).setCell ⟨w.heap.size + 1, 2, none⟩ (.int .i64 0)).setCell ⟨w.heap.size + 1, 3, none⟩ (.int .u8 0)).setCell ⟨w.heap.size + 1, 4, none⟩ (.int .u8 0)).setCell ⟨w.heap.size + 1, 5, none⟩ (.int .u8 0)).setCell ⟨w.heap.size + 1, 6, none⟩ (.int .u8 0)).setCell ⟨w.heap.size + 1, 7, none⟩ (.int .u8 0)).setCell ⟨w.heap.size + 1, 8, none⟩ (.int .u8 0)).setCell ⟨w.heap.size + 1, 9, none⟩ (.int .u8 0)).setCell ⟨w.heap.size + 1, 10, none⟩ (.int .u8 0)) = wB at *
        clear y0 y1 y2 y3 y4 y5 y6 y7 y8 y9 y10 yf
        have hr9 := hrB
        have y0 : wB.cell? ⟨w.heap.size + 1, 0, none⟩ = some (.int .i64 0) := hr9.cell 0
        have y1 : wB.cell? ⟨w.heap.size + 1, 1, none⟩ = some (.int .i64 0) := hr9.cell 1
        have y2 : wB.cell? ⟨w.heap.size + 1, 2, none⟩ = some (.int .i64 0) := hr9.cell 2
        have y3 : wB.cell? ⟨w.heap.size + 1, 3, none⟩ = some (.int .u8 0) := hr9.cell 3
        have y4 : wB.cell? ⟨w.heap.size + 1, 4, none⟩ = some (.int .u8 0) := hr9.cell 4
        have y5 : wB.cell? ⟨w.heap.size + 1, 5, none⟩ = some (.int .u8 0) := hr9.cell 5
        have y6 : wB.cell? ⟨w.heap.size + 1, 6, none⟩ = some (.int .u8 0) := hr9.cell 6
        have y7 : wB.cell? ⟨w.heap.size + 1, 7, none⟩ = some (.int .u8 0) := hr9.cell 7
        have y8 : wB.cell? ⟨w.heap.size + 1, 8, none⟩ = some (.int .u8 0) := hr9.cell 8
        have y9 : wB.cell? ⟨w.heap.size + 1, 9, none⟩ = some (.int .u8 0) := hr9.cell 9
        have y10 : wB.cell? ⟨w.heap.size + 1, 10, none⟩ = some (.int .u8 0) := hr9.cell 10
        have yf : ∀ i, wB.frozen? ⟨w.heap.size + 1, i, none⟩ = false := fun i => hr9.frozen i
        refine bodyPost_ret (v := .tuple #[zeroPl.val, .int .i64 e2]) (by simp [results, Tryz.results54, go_sem, y0, y1, y2, y3, y4, y5, y6, y7, y8, y9, y10, zeroPl, Pl.val, Pl.cells]) rfl ?_
        rw [HAdd.out]
        exact ⟨rfl, HS2.out.keep hkB (by have h9 := H.out.fresh (Nat.le_succ _); simpa using h9), ((HKA.out.drewN nq).trans HK2.out).trans' hkB (by simp)⟩
    · have q1 : decide (C.limit < (C.size : Int) + (f.length : Int)) = false := by simpa using hfu
      have HFU : Hid (C.full f.length = false) := by simp [Hid, Ck.full, hfu]
      clear hfu h0
      go_enter Tryz.func54, Tryz.ntmps54
      go_upto_region 2 with (go_at_call 80; refine (HTF.out _ (H.out.tab.keep (M := []) (by repeat (first | exact Keep.refl _ _ | exact HK1.out | refine Keep.drew ?_ | refine Keep.drewN ?_ _ | refine Keep.alloc ?_ _)) (by simp))).mono ?_; rintro e w1 ⟨rfl, hk1⟩; have HKF := Lib.hid hk1; have HK1 : Hid (Keep [] w w1) := Keep.trans' (M := []) (by repeat (first | exact Keep.refl _ _ | exact HK1.out | refine Keep.drew ?_ | refine Keep.drewN ?_ _ | refine Keep.alloc ?_ _)) hk1 (by simp); obtain ⟨z4, z1⟩ := HZ.out _ HK1.out; clear hk1)
      have hb := Blk.new (w.alloc (.cells #[.int .u64 (k : Int), .int .u64 (n : Int), .string (bs x)] 105)) 101 #[.int .i64 0, .int .i64 0, .int .i64 0, .int .u8 0, .int .u8 0, .int .u8 0, .int .u8 0, .int .u8 0, .int .u8 0, .int .u8 0, .int .u8 0]
      rw [World.size_alloc] at hb
      have HR1 : Hid (Blk w1 (w.heap.size + 1) 101 #[.int .i64 0, .int .i64 0, .int .i64 0, .int .u8 0, .int .u8 0, .int .u8 0, .int .u8 0, .int .u8 0, .int .u8 0, .int .u8 0, .int .u8 0]) := hb.keep HKF.out (by simp)
      clear hb HKF
      have HS1 : Hid (StoreAt w1 s b m g C D) := H.out.grow HK1.out
      have HKA : Hid (Keep [s, b, m] w w1) := HK1.out.mono (by simp)
      go_quiet (fail)
      go_upto_region 8 with fail
      have HS8 : Hid (StoreAt (w1.drewN nq) s b m g C D) := HS1.out.grow (by repeat (first | exact Keep.refl _ _ | refine Keep.drew ?_ | refine Keep.drewN ?_ _ | refine Keep.alloc ?_ _))
      have HR8 : Hid (Blk (w1.drewN nq) (w.heap.size + 1) 101 #[.int .i64 0, .int .i64 0, .int .i64 0, .int .u8 0, .int .u8 0, .int .u8 0, .int .u8 0, .int .u8 0, .int .u8 0, .int .u8 0, .int .u8 0]) := HR1.out.drewN _
      have HK8 : Hid (Keep [s, b, m] w (w1.drewN nq)) := HKA.out.drewN _
      clear z4 z1 HS1 HR1 HKA HK1
      generalize w1.drewN nq = W8 at *
      have HGX : Hid (D.Good) := hD
      have hx1 := h1
      have hx2 : C.seg < 100 := by omega
      have hx3 : C.size ≤ 1000000000000 := hz
      have HAX : Hid (R = C.put D f) := by rw [HA.out, HFU.out]; rfl
      obtain ⟨CX, hcx⟩ : ∃ CX, CX = C := ⟨_, rfl⟩
      obtain ⟨DX, hdx⟩ : ∃ DX, DX = D := ⟨_, rfl⟩
      rw [← hcx, ← hdx] at HS8
      rw [← hdx] at HGX
      rw [← hcx] at hx1 hx2 hx3
      rw [← hcx, ← hdx] at HAX
      clear hcx hdx
      have HC8 : Hid (∀ (W : World), Keep [b, m] W8 W → (W.cell? ⟨s, 0, none⟩ = some (.pointer (some ⟨b, 0, none⟩)) ∧ W.cell? ⟨s, 3, none⟩ = some (.int .i64 (CX.seg : Int))) ∧ Blk W s 94 (CX.cells b g)) := fun W hk => by
        have hb := HS8.out.blk.keep hk (by simp [HS8.out.ne_.1, HS8.out.ne_.2.1])
        exact ⟨⟨hb.cell 0, hb.cell 3⟩, hb⟩
      have T8 := fun (W : World) (hW : DiskAt W b m DX) => append_calls hW HGX.out.ok (segName CX.seg) (segName_ne _) f (by omega)
      have hput : CX.put DX f = if (DX.append (segName CX.seg) f).2 = 0 then ({ CX with dirty := true, size := CX.size + f.length }, (DX.append (segName CX.seg) f).1, ⟨CX.seg, CX.size, f.length, f.take 8⟩, 0) else (CX, (DX.append (segName CX.seg) f).1, zeroPl, (DX.append (segName CX.seg) f).2) := rfl
      generalize DX.append (segName CX.seg) f = r at *
      obtain ⟨D9, e9⟩ := r
      simp only at T8 hput
      have HT8 := Lib.hid T8
      have HPUT := Lib.hid hput
      clear T8 hput
      go_region_held3 (fun w' => w'.cell? ⟨s, 0, none⟩ = some (.pointer (some ⟨b, 0, none⟩)) ∧ w'.cell? ⟨s, 3, none⟩ = some (.int .i64 (CX.seg : Int)))
        (first
          | (exact (HC8.out _ (by repeat (first | exact Keep.refl _ _ | exact HKN.out.nil_ | exact HK9.out | refine Keep.drew ?_ | refine Keep.drewN ?_ _ | refine Keep.alloc ?_ _))).1)
          | fail)
        (first
          | (go_at_call 24; refine (name_calls CX.seg hx1 hx2 _).mono ?_; rintro e wn ⟨rfl, hkn⟩; have HKN : Hid (Keep [] W8 wn) := Keep.trans' (M := []) (by repeat (first | exact Keep.refl _ _ | exact HKN.out | refine Keep.drew ?_ | refine Keep.drewN ?_ _ | refine Keep.alloc ?_ _)) hkn (by simp); clear hkn)
          | (go_at_call 81; refine (HT8.out _ (HS8.out.disk.keep (M := []) (by repeat (first | exact Keep.refl _ _ | exact HKN.out | refine Keep.drew ?_ | refine Keep.drewN ?_ _ | refine Keep.alloc ?_ _)) (by simp) (by simp))).mono ?_; rintro e w9 ⟨rfl, hD9, hk9⟩; have HK9 : Hid (Keep [b, m] W8 w9) := Keep.trans' (M := [b, m]) (by repeat (first | exact Keep.refl _ _ | exact HKN.out.nil_ | exact HK9.out | refine Keep.drew ?_ | refine Keep.drewN ?_ _ | refine Keep.alloc ?_ _)) hk9 (fun x hx => .inl hx); have HD9 := Lib.hid hD9; clear hD9 hk9)
          | fail)
      all_goals
        have hr9 : Blk w9 (w.heap.size + 1) 101 #[.int .i64 0, .int .i64 0, .int .i64 0, .int .u8 0, .int .u8 0, .int .u8 0, .int .u8 0, .int .u8 0, .int .u8 0, .int .u8 0, .int .u8 0] := HR8.out.keep HK9.out (by have := H.out.disk.blk.lt; have := H.out.disk.map.lt; simp; omega)
        have hA9 : StoreAt w9 s b m g CX D9 := HS8.out.setDisk HK9.out HD9.out
        have hK9 : Keep [s, b, m] w w9 := HK8.out.trans (HK9.out.mono (by simp))
        have hsr : s ≠ w.heap.size + 1 := by have := H.out.blk.lt; omega
        by_cases he : e9 = 0
        · have hb : (e9 != 0) = false := by simpa using he
          have hAdd : R = ({ CX with dirty := true, size := CX.size + f.length }, D9, ⟨CX.seg, CX.size, f.length, f.take 8⟩, 0) := by rw [HAX.out, HPUT.out, if_pos he]
          have HAdd := Lib.hid hAdd
          clear hAdd
          have hy := hA9.blk.cell 5
          have z5 : w9.cell? ⟨s, 5, none⟩ = some (.bool CX.dirty) := hy
          have f5 : w9.frozen? ⟨s, 5, none⟩ = false := hA9.blk.frozen 5
          have HA9 := Lib.hid hA9
          have HR9 := Lib.hid hr9
          have HKT := Lib.hid hK9
          have HSR := Lib.hid hsr
          have hk10 : Keep [s] w9 (w9.setCell ⟨s, 5, none⟩ (.bool true)) := (Keep.refl _ _).setCell (.inl (by simp)) _
          have HA10 := Lib.hid (hA9.setS (C' := { CX with dirty := true }) hk10 (hA9.blk.set_ 5 _) rfl)
          have HR10 := Lib.hid (hr9.far (p := ⟨s, 5, none⟩) (fun e => hsr e.symm) (.bool true))
          have HK10 := Lib.hid (hK9.trans (hk10.mono (by simp)))
          have HW9 : Hid (w.heap.size + 1 < w9.heap.size) := hr9.lt
          clear he hy hA9 hr9 hK9 hsr hk10
          go_upto_region 12 with fail
          clear z5 f5
          have HC12 : Hid (∀ (W : World), Keep [] (w9.setCell ⟨s, 5, none⟩ (.bool true)) W → W.cell? ⟨s, 3, none⟩ = some (.int .i64 (CX.seg : Int)) ∧ W.cell? ⟨s, 4, none⟩ = some (.int .i64 (CX.size : Int))) := fun W hk => by
            have hb := HA10.out.blk.keep hk (by simp)
            exact ⟨hb.cell 3, hb.cell 4⟩
          have HW10 : Hid (w.heap.size + 1 < (w9.setCell ⟨s, 5, none⟩ (.bool true)).heap.size) := HR10.out.lt
          generalize w9.setCell ⟨s, 5, none⟩ (.bool true) = W10 at *
          go_region_held3 (fun w' => w'.cell? ⟨s, 3, none⟩ = some (.int .i64 (CX.seg : Int)) ∧ w'.cell? ⟨s, 4, none⟩ = some (.int .i64 (CX.size : Int)))
            (first
              | (exact (HC12.out _ (by repeat (first | refine Keep.setCell ?_ (.inr (by first | exact Nat.le_refl _ | exact HKH.out.size | (have := HKH.out.size; (focus simp); omega))) _ | exact Keep.refl _ _ | exact HKH.out | refine Keep.drew ?_ | refine Keep.drewN ?_ _ | refine Keep.alloc ?_ _))))
              | fail)
            (first
              | (go_at_call 62; refine (HTH.out _).mono ?_; rintro e wh ⟨rfl, hkh⟩; have HKH : Hid (Keep [] W10 wh) := Keep.trans' (M := []) (by repeat (first | refine Keep.setCell ?_ (.inr (by first | exact Nat.le_refl _ | exact HKH.out.size | (have := HKH.out.size; (focus simp); omega))) _ | exact Keep.refl _ _ | exact HKH.out | refine Keep.drew ?_ | refine Keep.drewN ?_ _ | refine Keep.alloc ?_ _)) hkh (by simp); (first | (have hnb : Blk wh W10.heap.size 101 #[.int .i64 0, .int .i64 0, .int .i64 0, .int .u8 0, .int .u8 0, .int .u8 0, .int .u8 0, .int .u8 0, .int .u8 0, .int .u8 0, .int .u8 0] := Blk.keep (w := W10.drew.alloc (.cells #[.int .i64 0, .int .i64 0, .int .i64 0, .int .u8 0, .int .u8 0, .int .u8 0, .int .u8 0, .int .u8 0, .int .u8 0, .int .u8 0, .int .u8 0] 101)) (g := W10.heap.size) (Blk.new W10.drew 101 #[.int .i64 0, .int .i64 0, .int .i64 0, .int .u8 0, .int .u8 0, .int .u8 0, .int .u8 0, .int .u8 0, .int .u8 0, .int .u8 0, .int .u8 0]) hkh (by simp); have n0 : wh.cell? ⟨W10.heap.size, 0, none⟩ = some (.int .i64 0) := hnb.cell 0; have n1 : wh.cell? ⟨W10.heap.size, 1, none⟩ = some (.int .i64 0) := hnb.cell 1; have n2 : wh.cell? ⟨W10.heap.size, 2, none⟩ = some (.int .i64 0) := hnb.cell 2; have n3 : wh.cell? ⟨W10.heap.size, 3, none⟩ = some (.int .u8 0) := hnb.cell 3; have n4 : wh.cell? ⟨W10.heap.size, 4, none⟩ = some (.int .u8 0) := hnb.cell 4; have n5 : wh.cell? ⟨W10.heap.size, 5, none⟩ = some (.int .u8 0) := hnb.cell 5; have n6 : wh.cell? ⟨W10.heap.size, 6, none⟩ = some (.int .u8 0) := hnb.cell 6; have n7 : wh.cell? ⟨W10.heap.size, 7, none⟩ = some (.int .u8 0) := hnb.cell 7; have n8 : wh.cell? ⟨W10.heap.size, 8, none⟩ = some (.int .u8 0) := hnb.cell 8; have n9 : wh.cell? ⟨W10.heap.size, 9, none⟩ = some (.int .u8 0) := hnb.cell 9; have n10 : wh.cell? ⟨W10.heap.size, 10, none⟩ = some (.int .u8 0) := hnb.cell 10; have nf : ∀ i, wh.frozen? ⟨W10.heap.size, i, none⟩ = false := fun i => hnb.frozen i; have HNB := Lib.hid hnb; clear hnb) | skip); clear hkh)
              | fail)
          all_goals
            first
              | (have hqq := sets_place HNB.out (.int .i64 (CX.seg : Int)) (.int .i64 (CX.size : Int)) (.int .i64 (f.length : Int)) (.int .u8 (c0.toNat : Int)) (.int .u8 (c1.toNat : Int)) (.int .u8 (c2.toNat : Int)) (.int .u8 (c3.toNat : Int)) (.int .u8 (c4.toNat : Int)) (.int .u8 (c5.toNat : Int)) (.int .u8 (c6.toNat : Int)) (.int .u8 (c7.toNat : Int)); have hk11 : Keep [] W10 _ := HKH.out.trans' hqq.2 (by simp); have hq1 : W10.heap.size ≤ W10.heap.size := Nat.le_refl _; generalize (((((((((((wh.setCell ⟨W10.heap.size, 0, none⟩ (.int .i64 (CX.seg : Int))).setCell ⟨W10.heap.size, 1, none⟩ (.int .i64 (CX.size : Int))).setCell ⟨W10.heap.size, 2, none⟩ (.int .i64 (f.length : Int))).setCell ⟨W10.heap.size, 3, none⟩ (.int .u8 (c0.toNat : Int))).setCell ⟨W10.heap.size, 4, none⟩ (.int .u8 (c1.toNat : Int))).setCell ⟨W10.heap.size, 5, none⟩ (.int .u8 (c2.toNat : Int))).setCell ⟨W10.heap.size, 6, none⟩ (.int .u8 (c3.toNat : Int))).setCell ⟨W10.heap.size, 7, none⟩ (.int .u8 (c4.toNat : Int))).setCell ⟨W10.heap.size, 8, none⟩ (.int .u8 (c5.toNat : Int))).setCell ⟨W10.heap.size, 9, none⟩ (.int .u8 (c6.toNat : Int))).setCell ⟨W10.heap.size, 10, none⟩ (.int .u8 (c7.toNat : Int))) = W11 at *; generalize hqv : W10.heap.size = q at hqq hq1 ⊢; rw [← hqv] at hq1)
              | (have hqq := And.intro (Blk.new wh 101 #[.int .i64 (CX.seg : Int), .int .i64 (CX.size : Int), .int .i64 (f.length : Int), .int .u8 (c0.toNat : Int), .int .u8 (c1.toNat : Int), .int .u8 (c2.toNat : Int), .int .u8 (c3.toNat : Int), .int .u8 (c4.toNat : Int), .int .u8 (c5.toNat : Int), .int .u8 (c6.toNat : Int), .int .u8 (c7.toNat : Int)]) trivial; have hk11 : Keep [] W10 _ := HKH.out.alloc (.cells #[.int .i64 (CX.seg : Int), .int .i64 (CX.size : Int), .int .i64 (f.length : Int), .int .u8 (c0.toNat : Int), .int .u8 (c1.toNat : Int), .int .u8 (c2.toNat : Int), .int .u8 (c3.toNat : Int), .int .u8 (c4.toNat : Int), .int .u8 (c5.toNat : Int), .int .u8 (c6.toNat : Int), .int .u8 (c7.toNat : Int)] 101); have hq1 : W10.heap.size ≤ wh.heap.size := HKH.out.size; generalize wh.alloc (.cells #[.int .i64 (CX.seg : Int), .int .i64 (CX.size : Int), .int .i64 (f.length : Int), .int .u8 (c0.toNat : Int), .int .u8 (c1.toNat : Int), .int .u8 (c2.toNat : Int), .int .u8 (c3.toNat : Int), .int .u8 (c4.toNat : Int), .int .u8 (c5.toNat : Int), .int .u8 (c6.toNat : Int), .int .u8 (c7.toNat : Int)] 101) = W11 at *; generalize wh.heap.size = q at hqq hq1 ⊢)
            have hq := hqq.1
            clear hqq
            have HA11 := Lib.hid (HA10.out.grow hk11)
            have HR11 := Lib.hid (HR10.out.keep hk11 (by simp))
            have HK11 := Lib.hid (HK10.out.trans (hk11.mono (by simp)))
            have hqr : q ≠ w.heap.size + 1 := by have := HW10.out; omega
            have hqs : q ≠ s := by have := HW10.out; have := H.out.blk.lt; omega
            have HQ := Lib.hid hq
            have HQR := Lib.hid hqr
            have HQS := Lib.hid hqs
            have wrx : IntKind.i64.wrap ((CX.size : Int) + (f.length : Int)) = (CX.size : Int) + (f.length : Int) := IntWalk.i64_in _ (by omega)
            have z4 : W11.cell? ⟨s, 4, none⟩ = some (.int .i64 (CX.size : Int)) := HA11.out.blk.cell 4
            have f4 : W11.frozen? ⟨s, 4, none⟩ = false := HA11.out.blk.frozen 4
            clear hk11 hq hqr hqs hq1
            go_upto_region 14 with fail
            clear z4 f4
            have hk12 : Keep [s] W11 (W11.setCell ⟨s, 4, none⟩ (.int .i64 ((CX.size : Int) + (f.length : Int)))) := (Keep.refl _ _).setCell (.inl (by simp)) _
            have hb12 : Blk (W11.setCell ⟨s, 4, none⟩ (.int .i64 ((CX.size : Int) + (f.length : Int)))) s 94 (({ CX with dirty := true, size := CX.size + f.length } : Ck).cells b g) := by
              have h := HA11.out.blk.set_ 4 (.int .i64 ((CX.size : Int) + (f.length : Int)))
              unfold Ck.cells
              rw [Int.natCast_add]
              exact h
            have hA12 := HA11.out.setS (C' := { CX with dirty := true, size := CX.size + f.length }) hk12 hb12 rfl
            have hr9 := HR11.out.far (p := ⟨s, 4, none⟩) (fun e => HSR.out e.symm) (.int .i64 ((CX.size : Int) + (f.length : Int)))
            have hQ12 := HQ.out.far (p := ⟨s, 4, none⟩) HQS.out (.int .i64 ((CX.size : Int) + (f.length : Int)))
            have hK12 := HK11.out.trans (hk12.mono (by simp))
            generalize W11.setCell ⟨s, 4, none⟩ (.int .i64 ((CX.size : Int) + (f.length : Int))) = W12 at *
            have u0 : W12.cell? ⟨q, 0, none⟩ = some (.int .i64 (CX.seg : Int)) := hQ12.cell 0
            have u1 : W12.cell? ⟨q, 1, none⟩ = some (.int .i64 (CX.size : Int)) := hQ12.cell 1
            have u2 : W12.cell? ⟨q, 2, none⟩ = some (.int .i64 (f.length : Int)) := hQ12.cell 2
            have u3 : W12.cell? ⟨q, 3, none⟩ = some (.int .u8 (c0.toNat : Int)) := hQ12.cell 3
            have u4 : W12.cell? ⟨q, 4, none⟩ = some (.int .u8 (c1.toNat : Int)) := hQ12.cell 4
            have u5 : W12.cell? ⟨q, 5, none⟩ = some (.int .u8 (c2.toNat : Int)) := hQ12.cell 5
            have u6 : W12.cell? ⟨q, 6, none⟩ = some (.int .u8 (c3.toNat : Int)) := hQ12.cell 6
            have u7 : W12.cell? ⟨q, 7, none⟩ = some (.int .u8 (c4.toNat : Int)) := hQ12.cell 7
            have u8 : W12.cell? ⟨q, 8, none⟩ = some (.int .u8 (c5.toNat : Int)) := hQ12.cell 8
            have u9 : W12.cell? ⟨q, 9, none⟩ = some (.int .u8 (c6.toNat : Int)) := hQ12.cell 9
            have u10 : W12.cell? ⟨q, 10, none⟩ = some (.int .u8 (c7.toNat : Int)) := hQ12.cell 10
            have y0 : W12.cell? ⟨w.heap.size + 1, 0, none⟩ = some (.int .i64 0) := hr9.cell 0
            have y1 : W12.cell? ⟨w.heap.size + 1, 1, none⟩ = some (.int .i64 0) := hr9.cell 1
            have y2 : W12.cell? ⟨w.heap.size + 1, 2, none⟩ = some (.int .i64 0) := hr9.cell 2
            have y3 : W12.cell? ⟨w.heap.size + 1, 3, none⟩ = some (.int .u8 0) := hr9.cell 3
            have y4 : W12.cell? ⟨w.heap.size + 1, 4, none⟩ = some (.int .u8 0) := hr9.cell 4
            have y5 : W12.cell? ⟨w.heap.size + 1, 5, none⟩ = some (.int .u8 0) := hr9.cell 5
            have y6 : W12.cell? ⟨w.heap.size + 1, 6, none⟩ = some (.int .u8 0) := hr9.cell 6
            have y7 : W12.cell? ⟨w.heap.size + 1, 7, none⟩ = some (.int .u8 0) := hr9.cell 7
            have y8 : W12.cell? ⟨w.heap.size + 1, 8, none⟩ = some (.int .u8 0) := hr9.cell 8
            have y9 : W12.cell? ⟨w.heap.size + 1, 9, none⟩ = some (.int .u8 0) := hr9.cell 9
            have y10 : W12.cell? ⟨w.heap.size + 1, 10, none⟩ = some (.int .u8 0) := hr9.cell 10
            have yf : ∀ i, W12.frozen? ⟨w.heap.size + 1, i, none⟩ = false := fun i => hr9.frozen i
            have hqr := HQR.out
            have HA12 := Lib.hid hA12
            have HR12 := Lib.hid hr9
            have HK12 := Lib.hid hK12
            clear hk12 hb12 hA12 hr9 hQ12 hK12
            go_wp2
            obtain ⟨hrB, hkB⟩ := sets_place HR12.out (.int .i64 (CX.seg : Int)) (.int .i64 (CX.size : Int)) (.int .i64 (f.length : Int)) (.int .u8 (c0.toNat : Int)) (.int .u8 (c1.toNat : Int)) (.int .u8 (c2.toNat : Int)) (.int .u8 (c3.toNat : Int)) (.int .u8 (c4.toNat : Int)) (.int .u8 (c5.toNat : Int)) (.int .u8 (c6.toNat : Int)) (.int .u8 (c7.toNat : Int))
            generalize (((((((((((W12.setCell ⟨w.heap.size + 1, 0, none⟩ (.int .i64 (CX.seg : Int))).setCell ⟨w.heap.size + 1, 1, none⟩ (.int .i64 (CX.size : Int))).setCell ⟨w.heap.size + 1, 2, none⟩ (.int .i64 (f.length : Int))).setCell ⟨w.heap.size + 1, 3, none⟩ (.int .u8 (c0.toNat : Int))).setCell ⟨w.heap.size + 1, 4, none⟩ (.int .u8 (c1.toNat : Int))).setCell ⟨w.heap.size + 1, 5, none⟩ (.int .u8 (c2.toNat : Int))).setCell ⟨w.heap.size + 1, 6, none⟩ (.int .u8 (c3.toNat : Int))).setCell ⟨w.heap.size + 1, 7, none⟩ (.int .u8 (c4.toNat : Int))).setCell ⟨w.heap.size + 1, 8, none⟩ (.int .u8 (c5.toNat : Int))).setCell ⟨w.heap.size + 1, 9, none⟩ (.int .u8 (c6.toNat : Int))).setCell ⟨w.heap.size + 1, 10, none⟩ (.int .u8 (c7.toNat : Int))) = wB at *
            clear y0 y1 y2 y3 y4 y5 y6 y7 y8 y9 y10 yf u0 u1 u2 u3 u4 u5 u6 u7 u8 u9 u10
            have y0 : wB.cell? ⟨w.heap.size + 1, 0, none⟩ = some (.int .i64 (CX.seg : Int)) := hrB.cell 0
            have y1 : wB.cell? ⟨w.heap.size + 1, 1, none⟩ = some (.int .i64 (CX.size : Int)) := hrB.cell 1
            have y2 : wB.cell? ⟨w.heap.size + 1, 2, none⟩ = some (.int .i64 (f.length : Int)) := hrB.cell 2
            have y3 : wB.cell? ⟨w.heap.size + 1, 3, none⟩ = some (.int .u8 (c0.toNat : Int)) := hrB.cell 3
            have y4 : wB.cell? ⟨w.heap.size + 1, 4, none⟩ = some (.int .u8 (c1.toNat : Int)) := hrB.cell 4
            have y5 : wB.cell? ⟨w.heap.size + 1, 5, none⟩ = some (.int .u8 (c2.toNat : Int)) := hrB.cell 5
            have y6 : wB.cell? ⟨w.heap.size + 1, 6, none⟩ = some (.int .u8 (c3.toNat : Int)) := hrB.cell 6
            have y7 : wB.cell? ⟨w.heap.size + 1, 7, none⟩ = some (.int .u8 (c4.toNat : Int)) := hrB.cell 7
            have y8 : wB.cell? ⟨w.heap.size + 1, 8, none⟩ = some (.int .u8 (c5.toNat : Int)) := hrB.cell 8
            have y9 : wB.cell? ⟨w.heap.size + 1, 9, none⟩ = some (.int .u8 (c6.toNat : Int)) := hrB.cell 9
            have y10 : wB.cell? ⟨w.heap.size + 1, 10, none⟩ = some (.int .u8 (c7.toNat : Int)) := hrB.cell 10
            refine bodyPost_ret (v := .tuple #[.agg #[.int .i64 (CX.seg : Int), .int .i64 (CX.size : Int), .int .i64 (f.length : Int), .int .u8 (c0.toNat : Int), .int .u8 (c1.toNat : Int), .int .u8 (c2.toNat : Int), .int .u8 (c3.toNat : Int), .int .u8 (c4.toNat : Int), .int .u8 (c5.toNat : Int), .int .u8 (c6.toNat : Int), .int .u8 (c7.toNat : Int)], .int .i64 0]) (by simp [results, Tryz.results54, go_sem, y0, y1, y2, y3, y4, y5, y6, y7, y8, y9, y10]) rfl ?_
            rw [HAdd.out]
            exact ⟨by simp [Pl.val, Pl.cells, HF8.out], HA12.out.keep hkB (by have h9 := H.out.fresh (Nat.le_succ _); simpa using h9), HK12.out.trans' hkB (by simp)⟩
        · have hb : (e9 != 0) = true := by simpa using he
          have hAdd : R = (CX, D9, zeroPl, e9) := by rw [HAX.out, HPUT.out, if_neg he]
          have HAdd := Lib.hid hAdd
          clear hAdd
          have y0 : w9.cell? ⟨w.heap.size + 1, 0, none⟩ = some (.int .i64 0) := hr9.cell 0
          have y1 : w9.cell? ⟨w.heap.size + 1, 1, none⟩ = some (.int .i64 0) := hr9.cell 1
          have y2 : w9.cell? ⟨w.heap.size + 1, 2, none⟩ = some (.int .i64 0) := hr9.cell 2
          have y3 : w9.cell? ⟨w.heap.size + 1, 3, none⟩ = some (.int .u8 0) := hr9.cell 3
          have y4 : w9.cell? ⟨w.heap.size + 1, 4, none⟩ = some (.int .u8 0) := hr9.cell 4
          have y5 : w9.cell? ⟨w.heap.size + 1, 5, none⟩ = some (.int .u8 0) := hr9.cell 5
          have y6 : w9.cell? ⟨w.heap.size + 1, 6, none⟩ = some (.int .u8 0) := hr9.cell 6
          have y7 : w9.cell? ⟨w.heap.size + 1, 7, none⟩ = some (.int .u8 0) := hr9.cell 7
          have y8 : w9.cell? ⟨w.heap.size + 1, 8, none⟩ = some (.int .u8 0) := hr9.cell 8
          have y9 : w9.cell? ⟨w.heap.size + 1, 9, none⟩ = some (.int .u8 0) := hr9.cell 9
          have y10 : w9.cell? ⟨w.heap.size + 1, 10, none⟩ = some (.int .u8 0) := hr9.cell 10
          have yf : ∀ i, w9.frozen? ⟨w.heap.size + 1, i, none⟩ = false := fun i => hr9.frozen i
          have HA9 := Lib.hid hA9
          have HR9 := Lib.hid hr9
          have HKT := Lib.hid hK9
          have HSR := Lib.hid hsr
          clear he hA9 hr9 hK9 hsr
          go_wp2
          obtain ⟨hrB, hkB⟩ := sets_place HR9.out (.int .i64 0) (.int .i64 0) (.int .i64 0) (.int .u8 0) (.int .u8 0) (.int .u8 0) (.int .u8 0) (.int .u8 0) (.int .u8 0) (.int .u8 0) (.int .u8 0)
          generalize (((((((((((w9.setCell ⟨w.heap.size + 1, 0, none⟩ (.int .i64 0)).setCell ⟨w.heap.size + 1, 1, none⟩ (.int .i64 0)).setCell ⟨w.heap.size + 1, 2, none⟩ (.int .i64 0)).setCell ⟨w.heap.size + 1, 3, none⟩ (.int .u8 0)).setCell ⟨w.heap.size + 1, 4, none⟩ (.int .u8 0)).setCell ⟨w.heap.size + 1, 5, none⟩ (.int .u8 0)).setCell ⟨w.heap.size + 1, 6, none⟩ (.int .u8 0)).setCell ⟨w.heap.size + 1, 7, none⟩ (.int .u8 0)).setCell ⟨w.heap.size + 1, 8, none⟩ (.int .u8 0)).setCell ⟨w.heap.size + 1, 9, none⟩ (.int .u8 0)).setCell ⟨w.heap.size + 1, 10, none⟩ (.int .u8 0)) = wB at *
          clear y0 y1 y2 y3 y4 y5 y6 y7 y8 y9 y10 yf
          have hr9 := hrB
          have y0 : wB.cell? ⟨w.heap.size + 1, 0, none⟩ = some (.int .i64 0) := hr9.cell 0
          have y1 : wB.cell? ⟨w.heap.size + 1, 1, none⟩ = some (.int .i64 0) := hr9.cell 1
          have y2 : wB.cell? ⟨w.heap.size + 1, 2, none⟩ = some (.int .i64 0) := hr9.cell 2
          have y3 : wB.cell? ⟨w.heap.size + 1, 3, none⟩ = some (.int .u8 0) := hr9.cell 3
          have y4 : wB.cell? ⟨w.heap.size + 1, 4, none⟩ = some (.int .u8 0) := hr9.cell 4
          have y5 : wB.cell? ⟨w.heap.size + 1, 5, none⟩ = some (.int .u8 0) := hr9.cell 5
          have y6 : wB.cell? ⟨w.heap.size + 1, 6, none⟩ = some (.int .u8 0) := hr9.cell 6
          have y7 : wB.cell? ⟨w.heap.size + 1, 7, none⟩ = some (.int .u8 0) := hr9.cell 7
          have y8 : wB.cell? ⟨w.heap.size + 1, 8, none⟩ = some (.int .u8 0) := hr9.cell 8
          have y9 : wB.cell? ⟨w.heap.size + 1, 9, none⟩ = some (.int .u8 0) := hr9.cell 9
          have y10 : wB.cell? ⟨w.heap.size + 1, 10, none⟩ = some (.int .u8 0) := hr9.cell 10
          have yf : ∀ i, wB.frozen? ⟨w.heap.size + 1, i, none⟩ = false := fun i => hr9.frozen i
          refine bodyPost_ret (v := .tuple #[zeroPl.val, .int .i64 e9]) (by simp [results, Tryz.results54, go_sem, y0, y1, y2, y3, y4, y5, y6, y7, y8, y9, y10, zeroPl, Pl.val, Pl.cells]) rfl ?_
          rw [HAdd.out]
          exact ⟨rfl, HA9.out.keep hkB (by have h9 := H.out.fresh (Nat.le_succ _); simpa using h9), HKT.out.trans' hkB (by simp)⟩
  · have q0 : decide ((0 : Int) < (C.size : Int)) = false := by simp; omega
    have q0n : decide (0 < C.size) = false := by simpa using h0
    have HFU : Hid (C.full f.length = false) := by simp [Hid, Ck.full, h0]
    clear h0
    go_enter Tryz.func54, Tryz.ntmps54
    go_upto_region 2 with (go_at_call 80; refine (HTF.out _ (H.out.tab.keep (M := []) (by repeat (first | exact Keep.refl _ _ | exact HK1.out | refine Keep.drew ?_ | refine Keep.drewN ?_ _ | refine Keep.alloc ?_ _)) (by simp))).mono ?_; rintro e w1 ⟨rfl, hk1⟩; have HKF := Lib.hid hk1; have HK1 : Hid (Keep [] w w1) := Keep.trans' (M := []) (by repeat (first | exact Keep.refl _ _ | exact HK1.out | refine Keep.drew ?_ | refine Keep.drewN ?_ _ | refine Keep.alloc ?_ _)) hk1 (by simp); obtain ⟨z4, z1⟩ := HZ.out _ HK1.out; clear hk1)
    have hb := Blk.new (w.alloc (.cells #[.int .u64 (k : Int), .int .u64 (n : Int), .string (bs x)] 105)) 101 #[.int .i64 0, .int .i64 0, .int .i64 0, .int .u8 0, .int .u8 0, .int .u8 0, .int .u8 0, .int .u8 0, .int .u8 0, .int .u8 0, .int .u8 0]
    rw [World.size_alloc] at hb
    have HR1 : Hid (Blk w1 (w.heap.size + 1) 101 #[.int .i64 0, .int .i64 0, .int .i64 0, .int .u8 0, .int .u8 0, .int .u8 0, .int .u8 0, .int .u8 0, .int .u8 0, .int .u8 0, .int .u8 0]) := hb.keep HKF.out (by simp)
    clear hb HKF
    have HS1 : Hid (StoreAt w1 s b m g C D) := H.out.grow HK1.out
    have HKA : Hid (Keep [s, b, m] w w1) := HK1.out.mono (by simp)
    go_quiet (fail)
    go_upto_region 8 with fail
    have HS8 : Hid (StoreAt (w1.drewN nq) s b m g C D) := HS1.out.grow (by repeat (first | exact Keep.refl _ _ | refine Keep.drew ?_ | refine Keep.drewN ?_ _ | refine Keep.alloc ?_ _))
    have HR8 : Hid (Blk (w1.drewN nq) (w.heap.size + 1) 101 #[.int .i64 0, .int .i64 0, .int .i64 0, .int .u8 0, .int .u8 0, .int .u8 0, .int .u8 0, .int .u8 0, .int .u8 0, .int .u8 0, .int .u8 0]) := HR1.out.drewN _
    have HK8 : Hid (Keep [s, b, m] w (w1.drewN nq)) := HKA.out.drewN _
    clear z4 z1 HS1 HR1 HKA HK1
    generalize w1.drewN nq = W8 at *
    have HGX : Hid (D.Good) := hD
    have hx1 := h1
    have hx2 : C.seg < 100 := by omega
    have hx3 : C.size ≤ 1000000000000 := hz
    have HAX : Hid (R = C.put D f) := by rw [HA.out, HFU.out]; rfl
    obtain ⟨CX, hcx⟩ : ∃ CX, CX = C := ⟨_, rfl⟩
    obtain ⟨DX, hdx⟩ : ∃ DX, DX = D := ⟨_, rfl⟩
    rw [← hcx, ← hdx] at HS8
    rw [← hdx] at HGX
    rw [← hcx] at hx1 hx2 hx3
    rw [← hcx, ← hdx] at HAX
    clear hcx hdx
    have HC8 : Hid (∀ (W : World), Keep [b, m] W8 W → (W.cell? ⟨s, 0, none⟩ = some (.pointer (some ⟨b, 0, none⟩)) ∧ W.cell? ⟨s, 3, none⟩ = some (.int .i64 (CX.seg : Int))) ∧ Blk W s 94 (CX.cells b g)) := fun W hk => by
      have hb := HS8.out.blk.keep hk (by simp [HS8.out.ne_.1, HS8.out.ne_.2.1])
      exact ⟨⟨hb.cell 0, hb.cell 3⟩, hb⟩
    have T8 := fun (W : World) (hW : DiskAt W b m DX) => append_calls hW HGX.out.ok (segName CX.seg) (segName_ne _) f (by omega)
    have hput : CX.put DX f = if (DX.append (segName CX.seg) f).2 = 0 then ({ CX with dirty := true, size := CX.size + f.length }, (DX.append (segName CX.seg) f).1, ⟨CX.seg, CX.size, f.length, f.take 8⟩, 0) else (CX, (DX.append (segName CX.seg) f).1, zeroPl, (DX.append (segName CX.seg) f).2) := rfl
    generalize DX.append (segName CX.seg) f = r at *
    obtain ⟨D9, e9⟩ := r
    simp only at T8 hput
    have HT8 := Lib.hid T8
    have HPUT := Lib.hid hput
    clear T8 hput
    go_region_held3 (fun w' => w'.cell? ⟨s, 0, none⟩ = some (.pointer (some ⟨b, 0, none⟩)) ∧ w'.cell? ⟨s, 3, none⟩ = some (.int .i64 (CX.seg : Int)))
      (first
        | (exact (HC8.out _ (by repeat (first | exact Keep.refl _ _ | exact HKN.out.nil_ | exact HK9.out | refine Keep.drew ?_ | refine Keep.drewN ?_ _ | refine Keep.alloc ?_ _))).1)
        | fail)
      (first
        | (go_at_call 24; refine (name_calls CX.seg hx1 hx2 _).mono ?_; rintro e wn ⟨rfl, hkn⟩; have HKN : Hid (Keep [] W8 wn) := Keep.trans' (M := []) (by repeat (first | exact Keep.refl _ _ | exact HKN.out | refine Keep.drew ?_ | refine Keep.drewN ?_ _ | refine Keep.alloc ?_ _)) hkn (by simp); clear hkn)
        | (go_at_call 81; refine (HT8.out _ (HS8.out.disk.keep (M := []) (by repeat (first | exact Keep.refl _ _ | exact HKN.out | refine Keep.drew ?_ | refine Keep.drewN ?_ _ | refine Keep.alloc ?_ _)) (by simp) (by simp))).mono ?_; rintro e w9 ⟨rfl, hD9, hk9⟩; have HK9 : Hid (Keep [b, m] W8 w9) := Keep.trans' (M := [b, m]) (by repeat (first | exact Keep.refl _ _ | exact HKN.out.nil_ | exact HK9.out | refine Keep.drew ?_ | refine Keep.drewN ?_ _ | refine Keep.alloc ?_ _)) hk9 (fun x hx => .inl hx); have HD9 := Lib.hid hD9; clear hD9 hk9)
        | fail)
    all_goals
      have hr9 : Blk w9 (w.heap.size + 1) 101 #[.int .i64 0, .int .i64 0, .int .i64 0, .int .u8 0, .int .u8 0, .int .u8 0, .int .u8 0, .int .u8 0, .int .u8 0, .int .u8 0, .int .u8 0] := HR8.out.keep HK9.out (by have := H.out.disk.blk.lt; have := H.out.disk.map.lt; simp; omega)
      have hA9 : StoreAt w9 s b m g CX D9 := HS8.out.setDisk HK9.out HD9.out
      have hK9 : Keep [s, b, m] w w9 := HK8.out.trans (HK9.out.mono (by simp))
      have hsr : s ≠ w.heap.size + 1 := by have := H.out.blk.lt; omega
      by_cases he : e9 = 0
      · have hb : (e9 != 0) = false := by simpa using he
        have hAdd : R = ({ CX with dirty := true, size := CX.size + f.length }, D9, ⟨CX.seg, CX.size, f.length, f.take 8⟩, 0) := by rw [HAX.out, HPUT.out, if_pos he]
        have HAdd := Lib.hid hAdd
        clear hAdd
        have hy := hA9.blk.cell 5
        have z5 : w9.cell? ⟨s, 5, none⟩ = some (.bool CX.dirty) := hy
        have f5 : w9.frozen? ⟨s, 5, none⟩ = false := hA9.blk.frozen 5
        have HA9 := Lib.hid hA9
        have HR9 := Lib.hid hr9
        have HKT := Lib.hid hK9
        have HSR := Lib.hid hsr
        have hk10 : Keep [s] w9 (w9.setCell ⟨s, 5, none⟩ (.bool true)) := (Keep.refl _ _).setCell (.inl (by simp)) _
        have HA10 := Lib.hid (hA9.setS (C' := { CX with dirty := true }) hk10 (hA9.blk.set_ 5 _) rfl)
        have HR10 := Lib.hid (hr9.far (p := ⟨s, 5, none⟩) (fun e => hsr e.symm) (.bool true))
        have HK10 := Lib.hid (hK9.trans (hk10.mono (by simp)))
        have HW9 : Hid (w.heap.size + 1 < w9.heap.size) := hr9.lt
        clear he hy hA9 hr9 hK9 hsr hk10
        go_upto_region 12 with fail
        clear z5 f5
        have HC12 : Hid (∀ (W : World), Keep [] (w9.setCell ⟨s, 5, none⟩ (.bool true)) W → W.cell? ⟨s, 3, none⟩ = some (.int .i64 (CX.seg : Int)) ∧ W.cell? ⟨s, 4, none⟩ = some (.int .i64 (CX.size : Int))) := fun W hk => by
          have hb := HA10.out.blk.keep hk (by simp)
          exact ⟨hb.cell 3, hb.cell 4⟩
        have HW10 : Hid (w.heap.size + 1 < (w9.setCell ⟨s, 5, none⟩ (.bool true)).heap.size) := HR10.out.lt
        generalize w9.setCell ⟨s, 5, none⟩ (.bool true) = W10 at *
        go_region_held3 (fun w' => w'.cell? ⟨s, 3, none⟩ = some (.int .i64 (CX.seg : Int)) ∧ w'.cell? ⟨s, 4, none⟩ = some (.int .i64 (CX.size : Int)))
          (first
            | (exact (HC12.out _ (by repeat (first | refine Keep.setCell ?_ (.inr (by first | exact Nat.le_refl _ | exact HKH.out.size | (have := HKH.out.size; (focus simp); omega))) _ | exact Keep.refl _ _ | exact HKH.out | refine Keep.drew ?_ | refine Keep.drewN ?_ _ | refine Keep.alloc ?_ _))))
            | fail)
          (first
            | (go_at_call 62; refine (HTH.out _).mono ?_; rintro e wh ⟨rfl, hkh⟩; have HKH : Hid (Keep [] W10 wh) := Keep.trans' (M := []) (by repeat (first | refine Keep.setCell ?_ (.inr (by first | exact Nat.le_refl _ | exact HKH.out.size | (have := HKH.out.size; (focus simp); omega))) _ | exact Keep.refl _ _ | exact HKH.out | refine Keep.drew ?_ | refine Keep.drewN ?_ _ | refine Keep.alloc ?_ _)) hkh (by simp); (first | (have hnb : Blk wh W10.heap.size 101 #[.int .i64 0, .int .i64 0, .int .i64 0, .int .u8 0, .int .u8 0, .int .u8 0, .int .u8 0, .int .u8 0, .int .u8 0, .int .u8 0, .int .u8 0] := Blk.keep (w := W10.drew.alloc (.cells #[.int .i64 0, .int .i64 0, .int .i64 0, .int .u8 0, .int .u8 0, .int .u8 0, .int .u8 0, .int .u8 0, .int .u8 0, .int .u8 0, .int .u8 0] 101)) (g := W10.heap.size) (Blk.new W10.drew 101 #[.int .i64 0, .int .i64 0, .int .i64 0, .int .u8 0, .int .u8 0, .int .u8 0, .int .u8 0, .int .u8 0, .int .u8 0, .int .u8 0, .int .u8 0]) hkh (by simp); have n0 : wh.cell? ⟨W10.heap.size, 0, none⟩ = some (.int .i64 0) := hnb.cell 0; have n1 : wh.cell? ⟨W10.heap.size, 1, none⟩ = some (.int .i64 0) := hnb.cell 1; have n2 : wh.cell? ⟨W10.heap.size, 2, none⟩ = some (.int .i64 0) := hnb.cell 2; have n3 : wh.cell? ⟨W10.heap.size, 3, none⟩ = some (.int .u8 0) := hnb.cell 3; have n4 : wh.cell? ⟨W10.heap.size, 4, none⟩ = some (.int .u8 0) := hnb.cell 4; have n5 : wh.cell? ⟨W10.heap.size, 5, none⟩ = some (.int .u8 0) := hnb.cell 5; have n6 : wh.cell? ⟨W10.heap.size, 6, none⟩ = some (.int .u8 0) := hnb.cell 6; have n7 : wh.cell? ⟨W10.heap.size, 7, none⟩ = some (.int .u8 0) := hnb.cell 7; have n8 : wh.cell? ⟨W10.heap.size, 8, none⟩ = some (.int .u8 0) := hnb.cell 8; have n9 : wh.cell? ⟨W10.heap.size, 9, none⟩ = some (.int .u8 0) := hnb.cell 9; have n10 : wh.cell? ⟨W10.heap.size, 10, none⟩ = some (.int .u8 0) := hnb.cell 10; have nf : ∀ i, wh.frozen? ⟨W10.heap.size, i, none⟩ = false := fun i => hnb.frozen i; have HNB := Lib.hid hnb; clear hnb) | skip); clear hkh)
            | fail)
        all_goals
          first
            | (have hqq := sets_place HNB.out (.int .i64 (CX.seg : Int)) (.int .i64 (CX.size : Int)) (.int .i64 (f.length : Int)) (.int .u8 (c0.toNat : Int)) (.int .u8 (c1.toNat : Int)) (.int .u8 (c2.toNat : Int)) (.int .u8 (c3.toNat : Int)) (.int .u8 (c4.toNat : Int)) (.int .u8 (c5.toNat : Int)) (.int .u8 (c6.toNat : Int)) (.int .u8 (c7.toNat : Int)); have hk11 : Keep [] W10 _ := HKH.out.trans' hqq.2 (by simp); have hq1 : W10.heap.size ≤ W10.heap.size := Nat.le_refl _; generalize (((((((((((wh.setCell ⟨W10.heap.size, 0, none⟩ (.int .i64 (CX.seg : Int))).setCell ⟨W10.heap.size, 1, none⟩ (.int .i64 (CX.size : Int))).setCell ⟨W10.heap.size, 2, none⟩ (.int .i64 (f.length : Int))).setCell ⟨W10.heap.size, 3, none⟩ (.int .u8 (c0.toNat : Int))).setCell ⟨W10.heap.size, 4, none⟩ (.int .u8 (c1.toNat : Int))).setCell ⟨W10.heap.size, 5, none⟩ (.int .u8 (c2.toNat : Int))).setCell ⟨W10.heap.size, 6, none⟩ (.int .u8 (c3.toNat : Int))).setCell ⟨W10.heap.size, 7, none⟩ (.int .u8 (c4.toNat : Int))).setCell ⟨W10.heap.size, 8, none⟩ (.int .u8 (c5.toNat : Int))).setCell ⟨W10.heap.size, 9, none⟩ (.int .u8 (c6.toNat : Int))).setCell ⟨W10.heap.size, 10, none⟩ (.int .u8 (c7.toNat : Int))) = W11 at *; generalize hqv : W10.heap.size = q at hqq hq1 ⊢; rw [← hqv] at hq1)
            | (have hqq := And.intro (Blk.new wh 101 #[.int .i64 (CX.seg : Int), .int .i64 (CX.size : Int), .int .i64 (f.length : Int), .int .u8 (c0.toNat : Int), .int .u8 (c1.toNat : Int), .int .u8 (c2.toNat : Int), .int .u8 (c3.toNat : Int), .int .u8 (c4.toNat : Int), .int .u8 (c5.toNat : Int), .int .u8 (c6.toNat : Int), .int .u8 (c7.toNat : Int)]) trivial; have hk11 : Keep [] W10 _ := HKH.out.alloc (.cells #[.int .i64 (CX.seg : Int), .int .i64 (CX.size : Int), .int .i64 (f.length : Int), .int .u8 (c0.toNat : Int), .int .u8 (c1.toNat : Int), .int .u8 (c2.toNat : Int), .int .u8 (c3.toNat : Int), .int .u8 (c4.toNat : Int), .int .u8 (c5.toNat : Int), .int .u8 (c6.toNat : Int), .int .u8 (c7.toNat : Int)] 101); have hq1 : W10.heap.size ≤ wh.heap.size := HKH.out.size; generalize wh.alloc (.cells #[.int .i64 (CX.seg : Int), .int .i64 (CX.size : Int), .int .i64 (f.length : Int), .int .u8 (c0.toNat : Int), .int .u8 (c1.toNat : Int), .int .u8 (c2.toNat : Int), .int .u8 (c3.toNat : Int), .int .u8 (c4.toNat : Int), .int .u8 (c5.toNat : Int), .int .u8 (c6.toNat : Int), .int .u8 (c7.toNat : Int)] 101) = W11 at *; generalize wh.heap.size = q at hqq hq1 ⊢)
          have hq := hqq.1
          clear hqq
          have HA11 := Lib.hid (HA10.out.grow hk11)
          have HR11 := Lib.hid (HR10.out.keep hk11 (by simp))
          have HK11 := Lib.hid (HK10.out.trans (hk11.mono (by simp)))
          have hqr : q ≠ w.heap.size + 1 := by have := HW10.out; omega
          have hqs : q ≠ s := by have := HW10.out; have := H.out.blk.lt; omega
          have HQ := Lib.hid hq
          have HQR := Lib.hid hqr
          have HQS := Lib.hid hqs
          have wrx : IntKind.i64.wrap ((CX.size : Int) + (f.length : Int)) = (CX.size : Int) + (f.length : Int) := IntWalk.i64_in _ (by omega)
          have z4 : W11.cell? ⟨s, 4, none⟩ = some (.int .i64 (CX.size : Int)) := HA11.out.blk.cell 4
          have f4 : W11.frozen? ⟨s, 4, none⟩ = false := HA11.out.blk.frozen 4
          clear hk11 hq hqr hqs hq1
          go_upto_region 14 with fail
          clear z4 f4
          have hk12 : Keep [s] W11 (W11.setCell ⟨s, 4, none⟩ (.int .i64 ((CX.size : Int) + (f.length : Int)))) := (Keep.refl _ _).setCell (.inl (by simp)) _
          have hb12 : Blk (W11.setCell ⟨s, 4, none⟩ (.int .i64 ((CX.size : Int) + (f.length : Int)))) s 94 (({ CX with dirty := true, size := CX.size + f.length } : Ck).cells b g) := by
            have h := HA11.out.blk.set_ 4 (.int .i64 ((CX.size : Int) + (f.length : Int)))
            unfold Ck.cells
            rw [Int.natCast_add]
            exact h
          have hA12 := HA11.out.setS (C' := { CX with dirty := true, size := CX.size + f.length }) hk12 hb12 rfl
          have hr9 := HR11.out.far (p := ⟨s, 4, none⟩) (fun e => HSR.out e.symm) (.int .i64 ((CX.size : Int) + (f.length : Int)))
          have hQ12 := HQ.out.far (p := ⟨s, 4, none⟩) HQS.out (.int .i64 ((CX.size : Int) + (f.length : Int)))
          have hK12 := HK11.out.trans (hk12.mono (by simp))
          generalize W11.setCell ⟨s, 4, none⟩ (.int .i64 ((CX.size : Int) + (f.length : Int))) = W12 at *
          have u0 : W12.cell? ⟨q, 0, none⟩ = some (.int .i64 (CX.seg : Int)) := hQ12.cell 0
          have u1 : W12.cell? ⟨q, 1, none⟩ = some (.int .i64 (CX.size : Int)) := hQ12.cell 1
          have u2 : W12.cell? ⟨q, 2, none⟩ = some (.int .i64 (f.length : Int)) := hQ12.cell 2
          have u3 : W12.cell? ⟨q, 3, none⟩ = some (.int .u8 (c0.toNat : Int)) := hQ12.cell 3
          have u4 : W12.cell? ⟨q, 4, none⟩ = some (.int .u8 (c1.toNat : Int)) := hQ12.cell 4
          have u5 : W12.cell? ⟨q, 5, none⟩ = some (.int .u8 (c2.toNat : Int)) := hQ12.cell 5
          have u6 : W12.cell? ⟨q, 6, none⟩ = some (.int .u8 (c3.toNat : Int)) := hQ12.cell 6
          have u7 : W12.cell? ⟨q, 7, none⟩ = some (.int .u8 (c4.toNat : Int)) := hQ12.cell 7
          have u8 : W12.cell? ⟨q, 8, none⟩ = some (.int .u8 (c5.toNat : Int)) := hQ12.cell 8
          have u9 : W12.cell? ⟨q, 9, none⟩ = some (.int .u8 (c6.toNat : Int)) := hQ12.cell 9
          have u10 : W12.cell? ⟨q, 10, none⟩ = some (.int .u8 (c7.toNat : Int)) := hQ12.cell 10
          have y0 : W12.cell? ⟨w.heap.size + 1, 0, none⟩ = some (.int .i64 0) := hr9.cell 0
          have y1 : W12.cell? ⟨w.heap.size + 1, 1, none⟩ = some (.int .i64 0) := hr9.cell 1
          have y2 : W12.cell? ⟨w.heap.size + 1, 2, none⟩ = some (.int .i64 0) := hr9.cell 2
          have y3 : W12.cell? ⟨w.heap.size + 1, 3, none⟩ = some (.int .u8 0) := hr9.cell 3
          have y4 : W12.cell? ⟨w.heap.size + 1, 4, none⟩ = some (.int .u8 0) := hr9.cell 4
          have y5 : W12.cell? ⟨w.heap.size + 1, 5, none⟩ = some (.int .u8 0) := hr9.cell 5
          have y6 : W12.cell? ⟨w.heap.size + 1, 6, none⟩ = some (.int .u8 0) := hr9.cell 6
          have y7 : W12.cell? ⟨w.heap.size + 1, 7, none⟩ = some (.int .u8 0) := hr9.cell 7
          have y8 : W12.cell? ⟨w.heap.size + 1, 8, none⟩ = some (.int .u8 0) := hr9.cell 8
          have y9 : W12.cell? ⟨w.heap.size + 1, 9, none⟩ = some (.int .u8 0) := hr9.cell 9
          have y10 : W12.cell? ⟨w.heap.size + 1, 10, none⟩ = some (.int .u8 0) := hr9.cell 10
          have yf : ∀ i, W12.frozen? ⟨w.heap.size + 1, i, none⟩ = false := fun i => hr9.frozen i
          have hqr := HQR.out
          have HA12 := Lib.hid hA12
          have HR12 := Lib.hid hr9
          have HK12 := Lib.hid hK12
          clear hk12 hb12 hA12 hr9 hQ12 hK12
          go_wp2
          obtain ⟨hrB, hkB⟩ := sets_place HR12.out (.int .i64 (CX.seg : Int)) (.int .i64 (CX.size : Int)) (.int .i64 (f.length : Int)) (.int .u8 (c0.toNat : Int)) (.int .u8 (c1.toNat : Int)) (.int .u8 (c2.toNat : Int)) (.int .u8 (c3.toNat : Int)) (.int .u8 (c4.toNat : Int)) (.int .u8 (c5.toNat : Int)) (.int .u8 (c6.toNat : Int)) (.int .u8 (c7.toNat : Int))
          generalize (((((((((((W12.setCell ⟨w.heap.size + 1, 0, none⟩ (.int .i64 (CX.seg : Int))).setCell ⟨w.heap.size + 1, 1, none⟩ (.int .i64 (CX.size : Int))).setCell ⟨w.heap.size + 1, 2, none⟩ (.int .i64 (f.length : Int))).setCell ⟨w.heap.size + 1, 3, none⟩ (.int .u8 (c0.toNat : Int))).setCell ⟨w.heap.size + 1, 4, none⟩ (.int .u8 (c1.toNat : Int))).setCell ⟨w.heap.size + 1, 5, none⟩ (.int .u8 (c2.toNat : Int))).setCell ⟨w.heap.size + 1, 6, none⟩ (.int .u8 (c3.toNat : Int))).setCell ⟨w.heap.size + 1, 7, none⟩ (.int .u8 (c4.toNat : Int))).setCell ⟨w.heap.size + 1, 8, none⟩ (.int .u8 (c5.toNat : Int))).setCell ⟨w.heap.size + 1, 9, none⟩ (.int .u8 (c6.toNat : Int))).setCell ⟨w.heap.size + 1, 10, none⟩ (.int .u8 (c7.toNat : Int))) = wB at *
          clear y0 y1 y2 y3 y4 y5 y6 y7 y8 y9 y10 yf u0 u1 u2 u3 u4 u5 u6 u7 u8 u9 u10
          have y0 : wB.cell? ⟨w.heap.size + 1, 0, none⟩ = some (.int .i64 (CX.seg : Int)) := hrB.cell 0
          have y1 : wB.cell? ⟨w.heap.size + 1, 1, none⟩ = some (.int .i64 (CX.size : Int)) := hrB.cell 1
          have y2 : wB.cell? ⟨w.heap.size + 1, 2, none⟩ = some (.int .i64 (f.length : Int)) := hrB.cell 2
          have y3 : wB.cell? ⟨w.heap.size + 1, 3, none⟩ = some (.int .u8 (c0.toNat : Int)) := hrB.cell 3
          have y4 : wB.cell? ⟨w.heap.size + 1, 4, none⟩ = some (.int .u8 (c1.toNat : Int)) := hrB.cell 4
          have y5 : wB.cell? ⟨w.heap.size + 1, 5, none⟩ = some (.int .u8 (c2.toNat : Int)) := hrB.cell 5
          have y6 : wB.cell? ⟨w.heap.size + 1, 6, none⟩ = some (.int .u8 (c3.toNat : Int)) := hrB.cell 6
          have y7 : wB.cell? ⟨w.heap.size + 1, 7, none⟩ = some (.int .u8 (c4.toNat : Int)) := hrB.cell 7
          have y8 : wB.cell? ⟨w.heap.size + 1, 8, none⟩ = some (.int .u8 (c5.toNat : Int)) := hrB.cell 8
          have y9 : wB.cell? ⟨w.heap.size + 1, 9, none⟩ = some (.int .u8 (c6.toNat : Int)) := hrB.cell 9
          have y10 : wB.cell? ⟨w.heap.size + 1, 10, none⟩ = some (.int .u8 (c7.toNat : Int)) := hrB.cell 10
          refine bodyPost_ret (v := .tuple #[.agg #[.int .i64 (CX.seg : Int), .int .i64 (CX.size : Int), .int .i64 (f.length : Int), .int .u8 (c0.toNat : Int), .int .u8 (c1.toNat : Int), .int .u8 (c2.toNat : Int), .int .u8 (c3.toNat : Int), .int .u8 (c4.toNat : Int), .int .u8 (c5.toNat : Int), .int .u8 (c6.toNat : Int), .int .u8 (c7.toNat : Int)], .int .i64 0]) (by simp [results, Tryz.results54, go_sem, y0, y1, y2, y3, y4, y5, y6, y7, y8, y9, y10]) rfl ?_
          rw [HAdd.out]
          exact ⟨by simp [Pl.val, Pl.cells, HF8.out], HA12.out.keep hkB (by have h9 := H.out.fresh (Nat.le_succ _); simpa using h9), HK12.out.trans' hkB (by simp)⟩
      · have hb : (e9 != 0) = true := by simpa using he
        have hAdd : R = (CX, D9, zeroPl, e9) := by rw [HAX.out, HPUT.out, if_neg he]
        have HAdd := Lib.hid hAdd
        clear hAdd
        have y0 : w9.cell? ⟨w.heap.size + 1, 0, none⟩ = some (.int .i64 0) := hr9.cell 0
        have y1 : w9.cell? ⟨w.heap.size + 1, 1, none⟩ = some (.int .i64 0) := hr9.cell 1
        have y2 : w9.cell? ⟨w.heap.size + 1, 2, none⟩ = some (.int .i64 0) := hr9.cell 2
        have y3 : w9.cell? ⟨w.heap.size + 1, 3, none⟩ = some (.int .u8 0) := hr9.cell 3
        have y4 : w9.cell? ⟨w.heap.size + 1, 4, none⟩ = some (.int .u8 0) := hr9.cell 4
        have y5 : w9.cell? ⟨w.heap.size + 1, 5, none⟩ = some (.int .u8 0) := hr9.cell 5
        have y6 : w9.cell? ⟨w.heap.size + 1, 6, none⟩ = some (.int .u8 0) := hr9.cell 6
        have y7 : w9.cell? ⟨w.heap.size + 1, 7, none⟩ = some (.int .u8 0) := hr9.cell 7
        have y8 : w9.cell? ⟨w.heap.size + 1, 8, none⟩ = some (.int .u8 0) := hr9.cell 8
        have y9 : w9.cell? ⟨w.heap.size + 1, 9, none⟩ = some (.int .u8 0) := hr9.cell 9
        have y10 : w9.cell? ⟨w.heap.size + 1, 10, none⟩ = some (.int .u8 0) := hr9.cell 10
        have yf : ∀ i, w9.frozen? ⟨w.heap.size + 1, i, none⟩ = false := fun i => hr9.frozen i
        have HA9 := Lib.hid hA9
        have HR9 := Lib.hid hr9
        have HKT := Lib.hid hK9
        have HSR := Lib.hid hsr
        clear he hA9 hr9 hK9 hsr
        go_wp2
        obtain ⟨hrB, hkB⟩ := sets_place HR9.out (.int .i64 0) (.int .i64 0) (.int .i64 0) (.int .u8 0) (.int .u8 0) (.int .u8 0) (.int .u8 0) (.int .u8 0) (.int .u8 0) (.int .u8 0) (.int .u8 0)
        generalize (((((((((((w9.setCell ⟨w.heap.size + 1, 0, none⟩ (.int .i64 0)).setCell ⟨w.heap.size + 1, 1, none⟩ (.int .i64 0)).setCell ⟨w.heap.size + 1, 2, none⟩ (.int .i64 0)).setCell ⟨w.heap.size + 1, 3, none⟩ (.int .u8 0)).setCell ⟨w.heap.size + 1, 4, none⟩ (.int .u8 0)).setCell ⟨w.heap.size + 1, 5, none⟩ (.int .u8 0)).setCell ⟨w.heap.size + 1, 6, none⟩ (.int .u8 0)).setCell ⟨w.heap.size + 1, 7, none⟩ (.int .u8 0)).setCell ⟨w.heap.size + 1, 8, none⟩ (.int .u8 0)).setCell ⟨w.heap.size + 1, 9, none⟩ (.int .u8 0)).setCell ⟨w.heap.size + 1, 10, none⟩ (.int .u8 0)) = wB at *
        clear y0 y1 y2 y3 y4 y5 y6 y7 y8 y9 y10 yf
        have hr9 := hrB
        have y0 : wB.cell? ⟨w.heap.size + 1, 0, none⟩ = some (.int .i64 0) := hr9.cell 0
        have y1 : wB.cell? ⟨w.heap.size + 1, 1, none⟩ = some (.int .i64 0) := hr9.cell 1
        have y2 : wB.cell? ⟨w.heap.size + 1, 2, none⟩ = some (.int .i64 0) := hr9.cell 2
        have y3 : wB.cell? ⟨w.heap.size + 1, 3, none⟩ = some (.int .u8 0) := hr9.cell 3
        have y4 : wB.cell? ⟨w.heap.size + 1, 4, none⟩ = some (.int .u8 0) := hr9.cell 4
        have y5 : wB.cell? ⟨w.heap.size + 1, 5, none⟩ = some (.int .u8 0) := hr9.cell 5
        have y6 : wB.cell? ⟨w.heap.size + 1, 6, none⟩ = some (.int .u8 0) := hr9.cell 6
        have y7 : wB.cell? ⟨w.heap.size + 1, 7, none⟩ = some (.int .u8 0) := hr9.cell 7
        have y8 : wB.cell? ⟨w.heap.size + 1, 8, none⟩ = some (.int .u8 0) := hr9.cell 8
        have y9 : wB.cell? ⟨w.heap.size + 1, 9, none⟩ = some (.int .u8 0) := hr9.cell 9
        have y10 : wB.cell? ⟨w.heap.size + 1, 10, none⟩ = some (.int .u8 0) := hr9.cell 10
        have yf : ∀ i, wB.frozen? ⟨w.heap.size + 1, i, none⟩ = false := fun i => hr9.frozen i
        refine bodyPost_ret (v := .tuple #[zeroPl.val, .int .i64 e9]) (by simp [results, Tryz.results54, go_sem, y0, y1, y2, y3, y4, y5, y6, y7, y8, y9, y10, zeroPl, Pl.val, Pl.cells]) rfl ?_
        rw [HAdd.out]
        exact ⟨rfl, HA9.out.keep hkB (by have h9 := H.out.fresh (Nat.le_succ _); simpa using h9), HKT.out.trans' hkB (by simp)⟩

end Go.Proofs.YtkplffkchanipaaGreatDoor
/- A chunk store: Put, Drop. -/
namespace Go.Proofs.YtkplffkchanipaaGreatDoor
open Go.RowKit
attribute [local go_sem] size_bs bs_append
variable {w w' : World} {s b m g : Nat} {C C' : Ck} {D D' : Dk}

theorem Ck.put_head (C : Ck) (D : Dk) (f : List UInt8) (h : 8 ≤ f.length) : (C.put D f).2.2.1.head.length = 8 := by
  unfold Ck.put
  split
  · simp only [List.length_take]; omega
  · rfl
theorem Ck.add_head (C : Ck) (D : Dk) (f : List UInt8) (h : 8 ≤ f.length) : (C.add D f).2.2.1.head.length = 8 := by
  unfold Ck.add
  split
  · split
    · exact Ck.put_head _ _ _ h
    · rfl
  · exact Ck.put_head _ _ _ h
theorem Ck.put_map (C : Ck) (D : Dk) (f : List UInt8) : (C.put D f).1.map = C.map ∧ (C.put D f).1.limit = C.limit := by
  unfold Ck.put
  split <;> exact ⟨rfl, rfl⟩
theorem Ck.add_map (C : Ck) (D : Dk) (f : List UInt8) : (C.add D f).1.map = C.map ∧ (C.add D f).1.limit = C.limit := by
  have h := Ck.sync_same (C := C) (D := D)
  unfold Ck.add
  split
  · split
    · have h2 := Ck.put_map (C.sync D).1.next (C.sync D).2.1 f
      exact ⟨h2.1.trans h.2.2.2, h2.2.trans h.2.2.1⟩
    · exact ⟨h.2.2.2, h.2.2.1⟩
  · exact Ck.put_map _ _ _
def R11 (p q r : Nat) (c0 c1 c2 c3 c4 c5 c6 c7 : UInt8) : Array Value := #[.int .i64 (p : Int), .int .i64 (q : Int), .int .i64 (r : Int), .int .u8 (c0.toNat : Int), .int .u8 (c1.toNat : Int), .int .u8 (c2.toNat : Int), .int .u8 (c3.toNat : Int), .int .u8 (c4.toNat : Int), .int .u8 (c5.toNat : Int), .int .u8 (c6.toNat : Int), .int .u8 (c7.toNat : Int)]

set_option maxRecDepth 100000 in
set_option maxHeartbeats 1600000 in
theorem sput_calls (h : StoreAt w s b m g C D) (hC : C.Ok) (hD : D.Good) (h1 : 1 ≤ C.seg) (h2 : C.seg + 1 < 100) (hz : C.size ≤ 1000000000000) (i : Nat) (hi : i < 18446744073709551616) (d : List UInt8) (hd : d.length ≤ 4000) :
    Calls Tryz.prog 16 #[.pointer (some ⟨s, 0, none⟩), .int .u64 (i : Int), .string (bs d)] w fun e w' => e = .returned (.int .i64 (C.putK D i d).2.2) ∧ StoreAt w' s b m g (C.putK D i d).1 (C.putK D i d).2.1 ∧ Keep [s, b, m, g] w w' := by
  have d0 : decide ((4000 : Int) < (d.length : Int)) = false := by simp; omega
  have hK : C.putK D i d = if (lookC (i : Int) C.map).isSome = true then (C, D, 6) else
    if (C.add D (frame (encRec 1 i d))).2.2.2 = 0 then ({ (C.add D (frame (encRec 1 i d))).1 with map := putC (i : Int) (C.add D (frame (encRec 1 i d))).2.2.1 (C.add D (frame (encRec 1 i d))).1.map }, (C.add D (frame (encRec 1 i d))).2.1, 0)
    else ((C.add D (frame (encRec 1 i d))).1, (C.add D (frame (encRec 1 i d))).2.1, (C.add D (frame (encRec 1 i d))).2.2.2) := by
    unfold Ck.putK
    rw [if_neg (by omega)]
  have TH := has_calls h hC (i : Int)
  have H := Lib.hid h
  generalize C.putK D i d = R at *
  cases hx : (lookC (i : Int) C.map).isSome with
  | true =>
    rw [hx] at TH
    rw [if_pos hx] at hK
    have HT := Lib.hid TH
    have HK := Lib.hid hK
    clear h TH hK hx
    go_enter Tryz.func16, Tryz.ntmps16
    go_wp2_with (go_at_call 49; refine HT.out.mono ?_; rintro e w1 ⟨rfl, hk⟩; have HK1 := Lib.hid hk; clear hk)
    go_ret
    rw [HK.out]
    exact ⟨rfl, H.out.grow HK1.out, HK1.out.nil_⟩
  | false =>
    rw [hx] at TH
    rw [if_neg (by rw [hx]; simp)] at hK
    have TA := fun (W : World) (hW : StoreAt W s b m g C D) => add_calls hW hD h1 h2 hz 1 i d (by omega) hi (by omega)
    have hm := (Ck.add_map C D (frame (encRec 1 i d))).1
    have h8 := Ck.add_head C D (frame (encRec 1 i d)) (by rw [frame_len]; omega)
    generalize C.add D (frame (encRec 1 i d)) = Q at *
    obtain ⟨C2, D2, p, e2⟩ := Q
    simp only at TA hK hm h8
    obtain ⟨c0, c1, c2, c3, c4, c5, c6, c7, h9⟩ := eightL h8
    obtain ⟨ps, pa, pz, ph⟩ := p
    simp only at h9
    subst h9
    have e1 : ((1 : Nat) : Int) = 1 := rfl
    simp only [e1, Pl.val, Pl.cells, List.map_cons, List.map_nil] at TA
    have HT := Lib.hid TH
    have HA := Lib.hid TA
    have HK := Lib.hid hK
    have HM := Lib.hid hm
    clear h TH TA hK hx h8 e1 hm
    by_cases he : e2 = 0
    · have b1 : (e2 != 0) = false := by simpa using he
      have HE := Lib.hid he
      clear he
      go_enter Tryz.func16, Tryz.ntmps16
      go_wp2_with (first
        | (go_at_call 49; refine HT.out.mono ?_; rintro e w1 ⟨rfl, hk⟩; have HK1 := Lib.hid hk; clear hk)
        | (go_at_call 54; refine (HA.out _ (H.out.grow HK1.out)).mono ?_; rintro e w5 ⟨rfl, hS5, hk5⟩; have HS5 := Lib.hid hS5; have HK5 : Hid (Keep [s, b, m] w w5) := HK1.out.nil_.trans hk5; have q2 : w5.cell? ⟨s, 2, none⟩ = some (.map (some g)) := hS5.blk.cell 2; clear hS5 hk5))
      have hp11 : Blk (w5.alloc (.cells #[.int .i64 (ps : Int), .int .i64 (pa : Int), .int .i64 (pz : Int), .int .u8 (c0.toNat : Int), .int .u8 (c1.toNat : Int), .int .u8 (c2.toNat : Int), .int .u8 (c3.toNat : Int), .int .u8 (c4.toNat : Int), .int .u8 (c5.toNat : Int), .int .u8 (c6.toNat : Int), .int .u8 (c7.toNat : Int)] 101)) w5.heap.size 101 #[.int .i64 (ps : Int), .int .i64 (pa : Int), .int .i64 (pz : Int), .int .u8 (c0.toNat : Int), .int .u8 (c1.toNat : Int), .int .u8 (c2.toNat : Int), .int .u8 (c3.toNat : Int), .int .u8 (c4.toNat : Int), .int .u8 (c5.toNat : Int), .int .u8 (c6.toNat : Int), .int .u8 (c7.toNat : Int)] := Blk.new _ _ _
      have hS6 : StoreAt (w5.alloc (.cells #[.int .i64 (ps : Int), .int .i64 (pa : Int), .int .i64 (pz : Int), .int .u8 (c0.toNat : Int), .int .u8 (c1.toNat : Int), .int .u8 (c2.toNat : Int), .int .u8 (c3.toNat : Int), .int .u8 (c4.toNat : Int), .int .u8 (c5.toNat : Int), .int .u8 (c6.toNat : Int), .int .u8 (c7.toNat : Int)] 101)) s b m g C2 D2 := HS5.out.grow ((Keep.refl [] _).alloc _)
      have HS6 := Lib.hid hS6
      have HK6 : Hid (Keep [s, b, m] w (w5.alloc (.cells #[.int .i64 (ps : Int), .int .i64 (pa : Int), .int .i64 (pz : Int), .int .u8 (c0.toNat : Int), .int .u8 (c1.toNat : Int), .int .u8 (c2.toNat : Int), .int .u8 (c3.toNat : Int), .int .u8 (c4.toNat : Int), .int .u8 (c5.toNat : Int), .int .u8 (c6.toNat : Int), .int .u8 (c7.toNat : Int)] 101))) := HK5.out.alloc _
      have q2' : (w5.alloc (.cells #[.int .i64 (ps : Int), .int .i64 (pa : Int), .int .i64 (pz : Int), .int .u8 (c0.toNat : Int), .int .u8 (c1.toNat : Int), .int .u8 (c2.toNat : Int), .int .u8 (c3.toNat : Int), .int .u8 (c4.toNat : Int), .int .u8 (c5.toNat : Int), .int .u8 (c6.toNat : Int), .int .u8 (c7.toNat : Int)] 101)).cell? ⟨s, 2, none⟩ = some (.map (some g)) := hS6.blk.cell 2
      obtain ⟨w7, hmu, hM7, hK7, -⟩ := hS6.map.drew.put Tryz.underlying92 Tryz.underlying30 (i : Int) (.agg #[.int .i64 (ps : Int), .int .i64 (pa : Int), .int .i64 (pz : Int), .int .u8 (c0.toNat : Int), .int .u8 (c1.toNat : Int), .int .u8 (c2.toNat : Int), .int .u8 (c3.toNat : Int), .int .u8 (c4.toNat : Int), .int .u8 (c5.toNat : Int), .int .u8 (c6.toNat : Int), .int .u8 (c7.toNat : Int)])
      have HM7 := Lib.hid hM7
      have HK7 := Lib.hid hK7
      clear hS6 hM7 hK7 q2
      go_region
      go_wp2
      go_ret
      rw [HK.out, if_pos HE.out]
      have hpp := put_pairs (i : Int) ⟨ps, pa, pz, [c0, c1, c2, c3, c4, c5, c6, c7]⟩ C2.map
      simp only [Pl.val, Pl.cells, List.map_cons, List.map_nil] at hpp
      rw [hpp] at HM7
      have hk7 : Keep [g] (w5.alloc (.cells #[.int .i64 (ps : Int), .int .i64 (pa : Int), .int .i64 (pz : Int), .int .u8 (c0.toNat : Int), .int .u8 (c1.toNat : Int), .int .u8 (c2.toNat : Int), .int .u8 (c3.toNat : Int), .int .u8 (c4.toNat : Int), .int .u8 (c5.toNat : Int), .int .u8 (c6.toNat : Int), .int .u8 (c7.toNat : Int)] 101)) w7 := (Keep.refl [g] _).drew.trans HK7.out
      exact ⟨rfl, HS6.out.setMap hk7 HM7.out, (HK6.out.mono (by simp)).trans (hk7.mono (by simp))⟩
    · have b1 : (e2 != 0) = true := by simpa using he
      have HE := Lib.hid he
      clear he
      go_enter Tryz.func16, Tryz.ntmps16
      go_wp2_with (first
        | (go_at_call 49; refine HT.out.mono ?_; rintro e w1 ⟨rfl, hk⟩; have HK1 := Lib.hid hk; clear hk)
        | (go_at_call 54; refine (HA.out _ (H.out.grow HK1.out)).mono ?_; rintro e w5 ⟨rfl, hS5, hk5⟩; have HS5 := Lib.hid hS5; have HK5 : Hid (Keep [s, b, m] w w5) := HK1.out.nil_.trans hk5; clear hS5 hk5))
      go_ret
      rw [HK.out, if_neg HE.out]
      exact ⟨rfl, HS5.out.grow ((Keep.refl [] _).alloc _), (HK5.out.mono (by simp)).alloc _⟩
set_option maxRecDepth 100000 in
set_option maxHeartbeats 1600000 in
theorem sdrop_calls (h : StoreAt w s b m g C D) (hC : C.Ok) (hD : D.Good) (h1 : 1 ≤ C.seg) (h2 : C.seg + 1 < 100) (hz : C.size ≤ 1000000000000) (i : Nat) (hi : i < 18446744073709551616) :
    Calls Tryz.prog 55 #[.pointer (some ⟨s, 0, none⟩), .int .u64 (i : Int)] w fun e w' => e = .returned (.int .i64 (C.dropK D i).2.2) ∧ StoreAt w' s b m g (C.dropK D i).1 (C.dropK D i).2.1 ∧ Keep [s, b, m, g] w w' := by
  have hK : C.dropK D i = if (lookC (i : Int) C.map).isSome = false then (C, D, 5) else
    if (C.add D (frame (encRec 2 i []))).2.2.2 = 0 then ({ (C.add D (frame (encRec 2 i []))).1 with map := delC (i : Int) (C.add D (frame (encRec 2 i []))).1.map }, (C.add D (frame (encRec 2 i []))).2.1, 0)
    else ((C.add D (frame (encRec 2 i []))).1, (C.add D (frame (encRec 2 i []))).2.1, (C.add D (frame (encRec 2 i []))).2.2.2) := rfl
  have TH := has_calls h hC (i : Int)
  have H := Lib.hid h
  generalize C.dropK D i = R at *
  cases hx : (lookC (i : Int) C.map).isSome with
  | false =>
    rw [hx] at TH
    rw [if_pos hx] at hK
    have HT := Lib.hid TH
    have HK := Lib.hid hK
    clear h TH hK hx
    go_enter Tryz.func55, Tryz.ntmps55
    go_wp2_with (go_at_call 49; refine HT.out.mono ?_; rintro e w1 ⟨rfl, hk⟩; have HK1 := Lib.hid hk; clear hk)
    go_ret
    rw [HK.out]
    exact ⟨rfl, H.out.grow HK1.out, HK1.out.nil_⟩
  | true =>
    rw [hx] at TH
    rw [if_neg (by rw [hx]; simp)] at hK
    have TA := fun (W : World) (hW : StoreAt W s b m g C D) => add_calls hW hD h1 h2 hz 2 i [] (by omega) hi (by simp)
    have h8 := Ck.add_head C D (frame (encRec 2 i [])) (by rw [frame_len]; omega)
    generalize C.add D (frame (encRec 2 i [])) = Q at *
    obtain ⟨C2, D2, p, e2⟩ := Q
    simp only at TA hK h8
    obtain ⟨c0, c1, c2, c3, c4, c5, c6, c7, h9⟩ := eightL h8
    obtain ⟨ps, pa, pz, ph⟩ := p
    simp only at h9
    subst h9
    have e1 : ((2 : Nat) : Int) = 2 := rfl
    have e3 : bs [] = { data := #[] } := rfl
    simp only [e1, e3, Pl.val, Pl.cells, List.map_cons, List.map_nil] at TA
    have HT := Lib.hid TH
    have HA := Lib.hid TA
    have HK := Lib.hid hK
    clear h TH TA hK hx h8 e1 e3
    by_cases he : e2 = 0
    · have b1 : (e2 != 0) = false := by simpa using he
      have HE := Lib.hid he
      clear he
      go_enter Tryz.func55, Tryz.ntmps55
      go_upto_region 6 with (first
        | (go_at_call 49; refine HT.out.mono ?_; rintro e w1 ⟨rfl, hk⟩; have HK1 := Lib.hid hk; clear hk)
        | (go_at_call 54; refine (HA.out _ (H.out.grow HK1.out)).mono ?_; rintro e w5 ⟨rfl, hS5, hk5⟩; have HS5 := Lib.hid hS5; have HK5 : Hid (Keep [s, b, m] w w5) := HK1.out.nil_.trans hk5; clear hS5 hk5))
      have hS6 : StoreAt (w5.alloc (.cells #[.int .i64 (ps : Int), .int .i64 (pa : Int), .int .i64 (pz : Int), .int .u8 (c0.toNat : Int), .int .u8 (c1.toNat : Int), .int .u8 (c2.toNat : Int), .int .u8 (c3.toNat : Int), .int .u8 (c4.toNat : Int), .int .u8 (c5.toNat : Int), .int .u8 (c6.toNat : Int), .int .u8 (c7.toNat : Int)] 101)) s b m g C2 D2 := HS5.out.grow ((Keep.refl [] _).alloc _)
      have HS6 := Lib.hid hS6
      have HK6 : Hid (Keep [s, b, m] w (w5.alloc (.cells #[.int .i64 (ps : Int), .int .i64 (pa : Int), .int .i64 (pz : Int), .int .u8 (c0.toNat : Int), .int .u8 (c1.toNat : Int), .int .u8 (c2.toNat : Int), .int .u8 (c3.toNat : Int), .int .u8 (c4.toNat : Int), .int .u8 (c5.toNat : Int), .int .u8 (c6.toNat : Int), .int .u8 (c7.toNat : Int)] 101))) := HK5.out.alloc _
      have q2' : (w5.alloc (.cells #[.int .i64 (ps : Int), .int .i64 (pa : Int), .int .i64 (pz : Int), .int .u8 (c0.toNat : Int), .int .u8 (c1.toNat : Int), .int .u8 (c2.toNat : Int), .int .u8 (c3.toNat : Int), .int .u8 (c4.toNat : Int), .int .u8 (c5.toNat : Int), .int .u8 (c6.toNat : Int), .int .u8 (c7.toNat : Int)] 101)).cell? ⟨s, 2, none⟩ = some (.map (some g)) := hS6.blk.cell 2
      obtain ⟨w7, hmu, hM7, hK7, -⟩ := hS6.map.del Tryz.underlying92 Tryz.underlying30 (i : Int)
      have HM7 := Lib.hid hM7
      have HK7 := Lib.hid hK7
      clear hS6 hM7 hK7
      go_wp2
      go_ret
      rw [HK.out, if_pos HE.out]
      rw [del_pairs] at HM7
      exact ⟨rfl, HS6.out.setMap HK7.out HM7.out, (HK6.out.mono (by simp)).trans (HK7.out.mono (by simp))⟩
    · have b1 : (e2 != 0) = true := by simpa using he
      have HE := Lib.hid he
      clear he
      go_enter Tryz.func55, Tryz.ntmps55
      go_wp2_with (first
        | (go_at_call 49; refine HT.out.mono ?_; rintro e w1 ⟨rfl, hk⟩; have HK1 := Lib.hid hk; clear hk)
        | (go_at_call 54; refine (HA.out _ (H.out.grow HK1.out)).mono ?_; rintro e w5 ⟨rfl, hS5, hk5⟩; have HS5 := Lib.hid hS5; have HK5 : Hid (Keep [s, b, m] w w5) := HK1.out.nil_.trans hk5; clear hS5 hk5))
      go_ret
      rw [HK.out, if_neg HE.out]
      exact ⟨rfl, HS5.out.grow ((Keep.refl [] _).alloc _), (HK5.out.mono (by simp)).alloc _⟩

end Go.Proofs.YtkplffkchanipaaGreatDoor
