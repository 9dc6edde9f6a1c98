/- The walk of glacierlaw22.ServiceExpires: it answers true. -/
import Derived.Test.YtpnoiagjgkajdaaGreatDoorWSvc7
import Derived.Test.YtpnoiagjgkajdaaGreatDoorWLaws
set_option linter.unusedVariables false
namespace Go.Proofs.YtpnoiagjgkajdaaGreatDoor
open Go.RowKit
open Av (Same)
attribute [local go_sem] size_bs bs_append
theorem bk_more {C : Nat → Cm} {z : Int} {W w : World} {F N : List Nat} {b n : Nat} {j : Int} (h : Av.BkAt C z W F b n j w) (hN : ∀ y ∈ N, w.heap.size ≤ y) : Av.BkAt C z W (N ++ F) b n j w := by
  obtain ⟨ty, c, h⟩ := h
  exact ⟨ty, c, h.more hN⟩
theorem bk_grow {C : Nat → Cm} {z : Int} {W w w' : World} {F : List Nat} {b n : Nat} {j : Int} (h : Av.BkAt C z W F b n j w) (hk : Keep [] w w') : Av.BkAt C z W F b n j w' := by
  obtain ⟨ty, c, h⟩ := h
  exact ⟨ty, c, h.grow hk⟩
theorem beg_in {M : Mx} {c : Nat} (h : ¬ M.busy c) : (c : Int) ∈ (M.beg c).O ∧ (M.beg c).O = M.O ++ [(c : Int)] := by
  unfold Mx.beg
  rw [if_neg h]
  exact ⟨by simp, rfl⟩
theorem beg_busy {M : Mx} {c : Nat} (h : M.busy c) : M.beg c = M := by
  unfold Mx.beg
  rw [if_pos h]
theorem beg_nodup {M : Mx} {c : Nat} (h : M.O.Nodup) : (M.beg c).O.Nodup := by
  unfold Mx.beg
  split
  · exact h
  · rename_i hb
    unfold Mx.busy at hb
    rw [not_or] at hb
    rw [List.nodup_append]
    refine ⟨h, by simp, fun a ha b hb' => ?_⟩
    simp only [List.mem_singleton] at hb'
    subst hb'
    rintro rfl
    exact hb.1 ha
theorem exp_on {M : Mx} {i c : Nat} (h : Int.tmod (i : Int) 3 = 2) (hc : (c : Int) ∈ M.O) : M.exp i c = ⟨M.O.erase (c : Int), M.Ln, M.acc⟩ := by
  have hm : i % 3 = 2 := by rw [Int.tmod_eq_emod_of_nonneg (by omega)] at h; omega
  unfold Mx.exp
  rw [if_pos ⟨hm, hc⟩]
theorem exp_off {M : Mx} {i c : Nat} (h : ¬ Int.tmod (i : Int) 3 = 2 ∨ (c : Int) ∉ M.O) : M.exp i c = M := by
  unfold Mx.exp
  rw [if_neg]
  rintro ⟨h1, h2⟩
  rcases h with h | h
  · exact h (by rw [Int.tmod_eq_emod_of_nonneg (by omega)]; omega)
  · exact h h2
set_option maxRecDepth 100000 in
set_option maxHeartbeats 8000000 in
theorem serviceExpires_calls (W : World) {ty : Nat → Nat} (hT : Av.Tabs W ty) (z : Int) (v : Value) (l : List Int) (hl : IntsAt W v l) (hlb : ∀ x ∈ l, -9223372036854775808 ≤ x ∧ x ≤ 9223372036854775807) :
    Calls Tryz.prog 3 #[.int .i64 z, v] W fun e w' => e = .returned (.bool true) ∧ Below W.heap.size W w' := by
  have hmm := @run_makeMap Tryz.prog
  have HAW := Lib.hid (Av.awake_calls hT)
  have HBG := Lib.hid (fun w (hw : Keep [] W w) => begin_calls (z := z) (comW_ok l) hT hw)
  have HC := Lib.hid (comW_ok l)
  obtain ⟨A, cap, rfl, hcells⟩ := hl
  have HCE := Lib.hid hcells
  clear hT hcells hlb
  go_enter Tryz.func3, Tryz.ntmps3
  go_upto_region 6 with (first
    | (go_at_call 5; refine HAW.out.mono ?_; rintro e w1 ⟨rfl, hb1⟩; have HK1 := Lib.hid (wbelow_keep hb1); clear hb1)
    | (go_at_call 6; refine (HBG.out _ HK1.out).mono ?_; rintro e w2 ⟨s, b, lm, om, x, y, g, rfl, hbk, hsv, hbd⟩; have HBK := Lib.hid hbk; have HSV := Lib.hid hsv; have HBD := Lib.hid hbd; clear hbk hsv hbd))
  have HR3 : Hid (Blk (w2.alloc (.cells #[.pointer (some ⟨s, 0, none⟩), .pointer (some ⟨b, 0, none⟩), .map (some x), .int .i64 0, .int .i64 0, .int .i64 0, .int .i64 0, .map (some y), .slice (some ⟨g, 0, none⟩) 5 5, .int .i64 0] 31)) w2.heap.size 31 #[.pointer (some ⟨s, 0, none⟩), .pointer (some ⟨b, 0, none⟩), .map (some x), .int .i64 0, .int .i64 0, .int .i64 0, .int .i64 0, .map (some y), .slice (some ⟨g, 0, none⟩) 5 5, .int .i64 0]) := Lib.hid (Blk.new _ _ _)
  have HBK3 : Hid (Av.BkAt (comW l) z W ([w2.heap.size] ++ f3 s lm om) b 3 0 (w2.alloc (.cells #[.pointer (some ⟨s, 0, none⟩), .pointer (some ⟨b, 0, none⟩), .map (some x), .int .i64 0, .int .i64 0, .int .i64 0, .int .i64 0, .map (some y), .slice (some ⟨g, 0, none⟩) 5 5, .int .i64 0] 31))) := Lib.hid (bk_grow (bk_more HBK.out (N := [w2.heap.size]) (by simp)) ((Keep.refl _ _).alloc _))
  have HSV3 : Hid (SvcAt (w2.alloc (.cells #[.pointer (some ⟨s, 0, none⟩), .pointer (some ⟨b, 0, none⟩), .map (some x), .int .i64 0, .int .i64 0, .int .i64 0, .int .i64 0, .map (some y), .slice (some ⟨g, 0, none⟩) 5 5, .int .i64 0] 31)) s b lm om [] [] 0 (.slice none 0 0) 0 [] ([w2.heap.size] ++ f3 s lm om)) := Lib.hid ((HSV.out.grow ((Keep.refl _ _).alloc _)).more fun y hy => List.mem_append_right _ hy)
  have HW2 : Hid (W.heap.size ≤ w2.heap.size) := Lib.hid (by
    obtain ⟨ty, c, hst⟩ := HBK.out
    exact hst.below.size)
  have HBD3 : Hid (∀ q ∈ [w2.heap.size] ++ f3 s lm om, q < (w2.alloc (.cells #[.pointer (some ⟨s, 0, none⟩), .pointer (some ⟨b, 0, none⟩), .map (some x), .int .i64 0, .int .i64 0, .int .i64 0, .int .i64 0, .map (some y), .slice (some ⟨g, 0, none⟩) 5 5, .int .i64 0] 31)).heap.size ∧ W.heap.size ≤ q) := Lib.hid fun q hq => by
    rw [World.size_alloc]
    rcases List.mem_append.1 hq with hq | hq
    · simp only [List.mem_singleton] at hq
      subst hq
      exact ⟨by omega, HW2.out⟩
    · exact ⟨by have := (HBD.out q hq).1; omega, (HBD.out q hq).2⟩
  clear HBK HSV HBD HW2 HK1 HAW HBG
  generalize w2.alloc (.cells #[.pointer (some ⟨s, 0, none⟩), .pointer (some ⟨b, 0, none⟩), .map (some x), .int .i64 0, .int .i64 0, .int .i64 0, .int .i64 0, .map (some y), .slice (some ⟨g, 0, none⟩) 5 5, .int .i64 0] 31) = W3 at *
  generalize w2.heap.size = R at *
  have r0 : W3.cell? ⟨R, 0, none⟩ = some (.pointer (some ⟨s, 0, none⟩)) := HR3.out.cell 0
  have r1 : W3.cell? ⟨R, 1, none⟩ = some (.pointer (some ⟨b, 0, none⟩)) := HR3.out.cell 1
  have r2 : W3.cell? ⟨R, 2, none⟩ = some (.map (some x)) := HR3.out.cell 2
  have r3 : W3.cell? ⟨R, 3, none⟩ = some (.int .i64 0) := HR3.out.cell 3
  have r4 : W3.cell? ⟨R, 4, none⟩ = some (.int .i64 0) := HR3.out.cell 4
  have r5 : W3.cell? ⟨R, 5, none⟩ = some (.int .i64 0) := HR3.out.cell 5
  have r6 : W3.cell? ⟨R, 6, none⟩ = some (.int .i64 0) := HR3.out.cell 6
  have r7 : W3.cell? ⟨R, 7, none⟩ = some (.map (some y)) := HR3.out.cell 7
  have r8 : W3.cell? ⟨R, 8, none⟩ = some (.slice (some ⟨g, 0, none⟩) 5 5) := HR3.out.cell 8
  have r9 : W3.cell? ⟨R, 9, none⟩ = some (.int .i64 0) := HR3.out.cell 9
  have HHE := Lib.hid (heal_calls (x := x) (y := y) (g := g) HC.out HBD3.out HBK3.out HSV3.out)
  go_upto_region 7 with (go_at_call 7; refine HHE.out.mono ?_; rintro e w4 ⟨rfl, hn4, hv4, hs4⟩; have HN4 := Lib.hid hn4; have HV4 := Lib.hid hv4; have HS4 := Lib.hid hs4; clear hn4 hv4 hs4)
  clear r0 r1 r2 r3 r4 r5 r6 r7 r8 r9 HHE
  have HLI : Hid (LawI l z W s b lm om w4.heap.size R x y g (runM l 0) [] 0 0 (w4.alloc (.map #[] 0))) := Lib.hid (by
    have hF4 : ∀ q ∈ [R] ++ f3 s lm om, q < w4.heap.size := HS4.out.lt fun q hq => (HBD3.out q hq).1
    have hRR : Blk w4 R 31 #[.pointer (some ⟨s, 0, none⟩), .pointer (some ⟨b, 0, none⟩), .map (some x), .int .i64 0, .int .i64 0, .int .i64 0, .int .i64 0, .map (some y), .slice (some ⟨g, 0, none⟩) 5 5, .int .i64 0] := (HS4.out.1 R (by simp)).trans HR3.out
    refine ⟨⟨[], .slice none 0 0, [], [w4.heap.size] ++ ([R] ++ f3 s lm om), rfl, (Av.Stage.more HN4.out (N := [w4.heap.size]) (by simp)).grow ((Keep.refl _ _).alloc _), (HV4.out.grow ((Keep.refl _ _).alloc _)).more fun q hq => List.mem_append_right _ hq, fun q hq => ?_, by simp, by simp⟩, MapN.made w4, hRR.alloc _, ?_⟩
    · rw [World.size_alloc]
      rcases List.mem_append.1 hq with hq | hq
      · simp only [List.mem_singleton] at hq
        subst hq
        exact ⟨by omega, (Av.Stage.below HN4.out).size⟩
      · exact ⟨by have := hF4 q hq; omega, (HBD3.out q hq).2⟩
    · have h1 := HV4.out.last.lt
      have h2 := HV4.out.opn.lt
      omega)
  clear HR3 HBK3 HSV3 HBD3 HN4 HV4 HS4
  go_wp2_with fail
  generalize w4.alloc (.map #[] 0) = W5 at *
  generalize w4.heap.size = lo at *
  go_loopw [8] (fun q wr => ∃ i : Nat, i ≤ l.length ∧ i ≤ 20 ∧ q = .int .i64 (i : Int) ∧ ∃ n r, n ≤ 2 * i ∧ r ≤ i ∧ LawI l z W s b lm om lo R x y g (runM l i) (runM l i).O n r wr) (fun q _ => 21 - (intOf q).toNat)
  case atStart => exact ⟨0, by omega, by omega, rfl, 0, 0, by omega, by omega, HLI.out⟩
  case round =>
    obtain ⟨i, hi, hi20, rfl, n, r, hn, hr, hli⟩ := hrel
    have HI := Lib.hid hli
    have HNR : Hid (n ≤ 2 * i ∧ r ≤ i ∧ i ≤ 20 ∧ i ≤ l.length) := Lib.hid ⟨hn, hr, hi20, hi⟩
    clear hli hn hr
    by_cases hin : i < l.length ∧ i < 20
    case neg =>
      by_cases hli : (i : Int) < (l.length : Int)
      · have hl20 : ¬ (i : Int) < 20 := fun h => hin ⟨by omega, by omega⟩
        clear hin hi hi20
        go_wp2_with fail
        go_ret
        exact ⟨rfl, HI.out.below⟩
      · clear hin hi hi20
        go_wp2_with fail
        go_ret
        exact ⟨rfl, HI.out.below⟩
    obtain ⟨hil, hi9⟩ := hin
    have hli : (i : Int) < (l.length : Int) := by omega
    have hl20 : (i : Int) < 20 := by omega
    have hw : IntKind.i64.wrap ((i : Int) + 1) = (i : Int) + 1 := IntWalk.i64_in _ (by omega)
    have hxi : l[i]? = some l[i] := List.getElem?_eq_getElem hil
    obtain ⟨ga, oa, rfl, hce⟩ := HCE.out (by rintro rfl; simp at hil)
    have hcell : wr.cell? ⟨ga, oa + i, none⟩ = some (.int .i64 l[i]) := by
      have h0 := hce i hil
      have hl0 := World.block_lt_of_cell? _ _ h0
      rw [← h0]
      unfold World.cell?
      rw [HI.out.below.block _ hl0]
    obtain ⟨k, k1, k2, k3, k4, k5, k6⟩ := cN_rem l[i]
    have HX := Lib.hid hxi
    generalize l[i] = xx at *
    have hw1 : IntKind.i64.wrap (Int.tmod xx 12 + 12) = Int.tmod xx 12 + 12 := IntWalk.i64_in _ (by omega)
    have hw2 : IntKind.i64.wrap (1 + k) = (cN xx : Int) := by rw [IntWalk.i64_in _ (by omega), k6]
    have rr := HI.out.run.cell 0
    simp only [List.getElem?_toArray, List.getElem?_cons_zero] at rr
    have HB := Lib.hid (law_begin HI.out hi9 HX.out rfl (by have := HNR.out.1; omega))
    clear hxi k1 k2 k4 k5 k6 hi hi20 hce
    have HND : Hid (((runM l i).beg (cN xx)).O.Nodup) := Lib.hid (beg_nodup (runM_ok l i).nd)
    by_cases hbz : (runM l i).busy (cN xx)
    · rw [if_pos hbz] at HB
      by_cases hcO : (cN xx : Int) ∈ (runM l i).O
      · go_upto_region 13 with (go_at_call 8; refine HB.out.mono ?_; rintro e w1 ⟨rfl, hb1⟩; have HI1 := Lib.hid hb1; clear hb1)
        rw [beg_busy hbz] at HI1
        have hlk1 := LawI.look HI1.out (cN xx : Int)
        rw [decide_eq_true hcO] at hlk1
        have r1 := HI1.out.run.cell 0
        simp only [List.getElem?_toArray, List.getElem?_cons_zero] at r1
        have HWT := Lib.hid (law_waits HI1.out)
        go_upto_region 20 with (go_at_call 9; refine HWT.out.mono ?_; rintro e w2 ⟨rfl, rfl⟩)
        by_cases hm : Int.tmod (i : Int) 3 = 2
        · have hlk9 := LawI.look HI1.out (cN xx : Int)
          rw [decide_eq_true hcO] at hlk9
          have r8 := HI1.out.run.cell 0
          simp only [List.getElem?_toArray, List.getElem?_cons_zero] at r8
          have HEX := Lib.hid (law_expire HI1.out hcO (by have := HNR.out; omega) (by have := HNR.out; omega))
          go_upto_region 22 with (go_at_call 10; refine HEX.out.mono ?_; rintro e w3 ⟨rfl, he3⟩; have HI3 := Lib.hid (LawI.grow he3 ((Keep.refl _ _).alloc (.cells #[.int .i64 17, .int .u64 0, .string ⟨#[]⟩, .int .i64 0, .slice none 0 0] 42))); clear he3)
          have hx9 : (w3.alloc (.cells #[.int .i64 17, .int .u64 0, .string ⟨#[]⟩, .int .i64 0, .slice none 0 0] 42)).cell? ⟨w3.heap.size, 0, none⟩ = some (.int .i64 17) := (Blk.new w3 _ _).cell 0
          generalize (w3.alloc (.cells #[.int .i64 17, .int .u64 0, .string ⟨#[]⟩, .int .i64 0, .slice none 0 0] 42)) = w4 at *
          generalize w3.heap.size = X at *
          obtain ⟨M3, hM3⟩ : ∃ M3 : Mx, M3 = ⟨(runM l i).O.erase (cN xx : Int), (runM l i).Ln, (runM l i).acc⟩ := ⟨_, rfl⟩
          rw [← hM3] at HI3
          have hno : (cN xx : Int) ∉ M3.O := by rw [hM3]; exact List.Nodup.not_mem_erase (runM_ok l i).nd
          have r7 := HI3.out.run.cell 0
          simp only [List.getElem?_toArray, List.getElem?_cons_zero] at r7
          have hio := law_isOpen HI3.out (cN xx : Int)
          rw [decide_eq_false hno] at hio
          have HIO := Lib.hid hio
          obtain ⟨w5, hdel, hd5⟩ := LawI.del HI3.out (cN xx : Int)
          rw [show (runM l i).O.erase (cN xx : Int) = M3.O by rw [hM3]] at hd5
          have HI5 := Lib.hid hd5
          clear hd5 hio hno r8 hlk9 hlk1 r1 HEX HWT
          have r9 := HI5.out.run.cell 0
          simp only [List.getElem?_toArray, List.getElem?_cons_zero] at r9
          have HOP := Lib.hid (law_open HI5.out)
          have hlen9 := fun ty => LawI.len HI5.out ty
          go_wp2_with (first
            | (go_at_call 11; refine HIO.out.mono ?_; rintro e w8 ⟨rfl, rfl⟩)
            | (go_at_call 12; refine HOP.out.mono ?_; rintro e w9 ⟨rfl, rfl⟩))
          go_roundw
          case rel => exact ⟨i + 1, by omega, by omega, by go_num, n + 1 + 1, r + 1, by have := HNR.out; omega, by have := HNR.out; omega, by rw [runM_succ HX.out, beg_busy hbz, exp_on hm hcO, ← hM3]; exact HI5.out⟩
          case measure => simp [intOf]; omega
        · have r9 := HI1.out.run.cell 0
          simp only [List.getElem?_toArray, List.getElem?_cons_zero] at r9
          have HOP := Lib.hid (law_open HI1.out)
          have hlen9 := fun ty => LawI.len HI1.out ty
          go_wp2_with (go_at_call 12; refine HOP.out.mono ?_; rintro e w9 ⟨rfl, rfl⟩)
          go_roundw
          case rel => exact ⟨i + 1, by omega, by omega, by go_num, n + 1, r, by have := HNR.out; omega, by have := HNR.out; omega, by rw [runM_succ HX.out, beg_busy hbz, exp_off (Or.inl hm)]; exact HI1.out⟩
          case measure => simp [intOf]; omega
      · have h8 : (8 : Int) ≤ ((runM l i).O.length : Int) := by
          rcases hbz with h | h
          · exact absurd h hcO
          · omega
        go_upto_region 13 with (go_at_call 8; refine HB.out.mono ?_; rintro e w1 ⟨rfl, hb1⟩; have HI1 := Lib.hid hb1; clear hb1)
        rw [beg_busy hbz] at HI1
        have hlk1 := LawI.look HI1.out (cN xx : Int)
        rw [decide_eq_false hcO] at hlk1
        have hlen1 := fun ty => LawI.len HI1.out ty
        have r1 := HI1.out.run.cell 0
        simp only [List.getElem?_toArray, List.getElem?_cons_zero] at r1
        have HWT := Lib.hid (law_waits HI1.out)
        go_upto_region 20 with (go_at_call 9; refine HWT.out.mono ?_; rintro e w2 ⟨rfl, rfl⟩)
        by_cases hm : Int.tmod (i : Int) 3 = 2
        · have hlk9 := LawI.look HI1.out (cN xx : Int)
          rw [decide_eq_false hcO] at hlk9
          have r9 := HI1.out.run.cell 0
          simp only [List.getElem?_toArray, List.getElem?_cons_zero] at r9
          have HOP := Lib.hid (law_open HI1.out)
          have hlen9 := fun ty => LawI.len HI1.out ty
          go_wp2_with (go_at_call 12; refine HOP.out.mono ?_; rintro e w9 ⟨rfl, rfl⟩)
          go_roundw
          case rel => exact ⟨i + 1, by omega, by omega, by go_num, n + 1, r, by have := HNR.out; omega, by have := HNR.out; omega, by rw [runM_succ HX.out, beg_busy hbz, exp_off (Or.inr hcO)]; exact HI1.out⟩
          case measure => simp [intOf]; omega
        · have r9 := HI1.out.run.cell 0
          simp only [List.getElem?_toArray, List.getElem?_cons_zero] at r9
          have HOP := Lib.hid (law_open HI1.out)
          have hlen9 := fun ty => LawI.len HI1.out ty
          go_wp2_with (go_at_call 12; refine HOP.out.mono ?_; rintro e w9 ⟨rfl, rfl⟩)
          go_roundw
          case rel => exact ⟨i + 1, by omega, by omega, by go_num, n + 1, r, by have := HNR.out; omega, by have := HNR.out; omega, by rw [runM_succ HX.out, beg_busy hbz, exp_off (Or.inl hm)]; exact HI1.out⟩
          case measure => simp [intOf]; omega
    · rw [if_neg hbz] at HB
      have hcO : (cN xx : Int) ∉ (runM l i).O := fun h => hbz (Or.inl h)
      have h8 : ¬ (8 : Int) ≤ ((runM l i).O.length : Int) := by
        have : ¬ 8 ≤ (runM l i).O.length := fun h => hbz (Or.inr h)
        omega
      go_upto_region 13 with (go_at_call 8; refine HB.out.mono ?_; rintro e w1 ⟨rfl, hb1⟩; have HI1 := Lib.hid hb1; clear hb1)
      have hlk1 := LawI.look HI1.out (cN xx : Int)
      rw [decide_eq_false hcO] at hlk1
      have hlen1 := fun ty => LawI.len HI1.out ty
      have r1 := HI1.out.run.cell 0
      simp only [List.getElem?_toArray, List.getElem?_cons_zero] at r1
      have HWT := Lib.hid (law_waits HI1.out)
      obtain ⟨w2, hput, hp2⟩ := LawI.put HI1.out hcO
      rw [← (beg_in hbz).2] at hp2
      have HI2 := Lib.hid hp2
      clear hp2
      go_upto_region 20 with (go_at_call 9; refine HWT.out.mono ?_; rintro e w3 ⟨rfl, rfl⟩)
      have hcM : (cN xx : Int) ∈ ((runM l i).beg (cN xx)).O := (beg_in hbz).1
      by_cases hm : Int.tmod (i : Int) 3 = 2
      · have hlk9 := LawI.look HI2.out (cN xx : Int)
        rw [decide_eq_true hcM] at hlk9
        have r8 := HI2.out.run.cell 0
        simp only [List.getElem?_toArray, List.getElem?_cons_zero] at r8
        have HEX := Lib.hid (law_expire HI2.out hcM (by have := HNR.out; omega) (by have := HNR.out; omega))
        go_upto_region 22 with (go_at_call 10; refine HEX.out.mono ?_; rintro e w3 ⟨rfl, he3⟩; have HI3 := Lib.hid (LawI.grow he3 ((Keep.refl _ _).alloc (.cells #[.int .i64 17, .int .u64 0, .string ⟨#[]⟩, .int .i64 0, .slice none 0 0] 42))); clear he3)
        have hx9 : (w3.alloc (.cells #[.int .i64 17, .int .u64 0, .string ⟨#[]⟩, .int .i64 0, .slice none 0 0] 42)).cell? ⟨w3.heap.size, 0, none⟩ = some (.int .i64 17) := (Blk.new w3 _ _).cell 0
        generalize (w3.alloc (.cells #[.int .i64 17, .int .u64 0, .string ⟨#[]⟩, .int .i64 0, .slice none 0 0] 42)) = w4 at *
        generalize w3.heap.size = X at *
        obtain ⟨M3, hM3⟩ : ∃ M3 : Mx, M3 = ⟨((runM l i).beg (cN xx)).O.erase (cN xx : Int), ((runM l i).beg (cN xx)).Ln, ((runM l i).beg (cN xx)).acc⟩ := ⟨_, rfl⟩
        rw [← hM3] at HI3
        have hno : (cN xx : Int) ∉ M3.O := by rw [hM3]; exact List.Nodup.not_mem_erase HND.out
        have r7 := HI3.out.run.cell 0
        simp only [List.getElem?_toArray, List.getElem?_cons_zero] at r7
        have hio := law_isOpen HI3.out (cN xx : Int)
        rw [decide_eq_false hno] at hio
        have HIO := Lib.hid hio
        obtain ⟨w5, hdel, hd5⟩ := LawI.del HI3.out (cN xx : Int)
        rw [show ((runM l i).beg (cN xx)).O.erase (cN xx : Int) = M3.O by rw [hM3]] at hd5
        have HI5 := Lib.hid hd5
        clear hd5 hio hno r8 hlk9 hlk1 r1 HEX HWT
        have r9 := HI5.out.run.cell 0
        simp only [List.getElem?_toArray, List.getElem?_cons_zero] at r9
        have HOP := Lib.hid (law_open HI5.out)
        have hlen9 := fun ty => LawI.len HI5.out ty
        go_wp2_with (first
          | (go_at_call 11; refine HIO.out.mono ?_; rintro e w8 ⟨rfl, rfl⟩)
          | (go_at_call 12; refine HOP.out.mono ?_; rintro e w9 ⟨rfl, rfl⟩))
        go_roundw
        case rel => exact ⟨i + 1, by omega, by omega, by go_num, n + 1 + 1, r + 1, by have := HNR.out; omega, by have := HNR.out; omega, by rw [runM_succ HX.out, exp_on hm hcM, ← hM3]; exact HI5.out⟩
        case measure => simp [intOf]; omega
      · have r9 := HI2.out.run.cell 0
        simp only [List.getElem?_toArray, List.getElem?_cons_zero] at r9
        have HOP := Lib.hid (law_open HI2.out)
        have hlen9 := fun ty => LawI.len HI2.out ty
        go_wp2_with (go_at_call 12; refine HOP.out.mono ?_; rintro e w9 ⟨rfl, rfl⟩)
        go_roundw
        case rel => exact ⟨i + 1, by omega, by omega, by go_num, n + 1, r, by have := HNR.out; omega, by have := HNR.out; omega, by rw [runM_succ HX.out, exp_off (Or.inl hm)]; exact HI2.out⟩
        case measure => simp [intOf]; omega
end Go.Proofs.YtpnoiagjgkajdaaGreatDoor
