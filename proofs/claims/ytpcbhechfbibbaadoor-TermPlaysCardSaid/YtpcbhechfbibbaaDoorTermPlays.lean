/- The walk of glacierlaw09.TermPlays. -/
import Derived.Test.YtpcbhechfbibbaaDoorPlaysMids
import Derived.Test.YtpcbhechfbibbaaDoorSame2
import Derived.Deep.CutBlock
import Derived.Outline
namespace Go.Proofs.YtpcbhechfbibbaaDoor
open Go.RowKit
attribute [local go_sem] size_bs bs_append bs_extract ba_self

theorem zero_plOk : PlOk (Dk.start 100000) ⟨0, 0, 0, 0, [], []⟩ [⟨0, 0, 0, 0, [], []⟩] false 0 := by
  have hz : ∀ m, (lookF m (Dk.start 100000).files) = Fil.none_ := fun m => by simp [Dk.start, lookF]
  refine ⟨⟨(calm_start 100000 (by decide)).good, names_start _, rfl, by simp [Dk.start], by simp [Dk.start], rfl⟩, by simp, fun _ => ⟨safe_start _, ⟨.inr ⟨?_, rfl, rfl⟩, .inr ⟨?_, rfl, rfl, rfl⟩, [], 0, ?_, by simp, by simp, trivial, by simp, by simp, by simp, rfl⟩, rfl⟩, fun e => by cases e⟩
  · rw [hz]; exact half_nil
  · rw [hz]; exact half_nil
  · rw [hz]; rfl

theorem mayB_len (kind : Int) (m : Nat) (ts : List (List UInt8)) {x : Ts} (hx : x.log.length ≤ 1000) : (mayB kind m ts x).length ≤ 1000000 := by
  unfold mayB betw2
  split
  · simp
  split
  · simp only [List.length_map, List.length_range]; omega
  split
  · simp only [List.length_map, List.length_range]; omega
  · simp

theorem EntsT.parts {w : World} {v : Value} {l : List En} (h : EntsT w v l) : (v = .slice none 0 0 ∧ l = []) ∨ ∃ g o c, v = .slice (some ⟨g, o, none⟩) l.length c ∧ l.length ≤ c ∧ ∀ (l1 l2 : List En) (A : Option Addr) (n c' : Nat), l = l1 ++ l2 → (l2 ≠ [] → A = some ⟨g, o + l1.length * 3, none⟩) → n = l2.length → EntsAt w (.slice A n c') l2 := by
  rcases h with ⟨h1, h2, h3⟩ | ⟨g, o, c, cs, fr, h1, h2, h3, h4⟩
  · exact .inl ⟨h1, List.length_eq_zero_iff.1 h2⟩
  · refine .inr ⟨g, o, c, h1, h2, fun l1 l2 A n c' hl hA hn => ?_⟩
    subst hn
    refine ⟨A, c', rfl, fun hne => ⟨g, o + l1.length * 3, hA hne, fun j u hu => ?_⟩⟩
    rw [cell_of_row w g _ cs _ _ h3, Nat.add_assoc]
    refine h4 _ u ?_
    have e : entsV l = entsV l1 ++ entsV l2 := by rw [hl]; simp [entsV]
    rw [e, List.getElem?_append_right (by rw [entsV_len_]; omega), entsV_len_, Nat.add_sub_cancel_left]
    exact hu

set_option maxRecDepth 100000 in
set_option maxHeartbeats 40000000 in
theorem termPlays_calls (w : World) (hT : Tab w) (v : Value) (acts : List Ac) (hv : ActsAt w v acts) :
    Calls Tryd.prog 7 #[v] w fun e w' => e = .returned (.bool true) ∧ Keep [] w w' := by
  obtain ⟨A, c, rfl, hac⟩ := hv
  have HAC := Lib.hid hac
  have HT := Lib.hid hT
  clear hac hT
  go_enter Tryd.func7, Tryd.ntmps7
  go_wp2_with (first
    | (go_at_call 8; refine (new_calls 100000 (by decide) w).mono ?_; rintro e w1 ⟨b, m, rfl, hb, hm, hD1, hk1⟩; have HD1 : Hid (DiskAt w1 b m (Dk.start 100000)) := hD1; have HK1 := Lib.hid hk1; have hblt := hD1.blk.lt; have hmlt := hD1.map.lt; clear hD1 hk1)
    | (go_at_call 9; refine (awake_calls w1 (HT.out.keep HK1.out (by simp))).mono ?_; rintro e w2 ⟨rfl, hk2⟩; have HK2 := Lib.hid hk2; clear hk2))
  go_loopw [5, 6, 7] (fun vall vsick vi wr => PlRel w acts b m w2.heap.size vall vsick vi wr) (fun _ _ vi _ => 20 - (intOf vi).toNat)
  case atStart =>
    have hk0 : Keep [] w2 ((w2.alloc (.cells #[.int .i64 0, .int .i64 0, .int .i64 0, .int .i64 0, .string { data := #[] }, .slice none 0 0] 51)).alloc (.cells #[.int .i64 0, .int .i64 0, .int .i64 0, .int .i64 0, .string { data := #[] }, .slice none 0 0] 51)) := ((Keep.refl _ _).alloc _).alloc _
    have hz : EntsT ((w2.alloc (.cells #[.int .i64 0, .int .i64 0, .int .i64 0, .int .i64 0, .string { data := #[] }, .slice none 0 0] 51)).alloc (.cells #[.int .i64 0, .int .i64 0, .int .i64 0, .int .i64 0, .string { data := #[] }, .slice none 0 0] 51)) (.slice none 0 0) [] := .inl ⟨rfl, rfl, rfl⟩
    refine ⟨0, _, _, .slice none 0 0, _, _, (by simp), Nat.zero_le _, Nat.zero_le _, rfl, rfl, zero_plOk, (HD1.out.keep HK2.out (by simp) (by simp)).keep hk0 (by simp) (by simp), (Blk.new _ _ _).alloc _, hz, stsT_one (Nat.le_refl _) (Blk.here _ _ _ _ (by simp)) hz, ?_, (HK1.out.trans HK2.out).trans hk0, HT.out.keep ((HK1.out.trans HK2.out).trans hk0) (by simp)⟩
    intro k hk
    simp only [Value.ownBlock, Option.some.injEq] at hk
    omega
  case round =>
    obtain ⟨i, D, x, lgx, all, sick, hall, hi1, hi2, rfl, rfl, hok, hM⟩ := hrel
    have HALL := Lib.hid hall
    clear hall
    have HOK := Lib.hid hok
    have HM := Lib.hid hM
    have hxl := hM.blk.lt
    have hxw : w.heap.size ≤ w2.heap.size := (HK1.out.trans HK2.out).size
    clear hok hM
    by_cases h : i < acts.length ∧ i < 20
    case neg =>
      by_cases h1 : i < acts.length
      · have d1 : decide ((i : Int) < (acts.length : Int)) = true := by simp; omega
        have d2 : decide ((i : Int) < 20) = false := by simp; omega
        go_wp2
        go_ret
        exact ⟨rfl, HM.out.keep⟩
      · have d1 : decide ((i : Int) < (acts.length : Int)) = false := by simp; omega
        go_wp2
        go_ret
        exact ⟨rfl, HM.out.keep⟩
    case pos =>
    obtain ⟨h1, h2⟩ := h
    have d1 : decide ((i : Int) < (acts.length : Int)) = true := by simp; omega
    have d2 : decide ((i : Int) < 20) = true := by simp; omega
    obtain ⟨g, o, rfl, hact⟩ := HAC.out (by intro h0; rw [h0] at h1; simp at h1)
    obtain ⟨vt, vc, ha0⟩ := hact i h1
    have HCH := Lib.hid ha0.choice
    have ha := ha0.keep HM.out.keep
    have HA := Lib.hid ha
    obtain ⟨a0, a1, a2, a3, a4, a5, htx, hcx, hbx⟩ := ha
    have HTX := Lib.hid htx
    obtain ⟨At, ct, rfl, -⟩ := htx
    obtain ⟨Ac, cc, rfl, -⟩ := hcx
    clear hact ha0 hbx
    generalize acts[i] = a at *
    obtain ⟨n, hn⟩ : ∃ n : Nat, min (max a.n 0) 1000 = (n : Int) := ⟨(min (max a.n 0) 1000).toNat, by omega⟩
    obtain ⟨m', hm'⟩ : ∃ n : Nat, min (max a.m 0) 5 = (n : Int) := ⟨(min (max a.m 0) 5).toNat, by omega⟩
    have hn1 : n ≤ 1000 := by omega
    have hm1 : m' ≤ 5 := by omega
    have hsm := HOK.out.small
    obtain ⟨Ax, cx, rfl⟩ := RowT.slice HM.out.ents
    have x0 : wr.cell? ⟨w2.heap.size, 0, none⟩ = some (.int .i64 (x.term : Int)) := HM.out.blk.cell 0
    have x1 : wr.cell? ⟨w2.heap.size, 1, none⟩ = some (.int .i64 (x.vote : Int)) := HM.out.blk.cell 1
    have x2 : wr.cell? ⟨w2.heap.size, 2, none⟩ = some (.int .i64 (x.base : Int)) := HM.out.blk.cell 2
    have x3 : wr.cell? ⟨w2.heap.size, 3, none⟩ = some (.int .i64 (x.baseTerm : Int)) := HM.out.blk.cell 3
    have x4 : wr.cell? ⟨w2.heap.size, 4, none⟩ = some (.string (bs x.snap)) := HM.out.blk.cell 4
    have x5 : wr.cell? ⟨w2.heap.size, 5, none⟩ = some (.slice Ax x.log.length cx) := HM.out.blk.cell 5
    by_cases hskip : sick = true ∧ a.kind ≠ 5
    case pos =>
      obtain ⟨rfl, hk5⟩ := hskip
      have d3 : (a.kind != 5) = true := by simpa using hk5
      go_wp2
      go_roundw
      case rel => exact ⟨i + 1, D, x, _, all, true, HALL.out, by omega, by omega, by go_num, rfl, HOK.out.next, HM.out.grow ((Keep.refl _ _).alloc _)⟩
      case measure => simp [intOf]; omega
    case neg =>
    have d3 : (sick && a.kind != 5) = false := by
      cases sick
      · rfl
      · simp only [Bool.true_and, bne_eq_false_iff_eq]
        exact Decidable.byContradiction fun h => hskip ⟨rfl, h⟩
    have HSK : Hid (a.kind ≠ 5 → sick = false) := fun h => by
      cases sick
      · rfl
      · exact absurd ⟨rfl, h⟩ hskip
    clear hskip
    obtain ⟨y, hy⟩ : ∃ y, y = mayY a.kind n m' a.s a.texts x := ⟨_, rfl⟩
    obtain ⟨bl, hbl⟩ : ∃ bl, bl = mayB a.kind m' a.texts x := ⟨_, rfl⟩
    have HMY : Hid (∀ W, Keep [] wr W → Calls Tryd.prog 21 #[.agg #[.int .i64 (x.term : Int), .int .i64 (x.vote : Int), .int .i64 (x.base : Int), .int .i64 (x.baseTerm : Int), .string (bs x.snap), .slice Ax x.log.length cx], .agg #[.int .i64 a.kind, .int .i64 (n : Int), .int .i64 (m' : Int), .string (bs a.s), .slice At a.texts.length ct, .slice Ac a.choice.length cc]] W fun e w' => ∃ Ay cy vb, e = .returned (.tuple #[.agg #[.int .i64 (y.term : Int), .int .i64 (y.vote : Int), .int .i64 (y.base : Int), .int .i64 (y.baseTerm : Int), .string (bs y.snap), .slice Ay y.log.length cy], vb]) ∧ EntsT w' (.slice Ay y.log.length cy) y.log ∧ StsT w' vb bl ∧ Keep [] W w') := fun W hW => by
      rw [hy, hbl]
      exact may_calls a.kind x (.slice Ax x.log.length cx) n m' a.s (.slice At a.texts.length ct) (.slice Ac a.choice.length cc) a.texts W (HM.out.ents.keep hW (by simp)) (HTX.out.keep hW) ⟨_, _, _, rfl⟩ hn1 (by omega) (by omega)
    have HPS : Hid (sick = false → PlStep a.kind D n m' i x y bl) := fun hs => by
      subst hs
      rw [hy, hbl]
      exact play_step HOK.out (by omega) a.kind n m' hn1 hm1 a.s a.texts
    have HYF : Hid (sick = false → x.Fit ∧ y.Fit) := fun hs => by
      have hf := (HOK.out.ok hs).2.1.fit (by omega)
      rw [hy]
      exact ⟨hf, mayY_fit hf (by omega) a.kind n m' hm1 a.s a.texts⟩
    have HY2 : Hid (a.kind = 2 → ∃ l, y.log = x.log ++ l) := fun h => by
      rw [hy, h]
      exact ⟨_, rfl⟩
    have HBL : Hid (bl.length ≤ 1000000) := by
      show bl.length ≤ 1000000
      rw [hbl]
      exact mayB_len a.kind m' a.texts (by omega)
    clear hy hbl d3
    by_cases hk5 : a.kind = 5
    case pos =>
        --[K5
      have e1 : (a.kind == 1) = false := by simp [hk5]
      have e2 : (a.kind == 2) = false := by simp [hk5]
      have e3 : (a.kind == 3) = false := by simp [hk5]
      have e4 : (a.kind == 4) = false := by simp [hk5]
      have e5 : (a.kind == 5) = true := by simp [hk5]
      have d3 : (a.kind != 5) = false := by simp [hk5]
      clear hk5 HPS HYF HY2 HBL HSK
      obtain ⟨-, Aa, na, ca, rfl, -⟩ := HM.out.sts.open_
      obtain ⟨hg1, hg2, s, D', hsa, hld, hsf, hok5⟩ := play5 HOK.out h2 a.choice
      have hnm := HOK.out.base.names
      have T1 : ∀ W, PlMem w W b m w2.heap.size D x (.slice Ax x.log.length cx) (.slice Aa na ca) all → Calls Tryd.prog 18 #[.pointer (some ⟨b, 0, none⟩), .slice Ac a.choice.length cc] W fun e w' => e = .returned (.tuple #[]) ∧ PlMem w w' b m w2.heap.size (D.crash a.choice) x (.slice Ax x.log.length cx) (.slice Aa na ca) all := fun W h => by
        refine (crash_calls h.disk HOK.out.base.good (by have := hnm.len; simp [names3] at this; omega) (hnm.lens (fun x hx => by simp [names3] at hx; rcases hx with rfl | rfl | rfl <;> decide)) _ a.choice HA.out.bounds (fun W' hW' => HCH.out.keep (h.keep.trans' hW' (by simp; omega)))).mono ?_
        rintro e w' ⟨rfl, hD, hk⟩
        exact ⟨rfl, h.disk_ hb hm hk hD⟩
      have T2 : ∀ W, PlMem w W b m w2.heap.size (D.crash a.choice) x (.slice Ax x.log.length cx) (.slice Aa na ca) all → Calls Tryd.prog 24 #[.pointer (some ⟨b, 2, none⟩), .int .i64 (-1)] W fun e w' => e = .returned (.tuple #[]) ∧ PlMem w w' b m w2.heap.size { D.crash a.choice with armed := 0 } x (.slice Ax x.log.length cx) (.slice Aa na ca) all := fun W h => by
        refine (fail_off h.disk (-1) (by decide)).mono ?_
        rintro e w' ⟨rfl, hD, hk⟩
        exact ⟨rfl, h.disk_ hb hm (Keep.trans' (M := [b, m]) (Keep.refl _ _) hk (by simp)) hD⟩
      have T3 : ∀ W, PlMem w W b m w2.heap.size { D.crash a.choice with armed := 0 } x (.slice Ax x.log.length cx) (.slice Aa na ca) all → Calls Tryd.prog 12 #[.pointer (some ⟨b, 0, none⟩)] W fun e w' => ∃ A3 c3, e = .returned (.tuple #[.agg #[.int .i64 (s.term : Int), .int .i64 (s.vote : Int), .int .i64 (s.base : Int), .int .i64 (s.baseTerm : Int), .string (bs s.snap), .slice A3 s.log.length c3], .int .i64 0]) ∧ EntsAt w' (.slice A3 s.log.length c3) s.log ∧ PlMem w w' b m w2.heap.size D' x (.slice Ax x.log.length cx) (.slice Aa na ca) all := fun W h => by
        have := load_calls h.disk hg2 h.tab
        unfold LoadPost at this
        rw [hld] at this
        refine this.mono fun e w' ⟨lg, h1, h2, h3, h4⟩ => ?_
        obtain ⟨A3, c3, rfl⟩ := own_slice h2
        simp only at h2
        exact ⟨A3, c3, h1, own_ents h2, h.disk_ hb hm h4 h3⟩
      have T4 : ∀ W A3 c3, EntsAt W (.slice A3 s.log.length c3) s.log → Calls Tryd.prog 20 #[.agg #[.int .i64 (s.term : Int), .int .i64 (s.vote : Int), .int .i64 (s.base : Int), .int .i64 (s.baseTerm : Int), .string (bs s.snap), .slice A3 s.log.length c3]] W fun e w' => ∃ A4 c4, e = .returned (.agg #[.int .i64 (s.term : Int), .int .i64 (s.vote : Int), .int .i64 (s.base : Int), .int .i64 (s.baseTerm : Int), .string (bs s.snap), .slice A4 s.log.length c4]) ∧ EntsT w' (.slice A4 s.log.length c4) s.log ∧ Keep [] W w' := fun W A3 c3 h => by
        refine (told_calls s _ W h (by have := hsf.base; omega)).mono ?_
        rintro e w' ⟨A, c, rfl, ho, hk⟩
        exact ⟨A, c, rfl, RowT.of_own ho, hk⟩
      have T5 : ∀ (z : Ts) (fz : Bool), fz = decide (s = z) → ∀ W A3 c3 A4 c4, EntsAt W (.slice A3 s.log.length c3) s.log → EntsAt W (.slice A4 z.log.length c4) z.log → Calls Tryd.prog 19 #[.agg #[.int .i64 (s.term : Int), .int .i64 (s.vote : Int), .int .i64 (s.base : Int), .int .i64 (s.baseTerm : Int), .string (bs s.snap), .slice A3 s.log.length c3], .agg #[.int .i64 (z.term : Int), .int .i64 (z.vote : Int), .int .i64 (z.base : Int), .int .i64 (z.baseTerm : Int), .string (bs z.snap), .slice A4 z.log.length c4]] W fun e w' => e = .returned (.bool fz) ∧ Keep [] W w' := fun z fz hfz W A3 c3 A4 c4 h1 h2 => by
        rw [hfz]
        exact same2_calls s z _ _ W h1 h2 (by have := hsf.base; omega)
      have HT1 := Lib.hid T1
      have HT2 := Lib.hid T2
      have HT3 := Lib.hid T3
      have HT4 := Lib.hid T4
      have HT5 := Lib.hid T5
      have HSA := Lib.hid hsa
      have HOK5 := Lib.hid hok5
      clear T1 T2 T3 T4 T5 hsa hok5 hld hg1 hg2 hnm hsf
      go_upto_region 13 with fail
      go_cut [56] (fun sv wx => sv = .bool false ∧ Blk wx wr.heap.size 57 #[.int .i64 a.kind, .int .i64 (n : Int), .int .i64 (m' : Int), .string (bs a.s), .slice At a.texts.length ct, .slice Ac a.choice.length cc] ∧ Keep [] wr wx)
      case first =>
        cases sick
        · go_wp2_with fail
          go_meet
          exact ⟨rfl, Blk.new _ _ _, (Keep.refl _ _).alloc _⟩
        · go_wp2_with fail
          go_meet
          exact ⟨rfl, Blk.new _ _ _, (Keep.refl _ _).alloc _⟩
      case rest =>
        obtain ⟨rfl, hab, hkc⟩ := hcut
        have HKC := Lib.hid hkc
        have HMC := Lib.hid (HM.out.grow hkc)
        have HAB := Lib.hid hab
        have hpl := hab.lt
        have hxc := HMC.out.blk.lt
        clear hab hkc x0 x1 x2 x3 x4 x5 a0 a1 a2 a3 a4 a5 HM hxl hn hm' HTX HA
        have hbk := HMC.out.blk
        have x0 : wc.cell? ⟨w2.heap.size, 0, none⟩ = some (.int .i64 (x.term : Int)) := hbk.cell 0; have x1 : wc.cell? ⟨w2.heap.size, 1, none⟩ = some (.int .i64 (x.vote : Int)) := hbk.cell 1; have x2 : wc.cell? ⟨w2.heap.size, 2, none⟩ = some (.int .i64 (x.base : Int)) := hbk.cell 2; have x3 : wc.cell? ⟨w2.heap.size, 3, none⟩ = some (.int .i64 (x.baseTerm : Int)) := hbk.cell 3; have x4 : wc.cell? ⟨w2.heap.size, 4, none⟩ = some (.string (bs x.snap)) := hbk.cell 4; have x5 : wc.cell? ⟨w2.heap.size, 5, none⟩ = some (.slice Ax x.log.length cx) := hbk.cell 5; clear hbk
        have hbk := HAB.out
        have p0 : wc.cell? ⟨wr.heap.size, 0, none⟩ = some (.int .i64 a.kind) := hbk.cell 0; have p1 : wc.cell? ⟨wr.heap.size, 1, none⟩ = some (.int .i64 (n : Int)) := hbk.cell 1; have p2 : wc.cell? ⟨wr.heap.size, 2, none⟩ = some (.int .i64 (m' : Int)) := hbk.cell 2; have p3 : wc.cell? ⟨wr.heap.size, 3, none⟩ = some (.string (bs a.s)) := hbk.cell 3; have p4 : wc.cell? ⟨wr.heap.size, 4, none⟩ = some (.slice At a.texts.length ct) := hbk.cell 4; have p5 : wc.cell? ⟨wr.heap.size, 5, none⟩ = some (.slice Ac a.choice.length cc) := hbk.cell 5; clear hbk
        generalize wr.heap.size = pb at *
        go_wp2_with (first
          | (go_at_call 21; refine (HMY.out _ HKC.out).mono ?_; rintro e w3 ⟨Ay, cy, vb, rfl, hEy, hSb, hk3⟩; obtain ⟨-, Ab, nb, cb, rfl, -⟩ := hSb.open_; have HM3 := Lib.hid (HMC.out.grow hk3); have hab3 := HAB.out.keep hk3 (by simp); have q0 : w3.cell? ⟨pb, 0, none⟩ = some (.int .i64 a.kind) := hab3.cell 0; have q5 : w3.cell? ⟨pb, 5, none⟩ = some (.slice Ac a.choice.length cc) := hab3.cell 5; have hpl3 := hab3.lt; clear hab3 hEy hSb hk3 x0 x1 x2 x3 x4 x5 p0 p1 p2 p3 p4 p5)
          | (go_at_call 18; refine (HT1.out _ (HM3.out.grow (by repeat (first | exact Keep.refl _ _ | refine Keep.drew ?_ | refine Keep.drewN ?_ _ | refine Keep.alloc ?_ _)))).mono ?_; rintro e w4 ⟨rfl, hM4⟩; have HM4 := Lib.hid hM4; clear hM4 q0 q5)
          | (go_at_call 24; refine (HT2.out _ HM4.out).mono ?_; rintro e w5 ⟨rfl, hM5⟩; have HM5 := Lib.hid hM5; clear hM5)
          | (go_at_call 12; refine (HT3.out _ HM5.out).mono ?_; rintro e w6 ⟨A3, c3, rfl, hE6, hM6⟩; have HE6 := Lib.hid hE6; have HM6 := Lib.hid hM6; clear hE6 hM6))
        have hka := (Keep.refl [] w6).alloc (.cells #[.int .i64 (s.term : Int), .int .i64 (s.vote : Int), .int .i64 (s.base : Int), .int .i64 (s.baseTerm : Int), .string (bs s.snap), .slice A3 s.log.length c3] 33)
        have hM7 := HM6.out.grow hka
        have hE7 := HE6.out.keep_nil hka
        have hB7 : Blk (w6.alloc (.cells #[.int .i64 (s.term : Int), .int .i64 (s.vote : Int), .int .i64 (s.base : Int), .int .i64 (s.baseTerm : Int), .string (bs s.snap), .slice A3 s.log.length c3] 33)) w6.heap.size 33 #[.int .i64 (s.term : Int), .int .i64 (s.vote : Int), .int .i64 (s.base : Int), .int .i64 (s.baseTerm : Int), .string (bs s.snap), .slice A3 s.log.length c3] := Blk.new _ _ _
        clear hka HM3 HM4 HM5 HM6 HE6 HMC HT1 HT2 HT3 HMY
        generalize w6.alloc (.cells #[.int .i64 (s.term : Int), .int .i64 (s.vote : Int), .int .i64 (s.base : Int), .int .i64 (s.baseTerm : Int), .string (bs s.snap), .slice A3 s.log.length c3] 33) = W7 at *
        generalize w6.heap.size = sb at *
        obtain ⟨psa, Aa2, na2, ca2, heq, hpf, hna, hpe, hpr, -⟩ := hM7.sts.open_
        injection heq with q1 q2 q3
        subst q1 q2 q3
        have hal : all.length = na := by rw [← hpf, List.length_map, hna]
        have hnal : na ≤ 1000002 := by have := HALL.out; omega
        have HM7 := Lib.hid hM7
        have HE7 := Lib.hid hE7
        have HB7 := Lib.hid hB7
        have HPF := Lib.hid hpf
        have HPE := Lib.hid hpe
        have HPR := Lib.hid hpr
        have HNA := Lib.hid hna
        have HAL := Lib.hid hal
        clear hM7 hE7 hB7 hpf hpe hpr hna hal
        go_loopw [14, 123] (fun vf vk W => ∃ k : Nat, k ≤ na ∧ vk = .int .i64 (k : Int) ∧ (∃ fb : Bool, vf = .bool fb ∧ (fb = true ↔ s ∈ all.take k)) ∧ Keep [] W7 W) (fun _ vk _ => na - (intOf vk).toNat)
        case atStart => exact ⟨0, Nat.zero_le _, rfl, ⟨false, rfl, by simp⟩, Keep.refl _ _⟩
        case round =>
          obtain ⟨k, hkq, rfl, ⟨fb, rfl, hfb⟩, hkw⟩ := hrel
          have HFB := Lib.hid hfb
          have HKW := Lib.hid hkw
          clear hfb hkw
          by_cases hkl : k < na
          · have dk : decide ((k : Int) < (na : Int)) = true := by simp; omega
            have hkp : k < psa.length := by have := HNA.out; omega
            have hne : stsV psa ≠ [] := by
              intro h
              have := stsV_len psa
              rw [h] at this
              simp at this
              omega
            obtain ⟨g2, o2, c2, he2, -, hcell⟩ := RowT.cell HPR.out hne
            injection he2 with q1 q2 q3
            subst q1 q3
            clear q2
            have hzt : all.take (k + 1) = all.take k ++ [psa[k].1] := by
              rw [← HPF.out, List.take_succ_eq_append_getElem (by simpa using hkp), List.getElem_map]
            have hze := HPE.out psa[k] (List.getElem_mem hkp)
            have hq : ∀ i u, i < 6 → (psa[k].1.cells psa[k].2)[i]? = some u → wr.cell? ⟨g2, o2 + (k * 6 + i), none⟩ = some u := fun i u hi hu => by
              have h0 := hcell (k * 6 + i) u (by rw [stsV_at psa k hkp i hi]; exact hu)
              exact (HKW.out.cell (World.block_lt_of_cell? _ _ h0) (by simp)).trans h0
            generalize psa[k] = pz at *
            obtain ⟨z, vz⟩ := pz
            simp only at hzt hze hq
            obtain ⟨Az, cz, rfl⟩ := RowT.slice hze
            have z0 : wr.cell? ⟨g2, o2 + 6 * k, none⟩ = some (.int .i64 (z.term : Int)) := by rw [Nat.mul_comm 6 k]; exact hq 0 _ (by omega) rfl
            have z1 : wr.cell? ⟨g2, o2 + 6 * k + 1, none⟩ = some (.int .i64 (z.vote : Int)) := by rw [Nat.mul_comm 6 k, Nat.add_assoc]; exact hq 1 _ (by omega) rfl
            have z2 : wr.cell? ⟨g2, o2 + 6 * k + 2, none⟩ = some (.int .i64 (z.base : Int)) := by rw [Nat.mul_comm 6 k, Nat.add_assoc]; exact hq 2 _ (by omega) rfl
            have z3 : wr.cell? ⟨g2, o2 + 6 * k + 3, none⟩ = some (.int .i64 (z.baseTerm : Int)) := by rw [Nat.mul_comm 6 k, Nat.add_assoc]; exact hq 3 _ (by omega) rfl
            have z4 : wr.cell? ⟨g2, o2 + 6 * k + 4, none⟩ = some (.string (bs z.snap)) := by rw [Nat.mul_comm 6 k, Nat.add_assoc]; exact hq 4 _ (by omega) rfl
            have z5 : wr.cell? ⟨g2, o2 + 6 * k + 5, none⟩ = some (.slice Az z.log.length cz) := by rw [Nat.mul_comm 6 k, Nat.add_assoc]; exact hq 5 _ (by omega) rfl
            have zz0 : wr.cell? ⟨g2, o2 + k * 6, none⟩ = some (.int .i64 (z.term : Int)) := by exact hq 0 _ (by omega) rfl
            have zz1 : wr.cell? ⟨g2, o2 + k * 6 + 1, none⟩ = some (.int .i64 (z.vote : Int)) := by rw [Nat.add_assoc]; exact hq 1 _ (by omega) rfl
            have zz2 : wr.cell? ⟨g2, o2 + k * 6 + 2, none⟩ = some (.int .i64 (z.base : Int)) := by rw [Nat.add_assoc]; exact hq 2 _ (by omega) rfl
            have zz3 : wr.cell? ⟨g2, o2 + k * 6 + 3, none⟩ = some (.int .i64 (z.baseTerm : Int)) := by rw [Nat.add_assoc]; exact hq 3 _ (by omega) rfl
            have zz4 : wr.cell? ⟨g2, o2 + k * 6 + 4, none⟩ = some (.string (bs z.snap)) := by rw [Nat.add_assoc]; exact hq 4 _ (by omega) rfl
            have zz5 : wr.cell? ⟨g2, o2 + k * 6 + 5, none⟩ = some (.slice Az z.log.length cz) := by rw [Nat.add_assoc]; exact hq 5 _ (by omega) rfl
            have HZT := Lib.hid hzt
            have hkz := HKW.out.alloc (.cells #[.int .i64 (z.term : Int), .int .i64 (z.vote : Int), .int .i64 (z.base : Int), .int .i64 (z.baseTerm : Int), .string (bs z.snap), .slice Az z.log.length cz] 51)
            have hEz := hze.ents.keep_nil hkz
            have hBz : Blk (wr.alloc (.cells #[.int .i64 (z.term : Int), .int .i64 (z.vote : Int), .int .i64 (z.base : Int), .int .i64 (z.baseTerm : Int), .string (bs z.snap), .slice Az z.log.length cz] 51)) wr.heap.size 51 #[.int .i64 (z.term : Int), .int .i64 (z.vote : Int), .int .i64 (z.base : Int), .int .i64 (z.baseTerm : Int), .string (bs z.snap), .slice Az z.log.length cz] := Blk.new _ _ _
            have HEZ := Lib.hid hEz
            have HBZ := Lib.hid hBz
            have HKZ := Lib.hid hkz
            have HEZ7 := Lib.hid (HE7.out.keep_nil hkz)
            obtain ⟨fz, hfz⟩ : ∃ fz : Bool, fz = decide (s = z) := ⟨_, rfl⟩
            have HFZ := Lib.hid hfz
            clear hzt hze hq hcell hkz hEz hBz hne hkp hfz
            go_upto_region 35 with fail
            clear z0 z1 z2 z3 z4 z5 zz0 zz1 zz2 zz3 zz4 zz5
            generalize wr.alloc (.cells #[.int .i64 (z.term : Int), .int .i64 (z.vote : Int), .int .i64 (z.base : Int), .int .i64 (z.baseTerm : Int), .string (bs z.snap), .slice Az z.log.length cz] 51) = Wz at *
            generalize wr.heap.size = zb at *
            cases fb
            · have HS : Hid (∀ W, Keep [] Wz W → W.cell? ⟨sb, 0, none⟩ = some (.int .i64 (s.term : Int)) ∧ W.cell? ⟨sb, 1, none⟩ = some (.int .i64 (s.vote : Int)) ∧ W.cell? ⟨sb, 2, none⟩ = some (.int .i64 (s.base : Int)) ∧ W.cell? ⟨sb, 3, none⟩ = some (.int .i64 (s.baseTerm : Int)) ∧ W.cell? ⟨sb, 4, none⟩ = some (.string (bs s.snap)) ∧ W.cell? ⟨sb, 5, none⟩ = some (.slice A3 s.log.length c3) ∧ W.cell? ⟨zb, 0, none⟩ = some (.int .i64 (z.term : Int)) ∧ W.cell? ⟨zb, 1, none⟩ = some (.int .i64 (z.vote : Int)) ∧ W.cell? ⟨zb, 2, none⟩ = some (.int .i64 (z.base : Int)) ∧ W.cell? ⟨zb, 3, none⟩ = some (.int .i64 (z.baseTerm : Int)) ∧ W.cell? ⟨zb, 4, none⟩ = some (.string (bs z.snap)) ∧ W.cell? ⟨zb, 5, none⟩ = some (.slice Az z.log.length cz)) := fun W hk => by
                have h1 := HB7.out.keep (HKZ.out.trans hk) (by simp)
                have h2 := HBZ.out.keep hk (by simp)
                exact ⟨h1.cell 0, h1.cell 1, h1.cell 2, h1.cell 3, h1.cell 4, h1.cell 5, h2.cell 0, h2.cell 1, h2.cell 2, h2.cell 3, h2.cell 4, h2.cell 5⟩
              go_region_held3 (fun w' => w'.cell? ⟨sb, 0, none⟩ = some (.int .i64 (s.term : Int)) ∧ w'.cell? ⟨sb, 1, none⟩ = some (.int .i64 (s.vote : Int)) ∧ w'.cell? ⟨sb, 2, none⟩ = some (.int .i64 (s.base : Int)) ∧ w'.cell? ⟨sb, 3, none⟩ = some (.int .i64 (s.baseTerm : Int)) ∧ w'.cell? ⟨sb, 4, none⟩ = some (.string (bs s.snap)) ∧ w'.cell? ⟨sb, 5, none⟩ = some (.slice A3 s.log.length c3) ∧ w'.cell? ⟨zb, 0, none⟩ = some (.int .i64 (z.term : Int)) ∧ w'.cell? ⟨zb, 1, none⟩ = some (.int .i64 (z.vote : Int)) ∧ w'.cell? ⟨zb, 2, none⟩ = some (.int .i64 (z.base : Int)) ∧ w'.cell? ⟨zb, 3, none⟩ = some (.int .i64 (z.baseTerm : Int)) ∧ w'.cell? ⟨zb, 4, none⟩ = some (.string (bs z.snap)) ∧ w'.cell? ⟨zb, 5, none⟩ = some (.slice Az z.log.length cz))
                (first
                  | (refine HS.out _ ?_; (repeat (first | exact Keep.refl _ _ | exact HK9.out | exact HK8.out | refine Keep.drew ?_ | refine Keep.drewN ?_ _ | refine Keep.alloc ?_ _)); done)
                  | go_keep)
                (first
                  | (go_at_call 20; refine (HT4.out _ _ _ (HEZ7.out.keep_nil (by repeat (first | exact Keep.refl _ _ | refine Keep.drew ?_ | refine Keep.drewN ?_ _ | refine Keep.alloc ?_ _)))).mono ?_; rintro e w8 ⟨A8, c8, rfl, hE8, hk8⟩; have HE8 := Lib.hid hE8.ents; have HK8 : Hid (Keep [] Wz w8) := Keep.trans' (M := []) (by repeat (first | exact Keep.refl _ _ | refine Keep.drew ?_ | refine Keep.drewN ?_ _ | refine Keep.alloc ?_ _)) hk8 (by simp); have HEZ8 := Lib.hid (HEZ.out.keep_nil HK8.out); clear hE8 hk8)
                  | (go_at_call 19; refine (HT5.out z fz HFZ.out _ _ _ _ _ (HE8.out.keep_nil (by repeat (first | exact Keep.refl _ _ | refine Keep.drew ?_ | refine Keep.drewN ?_ _ | refine Keep.alloc ?_ _))) (HEZ8.out.keep_nil (by repeat (first | exact Keep.refl _ _ | refine Keep.drew ?_ | refine Keep.drewN ?_ _ | refine Keep.alloc ?_ _)))).mono ?_; rintro e w9 ⟨rfl, hk9⟩; have HK9 : Hid (Keep [] Wz w9) := HK8.out.trans (Keep.trans' (M := []) (by repeat (first | exact Keep.refl _ _ | refine Keep.drew ?_ | refine Keep.drewN ?_ _ | refine Keep.alloc ?_ _)) hk9 (by simp)); clear hk9)
                  | fail)
              all_goals
                go_wp2_with fail
                go_roundw
                case rel =>
                  refine ⟨k + 1, by omega, by go_num, ⟨_, rfl, ?_⟩, HKZ.out.trans (HK9.out.trans (by repeat (first | exact Keep.refl _ _ | refine Keep.drew ?_ | refine Keep.drewN ?_ _ | refine Keep.alloc ?_ _)))⟩
                  rw [HZT.out, HFZ.out]
                  have := HFB.out
                  simp at this
                  simp [this]
                case measure => simp [intOf]; omega
            · go_quiet (fail)
              all_goals
                go_wp2_with fail
                go_roundw
                case rel => exact ⟨k + 1, by omega, by go_num, ⟨_, rfl, by rw [HZT.out]; have := HFB.out; simp at this; simp [this]⟩, HKZ.out.trans (by repeat (first | exact Keep.refl _ _ | refine Keep.drew ?_ | refine Keep.drewN ?_ _ | refine Keep.alloc ?_ _))⟩
                case measure => simp [intOf]; omega
          · obtain rfl : k = na := by omega
            have hft : fb = true := HFB.out.2 (by have := HAL.out; rw [← this, List.take_length]; exact HSA.out)
            subst hft
            have dk : decide ((k : Int) < (k : Int)) = false := by simp
            have hbk := HB7.out.keep HKW.out (by simp)
            have s0 : wr.cell? ⟨sb, 0, none⟩ = some (.int .i64 (s.term : Int)) := hbk.cell 0; have s1 : wr.cell? ⟨sb, 1, none⟩ = some (.int .i64 (s.vote : Int)) := hbk.cell 1; have s2 : wr.cell? ⟨sb, 2, none⟩ = some (.int .i64 (s.base : Int)) := hbk.cell 2; have s3 : wr.cell? ⟨sb, 3, none⟩ = some (.int .i64 (s.baseTerm : Int)) := hbk.cell 3; have s4 : wr.cell? ⟨sb, 4, none⟩ = some (.string (bs s.snap)) := hbk.cell 4; have s5 : wr.cell? ⟨sb, 5, none⟩ = some (.slice A3 s.log.length c3) := hbk.cell 5; clear hbk
            go_wp2_with (first
              | (go_at_call 20; refine (HT4.out _ _ _ (HE7.out.keep_nil (HKW.out.trans (by repeat (first | exact Keep.refl _ _ | refine Keep.drew ?_ | refine Keep.drewN ?_ _ | refine Keep.alloc ?_ _))))).mono ?_; rintro e w8 ⟨A8, c8, rfl, hE8, hk8⟩; have HE8 := Lib.hid hE8; have HM8 := Lib.hid (HM7.out.grow (HKW.out.trans (Keep.trans' (M := []) (by repeat (first | exact Keep.refl _ _ | refine Keep.drew ?_ | refine Keep.drewN ?_ _ | refine Keep.alloc ?_ _)) hk8 (by simp)))); clear hE8 hk8; have hbk := HM8.out.blk; have x0 : w8.cell? ⟨w2.heap.size, 0, none⟩ = some (.int .i64 (x.term : Int)) := hbk.cell 0; have x1 : w8.cell? ⟨w2.heap.size, 1, none⟩ = some (.int .i64 (x.vote : Int)) := hbk.cell 1; have x2 : w8.cell? ⟨w2.heap.size, 2, none⟩ = some (.int .i64 (x.base : Int)) := hbk.cell 2; have x3 : w8.cell? ⟨w2.heap.size, 3, none⟩ = some (.int .i64 (x.baseTerm : Int)) := hbk.cell 3; have x4 : w8.cell? ⟨w2.heap.size, 4, none⟩ = some (.string (bs x.snap)) := hbk.cell 4; have x5 : w8.cell? ⟨w2.heap.size, 5, none⟩ = some (.slice Ax x.log.length cx) := hbk.cell 5; clear hbk; have q0 : ∀ i, w8.frozen? ⟨w2.heap.size, i, none⟩ = false := fun i => HM8.out.blk.frozen i; have hxl8 := HM8.out.blk.lt)
              | fail)
            have hfin := HM8.out.next (y := s) HE8.out hxw
            first
              | exact ⟨plRel_mk (i := i + 1) (by simp) (by omega) (by omega) (by go_num) rfl HOK5.out hfin, by simp [intOf]; omega⟩
              | (go_roundw
                 case rel => exact plRel_mk (i := i + 1) (by simp) (by omega) (by omega) (by go_num) rfl HOK5.out hfin
                 case measure => simp [intOf]; omega)
        --K5]
    case neg =>
    obtain rfl : sick = false := HSK.out hk5
    have HST := Lib.hid (HPS.out rfl)
    obtain ⟨hxf, hyf⟩ := HYF.out rfl
    have HXF := Lib.hid hxf
    have HYF2 := Lib.hid hyf
    clear hxf hyf HPS HYF HSK
    go_upto_block 2 with (first | (go_at_call 21; refine (HMY.out _ ((Keep.refl _ _).alloc _)).mono ?_; rintro e w3 ⟨Ay, cy, vb, rfl, hEy, hSb, hk3⟩; obtain ⟨psb, Ab, nb, cb, rfl, hpf, hnb, hpe, hpr, hpo⟩ := hSb.open_; have HEY := Lib.hid hEy; have HPF := Lib.hid hpf; have HNB := Lib.hid hnb; have HPE := Lib.hid hpe; have HPR := Lib.hid hpr; have HPO := Lib.hid hpo; clear hpf hnb hpe hpr hpo; have HK3 : Hid (Keep [] wr w3) := ((Keep.refl _ _).alloc _).trans hk3; have HAB : Hid (Blk w3 wr.heap.size 57 #[.int .i64 a.kind, .int .i64 (n : Int), .int .i64 (m' : Int), .string (bs a.s), .slice At a.texts.length ct, .slice Ac a.choice.length cc]) := (Blk.new _ _ _).keep hk3 (by simp); have p0 : w3.cell? ⟨wr.heap.size, 0, none⟩ = some (.int .i64 a.kind) := HAB.out.cell 0; have hpl : wr.heap.size < w3.heap.size := HAB.out.lt; clear hEy hSb hk3 x0 x1 x2 x3 x4 x5) | fail)
    have hka := (Keep.refl [] w3).alloc (.cells #[.int .i64 (y.term : Int), .int .i64 (y.vote : Int), .int .i64 (y.base : Int), .int .i64 (y.baseTerm : Int), .string (bs y.snap), .slice Ay y.log.length cy] 51)
    have hMID : PlMid w (w3.alloc (.cells #[.int .i64 (y.term : Int), .int .i64 (y.vote : Int), .int .i64 (y.base : Int), .int .i64 (y.baseTerm : Int), .string (bs y.snap), .slice Ay y.log.length cy] 51)) b m w2.heap.size w3.heap.size D x y (.slice Ax x.log.length cx) (.slice Ay y.log.length cy) u5 (.slice Ab nb cb) all psb :=
      ⟨(HM.out.grow HK3.out).grow hka, Blk.new _ _ _, HEY.out.keep hka (by simp), fun p hp => (HPE.out p hp).keep hka (by simp), by rw [← HNB.out]; exact HPR.out.keep hka (by simp)⟩
    have hxy : w2.heap.size < w3.heap.size := Nat.lt_of_lt_of_le hxl HK3.out.size
    have hAB4 := HAB.out.alloc (.cells #[.int .i64 (y.term : Int), .int .i64 (y.vote : Int), .int .i64 (y.base : Int), .int .i64 (y.baseTerm : Int), .string (bs y.snap), .slice Ay y.log.length cy] 51)
    generalize w3.alloc (.cells #[.int .i64 (y.term : Int), .int .i64 (y.vote : Int), .int .i64 (y.base : Int), .int .i64 (y.baseTerm : Int), .string (bs y.snap), .slice Ay y.log.length cy] 51) = W4 at *
    generalize w3.heap.size = yb at *
    generalize wr.heap.size = pb at *
    have HMID := Lib.hid hMID
    have HAB4 := Lib.hid hAB4
    clear hMID hAB4 hka HMY HEY HPE HPR HK3 HAB p0 hpl a0 a1 a2 a3 a4 a5 hn hm' hxl HM
    have hblt4 := HMID.out.mem.disk.blk.lt
    have hmlt4 := HMID.out.mem.disk.map.lt
    go_cut [5, 6, 9] (fun s5 s6 s9 wx => s5 = u5 ∧ s6 = .bool false ∧ PlCut w b m w2.heap.size yb i x y (.slice Ax x.log.length cx) (.slice Ay y.log.length cy) u5 (.slice Ab nb cb) all bl psb s9 wx)
    case first =>
      have e5 : (a.kind == 5) = false := by simpa using hk5
      clear hk5
      have p1 : W4.cell? ⟨pb, 1, none⟩ = some (.int .i64 (n : Int)) := HAB4.out.cell 1
      have p2 : W4.cell? ⟨pb, 2, none⟩ = some (.int .i64 (m' : Int)) := HAB4.out.cell 2
      by_cases hk1 : a.kind = 1
      · have e1 : (a.kind == 1) = true := by simpa using hk1
        have HK_1 := Lib.hid hk1
        clear hk1
        go_wp2_with (first
          | (go_at_call 15; refine (saveTerm_calls HMID.out.mem.disk HOK.out.base.good HMID.out.mem.tab n m' (by omega) (by omega)).mono ?_; rintro e w5 ⟨rfl, hD, hk⟩; have HD := Lib.hid hD; have HK5 := Lib.hid hk; clear hD hk)
          | fail)
        go_meet
        exact ⟨rfl, rfl, plCut_mk HST.out HMID.out (by simp [callDk, HK_1.out]) hb hm HK5.out HD.out⟩
      have e1 : (a.kind == 1) = false := by simpa using hk1
      clear hk1
      by_cases hk2 : a.kind = 2
      · have e2 : (a.kind == 2) = true := by simpa using hk2
        have HK_2 := Lib.hid hk2
        clear hk2
        --[K2
        obtain ⟨l2, hl2⟩ := HY2.out HK_2.out
        have hll : y.log.length = x.log.length + l2.length := by rw [hl2, List.length_append]
        have hdl : y.log.drop x.log.length = l2 := by rw [hl2, List.drop_left]
        have HLL := Lib.hid hll
        have HDL := Lib.hid hdl
        have HL2 := Lib.hid hl2
        have hle : x.log.length ≤ y.log.length := by omega
        have hyl := HYF2.out.base
        have HL2L : Hid (l2.length ≤ 1000) := show l2.length ≤ 1000 by omega
        have y5 : W4.cell? ⟨yb, 5, none⟩ = some (.slice Ay y.log.length cy) := HMID.out.blk.cell 5
        have x5 : W4.cell? ⟨w2.heap.size, 5, none⟩ = some (.slice Ax x.log.length cx) := HMID.out.mem.blk.cell 5
        have HE2 : Hid (EnsOk l2) := hdl ▸ HYF2.out.ens x.log.length
        clear hll hdl hl2
        rcases EntsT.parts HMID.out.ents with ⟨hv, h0⟩ | ⟨g, o, c, hv, hcap, hparts⟩
        · injection hv with e1 e2 e3
          have hx0 : x.log.length = 0 := by omega
          have hl0 : l2 = [] := List.length_eq_zero_iff.1 (by have := HLL.out; omega)
          have HL0 := Lib.hid hl0
          clear hl0
          subst e1 e3
          clear h0
          go_wp2_with (first
          | (go_at_call 22; refine (entries_calls l2 _ _ ?ce (Nat.le_trans HL2L.out (by decide))).mono ?_)
          | fail)
          case ce => rw [HL0.out]; exact ⟨_, _, rfl, fun h => absurd rfl h⟩
          rintro e w5 ⟨A5, c5, rfl, hO, hk⟩
          have HO := Lib.hid hO
          have HM5 := Lib.hid (HMID.out.grow (Keep.trans' (M := []) (by repeat (first | exact Keep.refl _ _ | refine Keep.drew ?_ | refine Keep.drewN ?_ _ | refine Keep.alloc ?_ _)) hk (by simp)))
          clear hO hk
          go_wp2_with (first
            | (go_at_call 14; refine (appendLog_calls HM5.out.mem.disk HOK.out.base.good HM5.out.mem.tab _ _ (own_ents HO.out) HE2.out).mono ?_; rintro e w6 ⟨rfl, hD, hk⟩; have HD := Lib.hid hD; have HK6 := Lib.hid hk; clear hD hk)
            | fail)
          go_meet
          exact ⟨rfl, rfl, plCut_mk HST.out HM5.out (by simp [callDk, HK_2.out, HDL.out]) hb hm HK6.out HD.out⟩
        · injection hv with e1 e2 e3
          subst e1 e3
          clear e2
          have HP := Lib.hid hparts
          clear hparts
          by_cases hcn : cy = x.log.length
          · have hyx : y.log.length = x.log.length := by omega
            have hl0 : l2 = [] := List.length_eq_zero_iff.1 (by have := HLL.out; omega)
            have HL0 := Lib.hid hl0
            clear hl0
            subst hcn
            go_wp2_with (first
            | (go_at_call 22; refine (entries_calls l2 _ _ ?ce (Nat.le_trans HL2L.out (by decide))).mono ?_)
            | fail)
            case ce => rw [HL0.out]; exact ⟨_, _, by first | rfl | simp, fun h => absurd rfl h⟩
            rintro e w5 ⟨A5, c5, rfl, hO, hk⟩
            have HO := Lib.hid hO
            have HM5 := Lib.hid (HMID.out.grow (Keep.trans' (M := []) (by repeat (first | exact Keep.refl _ _ | refine Keep.drew ?_ | refine Keep.drewN ?_ _ | refine Keep.alloc ?_ _)) hk (by simp)))
            clear hO hk
            go_wp2_with (first
              | (go_at_call 14; refine (appendLog_calls HM5.out.mem.disk HOK.out.base.good HM5.out.mem.tab _ _ (own_ents HO.out) HE2.out).mono ?_; rintro e w6 ⟨rfl, hD, hk⟩; have HD := Lib.hid hD; have HK6 := Lib.hid hk; clear hD hk)
              | fail)
            go_meet
            exact ⟨rfl, rfl, plCut_mk HST.out HM5.out (by simp [callDk, HK_2.out, HDL.out]) hb hm HK6.out HD.out⟩
          · go_wp2_with (first
  | (go_at_call 22; refine (entries_calls l2 _ _ ?ce (Nat.le_trans HL2L.out (by decide))).mono ?_)
  | fail)
            case ce => exact HP.out _ _ _ _ _ HL2.out (fun _ => by first | rfl | rw [Nat.mul_comm x.log.length 3]) (by have := HLL.out; omega)
            rintro e w5 ⟨A5, c5, rfl, hO, hk⟩
            have HO := Lib.hid hO
            have HM5 := Lib.hid (HMID.out.grow (Keep.trans' (M := []) (by repeat (first | exact Keep.refl _ _ | refine Keep.drew ?_ | refine Keep.drewN ?_ _ | refine Keep.alloc ?_ _)) hk (by simp)))
            clear hO hk
            go_wp2_with (first
              | (go_at_call 14; refine (appendLog_calls HM5.out.mem.disk HOK.out.base.good HM5.out.mem.tab _ _ (own_ents HO.out) HE2.out).mono ?_; rintro e w6 ⟨rfl, hD, hk⟩; have HD := Lib.hid hD; have HK6 := Lib.hid hk; clear hD hk)
              | fail)
            go_meet
            exact ⟨rfl, rfl, plCut_mk HST.out HM5.out (by simp [callDk, HK_2.out, HDL.out]) hb hm HK6.out HD.out⟩
        --K2]
      have e2 : (a.kind == 2) = false := by simpa using hk2
      clear hk2
      by_cases hk3 : a.kind = 3
      · have e3 : (a.kind == 3) = true := by simpa using hk3
        have HK_3 := Lib.hid hk3
        clear hk3
        have y5 : W4.cell? ⟨yb, 5, none⟩ = some (.slice Ay y.log.length cy) := HMID.out.blk.cell 5
        have hyl := HYF2.out.base
        go_wp2_with (first
          | (go_at_call 22; refine (entries_calls y.log _ _ HMID.out.ents.ents (by omega)).mono ?_; rintro e w5 ⟨A5, c5, rfl, hO, hk⟩; have HO := Lib.hid hO; have HK5 := Lib.hid hk; have HM5 := Lib.hid (HMID.out.grow hk); clear hO hk)
          | (go_at_call 23; refine (rewrite_calls HM5.out.mem.disk HOK.out.base.good HM5.out.mem.tab y.log _ (own_ents HO.out) (HYF2.out.ens 0)).mono ?_; rintro e w6 ⟨rfl, hD, hk⟩; have HD := Lib.hid hD; have HK6 := Lib.hid hk; clear hD hk)
          | fail)
        go_meet
        exact ⟨rfl, rfl, plCut_mk HST.out HM5.out (by simp [callDk, HK_3.out]) hb hm HK6.out HD.out⟩
      have e3 : (a.kind == 3) = false := by simpa using hk3
      clear hk3
      by_cases hk4 : a.kind = 4
      · have e4 : (a.kind == 4) = true := by simpa using hk4
        have HK_4 := Lib.hid hk4
        clear hk4
        --[K4
        have HS : Hid (∀ W, Keep [] W4 W → W.cell? ⟨yb, 2, none⟩ = some (.int .i64 (y.base : Int)) ∧ W.cell? ⟨yb, 3, none⟩ = some (.int .i64 (y.baseTerm : Int)) ∧ W.cell? ⟨yb, 4, none⟩ = some (.string (bs y.snap)) ∧ W.cell? ⟨yb, 5, none⟩ = some (.slice Ay y.log.length cy)) := fun W hk => by
          have h2 := HMID.out.blk.keep hk (by simp)
          exact ⟨h2.cell 2, h2.cell 3, h2.cell 4, h2.cell 5⟩
        have hyl := HYF2.out.base
        have hyb := HYF2.out.baseTerm
        have hys := HYF2.out.snap
        go_upto_region 24 with fail
        go_region_held3 (fun w' => w'.cell? ⟨yb, 2, none⟩ = some (.int .i64 (y.base : Int)) ∧ w'.cell? ⟨yb, 3, none⟩ = some (.int .i64 (y.baseTerm : Int)) ∧ w'.cell? ⟨yb, 4, none⟩ = some (.string (bs y.snap)) ∧ w'.cell? ⟨yb, 5, none⟩ = some (.slice Ay y.log.length cy))
          (first
            | (refine HS.out _ ?_; (repeat (first | exact Keep.refl _ _ | exact HK5.out | refine Keep.drew ?_ | refine Keep.drewN ?_ _ | refine Keep.alloc ?_ _)); done)
            | exact S6.out
            | go_keep)
          (first
            | (go_at_call 22; refine (entries_calls y.log _ _ (HMID.out.ents.ents.keep_nil (by repeat (first | exact Keep.refl _ _ | refine Keep.drew ?_ | refine Keep.drewN ?_ _ | refine Keep.alloc ?_ _))) (by omega)).mono ?_; rintro e w5 ⟨A5, c5, rfl, hO, hk⟩; have HO := Lib.hid hO; have HK5 : Hid (Keep [] W4 w5) := Keep.trans' (M := []) (by repeat (first | exact Keep.refl _ _ | refine Keep.drew ?_ | refine Keep.drewN ?_ _ | refine Keep.alloc ?_ _)) hk (by simp); have HM5 := Lib.hid (HMID.out.grow HK5.out); clear hO hk)
            | (go_at_call 11; refine (saveSnap_calls (HM5.out.mem.disk.keep (M := []) (by repeat (first | exact Keep.refl _ _ | refine Keep.drew ?_ | refine Keep.drewN ?_ _ | refine Keep.alloc ?_ _)) (by simp) (by simp)) HOK.out.base.good (HM5.out.mem.tab.keep (M := []) (by repeat (first | exact Keep.refl _ _ | refine Keep.drew ?_ | refine Keep.drewN ?_ _ | refine Keep.alloc ?_ _)) (by simp)) y.base y.baseTerm (by omega) (by omega) y.snap (by omega) y.log _ ((own_ents HO.out).keep_nil (by repeat (first | exact Keep.refl _ _ | refine Keep.drew ?_ | refine Keep.drewN ?_ _ | refine Keep.alloc ?_ _))) (HYF2.out.ens 0)).mono ?_; rintro e w6 ⟨rfl, hD, hk⟩; have HD := Lib.hid hD; have HK6 : Hid (Keep [b, m] w5 w6) := Keep.trans' (M := [b, m]) (by repeat (first | exact Keep.refl _ _ | refine Keep.drew ?_ | refine Keep.drewN ?_ _ | refine Keep.alloc ?_ _)) hk (by simp); have h26 := (HM5.out.disk_ hb hm HK6.out hD).blk; have S6 : Hid (w6.cell? ⟨yb, 2, none⟩ = some (.int .i64 (y.base : Int)) ∧ w6.cell? ⟨yb, 3, none⟩ = some (.int .i64 (y.baseTerm : Int)) ∧ w6.cell? ⟨yb, 4, none⟩ = some (.string (bs y.snap)) ∧ w6.cell? ⟨yb, 5, none⟩ = some (.slice Ay y.log.length cy)) := ⟨h26.cell 2, h26.cell 3, h26.cell 4, h26.cell 5⟩; clear h26; clear hD hk)
            | fail)
        all_goals
          go_wp2_with fail
          go_meet
          exact ⟨rfl, rfl, plCut_mk HST.out HM5.out (by simp [callDk, HK_4.out]) hb hm HK6.out HD.out⟩
        --K4]
      have e4 : (a.kind == 4) = false := by simpa using hk4
      clear hk4
      by_cases hk6 : a.kind = 6
      · have e6 : (a.kind == 6) = true := by simpa using hk6
        have HK_6 := Lib.hid hk6
        clear hk6
        --[K6
        have hdk6 := HMID.out.mem.disk
        obtain ⟨k6, hk6⟩ : ∃ k : Nat, k = n % 6 := ⟨_, rfl⟩
        have hk6l : k6 < 6 := by omega
        have r2 : (n : Int) % 6 = (k6 : Int) := by omega
        have r1 : (n : Int).tmod 6 = (k6 : Int) := by rw [Int.tmod_eq_emod_of_nonneg (by omega)]; exact r2
        have r3 : IntKind.i64.wrap ((n : Int).tmod 6) = (k6 : Int) := by rw [r1]; exact IntWalk.i64_in _ (by omega)
        have HDK6 := Lib.hid hdk6
        have HNE6 : Hid (pb ∉ [b, m]) := by
          have h1 := HAB4.out.ne_ hdk6.blk (by decide)
          have h2 := hdk6.map.ne_ HAB4.out
          show pb ∉ [b, m]
          simp
          omega
        clear hdk6 hk6
        go_upto_region 43 with fail
        go_region_held3 (fun w' => w'.cell? ⟨pb, 1, none⟩ = some (.int .i64 (n : Int)))
          (first | exact p1 | exact P5.out | go_keep)
          (first
            | (go_at_call 24; refine (fail_on (HDK6.out.keep (M := []) (by repeat (first | exact Keep.refl _ _ | refine Keep.drew ?_ | refine Keep.drewN ?_ _ | refine Keep.alloc ?_ _)) (by simp) (by simp)) (k6 : Int) (by omega) (by omega)).mono ?_; rintro e w5 ⟨rfl, hD, hk⟩; have HD := Lib.hid hD; have HK5 : Hid (Keep [b, m] W4 w5) := Keep.trans' (M := [b, m]) (by repeat (first | exact Keep.refl _ _ | refine Keep.drew ?_ | refine Keep.drewN ?_ _ | refine Keep.alloc ?_ _)) hk (by simp); have P5 : Hid (w5.cell? ⟨pb, 1, none⟩ = some (.int .i64 (n : Int))) := (HAB4.out.keep HK5.out HNE6.out).cell 1; clear hD hk)
            | fail)
        all_goals
          go_wp2
          go_roundw
          case rel => exact plRel_mk (i := i + 1) HALL.out (by omega) (by omega) (by go_num) rfl (play6 HOK.out k6 hk6l) ((HMID.out.mem.disk_ hb hm HK5.out HD.out).grow (by repeat (first | exact Keep.refl _ _ | refine Keep.drew ?_ | refine Keep.drewN ?_ _ | refine Keep.alloc ?_ _)))
          case measure => simp [intOf]; omega
        --K6]
      have e6 : (a.kind == 6) = false := by simpa using hk6
      clear hk6
      go_wp2
      go_roundw
      case rel => exact plRel_mk (i := i + 1) HALL.out (by omega) (by omega) (by go_num) rfl HOK.out.next HMID.out.mem
      case measure => simp [intOf]; omega
    case rest =>
      obtain ⟨rfl, rfl, D', e, rfl, hres, hmid⟩ := hcut
      have HMD := Lib.hid hmid
      clear hmid HMID HAB4 HST
      rcases hres with ⟨rfl, hok⟩ | ⟨rfl, hbad⟩
      · have HN := Lib.hid hok
        clear hok
        have hbk := HMD.out.blk
        have y0 : wc.cell? ⟨yb, 0, none⟩ = some (.int .i64 (y.term : Int)) := hbk.cell 0; have y1 : wc.cell? ⟨yb, 1, none⟩ = some (.int .i64 (y.vote : Int)) := hbk.cell 1; have y2 : wc.cell? ⟨yb, 2, none⟩ = some (.int .i64 (y.base : Int)) := hbk.cell 2; have y3 : wc.cell? ⟨yb, 3, none⟩ = some (.int .i64 (y.baseTerm : Int)) := hbk.cell 3; have y4 : wc.cell? ⟨yb, 4, none⟩ = some (.string (bs y.snap)) := hbk.cell 4; have y5 : wc.cell? ⟨yb, 5, none⟩ = some (.slice Ay y.log.length cy) := hbk.cell 5; clear hbk
        have hbk := HMD.out.mem.blk
        have x0 : wc.cell? ⟨w2.heap.size, 0, none⟩ = some (.int .i64 (x.term : Int)) := hbk.cell 0; have x1 : wc.cell? ⟨w2.heap.size, 1, none⟩ = some (.int .i64 (x.vote : Int)) := hbk.cell 1; have x2 : wc.cell? ⟨w2.heap.size, 2, none⟩ = some (.int .i64 (x.base : Int)) := hbk.cell 2; have x3 : wc.cell? ⟨w2.heap.size, 3, none⟩ = some (.int .i64 (x.baseTerm : Int)) := hbk.cell 3; have x4 : wc.cell? ⟨w2.heap.size, 4, none⟩ = some (.string (bs x.snap)) := hbk.cell 4; have x5 : wc.cell? ⟨w2.heap.size, 5, none⟩ = some (.slice Ax x.log.length cx) := hbk.cell 5; clear hbk
        have q0 : ∀ i, wc.frozen? ⟨w2.heap.size, i, none⟩ = false := fun i => HMD.out.mem.blk.frozen i
        have hyl := HMD.out.blk.lt
        have hxl := HMD.out.mem.blk.lt
        go_wp2
        have hfin := HMD.out.mem.next (y := y) HMD.out.ents hxw
        exact ⟨plRel_mk (i := i + 1) (by simp) (by omega) (by omega) (by go_num) rfl HN.out hfin, by simp [intOf]; omega⟩
      · have HN := Lib.hid hbad
        clear hbad
        --[TAIL
        have HS : Hid (∀ W, Keep [] wc W → W.cell? ⟨w2.heap.size, 0, none⟩ = some (.int .i64 (x.term : Int)) ∧ W.cell? ⟨w2.heap.size, 1, none⟩ = some (.int .i64 (x.vote : Int)) ∧ W.cell? ⟨w2.heap.size, 2, none⟩ = some (.int .i64 (x.base : Int)) ∧ W.cell? ⟨w2.heap.size, 3, none⟩ = some (.int .i64 (x.baseTerm : Int)) ∧ W.cell? ⟨w2.heap.size, 4, none⟩ = some (.string (bs x.snap)) ∧ W.cell? ⟨w2.heap.size, 5, none⟩ = some (.slice Ax x.log.length cx) ∧ W.cell? ⟨yb, 0, none⟩ = some (.int .i64 (y.term : Int)) ∧ W.cell? ⟨yb, 1, none⟩ = some (.int .i64 (y.vote : Int)) ∧ W.cell? ⟨yb, 2, none⟩ = some (.int .i64 (y.base : Int)) ∧ W.cell? ⟨yb, 3, none⟩ = some (.int .i64 (y.baseTerm : Int)) ∧ W.cell? ⟨yb, 4, none⟩ = some (.string (bs y.snap)) ∧ W.cell? ⟨yb, 5, none⟩ = some (.slice Ay y.log.length cy)) := fun W hk => by
          have h1 := HMD.out.mem.blk.keep hk (by simp)
          have h2 := HMD.out.blk.keep hk (by simp)
          exact ⟨h1.cell 0, h1.cell 1, h1.cell 2, h1.cell 3, h1.cell 4, h1.cell 5, h2.cell 0, h2.cell 1, h2.cell 2, h2.cell 3, h2.cell 4, h2.cell 5⟩
        have HNB1 : Hid (nb + 1 = ((x, Value.slice Ax x.log.length cx) :: psb).length) := by
          show nb + 1 = _
          rw [HNB.out]; rfl
        have hbl : psb.length ≤ 1000000 := by
          rw [← List.length_map (f := Prod.fst), HPF.out]
          exact HBL.out
        have hbl1 : ((x, Value.slice Ax x.log.length cx) :: psb).length ≤ 1000001 := by rw [List.length_cons]; omega
        have HPR4 : Hid (RowT wc 51 (.slice Ab nb cb) nb (stsV psb)) := by
          have := HMD.out.pr
          rw [← HNB.out] at this
          exact this
        have hrec0 : Blk wc w2.heap.size 51 #[.int .i64 (x.term : Int), .int .i64 (x.vote : Int), .int .i64 (x.base : Int), .int .i64 (x.baseTerm : Int), .string (bs x.snap), .slice Ax x.log.length cx] := HMD.out.mem.blk
        clear hrec0
        have tok50 : True := trivial
        go_upto_region 50 with fail
        go_region_held3 (fun w' => w'.cell? ⟨w2.heap.size, 0, none⟩ = some (.int .i64 (x.term : Int)) ∧ w'.cell? ⟨w2.heap.size, 1, none⟩ = some (.int .i64 (x.vote : Int)) ∧ w'.cell? ⟨w2.heap.size, 2, none⟩ = some (.int .i64 (x.base : Int)) ∧ w'.cell? ⟨w2.heap.size, 3, none⟩ = some (.int .i64 (x.baseTerm : Int)) ∧ w'.cell? ⟨w2.heap.size, 4, none⟩ = some (.string (bs x.snap)) ∧ w'.cell? ⟨w2.heap.size, 5, none⟩ = some (.slice Ax x.log.length cx) ∧ w'.cell? ⟨yb, 0, none⟩ = some (.int .i64 (y.term : Int)) ∧ w'.cell? ⟨yb, 1, none⟩ = some (.int .i64 (y.vote : Int)) ∧ w'.cell? ⟨yb, 2, none⟩ = some (.int .i64 (y.base : Int)) ∧ w'.cell? ⟨yb, 3, none⟩ = some (.int .i64 (y.baseTerm : Int)) ∧ w'.cell? ⟨yb, 4, none⟩ = some (.string (bs y.snap)) ∧ w'.cell? ⟨yb, 5, none⟩ = some (.slice Ay y.log.length cy))
          (first
            | (refine HS.out _ ?_; (repeat (first | exact Keep.refl _ _ | exact HK6.out | exact HK5.out | refine Keep.drew ?_ | refine Keep.alloc ?_ _)); done)
            | go_keep)
          (first
            | (clear tok50; refine step_append_sts (B := wc.heap.size) x psb HNB.out (by rfl) (.tmp 158) (.tmp 159) (by rfl) (by rfl) (by rfl) (by repeat (first | (refine Blk.here _ _ _ _ ?_; (focus simp)) | refine Blk.drew ?_ | refine Blk.alloc ?_ _)) (by first | (focus simp) | omega) (RowT.keep HPR4.out (M := []) (by repeat (first | exact Keep.refl _ _ | refine Keep.drew ?_ | refine Keep.drewN ?_ _ | refine Keep.alloc ?_ _)) (by simp)) HPO.out hbl ?_; intro A5 c5 w5 hown5 hk5; have HOWN5 := Lib.hid hown5; have HK5 : Hid (Keep [] wc w5) := Keep.trans' (M := []) (by repeat (first | exact Keep.refl _ _ | refine Keep.drew ?_ | refine Keep.drewN ?_ _ | refine Keep.alloc ?_ _)) hk5 (by simp); have HKP := Lib.hid hk5; clear hown5 hk5)
            | (refine step_append_st1 (B := wc.heap.size) (W := w5.alloc (.cells #[.int .i64 (y.term : Int), .int .i64 (y.vote : Int), .int .i64 (y.base : Int), .int .i64 (y.baseTerm : Int), .string (bs y.snap), .slice Ay y.log.length cy] 51)) (p := w5.heap.size) (n := nb + 1) (v := .slice A5 (nb + 1) c5) (A0 := Ay) (n0 := y.log.length) (c0 := cy) (y0 := (y.term : Int)) (y1 := (y.vote : Int)) (y2 := (y.base : Int)) (y3 := (y.baseTerm : Int)) (y4 := bs y.snap) ((x, .slice Ax x.log.length cx) :: psb) y rfl (.tmp 160) (.tmp 162) rfl rfl rfl (HOWN5.out.alloc _) HNB1.out (Blk.new _ _ _) rfl rfl rfl rfl rfl hbl1 (Nat.le_trans HK5.out.size ((Keep.refl [] _).alloc _).size) ?_; intro A6 c6 w6 hown6 hk6; have HOWN6 := Lib.hid hown6; have HK6 : Hid (Keep [] wc w6) := Keep.trans' (M := []) (HK5.out.alloc _) hk6 (fun q hq => .inr ((HOWN5.out.lt q (Option.mem_toList.1 hq)).1)); clear hown6 hk6)
            | (refine step_append_st1 (B := wc.heap.size) (W := w5) (p := wc.heap.size + 1) (n := nb + 1) (v := .slice A5 (nb + 1) c5) (A0 := Ay) (n0 := y.log.length) (c0 := cy) (y0 := (y.term : Int)) (y1 := (y.vote : Int)) (y2 := (y.base : Int)) (y3 := (y.baseTerm : Int)) (y4 := bs y.snap) ((x, .slice Ax x.log.length cx) :: psb) y rfl (.tmp 160) (.tmp 162) rfl rfl rfl HOWN5.out HNB1.out (Blk.keep (by repeat (first | (refine Blk.here _ _ _ _ ?_; (focus simp)) | refine Blk.drew ?_ | refine Blk.alloc ?_ _)) HKP.out (by simp)) rfl rfl rfl rfl rfl hbl1 HK5.out.size ?_; intro A6 c6 w6 hown6 hk6; have HOWN6 := Lib.hid hown6; have HK6 : Hid (Keep [] wc w6) := Keep.trans' (M := []) HK5.out hk6 (fun q hq => .inr ((HOWN5.out.lt q (Option.mem_toList.1 hq)).1)); clear hown6 hk6)
            | (refine step_append_st1 (B := wc.heap.size) (W := w5) (p := wc.heap.size) (n := nb + 1) (v := .slice A5 (nb + 1) c5) (A0 := Ay) (n0 := y.log.length) (c0 := cy) (y0 := (y.term : Int)) (y1 := (y.vote : Int)) (y2 := (y.base : Int)) (y3 := (y.baseTerm : Int)) (y4 := bs y.snap) ((x, .slice Ax x.log.length cx) :: psb) y rfl (.tmp 160) (.tmp 162) rfl rfl rfl HOWN5.out HNB1.out (Blk.keep (by repeat (first | (refine Blk.here _ _ _ _ ?_; (focus simp)) | refine Blk.drew ?_ | refine Blk.alloc ?_ _)) HKP.out (by simp)) rfl rfl rfl rfl rfl hbl1 HK5.out.size ?_; intro A6 c6 w6 hown6 hk6; have HOWN6 := Lib.hid hown6; have HK6 : Hid (Keep [] wc w6) := Keep.trans' (M := []) HK5.out hk6 (fun q hq => .inr ((HOWN5.out.lt q (Option.mem_toList.1 hq)).1)); clear hown6 hk6)
            | fail)
        all_goals
          go_wp2
          have hfin := HMD.out.mem.fail_ (y := y) HMD.out.ents HMD.out.pe HK6.out (by rfl) HOWN6.out
          rw [HPF.out] at hfin
          exact ⟨plRel_mk (i := i + 1) (by have := HBL.out; simp; omega) (by omega) (by omega) (by go_num) rfl HN.out hfin, by simp [intOf]; omega⟩
        --TAIL]

end Go.Proofs.YtpcbhechfbibbaaDoor
