/- The walk of glacierlaw09.TermOld. -/
import Derived.Test.YtpcbhechfbibbaaDoorAwake
import Derived.Test.YtpcbhechfbibbaaDoorOlds
import Derived.Test.YtpcbhechfbibbaaDoorStrsAt
namespace Go.Proofs.YtpcbhechfbibbaaDoor
open Go.RowKit
attribute [local go_sem] size_bs bs_append bs_extract

def OldRel (cs : List (List UInt8)) (w2 : World) (v a : Value) (wr : World) : Prop :=
  ∃ i A c, i ≤ cs.length ∧ i ≤ 10 ∧ a = .int .i64 (i : Int) ∧ v = .slice A i c ∧ wr.ownsRow w2.heap.size 29 3 v i (entsV (olds 1 30 cs i)) ∧ Keep [] w2 wr

theorem old_plain (cs : List (List UInt8)) (i b : Nat) (hi : i ≤ 10) (hb : b ≤ i) : ∃ D1 s, (Dk.start 100000).saveSnap b 1 [115] (olds 1 30 cs i) = (D1, 0) ∧ D1.load = (D1, s, 0) ∧ D1.Good ∧ s.base = b ∧ s.log.length = i - b ∧ s.last.1 = i := by
  have hc := calm_start 100000 (by decide)
  have hfit := olds_fit (t := 1) (c := 30) (cs := cs) (i := i) (by omega) (by decide) (by decide)
  have f1 := frs_bound 30 (by decide) _ hfit
  have a1 := encU_len b (by omega)
  have a2 := encU_len 1 (by decide)
  rw [olds_len] at f1
  obtain ⟨D1, h1, c1, l1, l1', o1⟩ := hc.saveSnap b 1 [115] (olds 1 30 cs i) (by
    simp only [frame_len, List.length_append, encS, List.length_cons, List.length_nil, Nat.zero_add]
    omega)
  have k1 := c1.loadTerm_none (by rw [o1]; simp [Dk.start, lookF, Fil.none_, St.none_])
  have k2 := c1.loadSnap b 1 [115] (by omega) (by decide) (by decide) (by rw [l1])
  have k3 := c1.load k1 k2 (fun e he => (hfit e he).1) (by rw [l1'])
  refine ⟨D1, _, h1, k3, c1.good, rfl, ?_, ?_⟩
  · simp [behind_olds _ _ _ _ _ hb]
  · exact olds_last 1 30 cs i b hb _ (behind_olds _ _ _ _ _ hb) rfl

set_option maxRecDepth 100000 in
set_option maxHeartbeats 2000000 in
theorem termOld_calls (w : World) (hT : Tab w) (v : Value) (cs : List (List UInt8)) (hv : StrsAt w v cs) (n : Int) (hn1 : -9223372036854775808 ≤ n) (hn2 : n ≤ 9223372036854775807) :
    Calls Tryd.prog 3 #[v, .int .i64 n] w fun e w' => e = .returned (.bool true) ∧ Keep [] w w' := by
  obtain ⟨A, c, rfl, hcs⟩ := hv
  have HCS := Lib.hid hcs
  have HT := Lib.hid hT
  clear hT hcs
  go_enter Tryd.func3, Tryd.ntmps3
  go_wp2_with (first
    | (go_at_call 8; refine (new_calls 100000 (by decide) w).mono ?_; rintro e w1 ⟨b, m, rfl, hb, hm, hD1, hk1⟩; have HD1 : Hid (DiskAt w1 b m (Dk.start 100000)) := hD1; have HK1 := Lib.hid hk1; have hblt := hD1.blk.lt; have hmlt := hD1.map.lt; clear hD1 hk1)
    | (go_at_call 9; refine (awake_calls w1 (HT.out.keep HK1.out (by simp))).mono ?_; rintro e w2 ⟨rfl, hk2⟩; have HK2 := Lib.hid hk2; clear hk2))
  go_loopw [6, 7] (fun v a wr => OldRel cs w2 v a wr) (fun _ a _ => 10 - (intOf a).toNat)
  case atStart => exact ⟨0, _, _, Nat.zero_le _, Nat.zero_le _, rfl, rfl, ⟨by simp [olds, entsV], .inr ⟨w2.heap.size, 0, #[], rfl, Nat.le_refl _, heap_alloc_new _ _, Nat.le_refl _, Nat.zero_le _, rfl, by simp [olds, entsV]⟩⟩, (Keep.refl _ _).alloc _⟩
  case round =>
    obtain ⟨i, A2, c2, hi1, hi2, rfl, rfl, hown, hkeep⟩ := hrel
    have HOWN := Lib.hid hown
    have HK := Lib.hid hkeep
    clear hown hkeep
    have HKW : Hid (Keep [] w wr) := (HK1.out.trans HK2.out).trans HK.out
    by_cases h : i < cs.length ∧ i < 10
    · obtain ⟨h1, h2⟩ := h
      have d1 : decide ((i : Int) < (cs.length : Int)) = true := by simpa using h1
      have d2 : decide ((i : Int) < 10) = true := by simp; omega
      obtain ⟨g, o, rfl, hc⟩ := HCS.out (by intro h0; subst h0; simp at h1)
      have c0 := hc i h1
      have cx : wr.cell? ⟨g, o + i, none⟩ = some (.string (bs cs[i])) := (HKW.out.cell (World.block_lt_of_cell? _ _ c0) (by simp)).trans c0
      have hxe : cs.getD i [] = cs[i] := by simp [List.getD, h1]
      have HO : Hid (olds 1 30 cs (i + 1) = olds 1 30 cs i ++ [⟨i + 1, 1, (cs[i]).take 30⟩]) := by
        show olds 1 30 cs (i + 1) = _
        rw [olds_succ, hxe]
      clear hc c0 hxe
      generalize cs[i] = x at *
      go_wp2_with (first
        | (go_at_call 10; refine (cut_calls x 30 wr).mono ?_; rintro e w3 ⟨rfl, rfl⟩)
        | (at_builtin; refine list_append_own_ent (w0 := w2) (v := .slice A2 i c2) (acc := olds 1 30 cs i) ⟨i + 1, 1, x.take 30⟩ rfl (.tmp 30) (.tmp 39) rfl rfl rfl ?c1 HK.out ?c2 (Int.natCast_succ i).symm rfl ?_))
      case c1 =>
        rw [olds_len]
        exact HOWN.out
      case c2 =>
        rw [olds_len]
        omega
      intro A3 c3 w4 hown4 hk4
      rw [← HO.out] at hown4
      have HOWN4 := Lib.hid hown4
      have HK4 := Lib.hid hk4
      clear hown4 hk4
      go_wp2
      go_roundw
      case rel => exact ⟨i + 1, A3, c3, by omega, by omega, by go_num, rfl, HOWN4.out, HK4.out⟩
      case measure => simp [intOf]; omega
    · obtain ⟨bb, hbb⟩ : ∃ bb : Nat, min (max n 0) (i : Int) = (bb : Int) := ⟨(min (max n 0) (i : Int)).toNat, by omega⟩
      have hbi : bb ≤ i := by omega
      obtain ⟨D1, s, p1, p2, g1, q1, q2, q3⟩ := old_plain cs i bb hi2 hbi
      have hfit := olds_fit (t := 1) (c := 30) (cs := cs) (i := i) (by omega) (by decide) (by decide)
      have hDr : DiskAt wr b m (Dk.start 100000) := (HD1.out.keep HK2.out (by simp) (by simp)).keep HK.out (by simp) (by simp)
      have hTr : Tab wr := HT.out.keep HKW.out (by simp)
      have T3 : Calls Tryd.prog 11 #[.pointer (some ⟨b, 0, none⟩), .int .i64 (bb : Int), .int .i64 1, .string { data := #[115] }, .slice A2 i c2] wr fun e w' => e = .returned (.int .i64 0) ∧ DiskAt w' b m D1 ∧ Keep [b, m] wr w' := by
        have := saveSnap_calls hDr (calm_start 100000 (by decide)).good hTr bb 1 (by omega) (by decide) [115] (by decide) (olds 1 30 cs i) (.slice A2 i c2) (own_ents (by rw [olds_len]; exact HOWN.out)) ⟨by simp; omega, fun e he => (hfit e he).1.ok⟩
        rw [p1] at this
        exact this
      have T4 : ∀ (W : World), DiskAt W b m D1 → Tab W → Calls Tryd.prog 12 #[.pointer (some ⟨b, 0, none⟩)] W fun e w' => ∃ A3 c3, e = .returned (.tuple #[.agg #[.int .i64 (s.term : Int), .int .i64 (s.vote : Int), .int .i64 (bb : Int), .int .i64 (s.baseTerm : Int), .string (bs s.snap), .slice A3 (i - bb) c3], .int .i64 0]) ∧ EntsAt w' (.slice A3 (i - bb) c3) s.log ∧ Keep [b, m] W w' := fun W h hT => by
        have := load_calls h g1 hT
        unfold LoadPost at this
        rw [p2] at this
        refine this.mono fun e w' ⟨lg, h1, h2, h3, h4⟩ => ?_
        obtain ⟨A3, c3, rfl⟩ := own_slice h2
        simp only at h2
        have h2' := own_ents h2
        rw [q2] at h1 h2'
        simp only [Ts.agg, q1] at h1
        exact ⟨A3, c3, h1, h2', h4⟩
      have T5 : ∀ (W : World) (r : Nat) (lg : Value), Blk W r 33 #[.int .i64 (s.term : Int), .int .i64 (s.vote : Int), .int .i64 (bb : Int), .int .i64 (s.baseTerm : Int), .string (bs s.snap), lg] → EntsAt W lg s.log → Calls Tryd.prog 13 #[.pointer (some ⟨r, 0, none⟩)] W fun e w' => e = .returned (.tuple #[.int .i64 (i : Int), .int .i64 (s.last.2 : Int)]) ∧ ∃ k, w' = W.drewN k := fun W r lg h hl => by
        have := last_calls s lg (by rw [q1]; exact h) hl (by omega)
        rw [q3] at this
        exact this
      have hsub : ((i - bb : Nat) : Int) = (i : Int) - (bb : Int) := by omega
      generalize (i - bb : Nat) = kk at *
      have HT3 := Lib.hid T3
      have HT4 := Lib.hid T4
      have HT5 := Lib.hid T5
      have HDR := Lib.hid hDr
      have HTR := Lib.hid hTr
      have hw1 : w.heap.size ≤ wr.heap.size := HKW.out.size
      clear T3 T4 T5 p1 p2 g1 q1 q2 q3 hfit hDr hTr
      by_cases h1 : i < cs.length
      · have d1 : decide ((i : Int) < (cs.length : Int)) = true := by simpa using h1
        have d2 : decide ((i : Int) < 10) = false := by simp; omega
        go_wp2_with (first
            | (go_at_call 11; refine HT3.out.mono ?_; rintro e w4 ⟨rfl, hD, hk⟩; have HD4 := Lib.hid hD; have HK4 := Lib.hid hk; clear hD hk)
            | (go_at_call 12; refine (HT4.out _ HD4.out (HTR.out.disk HDR.out HK4.out)).mono ?_; rintro e w5 ⟨A3, c3, rfl, hE, hk⟩; have HE := Lib.hid hE; have HK5 : Hid (Keep [] w w5) := (HKW.out.trans' HK4.out (by simp; omega)).trans' hk (by simp; omega); clear hE hk)
            | (go_at_call 13; refine (HT5.out _ _ _ (Blk.new _ _ _) (HE.out.keep_nil ((Keep.refl [] _).alloc _))).mono ?_; rintro e w6 ⟨rfl, k, rfl⟩))
        go_ret
        exact ⟨rfl, (HK5.out.alloc _).drewN _⟩
      · have d1 : decide ((i : Int) < (cs.length : Int)) = false := by simpa using h1
        go_wp2_with (first
            | (go_at_call 11; refine HT3.out.mono ?_; rintro e w4 ⟨rfl, hD, hk⟩; have HD4 := Lib.hid hD; have HK4 := Lib.hid hk; clear hD hk)
            | (go_at_call 12; refine (HT4.out _ HD4.out (HTR.out.disk HDR.out HK4.out)).mono ?_; rintro e w5 ⟨A3, c3, rfl, hE, hk⟩; have HE := Lib.hid hE; have HK5 : Hid (Keep [] w w5) := (HKW.out.trans' HK4.out (by simp; omega)).trans' hk (by simp; omega); clear hE hk)
            | (go_at_call 13; refine (HT5.out _ _ _ (Blk.new _ _ _) (HE.out.keep_nil ((Keep.refl [] _).alloc _))).mono ?_; rintro e w6 ⟨rfl, k, rfl⟩))
        go_ret
        exact ⟨rfl, (HK5.out.alloc _).drewN _⟩

end Go.Proofs.YtpcbhechfbibbaaDoor
