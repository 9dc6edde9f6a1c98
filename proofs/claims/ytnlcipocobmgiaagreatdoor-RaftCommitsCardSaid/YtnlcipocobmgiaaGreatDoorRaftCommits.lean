/- The walk of glacierlaw10.RaftCommits. -/
import Derived.Test.YtnlcipocobmgiaaGreatDoorLeads
namespace Go.Proofs.YtnlcipocobmgiaaGreatDoor
open Go.RowKit
attribute [local go_sem] size_bs bs_append bs_extract ba_self

set_option maxRecDepth 100000 in
set_option maxHeartbeats 1000000 in
theorem raftCommits_out (w : World) (hTb : Tab w) (st sv sb : Int) (vt : Value) (n : Int) (hn : n < 1 ∨ 5 < n) (vc vh : Value) :
    Calls Tryz.prog 4 #[.agg #[.int .i64 st, .int .i64 sv, .int .i64 sb, vt], .int .i64 n, vc, vh] w fun e w' => e = .returned (.bool true) ∧ Keep [] w w' := by
  have HT := Lib.hid hTb
  clear hTb
  have HTA : Hid (∀ W, Keep [] w W → Calls Tryz.prog 7 #[] W fun e w' => e = .returned (.bool true) ∧ Keep [] w w') := fun W hk => by
    refine (rawake_calls W (HT.out.keep hk (by simp))).mono ?_
    rintro e w' ⟨rfl, h⟩
    exact ⟨rfl, hk.trans h⟩
  rcases hn with hn | hn
  · have d1 : decide (n < 1) = true := by simpa using hn
    go_enter Tryz.func4, Tryz.ntmps4
    go_wp2_with (first
      | (go_at_call 7; (with_reducible refine (HTA.out _ ((Keep.refl [] _).alloc _)).mono ?_); rintro e w1 ⟨rfl, hk1⟩; have HK1 := Lib.hid hk1; clear hk1)
      | (go_at_call 7; (with_reducible refine (HTA.out _ HK1.out).mono ?_); rintro e w2 ⟨rfl, hk2⟩; have HK2 := Lib.hid hk2; clear hk2))
    go_ret
    exact ⟨rfl, HK2.out⟩
  · have d1 : decide (n < 1) = false := by simp; omega
    have d2 : decide (5 < n) = true := by simpa using hn
    go_enter Tryz.func4, Tryz.ntmps4
    go_wp2_with (first
      | (go_at_call 7; (with_reducible refine (HTA.out _ ((Keep.refl [] _).alloc _)).mono ?_); rintro e w1 ⟨rfl, hk1⟩; have HK1 := Lib.hid hk1; clear hk1)
      | (go_at_call 7; (with_reducible refine (HTA.out _ HK1.out).mono ?_); rintro e w2 ⟨rfl, hk2⟩; have HK2 := Lib.hid hk2; clear hk2))
    go_ret
    exact ⟨rfl, HK2.out⟩
theorem in_last2 {W : World} {B : Nat} {M : List Nat} {r n first o last : Nat} {s : Ts} {mt : List Nat} (h : LeadIn B W M r n first s mt o) (hl : last = s.base + s.log.length) : Calls Tryz.prog 14 #[.pointer (some ⟨r, 0, none⟩)] W fun e w' => e = .returned (.int .i64 (last : Int)) ∧ ∃ n, w' = W.drewN n := by
  rw [hl]
  exact in_last h
def CRel (Bd : Nat) (w : World) (M : List Nat) (r n F : Nat) (s : Ts) (g xb last : Nat) (lh : List Int) (xc : Array Value) (a : Value) (wr : World) : Prop :=
  ∃ (i : Nat) (mt : List Nat), i ≤ lh.length ∧ i ≤ 12 ∧ a = .int .i64 (i : Int) ∧ LeadIn Bd wr M r n F s mt i ∧ Bd ≤ wr.heap.size ∧ Blk wr g 3 (nums mt).toArray ∧ Blk wr xb 31 xc ∧ Keep [] w wr ∧ mt.getD 0 0 = last
set_option maxRecDepth 100000 in
set_option maxHeartbeats 4000000 in
theorem raftCommits_in (w : World) (hTb : Tab w) (st sv sb : Int) (vt : Value) (lt : List Int) (ht : IntsAt w vt lt) (n : Nat) (h1n : 1 ≤ n) (h5n : n ≤ 5) (vc : Value) (cs : List (List UInt8)) (hcs : StrsAt w vc cs) (vh : Value) (lh : List Int) (hh : IntsAt w vh lh) :
    Calls Tryz.prog 4 #[.agg #[.int .i64 st, .int .i64 sv, .int .i64 sb, vt], .int .i64 (n : Int), vc, vh] w fun e w' => e = .returned (.bool true) ∧ Keep [] w w' := by
  obtain ⟨At, ct, rfl, ht2⟩ := ht
  have HVT : Hid (IntsAt w (.slice At lt.length ct) lt) := ⟨At, ct, rfl, ht2⟩
  obtain ⟨A0, c0, rfl, hcc⟩ := hcs
  have HVC : Hid (StrsAt w (.slice A0 cs.length c0) cs) := ⟨A0, c0, rfl, hcc⟩
  obtain ⟨Ah, ch, rfl, hhc⟩ := hh
  have HHC := Lib.hid hhc
  have HT := Lib.hid hTb
  obtain ⟨T, hT⟩ : ∃ T : Nat, min (max st 0) 20 = (T : Int) := ⟨(min (max st 0) 20).toNat, by omega⟩
  obtain ⟨V, hV⟩ : ∃ T : Nat, min (max sv 0) 5 = (T : Int) := ⟨(min (max sv 0) 5).toNat, by omega⟩
  obtain ⟨B, hB⟩ : ∃ T : Nat, min (max sb 0) 4 = (T : Int) := ⟨(min (max sb 0) 4).toNat, by omega⟩
  have hBl : B ≤ 4 := by omega
  have HTT := Lib.hid hT
  have HVV := Lib.hid hV
  have HBB := Lib.hid hB
  have TA : ∀ W, Keep [] w W → Calls Tryz.prog 7 #[] W fun e w' => e = .returned (.bool true) ∧ Keep [] W w' := fun W hk => rawake_calls W (HT.out.keep hk (by simp))
  have TL : ∀ W, Keep [] w W → Calls Tryz.prog 21 #[.agg #[.int .i64 st, .int .i64 sv, .int .i64 sb, .slice At lt.length ct], .int .i64 (n : Int), .slice A0 cs.length c0] W fun e w' => ∃ (r : Nat) (s : Ts) (M : List Nat) (last : Nat), e = .returned (.pointer (some ⟨r, 0, none⟩)) ∧ last = s.base + s.log.length ∧ Keep [] W w' ∧ (∀ x ∈ M, W.heap.size ≤ x ∧ x < w'.heap.size) ∧ s.log.length ≤ 20 ∧ s.base = B ∧ min lt.length 6 + 1 ≤ s.log.length ∧ ∀ Bd, LeadIn Bd w' M r n (B + min lt.length 6 + 1) s ((List.replicate n 0).set 0 last) 0 := fun W hk => by
    refine (leader_calls W (HT.out.keep hk (by simp)) st sv sb _ lt (HVT.out.keep hk) _ cs (HVC.out.keep hk) n h1n h5n T V B HTT.out HVV.out HBB.out).mono ?_
    rintro e w' ⟨w3, r, b, m, K, s, rfl, h1, h2, h3, h4, h5, h6, h7, h8, h8', h9⟩
    obtain ⟨M, g1, g2⟩ := h9.in_ (w := W) h1.size h2 h3
    rw [h4, h6] at g2
    exact ⟨r, s, M, _, rfl, rfl, h1.trans' h9.keep (by simp; omega), g1, h7, h8, by omega, g2⟩
  have TK : ∀ W, Keep [] w W → Calls Tryz.prog 9 #[.agg #[.int .i64 st, .int .i64 sv, .int .i64 sb, .slice At lt.length ct]] W fun e w' => ∃ (b m : Nat) (K : Ts) (A : Option Addr) (c : Nat), e = .returned (.tuple #[.pointer (some ⟨b, 0, none⟩), .agg #[.int .i64 (K.term : Int), .int .i64 (K.vote : Int), .int .i64 (K.base : Int), .int .i64 (K.baseTerm : Int), .string (bs K.snap), .slice A K.log.length c]]) ∧ K.base = B ∧ K.log.length = min lt.length 6 ∧ Keep [] W w' := fun W hk => by
    refine (kept_calls W (HT.out.keep hk (by simp)) st sv sb _ lt (HVT.out.keep hk) T V B HTT.out HVV.out HBB.out).mono ?_
    rintro e w' ⟨b, m, D, K, A, c, rfl, h1, h2, h3, h4, h5, h6, h7, h8, -, h10⟩
    exact ⟨b, m, K, A, c, rfl, h5, h6, h10⟩
  have HTA := Lib.hid TA
  have HTL := Lib.hid TL
  have HTK := Lib.hid TK
  clear TA TL TK hTb hcc hhc hT hV hB ht2
  have d1 : decide ((n : Int) < 1) = false := by simp; omega
  have d2 : decide ((5 : Int) < (n : Int)) = false := by simp; omega
  have hmk := fun (W : World) => run_make_row' (P := Tryz.prog) 22 3 (.int .i64 0) 8 Tryz.underlying22 Tryz.info3 rfl .i64 .i64 n (by omega) (by omega) W
  have d0 : decide ((0 : Int) < (n : Int)) = true := by simp; omega
  have h0n : (0 : Int) < (n : Int) := by omega
  have h0m : 0 < n := by omega
  go_enter Tryz.func4, Tryz.ntmps4
  go_wp2_with (first
    | (go_at_call 7; (with_reducible refine (HTA.out _ ((Keep.refl [] _).alloc _)).mono ?_); rintro e w1 ⟨rfl, hk1⟩; have hbx : Blk w1 w.heap.size 24 #[.int .i64 st, .int .i64 sv, .int .i64 sb, .slice At lt.length ct] := (Blk.new _ _ _).keep hk1 (by simp); have x0 : w1.cell? ⟨w.heap.size, 0, none⟩ = some (.int .i64 st) := hbx.cell 0; have x1 : w1.cell? ⟨w.heap.size, 1, none⟩ = some (.int .i64 sv) := hbx.cell 1; have x2 : w1.cell? ⟨w.heap.size, 2, none⟩ = some (.int .i64 sb) := hbx.cell 2; have x3 : w1.cell? ⟨w.heap.size, 3, none⟩ = some (.slice At lt.length ct) := hbx.cell 3; have HK1 : Hid (Keep [] w w1) := Keep.trans (M := []) ((Keep.refl [] _).alloc _) hk1; have HBX := Lib.hid hbx; clear hk1 hbx)
    | (go_at_call 21; (with_reducible refine (HTL.out _ HK1.out).mono ?_); rintro e w2 ⟨r, s, M, last, rfl, hlast, hk2, hM, hsl, hsb, hsl2, hLd⟩; have HSL2 := Lib.hid hsl2; have HLST := Lib.hid hlast; clear hlast; have HSB := Lib.hid hsb; have HLd := Lib.hid hLd; have hbx := HBX.out.keep hk2 (by simp); clear x0 x1 x2 x3; have x0 : w2.cell? ⟨w.heap.size, 0, none⟩ = some (.int .i64 st) := hbx.cell 0; have x1 : w2.cell? ⟨w.heap.size, 1, none⟩ = some (.int .i64 sv) := hbx.cell 1; have x2 : w2.cell? ⟨w.heap.size, 2, none⟩ = some (.int .i64 sb) := hbx.cell 2; have x3 : w2.cell? ⟨w.heap.size, 3, none⟩ = some (.slice At lt.length ct) := hbx.cell 3; have HK2 : Hid (Keep [] w w2) := HK1.out.trans hk2; have HMW : Hid (∀ x ∈ M, w.heap.size ≤ x ∧ x < w2.heap.size) := (fun x hx => ⟨by have h1 := (hM x hx).1; have h2 := HK1.out.size; omega, (hM x hx).2⟩); clear hk2 hM hsb hLd hbx hsl2)
    | (go_at_call 9; (with_reducible refine (HTK.out _ HK2.out).mono ?_); rintro e w4 ⟨b, m, K, AK, cK, rfl, hKb, hKl, hk4⟩; have HKB := Lib.hid hKb; have HKL := Lib.hid hKl; have HK4 := Lib.hid hk4; have hKb5 : K.base ≤ 4 := (by omega); have hKl5 : K.log.length ≤ 6 := (by omega); clear hKb hKl hk4 x0 x1 x2 x3)
    | (go_at_call 14; (with_reducible refine (in_last2 ((HLd.out 0).grow (Keep.trans (M := []) HK4.out (by repeat (first | exact Keep.refl _ _ | refine Keep.drew ?_ | refine Keep.drewN ?_ _ | refine Keep.alloc ?_ _)))) HLST.out).mono ?_); rintro e w5 ⟨rfl, n5, hw5⟩; have hk5 : Keep [] ((w4.alloc (.cells #[.int .i64 (K.term : Int), .int .i64 (K.vote : Int), .int .i64 (K.base : Int), .int .i64 (K.baseTerm : Int), .string (bs K.snap), .slice AK K.log.length cK] 31)).alloc (.cells (madeCells #[Value.int .i64 0] n) 3)) w5 := (by rw [hw5]; exact (Keep.refl _ _).drewN _); have hg : Blk w5 (w4.heap.size + 1) 3 (nums (List.replicate n 0)).toArray := (by rw [← madeInts]; exact Blk.keep (Blk.here _ _ _ _ (by simp)) hk5 (by simp)); have hx : Blk w5 w4.heap.size 31 #[.int .i64 (K.term : Int), .int .i64 (K.vote : Int), .int .i64 (K.base : Int), .int .i64 (K.baseTerm : Int), .string (bs K.snap), .slice AK K.log.length cK] := Blk.keep ((Blk.new _ _ _).alloc _) hk5 (by simp); have g0 : w5.cell? ⟨w4.heap.size + 1, 0, none⟩ = some (.int .i64 0) := (by rw [hg.cell]; simp [nums, h0m]); have g0f : w5.frozen? ⟨w4.heap.size + 1, 0, none⟩ = false := hg.frozen 0; have hgl := hg.lt; have HG := Lib.hid hg; have HX := Lib.hid hx; have HK24 : Hid (Keep [] w2 w5) := Keep.trans (M := []) (Keep.trans (M := []) HK4.out (by repeat (first | exact Keep.refl _ _ | refine Keep.drew ?_ | refine Keep.drewN ?_ _ | refine Keep.alloc ?_ _))) hk5; clear hw5 hk5 hg hx))
  have hlast := HLST.out
  obtain ⟨F, hF⟩ : ∃ F, F = B + min lt.length 6 + 1 := ⟨_, rfl⟩
  have hKF : (F : Int) = (K.base : Int) + (K.log.length : Int) + 1 := by have h1 := HKB.out; have h2 := HKL.out; omega
  have hKF2 : K.base + K.log.length + 1 = F := by omega
  have hlF : F ≤ last := by have h1 := HSB.out; have h2 := HSL2.out; omega
  have hlb : last ≤ 100 := by have h1 := HSB.out; omega
  have hsK : s.base = K.base := by rw [HSB.out, HKB.out]
  have h24 := HK4.out.size
  have hg0 : 0 < w.heap.size := by
    have := World.block_lt_of_cell? _ _ (HT.out 0 (by omega))
    simpa using this
  have hk12 := HK2.out.size
  have HGM : Hid (w4.heap.size + 1 ∉ M ∧ w4.heap.size ∉ M) := ⟨fun h => by have := (HMW.out _ h).2; omega, fun h => by have := (HMW.out _ h).2; omega⟩
  have HL6 : Hid (LeadIn w5.heap.size (w5.setCell ⟨w4.heap.size + 1, 0, none⟩ (.int .i64 (last : Int))) M r n F s ((List.replicate n 0).set 0 last) 0) := by
    have h1 := (HLd.out w5.heap.size).grow HK24.out
    rw [← hF] at h1
    exact h1.far (g := w4.heap.size + 1) ((Keep.refl _ _).setCell (.inl (by simp)) _) hgl HGM.out.1 (by omega)
  have HG6 : Hid (Blk (w5.setCell ⟨w4.heap.size + 1, 0, none⟩ (.int .i64 (last : Int))) (w4.heap.size + 1) 3 (nums ((List.replicate n 0).set 0 last)).toArray) := by
    have := HG.out.set_ 0 (.int .i64 (last : Int))
    rw [nums_set] at this
    exact this
  have HX6 : Hid (Blk (w5.setCell ⟨w4.heap.size + 1, 0, none⟩ (.int .i64 (last : Int))) w4.heap.size 31 #[.int .i64 (K.term : Int), .int .i64 (K.vote : Int), .int .i64 (K.base : Int), .int .i64 (K.baseTerm : Int), .string (bs K.snap), .slice AK K.log.length cK]) := HX.out.far (by simp) _
  have HK6 : Hid (Keep [] w (w5.setCell ⟨w4.heap.size + 1, 0, none⟩ (.int .i64 (last : Int)))) := (HK2.out.trans HK24.out).setCell (.inr (by simp; omega)) _
  have HKF := Lib.hid hKF
  have HSK := Lib.hid hsK
  clear hF hKF hsK hlast g0 g0f
  generalize hW6 : w5.setCell ⟨w4.heap.size + 1, 0, none⟩ (.int .i64 (last : Int)) = w6 at *
  have hB6 : w5.heap.size ≤ w6.heap.size := by rw [← hW6]; simp
  clear hW6
  have hgs : w4.heap.size + 1 < w5.heap.size := hgl
  go_loopw [14] (fun a wr => CRel w5.heap.size w M r n F s (w4.heap.size + 1) w4.heap.size last lh #[.int .i64 (K.term : Int), .int .i64 (K.vote : Int), .int .i64 (K.base : Int), .int .i64 (K.baseTerm : Int), .string (bs K.snap), .slice AK K.log.length cK] a wr) (fun a _ => 12 - (intOf a).toNat)
  case atStart => exact ⟨0, (List.replicate n 0).set 0 last, Nat.zero_le _, Nat.zero_le _, rfl, HL6.out, hB6, HG6.out, HX6.out, HK6.out, by simp [List.getD, h0m]⟩
  case round =>
    obtain ⟨i, mt, hi1, hi2, rfl, hL, hBr, hgb, hxb, hkr, hm0⟩ := hrel
    obtain ⟨hfit, hml, hlo, hhi, hmts, -, -⟩ := hL.facts
    have HL := Lib.hid hL
    have HGB := Lib.hid hgb
    have HXB := Lib.hid hxb
    have HKR := Lib.hid hkr
    have HM0 := Lib.hid hm0
    have HML := Lib.hid hml
    have HMTS := Lib.hid hmts
    have HLAST := HLST
    clear hL hgb hxb hkr hm0 hml hmts hfit
    by_cases h : (i < lh.length ∧ i < 12) ∧ 1 < n
    · obtain ⟨⟨h1, h2⟩, h3⟩ := h
      have e1 : decide ((i : Int) < (lh.length : Int)) = true := by simp; omega
      have e2 : decide ((i : Int) < 12) = true := by simp; omega
      have e3 : decide ((1 : Int) < (n : Int)) = true := by simp; omega
      obtain ⟨g, o, rfl, hc⟩ := HHC.out (by intro h0; subst h0; simp at h1)
      have c1 := hc i h1
      have cx : wr.cell? ⟨g, o + i, none⟩ = some (.int .i64 lh[i]) := (HKR.out.cell (World.block_lt_of_cell? _ _ c1) (by simp)).trans c1
      clear hc c1
      generalize lh[i] = x at *
      obtain ⟨fr, hfr⟩ : ∃ fr : Nat, (1 : Int) + (i : Int) % ((n : Int) - 1) = (fr : Int) := ⟨(1 + (i : Int) % ((n : Int) - 1)).toNat, by have := Int.emod_nonneg (i : Int) (show ((n : Int) - 1) ≠ 0 by omega); omega⟩
      have hfr1 : 1 ≤ fr := by have := Int.emod_nonneg (i : Int) (show ((n : Int) - 1) ≠ 0 by omega); omega
      have hfr2 : fr < n := by have := Int.emod_lt_of_pos (i : Int) (show 0 < ((n : Int) - 1) by omega); omega
      obtain ⟨kx, hkx⟩ : ∃ kx : Nat, min (max x 0) (last : Int) = (kx : Int) := ⟨(min (max x 0) (last : Int)).toNat, by omega⟩
      have hkl : kx ≤ last := by omega
      obtain ⟨m0, hm0⟩ : ∃ m0, m0 = mt.getD fr 0 := ⟨_, rfl⟩
      obtain ⟨mt', hmt'⟩ : ∃ mt', mt' = mt.set fr (max (mt.getD fr 0) kx) := ⟨_, rfl⟩
      have hm0l : m0 ≤ last := by
        rw [hm0]
        by_cases hq : fr < mt.length
        · have := HMTS.out mt[fr] (List.getElem_mem hq)
          rw [← HLAST.out] at this
          simpa [List.getD, hq] using this
        · simp [List.getD, hq]
      obtain ⟨xm, hxm⟩ : ∃ xm : Nat, xm = max m0 kx := ⟨_, rfl⟩
      have hmx : max (m0 : Int) (kx : Int) = (xm : Int) := by omega
      have HST : Hid (∀ W, Keep [] wr W → Calls Tryz.prog 22 #[.pointer (some ⟨r, 0, none⟩), .agg #[.int .i64 4, .int .i64 (fr : Int), .int .i64 0, .int .i64 (s.term : Int), .int .i64 (kx : Int), .int .i64 0, .int .i64 0, .bool true, .slice none 0 0, .string { data := #[] }]] W fun e w' => e = .returned (.tuple #[]) ∧ LeadIn w5.heap.size w' M r n F s mt' (i + 1) ∧ KeepIn w5.heap.size M W w' ∧ W.heap.size ≤ w'.heap.size) := fun W hk => by
        rw [hmt']
        exact in_have (HL.out.grow hk) (Nat.le_trans hBr hk.size) fr hfr1 hfr2 kx (by rw [← HLAST.out]; exact hkl) (by omega)
      have HML' : Hid (mt'.length = n) := (by rw [hmt', List.length_set]; exact HML.out : mt'.length = n)
      have HMS' : Hid (∀ x ∈ mt', x ≤ last) := fun x hx => by
        rw [hmt'] at hx
        rcases List.mem_or_eq_of_mem_set hx with hx | rfl
        · rw [HLAST.out]; exact HMTS.out x hx
        · omega
      have HM0' : Hid (mt'.getD 0 0 = last) := (by
        rw [hmt']
        have e : (mt.set fr (max (mt.getD fr 0) kx)).getD 0 0 = mt.getD 0 0 := by
          simp only [List.getD]
          rw [List.getElem?_set_ne (by omega)]
        rw [e]; exact HM0.out : mt'.getD 0 0 = last)
      have HSET : Hid (∀ W, Blk W (w4.heap.size + 1) 3 (nums mt).toArray → Blk (W.setCell ⟨w4.heap.size + 1, fr, none⟩ (.int .i64 (xm : Int))) (w4.heap.size + 1) 3 (nums mt').toArray) := fun W hW => by
        have := hW.set_ fr (.int .i64 (xm : Int))
        rw [nums_set] at this
        rw [hmt', ← hm0, ← hxm]
        exact this
      have HCF : Hid (∀ W, Blk W (w4.heap.size + 1) 3 (nums mt).toArray → W.cell? ⟨w4.heap.size + 1, fr, none⟩ = some (.int .i64 (m0 : Int))) := fun W hW => by
        rw [hW.cell, hm0]
        simp [nums, List.getD, show fr < mt.length by rw [HML.out]; exact hfr2]
      have HMJ : Hid (∀ W, Blk W (w4.heap.size + 1) 3 (nums mt').toArray → Calls Tryz.prog 24 #[.slice (some ⟨w4.heap.size + 1, 0, none⟩) n n] W fun e w' => e = .returned (.int .i64 (maj mt' : Int)) ∧ W = w') := fun W hW => by
        have := maj_calls mt' hW (by rw [HML'.out]; exact h5n) (fun x hx => by have := HMS'.out x hx; omega)
        rw [HML'.out] at this
        exact this
      have HCM : Hid (comm s.base F mt' = if maj mt' < F then K.base else maj mt') := (by unfold comm; rw [HSK.out] : comm s.base F mt' = if maj mt' < F then K.base else maj mt')
      have en1 : IntKind.i64.wrap ((n : Int) - 1) = (n : Int) - 1 := IntWalk.i64_in _ (by omega)
      have en2 : (((n : Int) - 1) == 0) = false := by simp; omega
      have efr : decide ((fr : Int) < (n : Int)) = true := by simp; omega
      have hfn : (fr : Int) < (n : Int) := by omega
      have hn0 : (n : Int) - 1 ≠ 0 := by omega
      have hnp : 0 < (n : Int) - 1 := by omega
      clear hmt' hm0 hxm
      generalize maj mt' = mj at *
      have HTm := fun W (hW : LeadIn w5.heap.size W M r n F s mt i) => in_term hW
      have HTM := Lib.hid HTm
      clear HTm
      by_cases hmj : mj < F
      · have ej : decide ((mj : Int) < (K.base : Int) + (K.log.length : Int) + 1) = true := by have hh := HKF.out; simp; omega
        rw [if_pos hmj] at HCM
        have HCT : Hid (∀ W, LeadIn w5.heap.size W M r n F s mt' (i + 1) → Calls Tryz.prog 25 #[.pointer (some ⟨r, 0, none⟩)] W fun e w' => e = .returned (.int .i64 (K.base : Nat)) ∧ W = w') := fun W hW => by
          have := in_commit hW
          rw [HCM.out] at this
          exact this
        clear hmj
        go_wp2
        go_quiet ((go_at_call 14; exact Calls.quiet_of (in_last2 (HL.out.grow ((Keep.refl _ _).drewN _)) HLST.out)))
        go_wp2_with (first
          | (go_at_call 23; (with_reducible refine (HTM.out _ (HL.out.grow (by repeat (first | exact Keep.refl _ _ | refine Keep.drew ?_ | refine Keep.drewN ?_ _ | refine Keep.alloc ?_ _)))).mono ?_); rintro e w7 ⟨rfl, rfl⟩)
          | (go_at_call 22; (with_reducible refine (HST.out _ (by repeat (first | exact Keep.refl _ _ | refine Keep.drew ?_ | refine Keep.drewN ?_ _ | refine Keep.alloc ?_ _))).mono ?_); rintro e w8 ⟨rfl, h8, hk8, hs8⟩; have hg8 := hk8.blk (HGB.out.drewN _) hgs HGM.out.1; have hx8 := hk8.blk (HXB.out.drewN _) (by omega) HGM.out.2; have q1 := HCF.out _ hg8; have qf : w8.frozen? ⟨w4.heap.size + 1, fr, none⟩ = false := hg8.frozen fr; have y2 : w8.cell? ⟨w4.heap.size, 2, none⟩ = some (.int .i64 (K.base : Int)) := hx8.cell 2; have hgl8 := hg8.lt; have HG9 := Lib.hid (HSET.out _ hg8); have HX9 : Hid (Blk (w8.setCell ⟨w4.heap.size + 1, fr, none⟩ (.int .i64 (xm : Int))) w4.heap.size 31 #[.int .i64 (K.term : Int), .int .i64 (K.vote : Int), .int .i64 (K.base : Int), .int .i64 (K.baseTerm : Int), .string (bs K.snap), .slice AK K.log.length cK]) := hx8.far (by simp) _; have HK8 : Hid (Keep [] w w8) := hk8.old (HKR.out.drewN _) (by omega) (fun x hx => (HMW.out x hx).1); have HL9 : Hid (LeadIn w5.heap.size (w8.setCell ⟨w4.heap.size + 1, fr, none⟩ (.int .i64 (xm : Int))) M r n F s mt' (i + 1)) := h8.far (g := w4.heap.size + 1) ((Keep.refl _ _).setCell (.inl (by simp)) _) hgs HGM.out.1 (by omega); have HS8 : Hid (w5.heap.size ≤ (w8.setCell ⟨w4.heap.size + 1, fr, none⟩ (.int .i64 (xm : Int))).heap.size) := (by simp; exact Nat.le_trans hBr hs8); have HK9 : Hid (Keep [] w (w8.setCell ⟨w4.heap.size + 1, fr, none⟩ (.int .i64 (xm : Int)))) := HK8.out.setCell (.inr (by simp; omega)) _; clear h8 hk8 hs8 hg8 hx8)
          | (go_at_call 24; (with_reducible refine (HMJ.out _ HG9.out).mono ?_); rintro e w9 ⟨rfl, rfl⟩)
          | (go_at_call 25; (with_reducible refine (HCT.out _ HL9.out).mono ?_); rintro e w10 ⟨rfl, rfl⟩))
        go_roundw
        case rel => exact ⟨i + 1, mt', by omega, by omega, by go_num, HL9.out, HS8.out, HG9.out, HX9.out, HK9.out, HM0'.out⟩
        case measure => simp [intOf]; omega
      · have ej : decide ((mj : Int) < (K.base : Int) + (K.log.length : Int) + 1) = false := by have hh := HKF.out; simp; omega
        rw [if_neg hmj] at HCM
        have HCT : Hid (∀ W, LeadIn w5.heap.size W M r n F s mt' (i + 1) → Calls Tryz.prog 25 #[.pointer (some ⟨r, 0, none⟩)] W fun e w' => e = .returned (.int .i64 (mj : Nat)) ∧ W = w') := fun W hW => by
          have := in_commit hW
          rw [HCM.out] at this
          exact this
        clear hmj
        go_wp2
        go_quiet ((go_at_call 14; exact Calls.quiet_of (in_last2 (HL.out.grow ((Keep.refl _ _).drewN _)) HLST.out)))
        go_wp2_with (first
          | (go_at_call 23; (with_reducible refine (HTM.out _ (HL.out.grow (by repeat (first | exact Keep.refl _ _ | refine Keep.drew ?_ | refine Keep.drewN ?_ _ | refine Keep.alloc ?_ _)))).mono ?_); rintro e w7 ⟨rfl, rfl⟩)
          | (go_at_call 22; (with_reducible refine (HST.out _ (by repeat (first | exact Keep.refl _ _ | refine Keep.drew ?_ | refine Keep.drewN ?_ _ | refine Keep.alloc ?_ _))).mono ?_); rintro e w8 ⟨rfl, h8, hk8, hs8⟩; have hg8 := hk8.blk (HGB.out.drewN _) hgs HGM.out.1; have hx8 := hk8.blk (HXB.out.drewN _) (by omega) HGM.out.2; have q1 := HCF.out _ hg8; have qf : w8.frozen? ⟨w4.heap.size + 1, fr, none⟩ = false := hg8.frozen fr; have y2 : w8.cell? ⟨w4.heap.size, 2, none⟩ = some (.int .i64 (K.base : Int)) := hx8.cell 2; have hgl8 := hg8.lt; have HG9 := Lib.hid (HSET.out _ hg8); have HX9 : Hid (Blk (w8.setCell ⟨w4.heap.size + 1, fr, none⟩ (.int .i64 (xm : Int))) w4.heap.size 31 #[.int .i64 (K.term : Int), .int .i64 (K.vote : Int), .int .i64 (K.base : Int), .int .i64 (K.baseTerm : Int), .string (bs K.snap), .slice AK K.log.length cK]) := hx8.far (by simp) _; have HK8 : Hid (Keep [] w w8) := hk8.old (HKR.out.drewN _) (by omega) (fun x hx => (HMW.out x hx).1); have HL9 : Hid (LeadIn w5.heap.size (w8.setCell ⟨w4.heap.size + 1, fr, none⟩ (.int .i64 (xm : Int))) M r n F s mt' (i + 1)) := h8.far (g := w4.heap.size + 1) ((Keep.refl _ _).setCell (.inl (by simp)) _) hgs HGM.out.1 (by omega); have HS8 : Hid (w5.heap.size ≤ (w8.setCell ⟨w4.heap.size + 1, fr, none⟩ (.int .i64 (xm : Int))).heap.size) := (by simp; exact Nat.le_trans hBr hs8); have HK9 : Hid (Keep [] w (w8.setCell ⟨w4.heap.size + 1, fr, none⟩ (.int .i64 (xm : Int)))) := HK8.out.setCell (.inr (by simp; omega)) _; clear h8 hk8 hs8 hg8 hx8)
          | (go_at_call 24; (with_reducible refine (HMJ.out _ HG9.out).mono ?_); rintro e w9 ⟨rfl, rfl⟩)
          | (go_at_call 25; (with_reducible refine (HCT.out _ HL9.out).mono ?_); rintro e w10 ⟨rfl, rfl⟩))
        go_roundw
        case rel => exact ⟨i + 1, mt', by omega, by omega, by go_num, HL9.out, HS8.out, HG9.out, HX9.out, HK9.out, HM0'.out⟩
        case measure => simp [intOf]; omega
    · obtain ⟨cm, hcm⟩ : ∃ cm, cm = comm s.base F mt := ⟨_, rfl⟩
      have hone : n = 1 → cm = last := fun h1 => by
        have hl1 : mt = [last] := by
          have h2 := HML.out
          have h3 := HM0.out
          rw [h1] at h2
          obtain ⟨a, rfl⟩ := List.length_eq_one_iff.1 h2
          simpa using h3
        have hmj : maj [last] = last := by
          have h2 := (maj_iff [last] (x := last) (by omega)).1 (by simp [cnt])
          rcases maj_mem [last] with h3 | h3
          · omega
          · simpa using h3
        rw [hcm, hl1]
        unfold comm
        rw [hmj, if_neg (by omega)]
      have HCO : Hid (∀ W, LeadIn w5.heap.size W M r n F s mt i → Calls Tryz.prog 25 #[.pointer (some ⟨r, 0, none⟩)] W fun e w' => e = .returned (.int .i64 (cm : Int)) ∧ W = w') := fun W hW => by
        rw [hcm]
        exact in_commit hW
      clear hcm
      by_cases hcl : cm = last
      · have ec : ((cm : Int) == (last : Int)) = true := by simp; omega
        clear hone hcl
        by_cases h1 : i < lh.length
        · have e1 : decide ((i : Int) < (lh.length : Int)) = true := by simp; omega
          by_cases h2 : i < 12
          · have e2 : decide ((i : Int) < 12) = true := by simp; omega
            have e3 : decide ((1 : Int) < (n : Int)) = false := by simp; omega
            go_wp2_with (first
              | (go_at_call 25; (with_reducible refine (HCO.out _ HL.out).mono ?_); rintro e w10 ⟨rfl, rfl⟩)
              | (go_at_call 14; (with_reducible refine (in_last2 HL.out HLST.out).mono ?_); rintro e w11 ⟨rfl, n11, rfl⟩))
            go_ret
            exact ⟨rfl, HKR.out.drewN _⟩
          · have e2 : decide ((i : Int) < 12) = false := by simp; omega
            go_wp2_with (first
              | (go_at_call 25; (with_reducible refine (HCO.out _ HL.out).mono ?_); rintro e w10 ⟨rfl, rfl⟩)
              | (go_at_call 14; (with_reducible refine (in_last2 HL.out HLST.out).mono ?_); rintro e w11 ⟨rfl, n11, rfl⟩))
            go_ret
            exact ⟨rfl, HKR.out.drewN _⟩
        · have e1 : decide ((i : Int) < (lh.length : Int)) = false := by simp; omega
          go_wp2_with (first
            | (go_at_call 25; (with_reducible refine (HCO.out _ HL.out).mono ?_); rintro e w10 ⟨rfl, rfl⟩)
            | (go_at_call 14; (with_reducible refine (in_last2 HL.out HLST.out).mono ?_); rintro e w11 ⟨rfl, n11, rfl⟩))
          go_ret
          exact ⟨rfl, HKR.out.drewN _⟩
      · have ec : ((cm : Int) == (last : Int)) = false := by simp; omega
        have h3 : 1 < n := by
          rcases Nat.lt_or_ge 1 n with h | h
          · exact h
          · exact absurd (hone (by omega)) hcl
        have e3 : decide ((1 : Int) < (n : Int)) = true := by simp; omega
        clear hone hcl
        by_cases h1 : i < lh.length
        · have e1 : decide ((i : Int) < (lh.length : Int)) = true := by simp; omega
          have e2 : decide ((i : Int) < 12) = false := by simp; omega
          go_wp2_with (first
            | (go_at_call 25; (with_reducible refine (HCO.out _ HL.out).mono ?_); rintro e w10 ⟨rfl, rfl⟩)
            | (go_at_call 14; (with_reducible refine (in_last2 HL.out HLST.out).mono ?_); rintro e w11 ⟨rfl, n11, rfl⟩))
          go_ret
          exact ⟨rfl, HKR.out.drewN _⟩
        · have e1 : decide ((i : Int) < (lh.length : Int)) = false := by simp; omega
          go_wp2_with (first
            | (go_at_call 25; (with_reducible refine (HCO.out _ HL.out).mono ?_); rintro e w10 ⟨rfl, rfl⟩)
            | (go_at_call 14; (with_reducible refine (in_last2 HL.out HLST.out).mono ?_); rintro e w11 ⟨rfl, n11, rfl⟩))
          go_ret
          exact ⟨rfl, HKR.out.drewN _⟩

end Go.Proofs.YtnlcipocobmgiaaGreatDoor
