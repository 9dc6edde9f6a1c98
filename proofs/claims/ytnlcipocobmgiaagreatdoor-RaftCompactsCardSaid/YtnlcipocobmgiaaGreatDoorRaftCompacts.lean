/- The walk of glacierlaw10.RaftCompacts. -/
import Derived.Test.YtnlcipocobmgiaaGreatDoorRaftAwake
import Derived.Test.YtnlcipocobmgiaaGreatDoorKept
import Derived.Test.YtnlcipocobmgiaaGreatDoorStrsAt
import Derived.Test.YtnlcipocobmgiaaGreatDoorSames
namespace Go.Proofs.YtnlcipocobmgiaaGreatDoor
open Go.RowKit
attribute [local go_sem] size_bs bs_append bs_extract ba_self

/-- Commands one behind the other. -/
def Ts.mores (s : Ts) (cs : List (List UInt8)) : Nat → Ts
  | 0 => s
  | i + 1 => (s.mores cs i).more ((cs.getD i []).take 20)
theorem Ts.mores_len (s : Ts) (cs : List (List UInt8)) : ∀ i, (s.mores cs i).log.length = s.log.length + i
  | 0 => rfl
  | i + 1 => by
    show ((s.mores cs i).log ++ [_]).length = _
    rw [List.length_append, Ts.mores_len s cs i]
    rfl
theorem Ts.mores_base (s : Ts) (cs : List (List UInt8)) : ∀ i, (s.mores cs i).base = s.base
  | 0 => rfl
  | i + 1 => Ts.mores_base s cs i
theorem Ts.led_len (s : Ts) : s.led.log.length = s.log.length + 1 := by simp [Ts.led]
def TickRel (w W : World) (r b m : Nat) (K : Ts) (a : Value) : Prop := (∃ j : Nat, j ≤ 3 ∧ a = .int .i64 (j : Int) ∧ EarlyAt w W r b m K j 900000) ∨ (a = .int .i64 4 ∧ LoneAt w W r b m K.led K.base 899900)
theorem lone_compact2 {w W : World} {r b m k nB : Nat} {s : Ts} (h : LoneAt w W r b m s nB k) (hn : nB = s.base + s.log.length) (hl : 0 < s.log.length) (hb : nB ≤ 1000000) (snap : List UInt8) (hs : snap.length ≤ 1000) (hk : 2000 ≤ k) :
    Calls Tryz.prog 16 #[.pointer (some ⟨r, 0, none⟩), .string (bs snap)] W fun e w' => e = .returned (.int .i64 0) ∧ ∃ t v bt, CutAt w w' r b m ⟨t, v, nB, bt, snap, []⟩ (k - 2000) := by
  subst hn
  refine (lone_compact h hl hb snap hs hk).mono ?_
  rintro e w' ⟨rfl, ⟨t, v, b', bt, sn, lg⟩, h1, h2, h3, h4, h5⟩
  simp only at h1 h2 h3
  subst h1 h2 h3
  exact ⟨rfl, t, v, bt, h5⟩

set_option maxRecDepth 100000 in
set_option maxHeartbeats 4000000 in
theorem raftCompacts_calls (w : World) (hTb : Tab w) (st sv sb : Int) (vt : Value) (lt : List Int) (ht : IntsAt w vt lt) (vc : Value) (cs : List (List UInt8)) (hcs : StrsAt w vc cs) (snap0 : List UInt8) :
    Calls Tryz.prog 3 #[.agg #[.int .i64 st, .int .i64 sv, .int .i64 sb, vt], vc, .string (bs snap0)] w fun e w' => e = .returned (.bool true) ∧ Keep [] w w' := by
  obtain ⟨At, ct, rfl, ht2⟩ := ht
  have HVT : Hid (IntsAt w (.slice At lt.length ct) lt) := ⟨At, ct, rfl, ht2⟩
  obtain ⟨A0, c0, rfl, hcc⟩ := hcs
  have HCC := Lib.hid hcc
  have HT := Lib.hid hTb
  obtain ⟨T, hT⟩ : ∃ T : Nat, min (max st 0) 20 = (T : Int) := ⟨(min (max st 0) 20).toNat, by omega⟩
  obtain ⟨V, hV⟩ : ∃ T : Nat, min (max sv 0) 5 = (T : Int) := ⟨(min (max sv 0) 5).toNat, by omega⟩
  obtain ⟨B, hB⟩ : ∃ T : Nat, min (max sb 0) 4 = (T : Int) := ⟨(min (max sb 0) 4).toNat, by omega⟩
  have hTl : T ≤ 20 := by omega
  have hBl : B ≤ 4 := by omega
  have HTT := Lib.hid hT
  have HVV := Lib.hid hV
  have HBB := Lib.hid hB
  obtain ⟨snap, hsn⟩ : ∃ snap, snap = snap0.take 50 := ⟨_, rfl⟩
  have hsl : snap.length ≤ 50 := by rw [hsn, List.length_take]; omega
  have HSN := Lib.hid hsn
  have TK : ∀ W, Keep [] w W → Calls Tryz.prog 9 #[.agg #[.int .i64 st, .int .i64 sv, .int .i64 sb, .slice At lt.length ct]] W fun e w' => ∃ (b m : Nat) (D : Dk) (K : Ts) (A : Option Addr) (c : Nat), e = .returned (.tuple #[.pointer (some ⟨b, 0, none⟩), .agg #[.int .i64 (K.term : Int), .int .i64 (K.vote : Int), .int .i64 (K.base : Int), .int .i64 (K.baseTerm : Int), .string (bs K.snap), .slice A K.log.length c]]) ∧ DiskAt w' b m D ∧ Holds D 900000 K ∧ K.Fit ∧ K.term = T ∧ K.base = B ∧ K.log.length ≤ 6 ∧ w.heap.size ≤ b ∧ w.heap.size ≤ m ∧ Keep [] w w' := fun W hk => by
    refine (kept_calls W (HT.out.keep hk (by simp)) st sv sb _ lt (HVT.out.keep hk) T V B HTT.out HVV.out HBB.out).mono ?_
    rintro e w' ⟨b, m, D, K, A, c, rfl, h1, h2, h3, h4, h5, h6, h7, h8, -, h10⟩
    have := hk.size
    exact ⟨b, m, D, K, A, c, rfl, h1, h2, h3, h4, h5, h6, by omega, by omega, hk.trans h10⟩
  have HTK := Lib.hid TK
  clear TK hTb hcc hT hV hB hsn ht2
  go_enter Tryz.func3, Tryz.ntmps3
  go_wp2_with (first
    | (go_at_call 7; refine (rawake_calls _ (HT.out.keep ((Keep.refl [] _).alloc _) (by simp))).mono ?_; rintro e w1 ⟨rfl, hk1⟩; have hbx : Blk w1 w.heap.size 24 #[.int .i64 st, .int .i64 sv, .int .i64 sb, .slice At lt.length ct] := (Blk.new _ _ _).keep hk1 (by simp); have x0 : w1.cell? ⟨w.heap.size, 0, none⟩ = some (.int .i64 st) := hbx.cell 0; have x1 : w1.cell? ⟨w.heap.size, 1, none⟩ = some (.int .i64 sv) := hbx.cell 1; have x2 : w1.cell? ⟨w.heap.size, 2, none⟩ = some (.int .i64 sb) := hbx.cell 2; have x3 : w1.cell? ⟨w.heap.size, 3, none⟩ = some (.slice At lt.length ct) := hbx.cell 3; have HK1 : Hid (Keep [] w w1) := Keep.trans (M := []) ((Keep.refl [] _).alloc _) hk1; clear hk1 hbx)
    | (go_at_call 8; refine (cut_calls snap0 50 _).mono ?_; rintro e w3 ⟨rfl, rfl⟩; rw [← HSN.out])
    | (go_at_call 9; refine (HTK.out _ HK1.out).mono ?_; rintro e w2 ⟨b, m, D, K, AK, cK, rfl, hD, hH, hf, hk4, hk5, hk6, hbw, hmw, hk2⟩; have HD := Lib.hid hD; have HH := Lib.hid hH; have HF := Lib.hid hf; have HK4 := Lib.hid hk4; have HK5 := Lib.hid hk5; have HK2 := Lib.hid hk2; have hbl := hD.blk.lt; have hml := hD.map.lt; clear hD hH hf hk4 hk5 hk2 x0 x1 x2 x3)
    | (go_at_call 10; refine (open_one (HD.out.alloc _) (HT.out.keep (Keep.trans (M := []) HK2.out ((Keep.refl [] _).alloc _)) (by simp)) HH.out HF.out).mono ?_; rintro e w4 ⟨r, rfl, h4⟩; have H4 := Lib.hid h4; clear h4))
  have HKW3 : Hid (Keep [] w (w2.alloc (.cells #[.int .i64 (K.term : Int), .int .i64 (K.vote : Int), .int .i64 (K.base : Int), .int .i64 (K.baseTerm : Int), .string (bs K.snap), .slice AK K.log.length cK] 31))) := HK2.out.alloc _
  have HX3 : Hid (Blk (w2.alloc (.cells #[.int .i64 (K.term : Int), .int .i64 (K.vote : Int), .int .i64 (K.base : Int), .int .i64 (K.baseTerm : Int), .string (bs K.snap), .slice AK K.log.length cK] 31)) w2.heap.size 31 #[.int .i64 (K.term : Int), .int .i64 (K.vote : Int), .int .i64 (K.base : Int), .int .i64 (K.baseTerm : Int), .string (bs K.snap), .slice AK K.log.length cK]) := Blk.new _ _ _
  have hx3 : w2.heap.size < (w2.alloc (.cells #[.int .i64 (K.term : Int), .int .i64 (K.vote : Int), .int .i64 (K.base : Int), .int .i64 (K.baseTerm : Int), .string (bs K.snap), .slice AK K.log.length cK] 31)).heap.size := by simp
  generalize (w2.alloc (.cells #[.int .i64 (K.term : Int), .int .i64 (K.vote : Int), .int .i64 (K.base : Int), .int .i64 (K.baseTerm : Int), .string (bs K.snap), .slice AK K.log.length cK] 31)) = w3 at *
  go_loopw [11] (fun a wr => TickRel w3 wr r b m K a) (fun a _ => 4 - (intOf a).toNat)
  case atStart => exact .inl ⟨0, by decide, rfl, H4.out⟩
  case round =>
    rcases hrel with ⟨j, hj, rfl, hE⟩ | ⟨rfl, hL⟩
    · have HE := Lib.hid hE
      clear hE
      have d1 : decide ((j : Int) < 4) = true := by simp; omega
      by_cases hlt : j < 3
      · go_wp2_with (go_at_call 11; refine (early_tick HE.out HF.out (by have := HK4.out; omega) hlt).mono ?_; rintro e w5 ⟨rfl, h5⟩; have H5 := Lib.hid h5; clear h5)
        go_roundw
        case rel => exact .inl ⟨j + 1, by omega, by go_num, H5.out⟩
        case measure => simp [intOf]; omega
      · obtain rfl : j = 3 := by omega
        go_wp2_with (go_at_call 11; refine (early_late HE.out HF.out (by have := HK4.out; omega) (by omega) (by decide)).mono ?_; rintro e w5 ⟨rfl, h5⟩; have H5 := Lib.hid h5; clear h5)
        go_roundw
        case rel => exact .inr ⟨by go_num, H5.out⟩
        case measure => simp [intOf]
    · have HL := Lib.hid hL
      clear hL
      obtain ⟨wo, rfl⟩ : ∃ wo : World, wo = wr := ⟨_, rfl⟩
      go_wp2
      go_loopw [12] (fun a wr => ∃ i : Nat, i ≤ cs.length ∧ i ≤ 6 ∧ a = .int .i64 (i : Int) ∧ LoneAt w3 wr r b m (K.led.mores cs i) K.base (899900 - 100 * i)) (fun a _ => 6 - (intOf a).toNat)
      case atStart => exact ⟨0, Nat.zero_le _, Nat.zero_le _, rfl, HL.out⟩
      case round =>
        obtain ⟨i, hi1, hi2, rfl, hI⟩ := hrel
        have HI := Lib.hid hI
        have HKR : Hid (Keep [] w wr) := HKW3.out.trans' hI.keep (by simp; omega)
        clear hI
        by_cases h : i < cs.length ∧ i < 6
        · obtain ⟨h1, h2⟩ := h
          have d1 : decide ((i : Int) < (cs.length : Int)) = true := by simpa using h1
          have d2 : decide ((i : Int) < 6) = true := by simp; omega
          obtain ⟨g, o, rfl, hc⟩ := HCC.out (by intro h0; subst h0; simp at h1)
          have c1 := hc i h1
          have cx : wr.cell? ⟨g, o + i, none⟩ = some (.string (bs cs[i])) := (HKR.out.cell (World.block_lt_of_cell? _ _ c1) (by simp)).trans c1
          have HXE : Hid (cs.getD i [] = cs[i]) := (by simp [List.getD, h1] : cs.getD i [] = cs[i])
          clear hc c1
          have HP : Hid (∀ W, LoneAt w3 W r b m (K.led.mores cs i) K.base (899900 - 100 * i) → Calls Tryz.prog 12 #[.pointer (some ⟨r, 0, none⟩), .string (bs ((cs[i]).take 20))] W fun e w' => ∃ n1 n2 : Int, e = .returned (.tuple #[.int .i64 n1, .int .i64 n2, .int .i64 0]) ∧ LoneAt w3 w' r b m (K.led.mores cs (i + 1)) K.base (899900 - 100 * (i + 1))) := fun W hW => by
            have hl20 : ((cs[i]).take 20).length ≤ 20 := by rw [List.length_take]; omega
            refine (lone_propose hW ((cs[i]).take 20) (by omega) (by rw [Ts.mores_len, Ts.led_len]; omega) (by omega)).mono ?_
            rintro e w' ⟨rfl, h5⟩
            refine ⟨_, _, rfl, ?_⟩
            have := h5.less (i := 899900 - 100 * (i + 1)) (by omega)
            show LoneAt w3 w' r b m ((K.led.mores cs i).more ((cs.getD i []).take 20)) K.base _
            rw [HXE.out]
            exact this
          generalize cs[i] = x at *
          go_wp2_with (first
            | (go_at_call 8; refine (cut_calls x 20 wr).mono ?_; rintro e w3' ⟨rfl, rfl⟩)
            | (go_at_call 12; refine (HP.out _ HI.out).mono ?_; rintro e w5 ⟨n1, n2, rfl, h5⟩; have H5 := Lib.hid h5; clear h5))
          go_roundw
          case rel => exact ⟨i + 1, by omega, by omega, by go_num, H5.out⟩
          case measure => simp [intOf]; omega
        · have hfit := HI.out.fit
          have hsb : (K.led.mores cs i).base = K.base := Ts.mores_base _ _ _
          have hsl2 : (K.led.mores cs i).log.length = K.log.length + 1 + i := by rw [Ts.mores_len, Ts.led_len]
          obtain ⟨kk, hkk⟩ : ∃ kk, kk = 899900 - 100 * i := ⟨_, rfl⟩
          have hk2 : 4000 ≤ kk := by omega
          have hI := HI.out
          rw [← hkk, ← hsb] at hI
          generalize K.led.mores cs i = s at *
          obtain ⟨ln, hln⟩ : ∃ ln, ln = s.log.length := ⟨_, rfl⟩
          obtain ⟨nB, hnB⟩ : ∃ nB, nB = s.base + s.log.length := ⟨_, rfl⟩
          have hKB := HK5.out
          have hb1 : nB ≤ 1000 := by omega
          have hsub : IntKind.i64.wrap ((nB : Int) - (K.base : Int)) = (ln : Int) := by rw [IntWalk.i64_in _ (by omega)]; omega
          have hsub2 : (nB : Int) - (K.base : Int) = (ln : Int) := by omega
          have T5 : ∀ W, LoneAt w3 W r b m s s.base kk → Calls Tryz.prog 13 #[.pointer (some ⟨r, 0, none⟩)] W fun e w' => ∃ A c, e = .returned (.tuple #[.string (bs []), .bool false, .slice A ln c]) ∧ LoneAt w3 w' r b m s nB kk := fun W h => by
            rw [hln, hnB]
            refine (lone_fresh h).mono ?_
            rintro e w' ⟨A, c, rfl, -, h2⟩
            exact ⟨A, c, rfl, h2⟩
          have T6 : ∀ W, LoneAt w3 W r b m s nB kk → Calls Tryz.prog 14 #[.pointer (some ⟨r, 0, none⟩)] W fun e w' => e = .returned (.int .i64 (nB : Int)) ∧ ∃ n, w' = W.drewN n := fun W h => by
            have := lone_last h
            rw [← hnB] at this
            exact this
          have T8 : ∀ W, LoneAt w3 W r b m s nB kk → Calls Tryz.prog 16 #[.pointer (some ⟨r, 0, none⟩), .string (bs snap)] W fun e w' => e = .returned (.int .i64 0) ∧ ∃ t v bt, CutAt w3 w' r b m ⟨t, v, nB, bt, snap, []⟩ (kk - 2000) := fun W h =>
            lone_compact2 h hnB (by omega) (by omega) snap (by omega) (by omega)
          have T10 : ∀ W q t v bt, EarlyAt w3 W q b m ⟨t, v, nB, bt, snap, []⟩ 0 (kk - 2000) → CutAt w3 W r b m ⟨t, v, nB, bt, snap, []⟩ (kk - 2000) → Calls Tryz.prog 17 #[.pointer (some ⟨b, 0, none⟩)] W fun e w' => ∃ A c, e = .returned (.tuple #[(.agg #[.int .i64 (t : Int), .int .i64 (v : Int), .int .i64 (nB : Int), .int .i64 (bt : Int), .string (bs snap), .slice A 0 c]), .int .i64 0]) ∧ EarlyAt w3 w' q b m ⟨t, v, nB, bt, snap, []⟩ 0 (kk - 2000) ∧ CutAt w3 w' r b m ⟨t, v, nB, bt, snap, []⟩ (kk - 2000) := fun W q t v bt hq hc => by
            refine (cut_load hc hq).mono ?_
            rintro e w' ⟨A, c, rfl, -, h1, h2⟩
            exact ⟨A, c, rfl, h1, h2⟩
          have T11 : ∀ W q t v bt, EarlyAt w3 W q b m ⟨t, v, nB, bt, snap, []⟩ 0 (kk - 2000) → CutAt w3 W r b m ⟨t, v, nB, bt, snap, []⟩ (kk - 2000) → Calls Tryz.prog 20 #[.pointer (some ⟨q, 0, none⟩)] W fun e w' => ∃ A c, e = .returned (.agg #[.int .i64 (t : Int), .int .i64 (v : Int), .int .i64 (nB : Int), .int .i64 (bt : Int), .string (bs snap), .slice A 0 c]) ∧ Keep [] W w' := fun W q t v bt hq hc => by
            refine (early_state hq hc.fit).mono ?_
            rintro e w' ⟨A, c, rfl, -, h1⟩
            exact ⟨A, c, rfl, h1⟩
          have T12 : ∀ W t v bt, CutAt w3 W r b m ⟨t, v, nB, bt, snap, []⟩ (kk - 2000) → Calls Tryz.prog 20 #[.pointer (some ⟨r, 0, none⟩)] W fun e w' => ∃ A c, e = .returned (.agg #[.int .i64 (t : Int), .int .i64 (v : Int), .int .i64 (nB : Int), .int .i64 (bt : Int), .string (bs snap), .slice A 0 c]) ∧ Keep [] W w' := fun W t v bt hc => by
            refine (cut_state hc).mono ?_
            rintro e w' ⟨A, c, rfl, -, h1⟩
            exact ⟨A, c, rfl, h1⟩
          have hnil : ∀ W A c, EntsAt W (.slice A 0 c) [] := fun W A c => ⟨A, c, rfl, fun h => absurd rfl h⟩
          have T13 : ∀ W (t v bt : Nat) A c, Calls Tryz.prog 19 #[(.agg #[.int .i64 (t : Int), .int .i64 (v : Int), .int .i64 (nB : Int), .int .i64 (bt : Int), .string (bs snap), .slice A 0 c])] W fun e w' => ∃ A c, e = .returned (.agg #[.int .i64 (t : Int), .int .i64 (v : Int), .int .i64 (nB : Int), .int .i64 (bt : Int), .string (bs snap), .slice A 0 c]) ∧ Keep [] W w' := fun W t v bt A c => by
            refine (told_calls ⟨t, v, nB, bt, snap, []⟩ (.slice A 0 c) W (hnil W A c) (by simp)).mono ?_
            rintro e w' ⟨A, c, rfl, -, h1⟩
            exact ⟨A, c, rfl, h1⟩
          have T14 : ∀ W (t v bt : Nat) A c A' c', Calls Tryz.prog 18 #[(.agg #[.int .i64 (t : Int), .int .i64 (v : Int), .int .i64 (nB : Int), .int .i64 (bt : Int), .string (bs snap), .slice A 0 c]), (.agg #[.int .i64 (t : Int), .int .i64 (v : Int), .int .i64 (nB : Int), .int .i64 (bt : Int), .string (bs snap), .slice A' 0 c'])] W fun e w' => e = .returned (.bool true) ∧ Keep [] W w' := fun W t v bt A c A' c' => by
            have := same_calls ⟨t, v, nB, bt, snap, []⟩ ⟨t, v, nB, bt, snap, []⟩ (.slice A 0 c) (.slice A' 0 c') W (hnil W A c) (hnil W A' c') (by simp) (by simp)
            rw [decide_eq_true rfl] at this
            exact this
          have T15 : ∀ W q t v bt, EarlyAt w3 W q b m ⟨t, v, nB, bt, snap, []⟩ 0 (kk - 2000) → CutAt w3 W r b m ⟨t, v, nB, bt, snap, []⟩ (kk - 2000) → Calls Tryz.prog 14 #[.pointer (some ⟨q, 0, none⟩)] W fun e w' => e = .returned (.int .i64 (nB : Int)) ∧ ∃ n, w' = W.drewN n := fun W q t v bt hq hc => early_last hq hc.fit
          have HT5 := Lib.hid T5
          have HT6 := Lib.hid T6
          have HT8 := Lib.hid T8
          have HT10 := Lib.hid T10
          have HT11 := Lib.hid T11
          have HT12 := Lib.hid T12
          have HT13 := Lib.hid T13
          have HT14 := Lib.hid T14
          have HT15 := Lib.hid T15
          have HI2 := Lib.hid hI
          clear T5 T6 T8 T10 T11 T12 T13 T14 T15 hI HI hnil hfit hsb hsl2 hkk hk2 hln hnB hKB
          by_cases h1 : i < cs.length
          · have d1 : decide ((i : Int) < (cs.length : Int)) = true := by simpa using h1
            have d2 : decide ((i : Int) < 6) = false := by simp; omega
            go_wp2_with (first
              | (go_at_call 13; (with_reducible refine (HT5.out _ HI2.out).mono ?_); rintro e w5 ⟨A5, c5, rfl, h5⟩; have y2 : w5.cell? ⟨w2.heap.size, 2, none⟩ = some (.int .i64 (K.base : Int)) := (HX3.out.keep h5.keep (by simp; omega)).cell 2; have H5 := Lib.hid h5; clear h5)
              | (go_at_call 14; (with_reducible refine (HT6.out _ H5.out).mono ?_); rintro e w6 ⟨rfl, n1, rfl⟩; have H6 := Lib.hid (H5.out.grow ((Keep.refl [] _).drewN n1)); clear H5)
              | (go_at_call 15; (with_reducible refine (lone_applied H6.out).mono ?_); rintro e w7 ⟨rfl, rfl⟩)
              | (go_at_call 16; (with_reducible refine (HT8.out _ H6.out).mono ?_); rintro e w8 ⟨rfl, t, v, bt, h8⟩; have H8 := Lib.hid h8; clear h8 H6 y2)
              | (go_at_call 16; (with_reducible refine (cut_compact H8.out snap (by omega)).mono ?_); rintro e w9 ⟨rfl, h9⟩; have H9 := Lib.hid h9; clear h9 H8)
              | (go_at_call 10; (with_reducible refine (cut_open H9.out).mono ?_); rintro e w10 ⟨q, rfl, hq, hc⟩; have HQ := Lib.hid hq; have HC := Lib.hid hc; clear hq hc H9)
              | (go_at_call 17; (with_reducible refine (HT10.out _ _ _ _ _ HQ.out HC.out).mono ?_); rintro e w11 ⟨A11, c11, rfl, hq, hc⟩; clear HQ HC; have HQ := Lib.hid (hq.grow ((Keep.refl [] _).alloc (.cells #[.int .i64 (t : Int), .int .i64 (v : Int), .int .i64 (nB : Int), .int .i64 (bt : Int), .string (bs snap), .slice A11 0 c11] 46))); have HC := Lib.hid (hc.grow ((Keep.refl [] _).alloc (.cells #[.int .i64 (t : Int), .int .i64 (v : Int), .int .i64 (nB : Int), .int .i64 (bt : Int), .string (bs snap), .slice A11 0 c11] 46))); clear hq hc)
              | (go_at_call 20; (with_reducible refine (HT11.out _ _ _ _ _ HQ.out HC.out).mono ?_); rintro e w12 ⟨A12, c12, rfl, hk⟩; replace HQ := Lib.hid (HQ.out.grow hk); replace HC := Lib.hid (HC.out.grow hk); clear hk)
              | (go_at_call 19; (with_reducible refine (HT13.out _ _ _ _ _ _).mono ?_); rintro e w13 ⟨A13, c13, rfl, hk⟩; replace HQ := Lib.hid (HQ.out.grow hk); replace HC := Lib.hid (HC.out.grow hk); clear hk)
              | (go_at_call 20; (with_reducible refine (HT12.out _ _ _ _ HC.out).mono ?_); rintro e w14 ⟨A14, c14, rfl, hk⟩; replace HQ := Lib.hid (HQ.out.grow hk); replace HC := Lib.hid (HC.out.grow hk); clear hk)
              | (go_at_call 18; (with_reducible refine (HT14.out _ _ _ _ _ _ _ _).mono ?_); rintro e w15 ⟨rfl, hk⟩; replace HQ := Lib.hid (HQ.out.grow hk); replace HC := Lib.hid (HC.out.grow hk); clear hk)
              | (go_at_call 14; (with_reducible refine (HT15.out _ _ _ _ _ HQ.out HC.out).mono ?_); rintro e w16 ⟨rfl, n2, rfl⟩))
            go_ret
            exact ⟨rfl, (HKW3.out.trans' HQ.out.keep (by simp; omega)).drewN _⟩
          · have d1 : decide ((i : Int) < (cs.length : Int)) = false := by simpa using h1
            go_wp2_with (first
              | (go_at_call 13; (with_reducible refine (HT5.out _ HI2.out).mono ?_); rintro e w5 ⟨A5, c5, rfl, h5⟩; have y2 : w5.cell? ⟨w2.heap.size, 2, none⟩ = some (.int .i64 (K.base : Int)) := (HX3.out.keep h5.keep (by simp; omega)).cell 2; have H5 := Lib.hid h5; clear h5)
              | (go_at_call 14; (with_reducible refine (HT6.out _ H5.out).mono ?_); rintro e w6 ⟨rfl, n1, rfl⟩; have H6 := Lib.hid (H5.out.grow ((Keep.refl [] _).drewN n1)); clear H5)
              | (go_at_call 15; (with_reducible refine (lone_applied H6.out).mono ?_); rintro e w7 ⟨rfl, rfl⟩)
              | (go_at_call 16; (with_reducible refine (HT8.out _ H6.out).mono ?_); rintro e w8 ⟨rfl, t, v, bt, h8⟩; have H8 := Lib.hid h8; clear h8 H6 y2)
              | (go_at_call 16; (with_reducible refine (cut_compact H8.out snap (by omega)).mono ?_); rintro e w9 ⟨rfl, h9⟩; have H9 := Lib.hid h9; clear h9 H8)
              | (go_at_call 10; (with_reducible refine (cut_open H9.out).mono ?_); rintro e w10 ⟨q, rfl, hq, hc⟩; have HQ := Lib.hid hq; have HC := Lib.hid hc; clear hq hc H9)
              | (go_at_call 17; (with_reducible refine (HT10.out _ _ _ _ _ HQ.out HC.out).mono ?_); rintro e w11 ⟨A11, c11, rfl, hq, hc⟩; clear HQ HC; have HQ := Lib.hid (hq.grow ((Keep.refl [] _).alloc (.cells #[.int .i64 (t : Int), .int .i64 (v : Int), .int .i64 (nB : Int), .int .i64 (bt : Int), .string (bs snap), .slice A11 0 c11] 46))); have HC := Lib.hid (hc.grow ((Keep.refl [] _).alloc (.cells #[.int .i64 (t : Int), .int .i64 (v : Int), .int .i64 (nB : Int), .int .i64 (bt : Int), .string (bs snap), .slice A11 0 c11] 46))); clear hq hc)
              | (go_at_call 20; (with_reducible refine (HT11.out _ _ _ _ _ HQ.out HC.out).mono ?_); rintro e w12 ⟨A12, c12, rfl, hk⟩; replace HQ := Lib.hid (HQ.out.grow hk); replace HC := Lib.hid (HC.out.grow hk); clear hk)
              | (go_at_call 19; (with_reducible refine (HT13.out _ _ _ _ _ _).mono ?_); rintro e w13 ⟨A13, c13, rfl, hk⟩; replace HQ := Lib.hid (HQ.out.grow hk); replace HC := Lib.hid (HC.out.grow hk); clear hk)
              | (go_at_call 20; (with_reducible refine (HT12.out _ _ _ _ HC.out).mono ?_); rintro e w14 ⟨A14, c14, rfl, hk⟩; replace HQ := Lib.hid (HQ.out.grow hk); replace HC := Lib.hid (HC.out.grow hk); clear hk)
              | (go_at_call 18; (with_reducible refine (HT14.out _ _ _ _ _ _ _ _).mono ?_); rintro e w15 ⟨rfl, hk⟩; replace HQ := Lib.hid (HQ.out.grow hk); replace HC := Lib.hid (HC.out.grow hk); clear hk)
              | (go_at_call 14; (with_reducible refine (HT15.out _ _ _ _ _ HQ.out HC.out).mono ?_); rintro e w16 ⟨rfl, n2, rfl⟩))
            go_ret
            exact ⟨rfl, (HKW3.out.trans' HQ.out.keep (by simp; omega)).drewN _⟩

end Go.Proofs.YtnlcipocobmgiaaGreatDoor
