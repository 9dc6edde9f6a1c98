/- The walk of glacierlaw09.TermBack. -/
import Derived.Test.YtpcbhechfbibbaaDoorBackPlain
import Derived.Test.YtpcbhechfbibbaaDoorStrsAt
import Derived.Test.YtpcbhechfbibbaaDoorTold
import Derived.Test.YtpcbhechfbibbaaDoorSame
import Derived.Test.YtpcbhechfbibbaaDoorTermParts
namespace Go.Proofs.YtpcbhechfbibbaaDoor
open Go.RowKit
attribute [local go_sem] size_bs bs_append bs_extract ba_self

def BackRel (t : Nat) (cs : List (List UInt8)) (w2 : World) (v a : Value) (wr : World) : Prop :=
  ∃ i g c, i ≤ cs.length ∧ i ≤ 10 ∧ a = .int .i64 (i : Int) ∧ v = .slice (some ⟨g, 0, none⟩) i c ∧ wr.ownsRow w2.heap.size 29 3 v i (entsV (olds t 30 cs i)) ∧ Keep [] w2 wr

/-- TermBack behind its crash: the block and the entries of its first state, too. -/
structure BMid (w W : World) (b m : Nat) (D : Dk) (v : Value) (L : List En) (r : Nat) (lg : Value) (n t vo : Nat) (sn : List UInt8) : Prop where
  mid : PMid w W b m D v L
  blk : Blk W r 33 #[.int .i64 (t : Int), .int .i64 (vo : Int), .int .i64 (n : Int), .int .i64 (t : Int), .string (bs sn), lg]
  ents : EntsAt W lg (L.drop n)
theorem BMid.start {w W W' : World} {b m : Nat} {D D' : Dk} {v : Value} {L : List En} {lg : Value} {n t vo : Nat} {sn : List UInt8} (h : PMid w W b m D v L) (hE : EntsAt W lg (L.drop n))
    (hk : Keep [b, m] (W.alloc (.cells #[.int .i64 (t : Int), .int .i64 (vo : Int), .int .i64 (n : Int), .int .i64 (t : Int), .string (bs sn), lg] 33)) W') (hD : DiskAt W' b m D') (hb : w.heap.size ≤ b) (hm : w.heap.size ≤ m) :
    BMid w W' b m D' v L W.heap.size lg n t vo sn := by
  have hbl := h.disk.blk.lt
  have hml := h.disk.map.lt
  have hd := h.disk.alloc (.cells #[.int .i64 (t : Int), .int .i64 (vo : Int), .int .i64 (n : Int), .int .i64 (t : Int), .string (bs sn), lg] 33)
  have hk0 := (Keep.refl [] W).alloc (.cells #[.int .i64 (t : Int), .int .i64 (vo : Int), .int .i64 (n : Int), .int .i64 (t : Int), .string (bs sn), lg] 33)
  exact ⟨⟨hD, (h.ents.keep_nil hk0).disk hd hk, (h.tab.keep hk0 (by simp)).disk hd hk, (h.keep.alloc _).trans' hk (by simp; omega)⟩, (Blk.new _ _ _).keep hk (by simp; omega), (hE.keep_nil hk0).disk hd hk⟩
theorem BMid.step {w W W' : World} {b m : Nat} {D D' : Dk} {v : Value} {L : List En} {r : Nat} {lg : Value} {n t vo : Nat} {sn : List UInt8} (h : BMid w W b m D v L r lg n t vo sn) (hk : Keep [b, m] W W') (hD : DiskAt W' b m D') (hb : w.heap.size ≤ b) (hm : w.heap.size ≤ m) :
    BMid w W' b m D' v L r lg n t vo sn := by
  have h1 := h.blk.ne_ h.mid.disk.blk (by decide)
  have h2 := h.mid.disk.map.ne_ h.blk
  exact ⟨⟨hD, h.mid.ents.disk h.mid.disk hk, h.mid.tab.disk h.mid.disk hk, h.mid.keep.trans' hk (by simp; omega)⟩, h.blk.keep hk (by simp; omega), h.ents.disk h.mid.disk hk⟩
theorem BMid.grow {w W W' : World} {b m : Nat} {D : Dk} {v : Value} {L : List En} {r : Nat} {lg : Value} {n t vo : Nat} {sn : List UInt8} (h : BMid w W b m D v L r lg n t vo sn) (hk : Keep [] W W') : BMid w W' b m D v L r lg n t vo sn :=
  ⟨⟨h.mid.disk.keep hk (by simp) (by simp), h.mid.ents.keep_nil hk, h.mid.tab.keep hk (by simp), h.mid.keep.trans hk⟩, h.blk.keep hk (by simp), h.ents.keep_nil hk⟩


set_option maxRecDepth 100000 in
set_option maxHeartbeats 4000000 in
theorem termBack_calls (w : World) (hT : Tab w) (t : Int) (_ht1 : -9223372036854775808 ≤ t) (_ht2 : t ≤ 9223372036854775807) (vote : Int) (_hv1 : -9223372036854775808 ≤ vote) (_hv2 : vote ≤ 9223372036854775807) (snap : List UInt8) (v : Value) (cs : List (List UInt8)) (hv : StrsAt w v cs) (n : Int) (hn1 : -9223372036854775808 ≤ n) (hn2 : n ≤ 9223372036854775807)
    (vc : Value) (ch : List Int) (hvc : IntsAt w vc ch) (hch : ∀ x ∈ ch, -9223372036854775808 ≤ x ∧ x ≤ 9223372036854775807) :
    Calls Tryd.prog 6 #[.int .i64 t, .int .i64 vote, .string (bs snap), v, .int .i64 n, vc] w fun e w' => e = .returned (.bool true) ∧ Keep [] w w' := by
  obtain ⟨A, c, rfl, hcs⟩ := hv
  have HVC := Lib.hid hvc
  obtain ⟨A5, c5, rfl, -⟩ := hvc
  have HCS := Lib.hid hcs
  have HT := Lib.hid hT
  have HCH := Lib.hid hch
  have tok1 : True := trivial
  have tok2 : True := trivial
  clear hT hcs hch
  by_cases h0 : t < 0
  case pos =>
    go_enter Tryd.func6, Tryd.ntmps6
    go_wp2_with (first
      | (go_at_call 8; refine (new_calls 100000 (by decide) w).mono ?_; rintro e w1 ⟨b, m, rfl, hb, hm, hD1, hk1⟩; have HD1 : Hid (DiskAt w1 b m (Dk.start 100000)) := hD1; have HK1 := Lib.hid hk1; have hblt := hD1.blk.lt; have hmlt := hD1.map.lt; clear hD1 hk1)
      | (clear tok1; go_at_call 9; refine (awake_calls w1 (HT.out.keep HK1.out (by simp))).mono ?_; rintro e w2 ⟨rfl, hk2⟩; have HK2 := Lib.hid hk2; clear hk2)
      | (clear tok2; go_at_call 9; refine (awake_calls w2 (HT.out.keep (HK1.out.trans HK2.out) (by simp))).mono ?_; rintro e w3 ⟨rfl, hk3⟩; have HK3 := Lib.hid hk3; clear hk3))
    go_ret
    exact ⟨rfl, (HK1.out.trans HK2.out).trans HK3.out⟩
  case neg =>
  by_cases h1 : 1099511627776 < t
  case pos =>
    go_enter Tryd.func6, Tryd.ntmps6
    go_wp2_with (first
      | (go_at_call 8; refine (new_calls 100000 (by decide) w).mono ?_; rintro e w1 ⟨b, m, rfl, hb, hm, hD1, hk1⟩; have HD1 : Hid (DiskAt w1 b m (Dk.start 100000)) := hD1; have HK1 := Lib.hid hk1; have hblt := hD1.blk.lt; have hmlt := hD1.map.lt; clear hD1 hk1)
      | (clear tok1; go_at_call 9; refine (awake_calls w1 (HT.out.keep HK1.out (by simp))).mono ?_; rintro e w2 ⟨rfl, hk2⟩; have HK2 := Lib.hid hk2; clear hk2)
      | (clear tok2; go_at_call 9; refine (awake_calls w2 (HT.out.keep (HK1.out.trans HK2.out) (by simp))).mono ?_; rintro e w3 ⟨rfl, hk3⟩; have HK3 := Lib.hid hk3; clear hk3))
    go_ret
    exact ⟨rfl, (HK1.out.trans HK2.out).trans HK3.out⟩
  case neg =>
  by_cases h2 : vote < 0
  case pos =>
    go_enter Tryd.func6, Tryd.ntmps6
    go_wp2_with (first
      | (go_at_call 8; refine (new_calls 100000 (by decide) w).mono ?_; rintro e w1 ⟨b, m, rfl, hb, hm, hD1, hk1⟩; have HD1 : Hid (DiskAt w1 b m (Dk.start 100000)) := hD1; have HK1 := Lib.hid hk1; have hblt := hD1.blk.lt; have hmlt := hD1.map.lt; clear hD1 hk1)
      | (clear tok1; go_at_call 9; refine (awake_calls w1 (HT.out.keep HK1.out (by simp))).mono ?_; rintro e w2 ⟨rfl, hk2⟩; have HK2 := Lib.hid hk2; clear hk2)
      | (clear tok2; go_at_call 9; refine (awake_calls w2 (HT.out.keep (HK1.out.trans HK2.out) (by simp))).mono ?_; rintro e w3 ⟨rfl, hk3⟩; have HK3 := Lib.hid hk3; clear hk3))
    go_ret
    exact ⟨rfl, (HK1.out.trans HK2.out).trans HK3.out⟩
  case neg =>
  by_cases h3 : 5 < vote
  case pos =>
    go_enter Tryd.func6, Tryd.ntmps6
    go_wp2_with (first
      | (go_at_call 8; refine (new_calls 100000 (by decide) w).mono ?_; rintro e w1 ⟨b, m, rfl, hb, hm, hD1, hk1⟩; have HD1 : Hid (DiskAt w1 b m (Dk.start 100000)) := hD1; have HK1 := Lib.hid hk1; have hblt := hD1.blk.lt; have hmlt := hD1.map.lt; clear hD1 hk1)
      | (clear tok1; go_at_call 9; refine (awake_calls w1 (HT.out.keep HK1.out (by simp))).mono ?_; rintro e w2 ⟨rfl, hk2⟩; have HK2 := Lib.hid hk2; clear hk2)
      | (clear tok2; go_at_call 9; refine (awake_calls w2 (HT.out.keep (HK1.out.trans HK2.out) (by simp))).mono ?_; rintro e w3 ⟨rfl, hk3⟩; have HK3 := Lib.hid hk3; clear hk3))
    go_ret
    exact ⟨rfl, (HK1.out.trans HK2.out).trans HK3.out⟩
  case neg =>
  obtain ⟨tn, rfl⟩ := Int.eq_ofNat_of_zero_le (show 0 ≤ t by omega)
  obtain ⟨vn, rfl⟩ := Int.eq_ofNat_of_zero_le (show 0 ≤ vote by omega)
  have ht : tn ≤ 1099511627776 := by omega
  have hvn : vn ≤ 5 := by omega
  have e1 : decide ((1099511627776 : Int) < (tn : Int)) = false := by simp; omega
  have e2 : decide ((5 : Int) < (vn : Int)) = false := by simp; omega
  clear h0 h1 h2 h3
  go_enter Tryd.func6, Tryd.ntmps6
  go_wp2_with (first
    | (go_at_call 8; refine (new_calls 100000 (by decide) w).mono ?_; rintro e w1 ⟨b, m, rfl, hb, hm, hD1, hk1⟩; have HD1 : Hid (DiskAt w1 b m (Dk.start 100000)) := hD1; have HK1 := Lib.hid hk1; have hblt := hD1.blk.lt; have hmlt := hD1.map.lt; clear hD1 hk1)
    | (clear tok1; go_at_call 9; refine (awake_calls w1 (HT.out.keep HK1.out (by simp))).mono ?_; rintro e w2 ⟨rfl, hk2⟩; have HK2 := Lib.hid hk2; clear hk2))
  go_loopw [14, 15] (fun v a wr => BackRel tn cs w2 v a wr) (fun _ a _ => 10 - (intOf a).toNat)
  case atStart => exact ⟨0, _, _, Nat.zero_le _, Nat.zero_le _, rfl, rfl, ⟨by simp [olds, entsV], .inr ⟨w2.heap.size, 0, #[], rfl, Nat.le_refl _, heap_alloc_new _ _, Nat.le_refl _, Nat.zero_le _, rfl, by simp [olds, entsV]⟩⟩, (Keep.refl _ _).alloc _⟩
  case round =>
    obtain ⟨i, g2, c2, hi1, hi2, rfl, rfl, hown, hkeep⟩ := hrel
    have HOWN := Lib.hid hown
    have HK := Lib.hid hkeep
    clear hown hkeep
    have HKW : Hid (Keep [] w wr) := (HK1.out.trans HK2.out).trans HK.out
    by_cases h : i < cs.length ∧ i < 10
    · obtain ⟨h1, h2⟩ := h
      have d1 : decide ((i : Int) < (cs.length : Int)) = true := by simpa using h1
      have d2 : decide ((i : Int) < 10) = true := by simp; omega
      obtain ⟨g, o, rfl, hc⟩ := HCS.out (by intro h0; subst h0; simp at h1)
      have c0 := hc i h1
      have cx : wr.cell? ⟨g, o + i, none⟩ = some (.string (bs cs[i])) := (HKW.out.cell (World.block_lt_of_cell? _ _ c0) (by simp)).trans c0
      have hxe : cs.getD i [] = cs[i] := by simp [List.getD, h1]
      have HO : Hid (olds tn 30 cs (i + 1) = olds tn 30 cs i ++ [⟨i + 1, tn, (cs[i]).take 30⟩]) := by
        show olds tn 30 cs (i + 1) = _
        rw [olds_succ, hxe]
      clear hc c0 hxe
      generalize cs[i] = x at *
      go_wp2_with (first
        | (go_at_call 10; refine (cut_calls x 30 wr).mono ?_; rintro e w3 ⟨rfl, rfl⟩)
        | (at_builtin; refine list_append_own_ent (w0 := w2) (v := .slice (some ⟨g2, 0, none⟩) i c2) (acc := olds tn 30 cs i) ⟨i + 1, tn, x.take 30⟩ rfl (.tmp 57) (.tmp 67) rfl rfl rfl ?c1 HK.out ?c2 (Int.natCast_succ i).symm rfl ?_))
      case c1 =>
        rw [olds_len]
        exact HOWN.out
      case c2 =>
        rw [olds_len]
        omega
      intro A3 c3 w4 hown4 hk4
      rw [← HO.out] at hown4
      obtain ⟨g4, c4, he4⟩ := own_some hown4 (by omega)
      injection he4 with hA3 hz1 hc3
      clear hz1
      subst hA3 hc3
      have HOWN4 := Lib.hid hown4
      have HK4 := Lib.hid hk4
      clear hown4 hk4
      go_wp2
      go_roundw
      case rel => exact ⟨i + 1, g4, c3, by omega, by omega, by go_num, rfl, HOWN4.out, HK4.out⟩
      case measure => simp [intOf]; omega
    · go_upto_region 6 with fail
      go_cut [54] from 47 to 68 (fun s wx => s = .bool false ∧ wx = wr)
      case first =>
        by_cases h1 : i < cs.length
        · have d1 : decide ((i : Int) < (cs.length : Int)) = true := by simpa using h1
          have d2 : decide ((i : Int) < 10) = false := by simp; omega
          go_wp2_with fail
          go_meet
          exact ⟨rfl, rfl⟩
        · have d1 : decide ((i : Int) < (cs.length : Int)) = false := by simpa using h1
          go_wp2_with fail
          go_meet
          exact ⟨rfl, rfl⟩
      case rest =>
        obtain ⟨rfl, rfl⟩ := hcut
        obtain ⟨nn, hnn⟩ : ∃ nn : Nat, min (max n 0) (i : Int) = (nn : Int) := ⟨(min (max n 0) (i : Int)).toNat, by omega⟩
        have hni : nn ≤ i := by omega
        have hcap : i ≤ c2 := own_room HOWN.out _ _ _ rfl
        have HC := Lib.hid (cut_calls snap 50)
        have hsl : (snap.take 50).length ≤ 50 := by rw [List.length_take]; omega
        generalize snap.take 50 = sn at *
        obtain ⟨D1, D2, D3, p1, p2, p3, p4, gd1, gd2, gd3, hsafe, hnames⟩ := back_plain cs tn vn i nn sn ht hvn hsl hi2 hni
        have hent := own_ents (l := olds tn 30 cs i) (by rw [olds_len]; exact HOWN.out)
        have hfit := olds_fit (t := tn) (c := 30) (cs := cs) (i := i) (by omega) ht (by decide)
        have hDr : DiskAt wc b m (Dk.start 100000) := (HD1.out.keep HK2.out (by simp) (by simp)).keep HK.out (by simp) (by simp)
        have hTr : Tab wc := HT.out.keep HKW.out (by simp)
        have hll : (olds tn 30 cs i).length = i := olds_len _ _ _ _
        generalize olds tn 30 cs i = L at *
        have T1 : Calls Tryd.prog 14 #[.pointer (some ⟨b, 0, none⟩), .slice (some ⟨g2, 0, none⟩) i c2] wc fun e w' => e = .returned (.int .i64 0) ∧ DiskAt w' b m D1 ∧ Keep [b, m] wc w' := by
          have := appendLog_calls hDr (calm_start 100000 (by decide)).good hTr L _ hent ⟨by omega, fun e he => (hfit e he).1.ok⟩
          rw [p1] at this
          exact this
        have T2 : ∀ (W : World), DiskAt W b m D1 → Tab W → Calls Tryd.prog 15 #[.pointer (some ⟨b, 0, none⟩), .int .i64 (tn : Int), .int .i64 (vn : Int)] W fun e w' => e = .returned (.int .i64 0) ∧ DiskAt w' b m D2 ∧ Keep [b, m] W w' := fun W h hT => by
          have := saveTerm_calls h gd1 hT tn vn (by omega) (by omega)
          rw [p2] at this
          exact this
        have T3 : ∀ (W : World) (v : Value), DiskAt W b m D2 → Tab W → EntsAt W v (L.drop nn) → Calls Tryd.prog 11 #[.pointer (some ⟨b, 0, none⟩), .int .i64 (nn : Int), .int .i64 (tn : Int), .string (bs sn), v] W fun e w' => e = .returned (.int .i64 0) ∧ DiskAt w' b m D3 ∧ Keep [b, m] W w' := fun W v h hT hv => by
          have := saveSnap_calls h gd2 hT nn tn (by omega) (by omega) sn (by omega) (L.drop nn) v hv ⟨by rw [List.length_drop]; omega, fun e he => (hfit e (List.mem_of_mem_drop he)).1.ok⟩
          rw [p3] at this
          exact this
        have hlz : (L.drop nn).length = i - nn := by rw [List.length_drop, hll]
        have T4 : ∀ (W : World), DiskAt W b m D3 → Tab W → Calls Tryd.prog 12 #[.pointer (some ⟨b, 0, none⟩)] W fun e w' => ∃ A3 c3, e = .returned (.tuple #[.agg #[.int .i64 (tn : Int), .int .i64 (vn : Int), .int .i64 (nn : Int), .int .i64 (tn : Int), .string (bs sn), .slice A3 (i - nn) c3], .int .i64 0]) ∧ EntsAt w' (.slice A3 (i - nn) c3) (L.drop nn) ∧ DiskAt w' b m D3 ∧ Keep [b, m] W w' := fun W h hT => by
          have := load_calls h gd3 hT
          unfold LoadPost at this
          rw [p4] at this
          refine this.mono fun e w' ⟨lg, h1, h2, h3, h4⟩ => ?_
          obtain ⟨A3, c3, rfl⟩ := own_slice h2
          simp only at h2
          have h2' := own_ents h2
          rw [hlz] at h1 h2'
          exact ⟨A3, c3, h1, h2', h3, h4⟩
        have T5 : ∀ (W : World), DiskAt W b m D3 → Keep [] w W → Calls Tryd.prog 18 #[.pointer (some ⟨b, 0, none⟩), .slice A5 ch.length c5] W fun e w' => e = .returned (.tuple #[]) ∧ DiskAt w' b m D3 ∧ Keep [b, m] W w' := fun W h hk => by
          have := crash_calls h gd3 (by have := hnames.len; simp [names3] at this; omega) (hnames.lens (fun x hx => by simp [names3] at hx; rcases hx with rfl | rfl | rfl <;> decide)) _ ch HCH.out (fun W' hW' => HVC.out.keep (hk.trans' hW' (by simp; omega)))
          rw [hsafe.crash] at this
          exact this
        have HT1 := Lib.hid T1
        have HT2 := Lib.hid T2
        have HT3 := Lib.hid T3
        have HT4 := Lib.hid T4
        have HT5 := Lib.hid T5
        have HDR := Lib.hid hDr
        have HTR := Lib.hid hTr
        have HENT := Lib.hid hent
        have HLL := Lib.hid hll
        have HLZ := Lib.hid hlz
        have hbw : b < w2.heap.size := by have := HK2.out.size; omega
        have hmw : m < w2.heap.size := by have := HK2.out.size; omega
        clear T1 T2 T3 T4 T5 p1 p2 p3 p4 gd1 gd2 gd3 hDr hTr hent hll hfit hlz hsafe hnames HD1
        go_upto_region 11 with (go_at_call 10; refine (HC.out _).mono ?_; rintro e wc ⟨rfl, rfl⟩)
        go_cut [97] (fun s wx => s = .bool false ∧ PMid w wx b m D3 (.slice (some ⟨g2, 0, none⟩) i c2) L)
        case first =>
          by_cases hcn : c2 = nn
          · obtain rfl : i = nn := by omega
            subst hcn
            go_wp2_with (first
              | (go_at_call 14; refine HT1.out.mono ?_; rintro e w4 ⟨rfl, hD, hk⟩; have HD4 := Lib.hid hD; have HE4 := Lib.hid (HENT.out.disk HDR.out hk); have HT4' := Lib.hid (HTR.out.disk HDR.out hk); have HK4 := Lib.hid (HKW.out.trans' hk (by simp; omega)); clear hD hk HT1)
              | (go_at_call 15; refine (HT2.out _ HD4.out HT4'.out).mono ?_; rintro e w5 ⟨rfl, hD, hk⟩; have HD5 := Lib.hid hD; have HE5 := Lib.hid (HE4.out.disk HD4.out hk); have HT5' := Lib.hid (HT4'.out.disk HD4.out hk); have HK5 := Lib.hid (HK4.out.trans' hk (by simp; omega)); clear hD hk HT2))
            go_wp2_with (first
              | (go_at_call 11; refine (HT3.out _ _ HD5.out HT5'.out (by have := HE5.out.rest (c' := 0) (A := some ⟨g2, 0, none⟩) (n := c2) (by have := HLL.out; omega) (by have := HLL.out; omega); rw [HLL.out] at this; simpa using this)).mono ?_; rintro e w6 ⟨rfl, hD, hk⟩; have HM : Hid (PMid w w6 b m D3 _ L) := ⟨hD, HE5.out.disk HD5.out hk, HT5'.out.disk HD5.out hk, HK5.out.trans' hk (by simp; omega)⟩; clear hD hk))
            go_meet
            exact ⟨rfl, HM.out⟩
          · go_wp2_with (first
              | (go_at_call 14; refine HT1.out.mono ?_; rintro e w4 ⟨rfl, hD, hk⟩; have HD4 := Lib.hid hD; have HE4 := Lib.hid (HENT.out.disk HDR.out hk); have HT4' := Lib.hid (HTR.out.disk HDR.out hk); have HK4 := Lib.hid (HKW.out.trans' hk (by simp; omega)); clear hD hk HT1)
              | (go_at_call 15; refine (HT2.out _ HD4.out HT4'.out).mono ?_; rintro e w5 ⟨rfl, hD, hk⟩; have HD5 := Lib.hid hD; have HE5 := Lib.hid (HE4.out.disk HD4.out hk); have HT5' := Lib.hid (HT4'.out.disk HD4.out hk); have HK5 := Lib.hid (HK4.out.trans' hk (by simp; omega)); clear hD hk HT2))
            go_wp2_with (first
              | (go_at_call 11; refine (HT3.out _ _ HD5.out HT5'.out (by have := HE5.out.rest (c' := c2 - nn) (A := some ⟨g2, nn * 3, none⟩) (n := nn) (by have := HLL.out; omega) (fun _ => rfl); rw [HLL.out] at this; exact this)).mono ?_; rintro e w6 ⟨rfl, hD, hk⟩; have HM : Hid (PMid w w6 b m D3 _ L) := ⟨hD, HE5.out.disk HD5.out hk, HT5'.out.disk HD5.out hk, HK5.out.trans' hk (by simp; omega)⟩; clear hD hk))
            go_meet
            exact ⟨rfl, HM.out⟩
        case rest =>
          obtain ⟨rfl, hM⟩ := hcut
          have HM := Lib.hid hM
          clear hM HK HKW HOWN HT1 HT2 HT3 HDR HTR HENT HK1 HK2 HCS HC
          go_wp2_with (first
            | (clear tok2; go_at_call 12; refine (HT4.out _ HM.out.disk HM.out.tab).mono ?_; rintro e w5 ⟨A3, c3, rfl, hE, hD, hk⟩; have hM5 : PMid w w5 b m D3 (.slice (some ⟨g2, 0, none⟩) i c2) L := ⟨hD, HM.out.ents.disk HM.out.disk hk, HM.out.tab.disk HM.out.disk hk, HM.out.keep.trans' hk (by simp; omega)⟩; have HM5 := Lib.hid hM5; have HE5 := Lib.hid hE; clear hE hk hD HM hM5)
            | (go_at_call 18; refine (HT5.out _ (HM5.out.disk.alloc _) (HM5.out.keep.alloc _)).mono ?_; rintro e w6 ⟨rfl, hD, hk⟩; have hB6 : BMid w w6 b m D3 (.slice (some ⟨g2, 0, none⟩) i c2) L w5.heap.size (.slice A3 (i - nn) c3) nn tn vn sn := BMid.start HM5.out HE5.out hk hD (by omega) (by omega); have HB6 := Lib.hid hB6; clear hD hk hB6 HM5 HE5)
            | (go_at_call 12; refine (HT4.out _ HB6.out.mid.disk HB6.out.mid.tab).mono ?_; rintro e w7 ⟨A7, c7, rfl, hE, hD, hk⟩; have hB7 := HB6.out.step hk hD (by omega) (by omega); have HB7 := Lib.hid hB7; have HE7 := Lib.hid hE; clear hE hk hD HB6 hB7))
          have hB8 := HB7.out.grow ((Keep.refl [] w7).alloc (.cells #[.int .i64 (tn : Int), .int .i64 (vn : Int), .int .i64 (nn : Int), .int .i64 (tn : Int), .string (bs sn), .slice A7 (i - nn) c7] 33))
          have hE8 : EntsAt (w7.alloc (.cells #[.int .i64 (tn : Int), .int .i64 (vn : Int), .int .i64 (nn : Int), .int .i64 (tn : Int), .string (bs sn), .slice A7 (i - nn) c7] 33)) (.slice A7 (i - nn) c7) (L.drop nn) := HE7.out.keep_nil ((Keep.refl [] w7).alloc _)
          have hb8 : Blk (w7.alloc (.cells #[.int .i64 (tn : Int), .int .i64 (vn : Int), .int .i64 (nn : Int), .int .i64 (tn : Int), .string (bs sn), .slice A7 (i - nn) c7] 33)) w7.heap.size 33 #[.int .i64 (tn : Int), .int .i64 (vn : Int), .int .i64 (nn : Int), .int .i64 (tn : Int), .string (bs sn), .slice A7 (i - nn) c7] := Blk.new _ _ _
          generalize w7.alloc (.cells #[.int .i64 (tn : Int), .int .i64 (vn : Int), .int .i64 (nn : Int), .int .i64 (tn : Int), .string (bs sn), .slice A7 (i - nn) c7] 33) = W0 at *
          generalize w7.heap.size = r2 at *
          generalize w5.heap.size = r1 at *
          have hsz : (L.drop nn).length = i - nn := HLZ.out
          have HTA : Hid (∀ W A c, EntsAt W (.slice A (i - nn) c) (L.drop nn) → Calls Tryd.prog 20 #[.agg #[.int .i64 (tn : Int), .int .i64 (vn : Int), .int .i64 (nn : Int), .int .i64 (tn : Int), .string (bs sn), .slice A (i - nn) c]] W fun e w' => ∃ A c, e = .returned (.agg #[.int .i64 (tn : Int), .int .i64 (vn : Int), .int .i64 (nn : Int), .int .i64 (tn : Int), .string (bs sn), .slice A (i - nn) c]) ∧ EntsAt w' (.slice A (i - nn) c) (L.drop nn) ∧ Keep [] W w') := fun W A c h => by
            refine (told_calls ⟨tn, vn, nn, tn, sn, L.drop nn⟩ _ W h (by simp only [hsz]; omega)).mono fun e w' ⟨A', c', h1, h2, h3⟩ => ⟨A', c', ?_, ?_, h3⟩
            · rw [h1]; simp only [Ts.agg, hsz]
            · have := own_ents_g h2; simp only [hsz] at this; exact this
          have HSM : Hid (∀ W A c A' c', EntsAt W (.slice A (i - nn) c) (L.drop nn) → EntsAt W (.slice A' (i - nn) c') (L.drop nn) → Calls Tryd.prog 19 #[.agg #[.int .i64 (tn : Int), .int .i64 (vn : Int), .int .i64 (nn : Int), .int .i64 (tn : Int), .string (bs sn), .slice A (i - nn) c], .agg #[.int .i64 (tn : Int), .int .i64 (vn : Int), .int .i64 (nn : Int), .int .i64 (tn : Int), .string (bs sn), .slice A' (i - nn) c']] W fun e w' => e = .returned (.bool true) ∧ Keep [] W w') := fun W A c A' c' h h' => by
            refine (same_calls ⟨tn, vn, nn, tn, sn, L.drop nn⟩ ⟨tn, vn, nn, tn, sn, L.drop nn⟩ _ _ W h h' (by simp only [hsz]; omega) (by simp only [hsz]; omega)).mono fun e w' ⟨h1, h2⟩ => ⟨?_, h2⟩
            rw [h1, decide_eq_true rfl]
          have HS : Hid (∀ W, Keep [] W0 W → W.cell? ⟨r1, 0, none⟩ = some (.int .i64 (tn : Int)) ∧ W.cell? ⟨r1, 1, none⟩ = some (.int .i64 (vn : Int)) ∧ W.cell? ⟨r1, 2, none⟩ = some (.int .i64 (nn : Int)) ∧ W.cell? ⟨r1, 3, none⟩ = some (.int .i64 (tn : Int)) ∧ W.cell? ⟨r1, 4, none⟩ = some (.string (bs sn)) ∧ W.cell? ⟨r1, 5, none⟩ = some (.slice A3 (i - nn) c3) ∧ W.cell? ⟨r2, 0, none⟩ = some (.int .i64 (tn : Int)) ∧ W.cell? ⟨r2, 1, none⟩ = some (.int .i64 (vn : Int)) ∧ W.cell? ⟨r2, 2, none⟩ = some (.int .i64 (nn : Int)) ∧ W.cell? ⟨r2, 3, none⟩ = some (.int .i64 (tn : Int)) ∧ W.cell? ⟨r2, 4, none⟩ = some (.string (bs sn)) ∧ W.cell? ⟨r2, 5, none⟩ = some (.slice A7 (i - nn) c7)) := fun W hk => by
            have h1 := hB8.blk.keep hk (by simp)
            have h2 := hb8.keep hk (by simp)
            exact ⟨h1.cell 0, h1.cell 1, h1.cell 2, h1.cell 3, h1.cell 4, h1.cell 5, h2.cell 0, h2.cell 1, h2.cell 2, h2.cell 3, h2.cell 4, h2.cell 5⟩
          have HB8 := Lib.hid hB8
          have HE8 := Lib.hid hE8
          have hcs : ((i - nn : Nat) : Int) = (i : Int) - (nn : Int) := by omega
          have hwr : IntKind.i64.wrap ((i : Int) - (nn : Int)) = (i : Int) - (nn : Int) := IntWalk.i64_in _ (by omega)
          clear hB8 hE8 hb8 hsz HB7 HE7 HT4 HT5
          have tok3 : True := trivial
          go_upto_region 16 with fail
          go_cut [158] (fun s wx => s = .bool false ∧ BMid w wx b m D3 (.slice (some ⟨g2, 0, none⟩) i c2) L r1 (.slice A3 (i - nn) c3) nn tn vn sn)
          case first =>
            go_region_held3 (fun w' => w'.cell? ⟨r1, 0, none⟩ = some (.int .i64 (tn : Int)) ∧ w'.cell? ⟨r1, 1, none⟩ = some (.int .i64 (vn : Int)) ∧ w'.cell? ⟨r1, 2, none⟩ = some (.int .i64 (nn : Int)) ∧ w'.cell? ⟨r1, 3, none⟩ = some (.int .i64 (tn : Int)) ∧ w'.cell? ⟨r1, 4, none⟩ = some (.string (bs sn)) ∧ w'.cell? ⟨r1, 5, none⟩ = some (.slice A3 (i - nn) c3) ∧ w'.cell? ⟨r2, 0, none⟩ = some (.int .i64 (tn : Int)) ∧ w'.cell? ⟨r2, 1, none⟩ = some (.int .i64 (vn : Int)) ∧ w'.cell? ⟨r2, 2, none⟩ = some (.int .i64 (nn : Int)) ∧ w'.cell? ⟨r2, 3, none⟩ = some (.int .i64 (tn : Int)) ∧ w'.cell? ⟨r2, 4, none⟩ = some (.string (bs sn)) ∧ w'.cell? ⟨r2, 5, none⟩ = some (.slice A7 (i - nn) c7))
              (first
                | (exact HS.out _ (Keep.refl _ _))
                | (exact HS.out _ (Keep.refl _ _).drew)
                | (exact HS.out _ HK11.out)
                | (exact HS.out _ HK10.out)
                | (exact HS.out _ HK9.out)
                | go_keep)
              (first
                | (clear tok3; go_at_call 20; refine (HTA.out _ _ _ (HB8.out.ents.keep_nil (Keep.refl [] W0).drew)).mono ?_; rintro e w9 ⟨A9, c9, rfl, hE, hk⟩; have HE9 := Lib.hid hE; have HK9 : Hid (Keep [] W0 w9) := (Keep.refl [] W0).drew.trans hk; clear hE hk)
                | (go_at_call 20; refine (HTA.out _ _ _ (HE8.out.keep_nil HK9.out)).mono ?_; rintro e w10 ⟨A10, c10, rfl, hE, hk⟩; have HE10 := Lib.hid hE; have HE9' := Lib.hid (HE9.out.keep_nil hk); have HK10 := Lib.hid (HK9.out.trans hk); clear hE hk)
                | (go_at_call 19; refine (HSM.out _ _ _ _ _ HE9'.out HE10.out).mono ?_; rintro e w11 ⟨rfl, hk⟩; have HK11 := Lib.hid (HK10.out.trans hk); clear hk)
                | fail)
            all_goals
              go_wp2_with fail
              go_meet
              exact ⟨rfl, HB8.out.grow HK11.out⟩
          case rest =>
            obtain ⟨rfl, hB9⟩ := hcut
            have HB9 := Lib.hid hB9
            have x5 : wc.cell? ⟨r1, 5, none⟩ = some (.slice A3 (i - nn) c3) := hB9.blk.cell 5
            have hr1 := hB9.blk.lt
            clear hB9 HB8 HE8 HS HSM HTA
            go_wp2_with fail
            go_loopw [162] (fun x W => ∃ k : Nat, k ≤ i - nn ∧ x = .int .i64 (k : Int) ∧ Keep [] wc W) (fun x _ => (i - nn) - (intOf x).toNat)
            case atStart => exact ⟨0, Nat.zero_le _, rfl, Keep.refl _ _⟩
            case round =>
              obtain ⟨k, hkq, rfl, hk7⟩ := hrel
              by_cases hkl : k < i - nn
              · have d3 : decide ((k : Int) < (i : Int) - (nn : Int)) = true := by simp; omega
                have d4 : decide (k < i - nn) = true := by simpa using hkl
                have hp : nn + k < L.length := by rw [HLL.out]; omega
                have hq : k < (L.drop nn).length := by rw [HLZ.out]; exact hkl
                have h3 : (L.drop nn)[k] = L[nn + k] := by rw [List.getElem_drop]
                obtain ⟨k0, k1, k2⟩ := entsV_at (L.drop nn) k hq
                obtain ⟨m0, m1, m2⟩ := entsV_at L (nn + k) hp
                obtain ⟨AL, cL, hvL, hcL⟩ := HB9.out.mid.ents
                injection hvL with hAL hz1 hz2
                clear hz1 hz2
                subst hAL
                obtain ⟨gL, oL, hAL, hcL2⟩ := hcL (by intro h; rw [h] at hp; simp at hp)
                injection hAL with hAL
                injection hAL with e1 e2
                subst e1 e2
                obtain ⟨AP, cP, hvP, hcP⟩ := HB9.out.ents
                injection hvP with hAP hz1 hz2
                clear hz1 hz2
                subst hAP
                obtain ⟨gP, oP, rfl, hcP2⟩ := hcP (by intro h; rw [h] at hq; simp at hq)
                rw [h3] at k0 k1 k2
                generalize L[nn + k] = ee at *
                obtain ⟨ei, et, ec⟩ := ee
                simp only at k0 k1 k2 m0 m1 m2
                have q0 := hcL2 _ _ m0
                have q1 := hcL2 _ _ m1
                have q2 := hcL2 _ _ m2
                have o0 := hcP2 _ _ k0
                have o1 := hcP2 _ _ k1
                have o2 := hcP2 _ _ k2
                have x0 := (hk7.cell (World.block_lt_of_cell? _ _ o0) (by simp)).trans o0
                have x1 := (hk7.cell (World.block_lt_of_cell? _ _ o1) (by simp)).trans o1
                have x2 := (hk7.cell (World.block_lt_of_cell? _ _ o2) (by simp)).trans o2
                have y0 := (hk7.cell (World.block_lt_of_cell? _ _ q0) (by simp)).trans q0
                have y1 := (hk7.cell (World.block_lt_of_cell? _ _ q1) (by simp)).trans q1
                have y2 := (hk7.cell (World.block_lt_of_cell? _ _ q2) (by simp)).trans q2
                have yl := World.block_lt_of_cell? _ _ y0
                simp only at yl
                obtain ⟨p, hpp⟩ : ∃ p, p = nn + k := ⟨_, rfl⟩
                have hs2 : IntKind.i64.wrap ((nn : Int) + (k : Int)) = (p : Int) := by rw [IntWalk.i64_in _ (by omega)]; omega
                have hpl : p < i := by have := HLL.out; omega
                rw [← hpp, Nat.zero_add, Nat.mul_comm] at y0 y1 y2
                rw [Nat.mul_comm] at x0 x1 x2
                rw [← Nat.add_assoc] at x1 x2
                have HK7 := Lib.hid hk7
                clear k0 k1 k2 m0 m1 m2 q0 q1 q2 o0 o1 o2 hk7 hcL hcL2 hcP hcP2 h3 hp hq
                have Hpp := Lib.hid hpp
                clear hpp
                go_wp2_with fail
                go_quiet (fail)
                go_wp2
                go_roundw
                case rel => exact ⟨k + 1, by omega, by go_num, (HK7.out.alloc _).drewN _⟩
                case measure => simp [intOf]; omega
              · obtain rfl : k = i - nn := by omega
                have HK7 := Lib.hid hk7
                clear hk7
                go_wp2
                go_ret
                exact ⟨rfl, HB9.out.mid.keep.trans HK7.out⟩
end Go.Proofs.YtpcbhechfbibbaaDoor
