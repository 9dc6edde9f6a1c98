/- The walk of glacierlaw09.TermParts. -/
import Derived.Test.YtpcbhechfbibbaaDoorPens
import Derived.Test.YtpcbhechfbibbaaDoorArrsAt
import Derived.Deep.DeepCutAuto
namespace Go.Proofs.YtpcbhechfbibbaaDoor
open Go.RowKit
attribute [local go_sem] size_bs bs_append bs_extract ba_self

theorem own_some {w : World} {B : Nat} {e : TypeId} {size n : Nat} {v : Value} {xs : List Value} (h : w.ownsRow B e size v n xs) (hn : n ≠ 0) : ∃ g c, v = .slice (some ⟨g, 0, none⟩) n c := by
  rcases h.2 with ⟨_, h0⟩ | ⟨g, cap, cur, rfl, _⟩
  · exact absurd h0 hn
  · exact ⟨g, cap, rfl⟩

/-- append of one entry to a row of the call's own, inside a region that draws its order. -/
theorem step_append_ent {ops : Array Oper} {o : Oper} {a : Act} {K : Act → World → Prop} {Q : Exit → Act → World → Prop} {E : Prop} {w0 wr : World} {v : Value} {acc : List En} {ix it : Int} (e : En)
    (hgd : o.guard = none) (s x : Operand) (ho : o.op = .call { callee := .builtin .append, args := #[s, x], argTypes := #[26, 26] })
    (hs : a.eval s = v) (hx : a.eval x = .slice (some ⟨wr.heap.size, 0, none⟩) 1 1) (hE : wr.ownsRow w0.heap.size 29 3 v acc.length (entsV acc)) (hk : Keep [] w0 wr) (hn : acc.length ≤ 1099511627776) (hix : ix = (e.index : Int)) (hit : it = (e.term : Int))
    (h : ∀ g cap w', w'.ownsRow w0.heap.size 29 3 (.slice (some ⟨g, 0, none⟩) (acc ++ [e]).length cap) (acc ++ [e]).length (entsV (acc ++ [e])) → Keep [] w0 w' → K (a.put o.dst (.slice (some ⟨g, 0, none⟩) (acc ++ [e]).length cap)) w') :
    if Region.wanted o (yielded ops a.tmps) = true then Oper.wp Tryd.prog o a (wr.alloc (.cells #[.int .i64 ix, .int .i64 it, .string (bs e.cmd)] 29)).drew K Q else E := by
  subst hix hit
  obtain ⟨i0, hi, hz0, hz1, hz2⟩ := info_parts Tryd.info29
  have hsz := hk.size
  refine step_append_lies _ hgd s x 26 ho w0.heap.size 29 i0 _ 3 32 Tryd.underlying26 hi hz0 hz1 hz2 rfl (by omega) v _ _ hs ((hE.alloc (.cells #[.int .i64 (e.index : Int), .int .i64 (e.term : Int), .string (bs e.cmd)] 29)).drew) ⟨wr.heap.size, 0, none⟩ 1 1 e.cells hx (by simp [En.cells]) (World.news_of_block (cs := #[.int .i64 (e.index : Int), .int .i64 (e.term : Int), .string (bs e.cmd)]) (t := 29) (fr := (0, 0)) (heap_alloc_new wr _)) (by simp [En.cells, Value.oneCell']) (by omega) (by unfold maxLen; omega) (by omega) (by simp; omega) _ rfl ?_
  intro g cap w1 hown1 hgrow _ _
  have e1 : entsV (acc ++ [e]) = entsV acc ++ e.cells := by simp [entsV]
  have e2 : (acc ++ [e]).length = acc.length + 1 := by simp
  have := h g cap w1
  rw [e1, e2] at this
  exact this hown1 (((hk.alloc _).drew).grown hgrow (fun k hk' => .inr (hE.lt k hk').1))

def PRel (cs : List (List UInt8)) (ts : List Int) (w2 : World) (v a : Value) (wr : World) : Prop :=
  ∃ i g c, i ≤ cs.length ∧ i ≤ ts.length ∧ i ≤ 10 ∧ a = .int .i64 (i : Int) ∧ v = .slice (some ⟨g, 0, none⟩) i c ∧ wr.ownsRow w2.heap.size 29 3 v i (entsV (ensF (pen cs ts) i)) ∧ Keep [] w2 wr

theorem EntsAt.head {w : World} {g c i n c' : Nat} {l : List En} (h : EntsAt w (.slice (some ⟨g, 0, none⟩) i c) l) (hn : n ≤ l.length) : EntsAt w (.slice (some ⟨g, 0, none⟩) n c') (l.take n) := by
  obtain ⟨A, cc, hv, h2⟩ := h
  have hl : (l.take n).length = n := by rw [List.length_take]; omega
  refine ⟨some ⟨g, 0, none⟩, c', by rw [hl], fun hne => ?_⟩
  obtain ⟨g', o', hA, h3⟩ := h2 (fun h => hne (by simp [h]))
  injection hv with e1 _ _
  rw [hA] at e1
  injection e1 with e1
  injection e1 with e1 e2
  subst e1 e2
  have := EntsAt.sub (c := c') (i := 0) (n := n) h3 (by omega)
  simp only [Nat.zero_mul, Nat.add_zero, List.drop_zero] at this
  obtain ⟨A2, c2, hv2, h4⟩ := this
  obtain ⟨g2, o2, hA2, h5⟩ := h4 hne
  injection hv2 with e1 _ _
  rw [hA2] at e1
  injection e1 with e1
  injection e1 with e1 e2
  subst e1 e2
  exact ⟨_, _, rfl, h5⟩
theorem EntsAt.rest {w : World} {g c i n c' : Nat} {A : Option Addr} {l : List En} (h : EntsAt w (.slice (some ⟨g, 0, none⟩) i c) l) (hn : n ≤ l.length) (hA : n < l.length → A = some ⟨g, n * 3, none⟩) : EntsAt w (.slice A (l.length - n) c') (l.drop n) := by
  obtain ⟨A0, cc, hv, h2⟩ := h
  refine ⟨A, c', by rw [List.length_drop], fun hne => ?_⟩
  have hlt : n < l.length := by
    have := List.length_pos_iff.2 hne
    rw [List.length_drop] at this
    omega
  obtain ⟨g', o', hA', h3⟩ := h2 (fun h => hne (by simp [h]))
  injection hv with e1 _ _
  rw [hA'] at e1
  injection e1 with e1
  injection e1 with e1 e2
  subst e1 e2
  have := EntsAt.sub (c := c') (i := n) (n := l.length - n) h3 (by omega)
  rw [List.take_of_length_le (by rw [List.length_drop]; omega)] at this
  obtain ⟨A2, c2, hv2, h4⟩ := this
  obtain ⟨g2, o2, hA2, h5⟩ := h4 hne
  injection hv2 with e1 _ _
  rw [hA2] at e1
  injection e1 with e1
  injection e1 with e1 e2
  subst e1 e2
  exact ⟨_, _, by rw [hA hlt, Nat.zero_add], h5⟩
/-- The state that TermParts loads. -/
def pst (l : List En) : Ts := ⟨0, 0, 0, 0, [], l⟩
theorem pst_from (l : List En) (a most : Nat) (ha : 1 ≤ a) (ha2 : a ≤ l.length + 1) : (pst l).from_ a most = (l.drop (a - 1)).take most := by
  have h : (pst l).at a = some (a - 1) := by
    unfold Ts.at pst
    simp only
    rw [if_neg (by omega), if_neg (by omega)]
    simp
  unfold Ts.from_
  rw [h]
  rfl
theorem pst_termAt (l : List En) (a : Nat) (ha : 1 ≤ a) (ha2 : a ≤ l.length) : (pst l).termAt a = some (l[a - 1]'(by omega)).term := by
  have h : (pst l).at a = some (a - 1) := by
    unfold Ts.at pst
    simp only
    rw [if_neg (by omega), if_neg (by omega)]
    simp
  unfold Ts.termAt
  rw [h, if_neg (by unfold pst; simp only; omega)]
  simp [pst, List.getElem?_eq_getElem (show a - 1 < l.length by omega)]
def PaRel (i : Nat) (W0 : World) (x y : Value) (wr : World) : Prop :=
  ∃ a t : Nat, 1 ≤ a ∧ a ≤ i + 1 ∧ t < a ∧ x = .int .i64 (a : Int) ∧ y = .int .i64 (t : Int) ∧ Keep [] W0 wr

/-- TermParts behind its two calls of Append. -/
structure PMid (w W : World) (b m : Nat) (D : Dk) (v : Value) (L : List En) : Prop where
  disk : DiskAt W b m D
  ents : EntsAt W v L
  tab : Tab W
  keep : Keep [] w W

set_option maxRecDepth 100000 in
set_option maxHeartbeats 2000000 in
theorem termParts_calls (w : World) (hT : Tab w) (v : Value) (cs : List (List UInt8)) (hv : StrsAt w v cs) (vt : Value) (ts : List Int) (hvt : IntsAt w vt ts) (n : Int) (hn1 : -9223372036854775808 ≤ n) (hn2 : n ≤ 9223372036854775807) (most : Int) (hm1 : -9223372036854775808 ≤ most) (hm2 : most ≤ 9223372036854775807) :
    Calls Tryd.prog 5 #[v, vt, .int .i64 n, .int .i64 most] w fun e w' => e = .returned (.bool true) ∧ Keep [] w w' := by
  obtain ⟨A, c, rfl, hcs⟩ := hv
  obtain ⟨At, ct, rfl, hts⟩ := hvt
  have HCS := Lib.hid hcs
  have HTS := Lib.hid hts
  have HT := Lib.hid hT
  clear hT hcs hts
  go_enter Tryd.func5, Tryd.ntmps5
  go_wp2_with (first
    | (go_at_call 8; refine (new_calls 100000 (by decide) w).mono ?_; rintro e w1 ⟨b, m, rfl, hb, hm, hD1, hk1⟩; have HD1 : Hid (DiskAt w1 b m (Dk.start 100000)) := hD1; have HK1 := Lib.hid hk1; have hblt := hD1.blk.lt; have hmlt := hD1.map.lt; clear hD1 hk1)
    | (go_at_call 9; refine (awake_calls w1 (HT.out.keep HK1.out (by simp))).mono ?_; rintro e w2 ⟨rfl, hk2⟩; have HK2 := Lib.hid hk2; clear hk2))
  go_loopw [10, 11] (fun v a wr => PRel cs ts w2 v a wr) (fun _ a _ => 10 - (intOf a).toNat)
  case atStart => exact ⟨0, _, _, Nat.zero_le _, Nat.zero_le _, Nat.zero_le _, rfl, rfl, ⟨by simp [ensF, entsV], .inr ⟨w2.heap.size, 0, #[], rfl, Nat.le_refl _, heap_alloc_new _ _, Nat.le_refl _, Nat.zero_le _, rfl, by simp [ensF, entsV]⟩⟩, (Keep.refl _ _).alloc _⟩
  case round =>
    obtain ⟨i, g2, c2, hi1, hi2, hi3, rfl, rfl, hown, hkeep⟩ := hrel
    have HOWN := Lib.hid hown
    have HK := Lib.hid hkeep
    clear hown hkeep
    have HKW : Hid (Keep [] w wr) := (HK1.out.trans HK2.out).trans HK.out
    by_cases h : i < cs.length ∧ i < ts.length ∧ i < 10
    · obtain ⟨h1, h2, h3⟩ := h
      have d1 : decide ((i : Int) < (cs.length : Int)) = true := by simpa using h1
      have d2 : decide ((i : Int) < (ts.length : Int)) = true := by simpa using h2
      have d3 : decide ((i : Int) < 10) = true := by simp; omega
      obtain ⟨g, o, rfl, hc⟩ := HCS.out (by intro h0; subst h0; simp at h1)
      obtain ⟨gt, ot, rfl, hct⟩ := HTS.out (by intro h0; subst h0; simp at h2)
      have c0 := hc i h1
      have c1 := hct i h2
      have cx : wr.cell? ⟨g, o + i, none⟩ = some (.string (bs cs[i])) := (HKW.out.cell (World.block_lt_of_cell? _ _ c0) (by simp)).trans c0
      have ct1 : wr.cell? ⟨gt, ot + i, none⟩ = some (.int .i64 ts[i]) := (HKW.out.cell (World.block_lt_of_cell? _ _ c1) (by simp)).trans c1
      have hpe : pen cs ts i = ⟨i + 1, (min (max ts[i] 0) 100).toNat, (cs[i]).take 20⟩ := by simp [pen, List.getD, h1, h2]
      have HO : Hid (ensF (pen cs ts) (i + 1) = ensF (pen cs ts) i ++ [⟨i + 1, (min (max ts[i] 0) 100).toNat, (cs[i]).take 20⟩]) := by
        show ensF (pen cs ts) (i + 1) = _
        rw [ensF_succ, hpe]
      have Hc0 := Lib.hid c0
      have Hc1 := Lib.hid c1
      clear hc c0 hct c1 hpe cx ct1
      generalize cs[i] = x at *
      generalize ts[i] = tt at *
      obtain ⟨tn, htn⟩ : ∃ tn : Nat, min (max tt 0) 100 = (tn : Int) := ⟨(min (max tt 0) 100).toNat, by omega⟩
      have htz : (min (max tt 0) 100).toNat = tn := by omega
      rw [htz] at HO
      have hwr : IntKind.i64.wrap ((i : Int) + 1) = (i : Int) + 1 := IntWalk.i64_in _ (by omega)
      have HS : Hid (∀ W : World, Keep [] w2 W → W.cell? ⟨gt, ot + i, none⟩ = some (.int .i64 tt) ∧ W.cell? ⟨g, o + i, none⟩ = some (.string (bs x))) := fun W h => by
        have hk : Keep [] w W := (HK1.out.trans HK2.out).trans h
        exact ⟨(hk.cell (World.block_lt_of_cell? _ _ Hc1.out) (by simp)).trans Hc1.out, (hk.cell (World.block_lt_of_cell? _ _ Hc0.out) (by simp)).trans Hc0.out⟩
      have hwr : IntKind.i64.wrap ((i : Int) + 1) = (i : Int) + 1 := IntWalk.i64_in _ (by omega)
      have HOWN' : Hid (wr.ownsRow w2.heap.size 29 3 (.slice (some ⟨g2, 0, none⟩) i c2) (ensF (pen cs ts) i).length (entsV (ensF (pen cs ts) i))) := by
        show World.ownsRow _ _ _ _ _ _ _
        rw [ensF_len]
        exact HOWN.out
      have hlen' : (ensF (pen cs ts) i).length ≤ 1099511627776 := by rw [ensF_len]; omega
      go_upto_region 8 with fail
      go_region_held3 (fun w' => w'.cell? ⟨gt, ot + i, none⟩ = some (.int .i64 tt) ∧ w'.cell? ⟨g, o + i, none⟩ = some (.string (bs x)))
        (first
          | (exact HS.out _ HK.out)
          | (exact HS.out _ HK.out.drew)
          | (exact HS.out _ (HK.out.alloc _))
          | (exact HS.out _ (HK.out.alloc _).drew)
          | (exact HS.out _ HK4.out)
          | go_keep)
        (first
          | (go_at_call 10; refine (cut_calls x 20 _).mono ?_; rintro e w3 ⟨rfl, rfl⟩)
          | (refine step_append_ent (w0 := w2) (wr := wr) (v := .slice (some ⟨g2, 0, none⟩) i c2) (acc := ensF (pen cs ts) i) ⟨i + 1, tn, x.take 20⟩ (by rfl) (.tmp 45) (.tmp 60) (by rfl) (by rfl) (by rfl) HOWN'.out HK.out hlen' (Int.natCast_succ i).symm (by rfl) ?_; intro g4 c3 w4 hown4 hk4; have HOWN4 := Lib.hid hown4; have HK4 := Lib.hid hk4; clear hown4 hk4)
          | fail)
      all_goals
        rw [← HO.out] at HOWN4
        go_wp2
        go_roundw
        case rel => exact ⟨i + 1, g4, c3, by omega, by omega, by omega, by go_num, rfl, by simpa using HOWN4.out, HK4.out⟩
        case measure => simp [intOf]; omega
    · go_upto_region 6 with fail
      go_cut [42] from 29 to 61 (fun s wx => s = .bool false ∧ wx = wr)
      case first =>
        by_cases h1 : i < cs.length
        · have d1 : decide ((i : Int) < (cs.length : Int)) = true := by simpa using h1
          by_cases h2 : i < ts.length
          · have d2 : decide ((i : Int) < (ts.length : Int)) = true := by simpa using h2
            have d3 : decide ((i : Int) < 10) = false := by simp; omega
            go_wp2_with fail
            go_meet
            exact ⟨rfl, rfl⟩
          · have d2 : decide ((i : Int) < (ts.length : Int)) = false := by simpa using h2
            go_wp2_with fail
            go_meet
            exact ⟨rfl, rfl⟩
        · have d1 : decide ((i : Int) < (cs.length : Int)) = false := by simpa using h1
          go_wp2_with fail
          go_meet
          exact ⟨rfl, rfl⟩
      case rest =>
        obtain ⟨rfl, rfl⟩ := hcut
        obtain ⟨nn, hnn⟩ : ∃ nn : Nat, min (max n 0) (i : Int) = (nn : Int) := ⟨(min (max n 0) (i : Int)).toNat, by omega⟩
        obtain ⟨mm, hmm⟩ : ∃ mm : Nat, min (max most 1) 20 = (mm : Int) := ⟨(min (max most 1) 20).toNat, by omega⟩
        have hni : nn ≤ i := by omega
        have hcap : i ≤ c2 := own_room HOWN.out _ _ _ rfl
        have hent := own_ents (l := ensF (pen cs ts) i) (by rw [ensF_len]; exact HOWN.out)
        have hfit := pens_fit cs ts hi3
        obtain ⟨D1, D2, p1, p2, p3, gd1, gd2⟩ := parts_plain cs ts i nn hi3 hni
        have hDr : DiskAt wc b m (Dk.start 100000) := (HD1.out.keep HK2.out (by simp) (by simp)).keep HK.out (by simp) (by simp)
        have hTr : Tab wc := HT.out.keep HKW.out (by simp)
        have hll : (ensF (pen cs ts) i).length = i := ensF_len _ _
        generalize ensF (pen cs ts) i = L at *
        have T1 : Calls Tryd.prog 14 #[.pointer (some ⟨b, 0, none⟩), .slice (some ⟨g2, 0, none⟩) nn c2] wc fun e w' => e = .returned (.int .i64 0) ∧ DiskAt w' b m D1 ∧ Keep [b, m] wc w' := by
          have := appendLog_calls hDr (calm_start 100000 (by decide)).good hTr (L.take nn) (.slice (some ⟨g2, 0, none⟩) nn c2) (hent.head (by omega)) ⟨by rw [List.length_take]; omega, fun e he => (hfit e (List.mem_of_mem_take he)).1.ok⟩
          rw [p1] at this
          exact this
        have T2 : ∀ (W : World) (v : Value), DiskAt W b m D1 → Tab W → EntsAt W v (L.drop nn) → Calls Tryd.prog 14 #[.pointer (some ⟨b, 0, none⟩), v] W fun e w' => e = .returned (.int .i64 0) ∧ DiskAt w' b m D2 ∧ Keep [b, m] W w' := fun W v h hT hv => by
          have := appendLog_calls h gd1 hT (L.drop nn) v hv ⟨by rw [List.length_drop]; omega, fun e he => (hfit e (List.mem_of_mem_drop he)).1.ok⟩
          rw [p2] at this
          exact this
        have T3 : ∀ (W : World), DiskAt W b m D2 → Tab W → Calls Tryd.prog 12 #[.pointer (some ⟨b, 0, none⟩)] W fun e w' => ∃ A3 c3, e = .returned (.tuple #[.agg #[.int .i64 0, .int .i64 0, .int .i64 0, .int .i64 0, .string { data := #[] }, .slice A3 i c3], .int .i64 0]) ∧ (EntsAt w' (.slice A3 i c3) L ∧ i ≤ c3) ∧ Keep [b, m] W w' := fun W h hT => by
          have := load_calls h gd2 hT
          unfold LoadPost at this
          rw [p3] at this
          refine this.mono fun e w' ⟨lg, h1, h2, h3, h4⟩ => ?_
          obtain ⟨A3, c3, rfl⟩ := own_slice h2
          simp only at h2
          have h2' := own_ents h2
          have h5 := own_room h2 _ _ _ rfl
          rw [hll] at h1 h2' h5
          exact ⟨A3, c3, h1, ⟨h2', h5⟩, h4⟩
        have HT1 := Lib.hid T1
        have HT2 := Lib.hid T2
        have HT3 := Lib.hid T3
        have HDR := Lib.hid hDr
        have HTR := Lib.hid hTr
        have HENT := Lib.hid hent
        have HLL := Lib.hid hll
        have hbw : b < w2.heap.size := by have := HK2.out.size; omega
        have hmw : m < w2.heap.size := by have := HK2.out.size; omega
        have hw0 : w.heap.size ≤ wc.heap.size := HKW.out.size
        clear T1 T2 T3 p1 p2 p3 gd1 gd2 hDr hTr hent hll hfit
        go_upto_region 11 with fail
        go_cut [83] (fun s wx => s = .bool false ∧ PMid w wx b m D2 (.slice (some ⟨g2, 0, none⟩) i c2) L)
        case first =>
          by_cases hcn : c2 = nn
          · obtain rfl : i = nn := by omega
            subst hcn
            go_wp2_with (first
              | (go_at_call 14; refine HT1.out.mono ?_; rintro e w4 ⟨rfl, hD, hk⟩; have HD4 := Lib.hid hD; have HE4 := Lib.hid (HENT.out.disk HDR.out hk); have HT4 := Lib.hid (HTR.out.disk HDR.out hk); have HK4 := Lib.hid (HKW.out.trans' hk (by simp; omega)); clear hD hk HT1))
            go_wp2_with (first
              | (go_at_call 14; refine (HT2.out _ _ HD4.out HT4.out (by have := HE4.out.rest (c' := 0) (A := some ⟨g2, 0, none⟩) (n := c2) (by have := HLL.out; omega) (by have := HLL.out; omega); rw [HLL.out] at this; simpa using this)).mono ?_; rintro e w5 ⟨rfl, hD, hk⟩; have HM : Hid (PMid w w5 b m D2 _ L) := ⟨hD, HE4.out.disk HD4.out hk, HT4.out.disk HD4.out hk, HK4.out.trans' hk (by simp; omega)⟩; clear hD hk))
            go_meet
            exact ⟨rfl, HM.out⟩
          · go_wp2_with (first
              | (go_at_call 14; refine HT1.out.mono ?_; rintro e w4 ⟨rfl, hD, hk⟩; have HD4 := Lib.hid hD; have HE4 := Lib.hid (HENT.out.disk HDR.out hk); have HT4 := Lib.hid (HTR.out.disk HDR.out hk); have HK4 := Lib.hid (HKW.out.trans' hk (by simp; omega)); clear hD hk HT1))
            go_wp2_with (first
              | (go_at_call 14; refine (HT2.out _ _ HD4.out HT4.out (by have := HE4.out.rest (c' := c2 - nn) (A := some ⟨g2, nn * 3, none⟩) (n := nn) (by have := HLL.out; omega) (fun _ => rfl); rw [HLL.out] at this; exact this)).mono ?_; rintro e w5 ⟨rfl, hD, hk⟩; have HM : Hid (PMid w w5 b m D2 _ L) := ⟨hD, HE4.out.disk HD4.out hk, HT4.out.disk HD4.out hk, HK4.out.trans' hk (by simp; omega)⟩; clear hD hk))
            go_meet
            exact ⟨rfl, HM.out⟩
        case rest =>
          obtain ⟨rfl, hM⟩ := hcut
          have HM := Lib.hid hM
          clear hM HK HKW HOWN HT1 HT2 HDR HTR HENT hw0 HD1 HK1 HK2 HCS HTS
          go_wp2_with (go_at_call 12; refine (HT3.out _ HM.out.disk HM.out.tab).mono ?_; rintro e w5 ⟨A3, c3, rfl, hE, hk⟩; have HE := Lib.hid hE; have HL5 := Lib.hid (HM.out.ents.disk HM.out.disk hk); have HK5 := Lib.hid (HM.out.keep.trans' hk (by simp; omega)); clear hE hk HM HT3)
          have hS0 : StAt (w5.alloc (.cells #[.int .i64 0, .int .i64 0, .int .i64 0, .int .i64 0, .string { data := #[] }, .slice A3 i c3] 33)) w5.heap.size (pst L) (.slice A3 i c3) :=
            ⟨Blk.new _ _ _, HE.out.1.keep_nil ((Keep.refl [] _).alloc _), by intro A n c h; injection h with _ h2 h3; have := HE.out.2; omega⟩
          have hL0 : EntsAt (w5.alloc (.cells #[.int .i64 0, .int .i64 0, .int .i64 0, .int .i64 0, .string { data := #[] }, .slice A3 i c3] 33)) (.slice (some ⟨g2, 0, none⟩) i c2) L := HL5.out.keep_nil ((Keep.refl [] _).alloc _)
          have hK0 : Keep [] w (w5.alloc (.cells #[.int .i64 0, .int .i64 0, .int .i64 0, .int .i64 0, .string { data := #[] }, .slice A3 i c3] 33)) := HK5.out.alloc _
          generalize w5.alloc (.cells #[.int .i64 0, .int .i64 0, .int .i64 0, .int .i64 0, .string { data := #[] }, .slice A3 i c3] 33) = W0 at *
          generalize w5.heap.size = r at *
          have HS0 := Lib.hid hS0
          have HL0 := Lib.hid hL0
          have HK0 := Lib.hid hK0
          clear hS0 hL0 hK0 HE HL5 HK5
          have hmm1 : 1 ≤ mm := by omega
          have hmm2 : mm ≤ 20 := by omega
          go_loopw [14, 15] (fun x y wr => PaRel i W0 x y wr) (fun _ y _ => 20 - (intOf y).toNat)
          case atStart => exact ⟨1, 0, Nat.le_refl _, by omega, by omega, rfl, rfl, Keep.refl _ _⟩
          case round =>
            obtain ⟨a, t, ha1, ha2, hta, rfl, rfl, hk⟩ := hrel
            have HKr := Lib.hid hk
            clear hk
            have d1 : decide ((t : Int) < 20) = true := by simp; omega
            have HF : Hid (∀ W : World, Keep [] W0 W → Calls Tryd.prog 16 #[.pointer (some ⟨r, 0, none⟩), .int .i64 (a : Int), .int .i64 (mm : Int)] W fun e w' => ∃ A c, e = .returned (.slice A ((L.drop (a - 1)).take mm).length c) ∧ EntsAt w' (.slice A ((L.drop (a - 1)).take mm).length c) ((L.drop (a - 1)).take mm) ∧ Keep [] W w') := fun W hW => by
              have := fromLog_calls (pst L) _ (HS0.out.keep hW) a mm (by omega) (by omega) (by simp [pst]) (by show L.length ≤ _; rw [HLL.out]; omega)
              rw [pst_from L a mm ha1 (by rw [HLL.out]; omega)] at this
              refine this.mono fun e w' ⟨A, c, h1, h2, h3⟩ => ⟨A, c, h1, own_ents h2, h3⟩
            by_cases hle : a ≤ i
            · have d2 : decide ((a : Int) ≤ (i : Int)) = true := by simp; omega
              have hP : ((L.drop (a - 1)).take mm).length = min mm (i - (a - 1)) := by rw [List.length_take, List.length_drop, HLL.out]
              have hPk : ∀ k, k < ((L.drop (a - 1)).take mm).length → ((L.drop (a - 1)).take mm)[k]? = L[a - 1 + k]? := fun k h => by
                rw [List.length_take] at h
                rw [List.getElem?_take, if_pos (by omega), List.getElem?_drop]
              generalize (L.drop (a - 1)).take mm = P at *
              have hq1 : 1 ≤ P.length := by omega
              have hq2 : a + P.length ≤ i + 1 := by omega
              have hne : P ≠ [] := List.length_pos_iff.1 hq1
              have dq : ((P.length : Int) == 0) = false := by simp; omega
              have HPK := Lib.hid hPk
              clear hP hPk
              go_wp2_with (go_at_call 16; refine (HF.out _ HKr.out).mono ?_; rintro e w6 ⟨A, cp, rfl, hE, hk⟩; obtain ⟨A', c', hv, hcc⟩ := hE; injection hv with hA hz1 hz2; clear hz1 hz2; subst hA; obtain ⟨gp, op, rfl, hcc2⟩ := hcc hne; clear hcc; have HCC := Lib.hid hcc2; clear hcc2; have HK6 := Lib.hid (HKr.out.trans hk); have HK6' := Lib.hid hk; clear hk)
              go_loopw [117] (fun x W => ∃ k : Nat, k ≤ P.length ∧ x = .int .i64 (k : Int) ∧ Keep [] w6 W) (fun x _ => P.length - (intOf x).toNat)
              case atStart => exact ⟨0, Nat.zero_le _, rfl, Keep.refl _ _⟩
              case round =>
                obtain ⟨k, hkq, rfl, hk7⟩ := hrel
                by_cases hkl : k < P.length
                · have d3 : decide ((k : Int) < (P.length : Int)) = true := by simp; omega
                  have hp : a - 1 + k < L.length := by rw [HLL.out]; omega
                  have h3 : P[k] = L[a - 1 + k] := by
                    have := HPK.out k hkl
                    rw [List.getElem?_eq_getElem hkl, List.getElem?_eq_getElem hp] at this
                    exact Option.some.inj this
                  obtain ⟨k0, k1, k2⟩ := entsV_at P k hkl
                  obtain ⟨m0, m1, m2⟩ := entsV_at L (a - 1 + k) hp
                  have hT0 := pst_termAt L (a + k) (by omega) (by rw [HLL.out]; omega)
                  have hak : a + k - 1 = a - 1 + k := by omega
                  simp only [hak] at hT0
                  have HTA : Hid (∀ W : World, Keep [] W0 W → Calls Tryd.prog 17 #[.pointer (some ⟨r, 0, none⟩), .int .i64 ((a : Int) + (k : Int))] W fun e w' => e = .returned (.tuple #[.int .i64 (L[a - 1 + k].term : Int), .bool true]) ∧ ∃ n, w' = W.drewN n) := fun W hW => by
                    have := termAt_calls (pst L) _ (HS0.out.keep hW) (a + k) (by omega) (by simp [pst])
                    rw [hT0] at this
                    simpa using this
                  obtain ⟨AL, cL, hvL, hcL⟩ := HL0.out
                  injection hvL with hAL hz1 hz2
                  clear hz1 hz2
                  subst hAL
                  obtain ⟨gL, oL, hAL, hcL⟩ := hcL (by intro h; rw [h] at hp; simp at hp)
                  injection hAL with hAL
                  injection hAL with e1 e2
                  subst e1 e2
                  rw [h3] at k0 k1 k2
                  generalize L[a - 1 + k] = ee at *
                  obtain ⟨ei, et, ec⟩ := ee
                  simp only at k0 k1 k2 m0 m1 m2 HTA
                  have q0 := hcL _ _ m0
                  have q1 := hcL _ _ m1
                  have q2 := hcL _ _ m2
                  have o0 := HCC.out _ _ k0
                  have o1 := HCC.out _ _ k1
                  have o2 := HCC.out _ _ k2
                  have hkW := HK6.out.trans hk7
                  have x0 := (hk7.cell (World.block_lt_of_cell? _ _ o0) (by simp)).trans o0
                  have x1 := (hk7.cell (World.block_lt_of_cell? _ _ o1) (by simp)).trans o1
                  have x2 := (hk7.cell (World.block_lt_of_cell? _ _ o2) (by simp)).trans o2
                  have y0 := (hkW.cell (World.block_lt_of_cell? _ _ q0) (by simp)).trans q0
                  have y1 := (hkW.cell (World.block_lt_of_cell? _ _ q1) (by simp)).trans q1
                  have y2 := (hkW.cell (World.block_lt_of_cell? _ _ q2) (by simp)).trans q2
                  have yl := World.block_lt_of_cell? _ _ y0
                  simp only at yl
                  obtain ⟨p, hpp⟩ : ∃ p, p = a - 1 + k := ⟨_, rfl⟩
                  have hs1 : IntKind.i64.wrap ((a : Int) + (k : Int)) = (a : Int) + (k : Int) := IntWalk.i64_in _ (by omega)
                  have hs2 : IntKind.i64.wrap ((a : Int) + (k : Int) - 1) = (p : Int) := by rw [IntWalk.i64_in _ (by omega)]; omega
                  have hpl : p < i := by have := HLL.out; omega
                  rw [← hpp, Nat.zero_add, Nat.mul_comm] at y0 y1 y2
                  rw [Nat.mul_comm] at x0 x1 x2
                  rw [← Nat.add_assoc] at x1 x2
                  have HK7 := Lib.hid hkW
                  have HK7' := Lib.hid hk7
                  clear k0 k1 k2 m0 m1 m2 q0 q1 q2 o0 o1 o2 hk7 hkW hcL hT0 hak h3 hp
                  have Hpp := Lib.hid hpp
                  clear hpp
                  go_wp2_with (go_at_call 17; refine (HTA.out _ (HK7.out.alloc _)).mono ?_; rintro e w8 ⟨rfl, n8, rfl⟩)
                  go_quiet (fail)
                  go_wp2
                  go_roundw
                  case rel => exact ⟨k + 1, by omega, by go_num, (HK7'.out.alloc _).drewN _⟩
                  case measure => simp [intOf]; omega
                · obtain rfl : k = P.length := by omega
                  have HK7 := Lib.hid hk7
                  clear hk7
                  have d3 : decide ((P.length : Int) < (P.length : Int)) = false := by simp
                  go_wp2
                  go_roundw
                  case rel => exact ⟨a + P.length, t + 1, by omega, by omega, by omega, by go_num, by go_num, HK6.out.trans HK7.out⟩
                  case measure => simp [intOf]; omega
            · obtain rfl : a = i + 1 := by omega
              have hP : (List.take mm (List.drop (i + 1 - 1) L)).length = 0 := by rw [List.length_take, List.length_drop, HLL.out]; omega
              rw [hP] at HF
              have d2 : decide (((i + 1 : Nat) : Int) ≤ (i : Int)) = false := by simp; omega
              have d3 : (((i + 1 : Nat) : Int) == (i : Int) + 1) = true := by simp
              go_wp2_with (go_at_call 16; refine (HF.out _ HKr.out).mono ?_; rintro e w6 ⟨A, cp, rfl, hE, hk⟩; have HK6 := Lib.hid (HKr.out.trans hk); clear hE hk)
              go_ret
              exact ⟨rfl, HK0.out.trans HK6.out⟩
end Go.Proofs.YtpcbhechfbibbaaDoor
