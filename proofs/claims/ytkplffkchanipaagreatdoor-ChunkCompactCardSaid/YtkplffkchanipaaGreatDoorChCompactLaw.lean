/- The contract of glacierlaw06.ChunkCompact. -/
import Derived.Test.YtkplffkchanipaaGreatDoorChTwice
import Derived.Test.YtkplffkchanipaaGreatDoorChRoom
namespace Go.Proofs.YtkplffkchanipaaGreatDoor
open Go.RowKit
attribute [local go_sem] size_bs bs_append ba_self
variable {w w' w0 : World} {s b m g : Nat} {C C' : Ck} {D D' : Dk} {X : List (Nat × List UInt8)}

/-- Fail arms a disk, or disarms it. -/
def armV (n : Int) : Int := if n < 0 then 0 else if 1073741824 < n then 1073741825 else n + 1
theorem armV_le (n : Int) : 0 ≤ armV n ∧ armV n ≤ 4294967296 := by
  unfold armV
  split
  · omega
  · split <;> omega
set_option maxHeartbeats 400000 in
theorem fail_big {w : World} {b m : Nat} {D : Dk} (h : DiskAt w b m D) (n : Int) (hn : 1073741824 < n) (hn2 : n ≤ 9223372036854775807) :
    Calls Tryz.prog 28 #[.pointer (some ⟨b, 2, none⟩), .int .i64 n] w fun e w' => e = .returned (.tuple #[]) ∧ DiskAt w' b m { D with armed := 1073741825 } ∧ Keep [b] w w' := by
  have c3 := h.c3
  have f3 := h.blk.frozen 3
  have H := Lib.hid h
  clear h
  go_enter Tryz.func28, Tryz.ntmps28
  go_wp2
  go_end0
  rw [show min n 1073741824 + 1 = 1073741825 from by omega]
  exact ⟨rfl, H.out.armed_ _, (Keep.refl _ _).setCell (.inl (by simp)) _⟩
theorem fail_any {w : World} {b m : Nat} {D : Dk} (h : DiskAt w b m D) (n : Int) (hn2 : n ≤ 9223372036854775807) :
    Calls Tryz.prog 28 #[.pointer (some ⟨b, 2, none⟩), .int .i64 n] w fun e w' => e = .returned (.tuple #[]) ∧ DiskAt w' b m { D with armed := armV n } ∧ Keep [b] w w' := by
  unfold armV
  by_cases h0 : n < 0
  · rw [if_pos h0]
    exact fail_off h n h0
  · rw [if_neg h0]
    by_cases h1 : 1073741824 < n
    · rw [if_pos h1]
      exact fail_big h n h1 hn2
    · rw [if_neg h1]
      exact fail_on h n (by omega) (by omega)
theorem Dk.Here.arm (h : D.Here) {n : Int} (hn : n ≤ 4294967296) : Dk.Here { D with armed := n } := ⟨⟨⟨h.good.ok.room, h.good.ok.used, h.good.ok.fits, hn⟩, h.good.clean⟩, ⟨h.names.nodup, h.names.mem⟩, h.lost⟩
/-- A crash of a disk that keeps some chunks, and what Open makes of it. -/
theorem crash_keeps {k : Nat} (hH : D.Here) (ha : D.armed = 0) (hK : D.Keeps X) (hn : ∀ i, k < i → i < 100 → lookF (segName i) D.files = Fil.none_) (ch : List Int) :
    (D.crash ch).Still ∧ (D.crash ch).Names segNames ∧ (D.crash ch).Safe ∧ (∀ i ∈ (D.crash ch).segs, i < k + 1) ∧ (D.crash ch).replay 100 = X := by
  obtain ⟨a1, a2, a3, a4⟩ := Dk.crash_safe hH.good hH.names hH.lost ha ch
  refine ⟨a1, a2, a3, fun i hi => ?_, hK _ fun n => ?_⟩
  · have h1 := segs_lt hi
    refine Decidable.byContradiction fun hge => ?_
    obtain ⟨st, h2, h3, _⟩ := a4 (segName i)
    rw [hn i (by omega) h1.1] at h3
    have h4 := may_safe (f := Fil.none_) rfl h3
    have h5 := h1.2
    unfold Dk.now at h5
    rw [h2, h4] at h5
    cases h5
  · obtain ⟨st, h2, h3, _⟩ := a4 n
    exact ⟨st, h2, h3⟩
/-- A disk, and what a crash of it would keep. -/
structure ChD (w0 w : World) (b m : Nat) (D : Dk) (X : List (Nat × List UInt8)) (k : Nat) : Prop where
  disk : DiskAt w b m D
  tab : Tab w
  here : D.Here
  armed : D.armed = 0
  keeps : D.Keeps X
  above : ∀ i, k < i → i < 100 → lookF (segName i) D.files = Fil.none_
  lo : w0.heap.size ≤ b ∧ w0.heap.size ≤ m
  keep : Keep [] w0 w
theorem ChD.crash {k : Nat} (h : ChD w0 w b m D X k) (v : Value) (ch : List Int) (hb : ∀ x ∈ ch, -9223372036854775808 ≤ x ∧ x ≤ 9223372036854775807) (hv : ∀ W, Keep [] w0 W → IntsAt W v ch) :
    Calls Tryz.prog 29 #[.pointer (some ⟨b, 0, none⟩), v] w fun e w' => ∃ D', e = .returned (.tuple #[]) ∧ DiskAt w' b m D' ∧ Keep [b, m] w w' ∧ Keep [] w0 w' ∧ Tab w' ∧ D'.Still ∧ D'.Names segNames ∧ D'.Safe ∧ (∀ i ∈ D'.segs, i < k + 1) ∧ D'.replay 100 = X := by
  have hsub : ∀ x ∈ [b, m], x ∈ ([] : List Nat) ∨ w0.heap.size ≤ x := fun x hx => by
    have := h.lo
    simp only [List.mem_cons, List.not_mem_nil, or_false] at hx
    rcases hx with rfl | rfl
    · exact .inr this.1
    · exact .inr this.2
  refine (crash_calls h.disk h.here.good (by have := h.here.names.files_len; omega) h.here.names.keys v ch hb (fun V hV => hv V (h.keep.trans' hV hsub))).mono ?_
  rintro e w' ⟨rfl, h1, h2⟩
  obtain ⟨a1, a2, a3, a4, a5⟩ := crash_keeps h.here h.armed h.keeps h.above ch
  exact ⟨_, rfl, h1, h2, h.keep.trans' h2 hsub, h.tab.disk h.disk h2, a1, a2, a3, a4, a5⟩

set_option maxRecDepth 100000 in
set_option maxHeartbeats 4000000 in
theorem chunkCompact_calls (w : World) (hT : Tab w) (v : Value) (l : List (Nat × List UInt8)) (hv : ChsAt w v l) (hl : ∀ q ∈ l, q.1 < 18446744073709551616) (lim : Int) (_hlm : -9223372036854775808 ≤ lim) (hlim : lim ≤ 9223372036854775807) (fl : Int) (_hfm : -9223372036854775808 ≤ fl) (hfl : fl ≤ 9223372036854775807) (vc : Value) (ch : List Int) (hc : IntsAt w vc ch) (hb : ∀ x ∈ ch, -9223372036854775808 ≤ x ∧ x ≤ 9223372036854775807) :
    Calls Tryz.prog 7 #[v, .int .i64 lim, .int .i64 fl, vc] w fun e w' => e = .returned (.bool true) ∧ Keep [] w w' := by
  have HTF := Lib.hid (filled_calls w hT v l hv hl lim (by omega))
  have HIC : Hid (∀ W, Keep [] w W → IntsAt W vc ch) := fun W hW => hc.keep hW
  have HCB := Lib.hid hb
  clear hv hT hl hc hb
  go_enter Tryz.func7, Tryz.ntmps7
  go_upto_region 5 with (first
    | (go_at_call 20; refine HTF.out.mono ?_; rintro e w1 ⟨s, b, m, g, C, D, X, vx, rfl, hF⟩; have HF := Lib.hid hF; have H1 := Lib.hid hF.chS; have hseg := hF.seg; have hused := hF.used; have hroom := hF.room; have HD := Lib.hid hF.data; clear hF)
    | (go_at_call 12; refine (awake6_calls _ H1.out.at_.tab).mono ?_; rintro e w2 ⟨rfl, hk2⟩; have H2 := Lib.hid (H1.out.grow hk2); have HO2 := Lib.hid (HF.out.own.keep2 hk2 (by simp)); clear hk2)
    | (go_at_call 28; refine (fail_any H2.out.at_.disk fl hfl).mono ?_; rintro e w3 ⟨rfl, hd3, hk3⟩; have HD3 := Lib.hid hd3; have HK3 := Lib.hid hk3; clear hd3 hk3))
  have hxl := HF.out.len
  have HS3 := Lib.hid (H2.out.at_.setDisk (HK3.out.mono (by simp)) HD3.out)
  have HU3 := Lib.hid (H2.out.sure.arm (armV_le fl).2)
  have HK3' : Hid (Keep [] w w3) := H2.out.keep.trans' HK3.out (by have := H2.out.lo; simp; omega)
  have HO3 := Lib.hid (HO2.out.disk H2.out.at_.disk (HK3.out.mono (by simp)))
  have hle := exact_le HF.out.fit HD.out (by omega)
  have TC := compact_calls HS3.out HU3.out HF.out.fit (by omega) (by omega)
  have hcmp := HU3.out.compact HF.out.fit (by omega) (by omega)
  have hab : ∀ i, C.seg + 1 < i → i < 100 → lookF (segName i) (C.compact { D with armed := armV fl }).2.1.files = Fil.none_ := fun i a b => HU3.out.compact_ne a b
  have hlo := H2.out.lo
  have hns := HS3.out.ne_
  generalize C.compact { D with armed := armV fl } = R at *
  obtain ⟨C', D', e'⟩ := R
  simp only at TC hcmp hab
  have HTC := Lib.hid TC
  have HAB := Lib.hid hab
  obtain ⟨q1, q2, q3, q4, q5⟩ := hcmp
  have HQ1 := Lib.hid q1
  have HQ3 := Lib.hid q3
  clear TC hab q1 q3
  go_upto_region 7 with (first
    | (go_at_call 26; refine HTC.out.mono ?_; rintro e w4 ⟨g4, rfl, hs4, hg4, hk4⟩; have HS4 := Lib.hid hs4; have HK4 := Lib.hid hk4; have HO4 := Lib.hid (HO3.out.sbm HS3.out hk4); clear hs4 hk4)
    | (go_at_call 28; refine (fail_any HS4.out.disk (-1) (by decide)).mono ?_; rintro e w5 ⟨rfl, hd5, hk5⟩; have HD5 : Hid (DiskAt w5 b m { D' with armed := 0 }) := hd5; have HK5 := Lib.hid hk5; clear hd5 hk5))
  have hK5 : Keep [] w w5 := (HK3'.out.trans' HK4.out (by simp; omega)).trans' HK5.out (by simp; omega)
  have HCD5 : Hid (ChD w w5 b m { D' with armed := 0 } X (C.seg + 1)) := ⟨HD5.out, HS4.out.tab.disk HS4.out.disk (HK5.out.mono (by simp)), HQ1.out.arm (by decide), rfl, HQ3.out, HAB.out, ⟨hlo.2.1, hlo.2.2.1⟩, hK5⟩
  have HO5 := Lib.hid (HO4.out.disk HS4.out.disk (HK5.out.mono (by simp)))
  have HK5w := Lib.hid hK5
  clear hK5
  rcases q5 with rfl | ⟨-, -, -, hr7⟩ | ⟨rfl, hsu, -, -, -, hsg, -⟩
  · go_wp2_with (first
      | (go_at_call 29; refine (HCD5.out.crash vc ch HCB.out HIC.out).mono ?_; rintro e w8 ⟨D8, rfl, hd8, hk8, hw8, ht8, hs8, hn8, hf8, hg8, hr8⟩; have HD8 := Lib.hid hd8; have HW8 := Lib.hid hw8; have HT8 := Lib.hid ht8; have HS8 := Lib.hid hs8; have HN8 := Lib.hid hn8; have HF8 := Lib.hid hf8; have HG8 := Lib.hid hg8; have HR8 := Lib.hid hr8; have HO8 := Lib.hid (HO5.out.disk HCD5.out.disk hk8); clear hd8 hk8 hw8 ht8 hs8 hn8 hf8 hg8 hr8)
      | (go_at_call 14; refine (open_in HW8.out HD8.out hlo.2.1 hlo.2.2.1 HT8.out HS8.out HN8.out HF8.out (k := C.seg + 2) (by omega) (by omega) HG8.out lim (by omega)).mono ?_; rintro e w9 ⟨t, gt, rfl, h9, hk9, -, -, -⟩; rw [HR8.out] at h9; have HI9 := Lib.hid h9; have HO9 := Lib.hid (HO8.out.disk HD8.out hk9); clear h9 hk9)
      | (go_at_call 18; refine (HI9.out.is_ HO9.out (by omega)).mono ?_; rintro e wz ⟨rfl, hz, -⟩; have HI8 := Lib.hid hz; clear hz))
    go_ret
    exact ⟨rfl, HI8.out.keep⟩
  · exfalso
    omega
  · have hq : Dk.Quiet { D' with armed := 0 } := ⟨HQ1.out.lost, rfl⟩
    have HCS5 : Hid (ChS w w5 s b m g4 C' { D' with armed := 0 } X) := ⟨HS4.out.setDisk (HK5.out.mono (by simp)) HD5.out, hsu.arm (by decide), hq, ⟨hlo.1, hlo.2.1, hlo.2.2.1, by have := HK3'.out.size; rcases hg4 with rfl | hg4 <;> omega⟩, HK5w.out⟩
    have hsg5 : Dk.segs { D' with armed := 0 } = [C.seg + 1] := hsg
    clear hsu hsg hq
    go_upto_region 13 with (first
      | (go_at_call 27; refine (HCS5.out.names hsg5).mono ?_; rintro e w6 ⟨A6, c6, rfl, h6, hk6⟩; have H6 := Lib.hid h6; have HO6 := Lib.hid (HO5.out.disk HCS5.out.at_.disk hk6); clear h6 hk6)
      | (go_at_call 18; refine (H6.out.is_ HO6.out (by omega)).mono ?_; rintro e w7 ⟨rfl, h7, hk7⟩; have H7 := Lib.hid h7; have HO7 := Lib.hid (HO6.out.disk H6.out.at_.disk hk7); clear h7 hk7))
    have HCD7 : Hid (ChD w w7 b m { D' with armed := 0 } X (C.seg + 1)) := ⟨H7.out.at_.disk, H7.out.at_.tab, HQ1.out.arm (by decide), rfl, HQ3.out, HAB.out, ⟨hlo.2.1, hlo.2.2.1⟩, H7.out.keep⟩
    go_wp2_with (first
      | (go_at_call 29; refine (HCD7.out.crash vc ch HCB.out HIC.out).mono ?_; rintro e w8 ⟨D8, rfl, hd8, hk8, hw8, ht8, hs8, hn8, hf8, hg8, hr8⟩; have HD8 := Lib.hid hd8; have HW8 := Lib.hid hw8; have HT8 := Lib.hid ht8; have HS8 := Lib.hid hs8; have HN8 := Lib.hid hn8; have HF8 := Lib.hid hf8; have HG8 := Lib.hid hg8; have HR8 := Lib.hid hr8; have HO8 := Lib.hid (HO7.out.disk HCD7.out.disk hk8); clear hd8 hk8 hw8 ht8 hs8 hn8 hf8 hg8 hr8)
      | (go_at_call 14; refine (open_in HW8.out HD8.out hlo.2.1 hlo.2.2.1 HT8.out HS8.out HN8.out HF8.out (k := C.seg + 2) (by omega) (by omega) HG8.out lim (by omega)).mono ?_; rintro e w9 ⟨t, gt, rfl, h9, hk9, -, -, -⟩; rw [HR8.out] at h9; have HI9 := Lib.hid h9; have HO9 := Lib.hid (HO8.out.disk HD8.out hk9); clear h9 hk9)
      | (go_at_call 18; refine (HI9.out.is_ HO9.out (by omega)).mono ?_; rintro e wz ⟨rfl, hz, -⟩; have HI8 := Lib.hid hz; clear hz))
    go_ret
    exact ⟨rfl, HI8.out.keep⟩

end Go.Proofs.YtkplffkchanipaaGreatDoor
