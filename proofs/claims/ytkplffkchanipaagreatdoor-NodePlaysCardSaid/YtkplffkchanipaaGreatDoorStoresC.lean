/- A chunk store: apply. -/
import Derived.Test.YtkplffkchanipaaGreatDoorStoresA
import Derived.Test.YtkplffkchanipaaGreatDoorSeals
import Derived.Test.YtkplffkchanipaaGreatDoorNames
import Derived.BigQuiet
import Derived.Test.YtkplffkchanipaaGreatDoorChLaws
import Derived.Test.YtkplffkchanipaaGreatDoorStoresB
namespace Go.Proofs.YtkplffkchanipaaGreatDoor
open Go.RowKit
attribute [local go_sem] size_bs bs_append bs_extract
variable {w w' : World} {s b m g : Nat} {C C' : Ck} {D D' : Dk}

theorem parse_kind {c : List UInt8} (h : (parseF c).2.2.2 = true) : 1 ≤ (parseF c).1 ∧ (parseF c).1 ≤ 3 := by
  unfold parseF at h ⊢
  simp only [Bool.and_eq_true, decide_eq_true_eq] at h ⊢
  exact h.2
theorem Laid.len {text : List UInt8} : ∀ (cs : List (List UInt8)) (a : Nat), a ≤ text.length → Laid text a cs → a + cs.length * 8 ≤ text.length
  | [], _, ha, _ => by simpa using ha
  | c :: cs, a, _, ⟨h1, _, h3⟩ => by
    have := Laid.len cs _ h1 h3
    simp only [List.length_cons]
    omega
theorem only_small {F c : List UInt8} (h : OnlyF F = (c, 0)) : c.length ≤ 1048576 := by
  by_cases h8 : F.length < 8
  · unfold OnlyF at h
    rw [openF_short h8, if_pos (by simp)] at h
    simp at h
  · obtain ⟨a, b, c', d, e, f, g, h', r, rfl⟩ := eight h8
    obtain ⟨n, hn⟩ := Int.eq_ofNat_of_zero_le (val4_bd a b c' d).1
    unfold OnlyF at h
    rw [openF_eight a b c' d e f g h' r n hn] at h
    by_cases h1 : 1048576 < n
    · rw [if_pos h1] at h; simp at h
    rw [if_neg h1] at h
    by_cases h2 : r.length < n
    · rw [if_pos h2] at h; simp at h
    rw [if_neg h2] at h
    by_cases h3 : crc ([a, b, c', d] ++ r.take n) = val4 e f g h'
    · rw [if_pos h3, if_neg (by simp)] at h
      split at h
      · simp at h
      · simp only [Prod.mk.injEq, and_true] at h
        rw [← h, List.length_take]
        omega
    · rw [if_neg h3] at h; simp at h
theorem applyF_step (seg : Nat) (text : List UInt8) (a : Nat) (c : List UInt8) (cs : List (List UInt8)) (L : List (Int × Pl)) :
    applyF seg text a (c :: cs) L = if (parseF c).2.2.2 = false ∨ ((parseF c).1 = 3 ∧ cs.length < (parseF c).2.1) then L else
      applyF seg text (a + (8 + c.length)) cs (if (parseF c).1 = 1 then putC ((parseF c).2.1 : Int) ⟨seg, a, 8 + c.length, (text.drop a).take 8⟩ L else if (parseF c).1 = 2 then delC ((parseF c).2.1 : Int) L else []) := by
  simp only [applyF, mapOne]
  by_cases h : stopsF c cs.length
  · rw [if_pos h]
    exact (if_pos h).symm
  · rw [if_neg h]
    exact (if_neg h).symm
def ApplyRel (seg : Nat) (text : List UInt8) (cs : List (List UInt8)) (RES : List (Int × Pl)) (C : Ck) (D : Dk) (w1 : World) (s b m g : Nat) (a x : Value) (wr : World) : Prop :=
  ∃ (k at_ : Nat) (L : List (Int × Pl)), k ≤ cs.length ∧ x = .int .i64 (k : Int) ∧ a = .int .i64 (at_ : Int) ∧ applyF seg text at_ (cs.drop k) L = RES ∧ Laid text at_ (cs.drop k) ∧ at_ ≤ text.length ∧ StoreAt wr s b m g { C with map := L } D ∧ Keep [g] w1 wr

set_option maxRecDepth 100000 in
set_option maxHeartbeats 3200000 in
theorem apply_calls (h : StoreAt w s b m g C D) (seg : Nat) (text : List UInt8) (ht : text.length ≤ 274877906944) :
    Calls Tryz.prog 53 #[.pointer (some ⟨s, 0, none⟩), .int .i64 (seg : Int), .string (bs text)] w fun e w' => e = .returned (.tuple #[]) ∧ StoreAt w' s b m g { C with map := applyF seg text 0 (scan text).1 C.map } D ∧ Keep [g] w w' := by
  have T := scan_calls text w h.tab (by omega)
  have hL := scan_laid text
  have H := Lib.hid h
  obtain ⟨RES, hres⟩ : ∃ R, R = applyF seg text 0 (scan text).1 C.map := ⟨_, rfl⟩
  rw [← hres]
  unfold ScanPost at T
  generalize scan text = q at *
  obtain ⟨cs, q2⟩ := q
  simp only at T hL hres
  have hcl := Laid.len cs 0 (Nat.zero_le _) hL
  have HT := Lib.hid T
  have HL := Lib.hid hL
  have HRES := Lib.hid hres
  clear T hL hres h
  go_enter Tryz.func53, Tryz.ntmps53
  go_wp2_with (go_at_call 79; refine HT.out.mono ?_; rintro e w1 ⟨v, rfl, hown, hk⟩; have hO : OwnS w1 w.heap.size v cs := ⟨hown⟩; obtain ⟨A, c, rfl⟩ := hO.slice; have HO := Lib.hid hO; have HK1 := Lib.hid hk; clear hown hO hk)
  go_loopw [8, 21] (fun a x wr => ApplyRel seg text cs RES C D w1 s b m g a x wr) (fun _ x _ => cs.length - (intOf x).toNat)
  case atStart => exact ⟨0, 0, C.map, Nat.zero_le _, rfl, rfl, HRES.out.symm, HL.out, Nat.zero_le _, H.out.grow HK1.out, Keep.refl _ _⟩
  case round =>
    obtain ⟨k, a, L, hk, rfl, rfl, hres, hlaid, ha, hS, hK⟩ := hrel
    have HS := Lib.hid hS
    have HK := Lib.hid hK
    by_cases hlt : k < cs.length
    · have d1 : decide ((k : Int) < (cs.length : Int)) = true := by simp; omega
      have hdrop : cs.drop k = cs[k] :: cs.drop (k + 1) := List.drop_eq_getElem_cons hlt
      have hlen : (cs.drop (k + 1)).length = cs.length - (k + 1) := List.length_drop
      obtain ⟨A', c', hv', hcc⟩ := (HO.out.keep hK (by have h9 := H.out.map.lt; simpa using h9)).at_
      injection hv' with hA hz1' hz2'
      clear hz1' hz2'
      subst hA
      obtain ⟨gx, o, rfl, hcc2⟩ := hcc (by intro h0; rw [h0] at hlt; simp at hlt)
      have cx := hcc2 k hlt
      rw [hdrop] at hres hlaid
      obtain ⟨l1, l2, l3⟩ := hlaid
      have z2 : wr.cell? ⟨s, 2, none⟩ = some (.map (some g)) := hS.blk.cell 2
      rw [applyF_step] at hres
      have hpk := @parse_kind cs[k]
      have hcs := only_small l2
      clear hcc hcc2 hdrop hS hK l2
      generalize cs[k] = ct at *
      rw [hlen] at hres
      have TP := fun (W : World) => parse_calls ct (by omega) W
      generalize parseF ct = q at *
      obtain ⟨kd, n, x, ok⟩ := q
      simp only at TP hres hpk
      have HTP := Lib.hid TP
      have HL3 := Lib.hid l3
      clear TP l3 hlen
      have w1_ : IntKind.i64.wrap ((cs.length : Int) - (k : Int)) = (cs.length : Int) - (k : Int) := IntWalk.i64_in _ (by omega)
      have w2_ : IntKind.i64.wrap ((cs.length : Int) - (k : Int) - 1) = (cs.length : Int) - (k : Int) - 1 := IntWalk.i64_in _ (by omega)
      have w3_ : IntKind.u64.wrap ((cs.length : Int) - (k : Int) - 1) = ((cs.length - (k + 1) : Nat) : Int) := by rw [IntWalk.u64_in _ (by omega)]; omega
      cases ok with
      | false =>
        rw [if_pos (.inl rfl)] at hres
        subst hres
        go_wp2_with (go_at_call 63; refine (HTP.out _).mono ?_; rintro e w5 ⟨rfl, hk5⟩; have HK5 := Lib.hid hk5; clear hk5)
        refine bodyPost_ret (results_none rfl _ _ _) rfl ?_
        exact ⟨rfl, (HS.out.grow HK5.out).grow ((Keep.refl [] _).alloc _), ((HK1.out.nil_.trans HK.out).trans HK5.out.nil_).alloc _⟩
      | true =>
        obtain ⟨k1, k3⟩ := hpk rfl
        by_cases hkd : kd = 3
        · have e3 : ((kd : Int) == 3) = true := by rw [beq_iff_eq]; omega
          by_cases hst : cs.length - (k + 1) < n
          · have e4 : decide (((cs.length - (k + 1) : Nat) : Int) < (n : Int)) = true := by simp; omega
            have e4n : decide (cs.length - (k + 1) < n) = true := by simpa using hst
            rw [if_pos (.inr ⟨hkd, hst⟩)] at hres
            subst hres
            go_wp2_with (go_at_call 63; refine (HTP.out _).mono ?_; rintro e w5 ⟨rfl, hk5⟩; have HK5 := Lib.hid hk5; clear hk5)
            refine bodyPost_ret (results_none rfl _ _ _) rfl ?_
            exact ⟨rfl, (HS.out.grow HK5.out).grow ((Keep.refl [] _).alloc _), ((HK1.out.nil_.trans HK.out).trans HK5.out.nil_).alloc _⟩
          · have e4 : decide (((cs.length - (k + 1) : Nat) : Int) < (n : Int)) = false := by simp; omega
            have e4n : decide (cs.length - (k + 1) < n) = false := by simpa using hst
            rw [if_neg (by simp [hkd, hst]), if_neg (by omega), if_neg (by omega)] at hres
            have HRES2 := Lib.hid hres
            have f1 : ((kd : Int) == 1) = false := by rw [beq_eq_false_iff_ne]; omega
            have f2 : ((kd : Int) == 2) = false := by rw [beq_eq_false_iff_ne]; omega
            clear hres hst hkd
            go_upto_region 14 with (go_at_call 63; refine (HTP.out _).mono ?_; rintro e w5 ⟨rfl, hk5⟩; have HK5 := Lib.hid hk5; clear hk5)
            have HS6 := Lib.hid ((HS.out.grow HK5.out).grow ((Keep.refl [] _).alloc (.cells #[.int .u64 (kd : Int), .int .u64 (n : Int), .string (bs x)] 105)))
            have HK6 : Hid (Keep [g] w1 (w5.alloc (.cells #[.int .u64 (kd : Int), .int .u64 (n : Int), .string (bs x)] 105))) := (HK.out.trans HK5.out.nil_).alloc _
            have q2 : (w5.alloc (.cells #[.int .u64 (kd : Int), .int .u64 (n : Int), .string (bs x)] 105)).cell? ⟨s, 2, none⟩ = some (.map (some g)) := HS6.out.blk.cell 2
            obtain ⟨w7, hcl, hM7, hK7, -⟩ := HS6.out.map.clear_ (P := Tryz.prog) Tryz.underlying92
            have HM7 := Lib.hid hM7
            have HK7 := Lib.hid hK7
            clear hM7 hK7
            go_wp2
            go_roundw
            case rel => exact ⟨k + 1, a + (8 + ct.length), [], by omega, by go_num, by go_num, HRES2.out, HL3.out, l1, HS6.out.setMap HK7.out HM7.out, HK6.out.trans HK7.out⟩
            case measure => simp [intOf]; omega
        · have e3 : ((kd : Int) == 3) = false := by rw [beq_eq_false_iff_ne]; omega
          rw [if_neg (by simp [hkd])] at hres
          by_cases hk1 : kd = 1
          · have f1 : ((kd : Int) == 1) = true := by rw [beq_iff_eq]; omega
            rw [if_pos hk1] at hres
            have HRES2 := Lib.hid hres
            have hcut : List.take (text.length - a) (text.drop a) = text.drop a := List.take_of_length_le (by simp)
            have h8 : 8 ≤ (text.drop a).length := by rw [List.length_drop]; omega
            have TH := fun (W : World) => headOf_calls (text.drop a) h8 W
            obtain ⟨c0, c1, c2, c3, c4, c5, c6, c7, hf8⟩ := eightL (l := (text.drop a).take 8) (by rw [List.length_take]; omega)
            rw [hf8] at TH hres
            simp only [headV, List.map_cons, List.map_nil] at TH
            have HTH := Lib.hid TH
            have HRES3 := Lib.hid hres
            clear hres hkd hk1 TH hf8 HRES2
            go_upto_region 10 with (go_at_call 63; refine (HTP.out _).mono ?_; rintro e w5 ⟨rfl, hk5⟩; have HK5 := Lib.hid hk5; clear hk5)
            have HB6 : Hid (Blk (w5.alloc (.cells #[.int .u64 (kd : Int), .int .u64 (n : Int), .string (bs x)] 105)) w5.heap.size 105 #[.int .u64 (kd : Int), .int .u64 (n : Int), .string (bs x)]) := Blk.new _ _ _
            have HS6 := Lib.hid ((HS.out.grow HK5.out).grow ((Keep.refl [] _).alloc (.cells #[.int .u64 (kd : Int), .int .u64 (n : Int), .string (bs x)] 105)))
            have HK6 : Hid (Keep [g] w1 (w5.alloc (.cells #[.int .u64 (kd : Int), .int .u64 (n : Int), .string (bs x)] 105))) := (HK.out.trans HK5.out.nil_).alloc _
            generalize w5.alloc (.cells #[.int .u64 (kd : Int), .int .u64 (n : Int), .string (bs x)] 105) = W6 at *
            have hgr : w5.heap.size ≠ g := fun e => by have := HS6.out.map.ne_ HB6.out; exact this e.symm
            have HC6 : Hid (∀ W, Keep [g] W6 W → W.cell? ⟨s, 2, none⟩ = some (.map (some g)) ∧ W.cell? ⟨w5.heap.size, 1, none⟩ = some (.int .u64 (n : Int))) := fun W hW => ⟨(HS6.out.blk.keep hW (by have := HS6.out.ne_; simp; exact fun e => this.2.2.1 e.symm)).cell 2, (HB6.out.keep hW (by simpa using hgr)).cell 1⟩
            clear hgr
            go_region_held3 (fun w' => w'.cell? ⟨s, 2, none⟩ = some (.map (some g)) ∧ w'.cell? ⟨w5.heap.size, 1, none⟩ = some (.int .u64 (n : Int)))
              (first
                | (exact (HC6.out _ (by repeat (first | exact Keep.refl _ _ | exact HK7.out | exact HK8.out.nil_ | refine Keep.drew ?_ | refine Keep.drewN ?_ _ | refine Keep.alloc ?_ _))))
                | fail)
              (first
                | (go_at_call 62; refine (HTH.out _).mono ?_; rintro e w8 ⟨rfl, hk8⟩; have HK8 : Hid (Keep [] W6 w8) := Keep.trans' (M := []) (by repeat (first | exact Keep.refl _ _ | exact HK8.out | refine Keep.drew ?_ | refine Keep.drewN ?_ _ | refine Keep.alloc ?_ _)) hk8 (by simp); obtain ⟨w7, hmu, hM7, hK7, -⟩ := (HS6.out.grow HK8.out).map.put (P := Tryz.prog) Tryz.underlying92 Tryz.underlying30 (n : Int) (.agg #[.int .i64 (seg : Int), .int .i64 (a : Int), .int .i64 ((8 : Int) + (ct.length : Int)), .int .u8 (c0.toNat : Int), .int .u8 (c1.toNat : Int), .int .u8 (c2.toNat : Int), .int .u8 (c3.toNat : Int), .int .u8 (c4.toNat : Int), .int .u8 (c5.toNat : Int), .int .u8 (c6.toNat : Int), .int .u8 (c7.toNat : Int)]); have HM7 := Lib.hid hM7; have HK7 : Hid (Keep [g] W6 w7) := HK8.out.nil_.trans hK7; clear hM7 hK7 hk8)
                | fail)
            all_goals
              have hpp := put_pairs (n : Int) ⟨seg, a, 8 + ct.length, [c0, c1, c2, c3, c4, c5, c6, c7]⟩ L
              simp only [Pl.val, Pl.cells, List.map_cons, List.map_nil] at hpp
              rw [show ((8 + ct.length : Nat) : Int) = (8 : Int) + (ct.length : Int) from by omega] at hpp
              have hM7 := HM7.out
              rw [hpp] at hM7
              have HM8 := Lib.hid hM7
              clear hpp hM7
              go_wp2
              go_roundw
              case rel => exact ⟨k + 1, a + (8 + ct.length), _, by omega, by go_num, by go_num, HRES3.out, HL3.out, l1, HS6.out.setMap HK7.out HM8.out, HK6.out.trans HK7.out⟩
              case measure => simp [intOf]; omega
          · have hk2 : kd = 2 := by omega
            have f1 : ((kd : Int) == 1) = false := by rw [beq_eq_false_iff_ne]; omega
            have f2 : ((kd : Int) == 2) = true := by rw [beq_iff_eq]; omega
            rw [if_neg hk1, if_pos hk2] at hres
            have HRES2 := Lib.hid hres
            clear hres hk1 hkd hk2
            go_upto_region 12 with (go_at_call 63; refine (HTP.out _).mono ?_; rintro e w5 ⟨rfl, hk5⟩; have HK5 := Lib.hid hk5; clear hk5)
            have HS6 := Lib.hid ((HS.out.grow HK5.out).grow ((Keep.refl [] _).alloc (.cells #[.int .u64 (kd : Int), .int .u64 (n : Int), .string (bs x)] 105)))
            have HK6 : Hid (Keep [g] w1 (w5.alloc (.cells #[.int .u64 (kd : Int), .int .u64 (n : Int), .string (bs x)] 105))) := (HK.out.trans HK5.out.nil_).alloc _
            have q2 : (w5.alloc (.cells #[.int .u64 (kd : Int), .int .u64 (n : Int), .string (bs x)] 105)).cell? ⟨s, 2, none⟩ = some (.map (some g)) := HS6.out.blk.cell 2
            obtain ⟨w7, hmd, hM7, hK7, -⟩ := HS6.out.map.drew.del (P := Tryz.prog) Tryz.underlying92 Tryz.underlying30 (n : Int)
            rw [del_pairs] at hM7
            have HM7 := Lib.hid hM7
            have HK7 := Lib.hid hK7
            clear hM7 hK7
            go_region
            go_wp2
            go_roundw
            case rel => exact ⟨k + 1, a + (8 + ct.length), _, by omega, by go_num, by go_num, HRES2.out, HL3.out, l1, HS6.out.setMap ((Keep.refl [g] _).drew.trans HK7.out) HM7.out, HK6.out.drew.trans HK7.out⟩
            case measure => simp [intOf]; omega
    · obtain rfl : k = cs.length := by omega
      have d1 : decide ((cs.length : Int) < (cs.length : Int)) = false := by simp
      rw [List.drop_of_length_le (Nat.le_refl _)] at hres
      unfold applyF at hres
      subst hres
      go_wp2
      go_end0
      exact ⟨rfl, HS.out, HK1.out.nil_.trans HK.out⟩

end Go.Proofs.YtkplffkchanipaaGreatDoor
/- A chunk store that is opened: chunk.Open over a disk that doesn't fail. -/
namespace Go.Proofs.YtkplffkchanipaaGreatDoor
open Go.RowKit
attribute [local go_sem] size_bs bs_append bs_extract
variable {w w' : World} {s b m g : Nat} {C C' : Ck} {D D' : Dk}

theorem segnum_seg (i : Nat) (h1 : 1 ≤ i) (h2 : i < 100) (w : World) : Calls Tryz.prog 51 #[.string (bs (segName i))] w fun e w' => e = .returned (.tuple #[.int .i64 (i : Int), .bool true]) ∧ w = w' := by
  obtain ⟨e1, e2, e3⟩ := numV_seg ⟨i, h2⟩
  simp only at e1 e2 e3
  have T := segnum_calls ((segName i).drop 4) e2 e3 w
  have h4 : [115, 101, 103, 45] ++ (segName i).drop 4 = segName i := rfl
  have hb : decide (0 < i) = true := by simp; omega
  rw [h4, e1, hb] at T
  exact T
theorem nextSeg_snoc (l : List Nat) (i : Nat) : nextSeg (l ++ [i]) = i + 1 := by simp [nextSeg]
theorem read_still (hD : D.Still) {i : Nat} (h : (D.now i).there = true) : D.read (segName i) = ((D.now i).text, 0) := by
  unfold Dk.now at h ⊢
  unfold Dk.read
  rw [hD.tries]
  simp [h]
def OpenRel (D : Dk) (lim : Int) (w1 : World) (s b m g : Nat) (x : Value) (wr : World) : Prop :=
  ∃ k : Nat, k ≤ D.segs.length ∧ x = .int .i64 (k : Int) ∧ StoreAt wr s b m g ⟨lim, (D.segs.take k).foldl D.openOne [], nextSeg (D.segs.take k), 0, false⟩ D ∧ Keep [b, m] w1 wr

set_option maxRecDepth 100000 in
set_option maxHeartbeats 3200000 in
theorem copen_calls (hd : DiskAt w b m D) (hT : Tab w) (hS : D.Still) (hN : D.Names segNames) (hf : D.files.length ≤ 1000000000) (lim : Int) :
    Calls Tryz.prog 14 #[.pointer (some ⟨b, 0, none⟩), .int .i64 lim] w fun e w' => ∃ s g, e = .returned (.tuple #[.pointer (some ⟨s, 0, none⟩), .int .i64 0]) ∧ StoreAt w' s b m g (D.opens lim) D ∧ w.heap.size ≤ s ∧ w.heap.size ≤ g ∧ Keep [b, m] w w' := by
  have hk99 : ∀ p ∈ D.files, p.1.length ≤ 1000000000 := fun p hp => by
    obtain ⟨i, _, _, h3⟩ := mem_segNames.1 (hN.mem p.1 (List.mem_map.2 ⟨p, hp, rfl⟩))
    rw [h3]
    exact Nat.le_of_ble_eq_true rfl
  have T := names_calls hd hS.good.ok hf hk99
  rw [hS.tries] at T
  simp only at T
  have hnl := names_len D
  have hns := Dk.names_segs hN
  have hps := D.places_segs
  have hsg : ∀ i ∈ D.segs, 1 ≤ i ∧ i < 100 ∧ (D.now i).there = true := fun i hi => by
    have h3 := segs_lt hi
    refine ⟨?_, h3.1, h3.2⟩
    rcases Nat.eq_zero_or_pos i with rfl | hp
    · have := Dk.now_out hN (i := 0) (by omega) rfl; rw [this] at h3; exact absurd h3.2 (by simp)
    · exact hp
  have hop : D.opens lim = ⟨if lim < 1 then 1 else lim, D.segs.foldl D.openOne [], nextSeg D.segs, 0, false⟩ := by unfold Dk.opens; rw [hps]
  have hb := hd.blk.lt
  have hm := hd.map.lt
  have ht := hT.ne_blk hd.blk (by simp)
  have ht2 := hT.ne_map hd.map
  have ht3 : 0 < w.heap.size := World.block_lt_of_cell? _ _ (hT 0 (by omega))
  rw [hns] at T hnl
  rw [List.length_map] at hnl
  have hsl : D.segs.length ≤ 1000000000 := Nat.le_trans hnl hf
  clear hnl
  have hmm := @run_makeMap Tryz.prog
  have hmx : max lim 1 = if lim < 1 then 1 else lim := by split <;> omega
  rw [← hmx] at hop
  clear hmx
  have H := Lib.hid hd
  have HT := Lib.hid T
  have HSG := Lib.hid hsg
  have HOP := Lib.hid hop
  have HS := Lib.hid hS
  have HTB := Lib.hid hT
  clear hd T hns hps hsg hop hT hS hN hk99 hf
  go_enter Tryz.func14, Tryz.ntmps14
  go_upto_region 4 with (go_at_call 27; refine HT.out.mono ?_; rintro e w1 ⟨v, rfl, hown, hD1, hk1⟩; have hO := hown trivial; obtain ⟨A, c, rfl⟩ := hO.slice; have HO := Lib.hid hO; have HD1 := Lib.hid hD1; have HK1 := Lib.hid hk1; clear hown hO hD1 hk1)
  have hsz1 := HK1.out.size
  have HK1N : Hid (∀ k, k < w.heap.size → k < w1.heap.size) := fun k hk => Nat.lt_of_lt_of_le hk hsz1
  go_wp2
  clear hmm
  have hS0 : StoreAt ((w1.alloc (Obj.map #[] 0)).alloc (.cells #[.pointer (some ⟨b, 0, none⟩), .int .i64 (max lim 1), .map (some w1.heap.size), .int .i64 1, .int .i64 0, .bool false] 94)) (w1.heap.size + 1) b m w1.heap.size ⟨max lim 1, [], 1, 0, false⟩ D := by
    have hb1 := HD1.out.blk.lt
    have hm1 := HD1.out.map.lt
    refine ⟨?_, (HD1.out.alloc _).alloc _, (MapN.made w1).alloc _, by omega, HTB.out.keep ((HK1.out.alloc _).alloc _) (by simpa using ht), ?_⟩
    · have := Blk.new (w1.alloc (Obj.map #[] 0)) 94 #[.pointer (some ⟨b, 0, none⟩), .int .i64 (max lim 1), .map (some w1.heap.size), .int .i64 1, .int .i64 0, .bool false]
      rw [World.size_alloc] at this
      exact this
    · simp only [List.mem_cons, List.not_mem_nil, or_false, not_or]
      exact ⟨by omega, ht, ht2, by omega⟩
  have HS0 := Lib.hid hS0
  clear hS0
  go_loopw [31] (fun x wr => OpenRel D (max lim 1) w1 (w1.heap.size + 1) b m w1.heap.size x wr) (fun x _ => D.segs.length - (intOf x).toNat)
  case atStart => exact ⟨0, Nat.zero_le _, rfl, HS0.out, ((Keep.refl [b, m] w1).alloc _).alloc _⟩
  case round =>
    obtain ⟨k, hk, rfl, hSr, hKr⟩ := hrel
    have HSR := Lib.hid hSr
    have HKR := Lib.hid hKr
    by_cases hlt : k < D.segs.length
    · have d1 : decide ((k : Int) < (D.segs.length : Int)) = true := by simp; omega
      obtain ⟨A', c', hv', hcc⟩ := (HO.out.keep hKr (by simp; exact ⟨hb, hm⟩)).at_
      rw [List.length_map] at hv'
      injection hv' with hA hz1' hz2'
      clear hz1' hz2'
      subst hA
      obtain ⟨gx, o, rfl, hcc2⟩ := hcc (by intro h0; rw [List.map_eq_nil_iff] at h0; rw [h0] at hlt; simp at hlt)
      have cx := hcc2 k (by rw [List.length_map]; exact hlt)
      rw [List.getElem_map] at cx
      have hsn := List.take_succ_eq_append_getElem hlt
      obtain ⟨i1, i2, i3⟩ := HSG.out _ (List.getElem_mem hlt)
      have HSN : Hid ((D.segs.take (k + 1)).foldl D.openOne [] = D.openOne ((D.segs.take k).foldl D.openOne []) D.segs[k] ∧ nextSeg (D.segs.take (k + 1)) = D.segs[k] + 1) := by
        rw [hsn, nextSeg_snoc, List.foldl_append]
        exact ⟨rfl, rfl⟩
      clear hcc hcc2 hSr hKr hsn
      generalize D.segs[k] = i at *
      have hrd := read_still HS.out i3
      have TR := fun (W : World) (hW : DiskAt W b m D) => read_calls hW HS.out.good.ok (segName i)
      rw [hrd, HS.out.tries] at TR
      simp only at TR
      have HTR := Lib.hid TR
      have hln := Dk.now_len' HS.out.good i
      obtain ⟨TX, htx⟩ : ∃ TX, TX = (D.now i).text := ⟨_, rfl⟩
      have HTA := Lib.hid (fun (W : World) (L : List (Int × Pl)) (hW : StoreAt W (w1.heap.size + 1) b m w1.heap.size ⟨max lim 1, L, nextSeg (D.segs.take k), 0, false⟩ D) => apply_calls hW i TX (by rw [htx]; exact hln))
      have HOO : Hid (∀ L, applyF i TX 0 (scan TX).1 L = D.openOne L i) := fun L => by rw [htx]; rfl
      rw [← htx] at HTR
      clear hrd TR hln htx i3
      generalize (D.segs.take k).foldl D.openOne [] = L at *
      go_wp2_with (first
        | (go_at_call 51; refine (segnum_seg i i1 i2 _).mono ?_; rintro e w3 ⟨rfl, rfl⟩)
        | (go_at_call 52; refine (HTR.out _ HSR.out.disk).mono ?_; rintro e w4 ⟨rfl, hD4, hk4⟩; have HS4 := Lib.hid (HSR.out.setDisk hk4 hD4); have HK4 := Lib.hid hk4; clear hD4 hk4)
        | (go_at_call 53; refine (HTA.out _ _ HS4.out).mono ?_; rintro e w5 ⟨rfl, hS5, hk5⟩; have HS5 := Lib.hid hS5; have HK5 := Lib.hid hk5; have q3 : w5.cell? ⟨w1.heap.size + 1, 3, none⟩ = some (.int .i64 (nextSeg (D.segs.take k) : Int)) := hS5.blk.cell 3; have f3 : w5.frozen? ⟨w1.heap.size + 1, 3, none⟩ = false := hS5.blk.frozen 3; clear hS5 hk5))
      have hb5 : Blk (w5.setCell ⟨w1.heap.size + 1, 3, none⟩ (.int .i64 ((i : Int) + 1))) (w1.heap.size + 1) 94 ((⟨max lim 1, D.openOne L i, i + 1, 0, false⟩ : Ck).cells b w1.heap.size) := by
        have h := HS5.out.blk.set_ 3 (.int .i64 ((i : Int) + 1))
        unfold Ck.cells
        simp only [Int.natCast_add]
        exact h
      have hk6 : Keep [w1.heap.size + 1] w5 (w5.setCell ⟨w1.heap.size + 1, 3, none⟩ (.int .i64 ((i : Int) + 1))) := (Keep.refl _ _).setCell (.inl (by simp)) _
      have HS6 := Lib.hid (HS5.out.setS (C' := ⟨max lim 1, D.openOne L i, i + 1, 0, false⟩) hk6 hb5 (HOO.out L).symm)
      have HK6 : Hid (Keep [b, m] w1 (w5.setCell ⟨w1.heap.size + 1, 3, none⟩ (.int .i64 ((i : Int) + 1)))) := ((HKR.out.trans HK4.out).trans' HK5.out (by simp)).trans' hk6 (by simp)
      clear hb5 hk6
      go_roundw
      case rel =>
        refine ⟨k + 1, by omega, by go_num, ?_, HK6.out⟩
        rw [HSN.out.1, HSN.out.2]
        exact HS6.out
      case measure => simp [intOf]; omega
    · obtain rfl : k = D.segs.length := by omega
      have d1 : decide ((D.segs.length : Int) < (D.segs.length : Int)) = false := by simp
      clear hSr hKr
      go_wp2
      go_ret2
      rw [HOP.out]
      have h := HSR.out
      rw [List.take_of_length_le (Nat.le_refl _)] at h
      exact ⟨_, _, rfl, h, by have := hsz1; omega, hsz1, (HK1.out.mono (by simp)).trans HKR.out⟩

end Go.Proofs.YtkplffkchanipaaGreatDoor
/- A chunk store: before, gather. -/
namespace Go.Proofs.YtkplffkchanipaaGreatDoor
open Go.RowKit
attribute [local go_sem] size_bs bs_append
variable {w w' : World} {s b m g : Nat} {C C' : Ck} {D D' : Dk}

def BefRel (is : List Nat) (k : Nat) (w : World) (v x : Value) (wr : World) : Prop :=
  ∃ (j : Nat) (acc : List (List UInt8)), j ≤ is.length ∧ x = .int .i64 (j : Int) ∧ acc = ((is.take j).filter fun i => decide (i < k)).map segName ∧ OwnS wr w.heap.size v acc ∧ acc.length ≤ j ∧ Keep [] w wr

set_option maxRecDepth 100000 in
set_option maxHeartbeats 2000000 in
theorem before_calls (v : Value) (is : List Nat) (his : ∀ i ∈ is, 1 ≤ i ∧ i < 100) (hv : StrsAt w v (is.map segName)) (k : Nat) (hl : is.length ≤ 1000) :
    Calls Tryz.prog 66 #[v, .int .i64 (k : Int)] w fun e w' => ∃ v', e = .returned v' ∧ OwnS w' w.heap.size v' ((is.filter fun i => decide (i < k)).map segName) ∧ Keep [] w w' := by
  obtain ⟨i0, hi, hz0, hz1, hz2⟩ := info_parts Tryz.info9
  have HV : Hid (∀ W, Keep [] w W → StrsAt W v (is.map segName)) := fun W hW => hv.keep hW
  have HIS := Lib.hid his
  obtain ⟨A, c, rfl, -⟩ := hv
  have hml : (is.map segName).length = is.length := List.length_map _
  rw [hml] at HV ⊢
  clear his
  go_enter Tryz.func66, Tryz.ntmps66
  go_wp2
  go_loopw [5, 12] (fun v x wr => BefRel is k w v x wr) (fun _ x _ => is.length - (intOf x).toNat)
  case atStart => exact ⟨0, [], Nat.zero_le _, rfl, rfl, OwnS.nil _ _, Nat.le_refl _, Keep.refl _ _⟩
  case round =>
    obtain ⟨j, acc, hj, rfl, hacc, hown, hlen, hkeep⟩ := hrel
    have HACC := Lib.hid hacc
    have HOWN := Lib.hid hown
    have HKR := Lib.hid hkeep
    obtain ⟨A1, c1, hv1⟩ := hown.slice
    clear hacc hown
    by_cases hlt : j < is.length
    · have d1 : decide ((j : Int) < (is.length : Int)) = true := by simp; omega
      have hsn := List.take_succ_eq_append_getElem hlt
      obtain ⟨A', c', hv', hcc⟩ := HV.out _ hkeep
      injection hv' with hA hz1' hz2'
      clear hz1' hz2'
      subst hA
      obtain ⟨gx, o, rfl, hcc2⟩ := hcc (by intro h0; rw [List.map_eq_nil_iff] at h0; rw [h0] at hlt; simp at hlt)
      have cx := hcc2 j (by rw [hml]; exact hlt)
      rw [List.getElem_map] at cx
      obtain ⟨hi1, hi2⟩ := HIS.out _ (List.getElem_mem hlt)
      have HSN : Hid (((is.take (j + 1)).filter fun i => decide (i < k)).map segName = acc ++ if is[j] < k then [segName is[j]] else []) := by
        show _ = _
        rw [hsn, List.filter_append, List.map_append, ← HACC.out]
        congr 1
        by_cases h : is[j] < k <;> simp [h]
      clear hcc hcc2 hkeep hsn
      generalize is[j] = ii at *
      by_cases hlk : ii < k
      · have q1 : decide ((ii : Int) < (k : Int)) = true := by simp; omega
        have q1n : decide (ii < k) = true := by simpa using hlk
        have HS2 : Hid (((is.take (j + 1)).filter fun i => decide (i < k)).map segName = acc ++ [segName ii]) := by
          have := HSN.out
          rw [if_pos hlk] at this
          exact this
        clear hlk
        subst hv1
        go_wp2_with (first
          | (go_at_call 51; refine (segnum_seg ii hi1 hi2 _).mono ?_; rintro e w1 ⟨rfl, rfl⟩)
          | (at_builtin; refine wpList_append_own _ rfl _ _ 58 rfl w.heap.size 9 i0 (.string ⟨#[]⟩) 1 16 Tryz.underlying58 hi hz0 hz1 hz2 rfl (by decide) _ _ _ rfl (HOWN.out.own.alloc _) ⟨_, 0, none⟩ 1 1 [.string (bs (segName ii))] rfl rfl (cell_one_new _ _ _) ?c2 ?c3 ?c4 ?c5 ?_))
        case c2 => simp [Value.oneCell']
        case c3 => unfold maxLen; omega
        case c4 => omega
        case c5 => have := HKR.out.size; simp; omega
        intro v' w2 hown2 hgrow _
        have HOWN2 : Hid (OwnS w2 w.heap.size v' (acc ++ [segName ii])) := (OwnS.mk (by simpa [encStr, bs] using hown2) : OwnS w2 w.heap.size v' (acc ++ [segName ii]))
        have HKR2 : Hid (Keep [] w w2) := (HKR.out.alloc _).grown hgrow (fun g hg => .inr (HOWN.out.own.lt g hg).1)
        clear hown2 hgrow
        go_wp2
        go_roundw
        case rel => exact ⟨j + 1, acc ++ [segName ii], by omega, by go_num, HS2.out.symm, HOWN2.out, by simp; omega, HKR2.out⟩
        case measure => simp [intOf]; omega
      · have q1 : decide ((ii : Int) < (k : Int)) = false := by simp; omega
        have q1n : decide (ii < k) = false := by simpa using hlk
        have HS2 : Hid (((is.take (j + 1)).filter fun i => decide (i < k)).map segName = acc) := by
          have := HSN.out
          rw [if_neg hlk, List.append_nil] at this
          exact this
        clear hv1 hlk
        go_wp2_with (go_at_call 51; refine (segnum_seg ii hi1 hi2 _).mono ?_; rintro e w1 ⟨rfl, rfl⟩)
        go_roundw
        case rel => exact ⟨j + 1, acc, by omega, by go_num, HS2.out.symm, HOWN.out, by omega, HKR.out⟩
        case measure => simp [intOf]; omega
    · obtain rfl : j = is.length := by omega
      have d1 : decide ((is.length : Int) < (is.length : Int)) = false := by simp
      clear hkeep
      go_wp2
      go_ret
      refine ⟨_, rfl, ?_, HKR.out⟩
      have h := HOWN.out
      rw [HACC.out, List.take_of_length_le (Nat.le_refl _)] at h
      exact h

end Go.Proofs.YtkplffkchanipaaGreatDoor
