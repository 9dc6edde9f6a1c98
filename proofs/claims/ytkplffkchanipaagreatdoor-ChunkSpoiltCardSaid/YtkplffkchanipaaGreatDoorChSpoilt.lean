/- The contract of glacierlaw06.ChunkSpoilt. -/
import Derived.Test.YtkplffkchanipaaGreatDoorChTwice
import Derived.Test.YtkplffkchanipaaGreatDoorChAgain
import Derived.Test.YtkplffkchanipaaGreatDoorSpoil
namespace Go.Proofs.YtkplffkchanipaaGreatDoor
open Go.RowKit
attribute [local go_sem] size_bs bs_append ba_self
variable {w w' w0 : World} {s b m g : Nat} {C C' : Ck} {D D' : Dk} {X : List (Nat × List UInt8)}

/-- What a spoilt disk says, and what Get answers then. -/
theorem str_leq {a b : List UInt8} (h : a ≠ b) : ((bs a).toList == (bs b).toList) = false := by
  rw [beq_eq_false_iff_ne, ByteArray.toList_eq, ByteArray.toList_eq]
  intro he
  have he2 : lst (bs a) = lst (bs b) := he
  rw [lst_bs, lst_bs] at he2
  exact h he2
theorem named_len {l Y : List (Nat × List UInt8)} (ha : Asc Y) (hP : AllP (Named l) Y) : Y.length ≤ 8 := by
  have hn : (Y.map (·.1)).Nodup := List.pairwise_map.2 (ha.imp fun {p q : Nat × List UInt8} (h : p.1 < q.1) => by omega)
  have h1 := nodup_le (Y.map (·.1)) ((l.take 8).map (·.1)) hn (fun x hx => by
    obtain ⟨p, hp, rfl⟩ := List.mem_map.1 hx
    obtain ⟨k, hk, h8, e, _⟩ := hP p.1 p.2 (look_ofX ha hp)
    refine List.mem_map.2 ⟨l[k], ?_, e⟩
    rw [List.mem_take_iff_getElem]
    exact ⟨k, by omega, rfl⟩)
  rw [List.length_map, List.length_map, List.length_take] at h1
  omega
theorem was_step {l : List (Nat × List UInt8)} {i k : Nat} {d : List UInt8} (hk : k < l.length) {q q' : Bool} (h : q = true ↔ ∃ j, ∃ h : j < l.length, j < k ∧ l[j].1 = i ∧ l[j].2.take 40 = d) (hq : q' = true ↔ (q = true ∨ l[k].1 = i ∧ l[k].2.take 40 = d)) :
    q' = true ↔ ∃ j, ∃ h : j < l.length, j < k + 1 ∧ l[j].1 = i ∧ l[j].2.take 40 = d := by
  rw [hq, h]
  constructor
  · rintro (⟨j, h1, h2, h3⟩ | h1)
    · exact ⟨j, h1, by omega, h3⟩
    · exact ⟨k, hk, by omega, h1⟩
  · rintro ⟨j, h1, h2, h3⟩
    by_cases e : j = k
    · subst e; exact .inr h3
    · exact .inl ⟨j, h1, by omega, h3⟩
theorem spoil_law {l : List (Nat × List UInt8)} (hI : Inv C D X) (hS : D.Safe) (hr : D.Recd (Named l)) {i : Nat} (h1 : 1 ≤ i) (h2 : i < 100) (at_ : Int) (v : UInt8) :
    ∃ D' x, D.spoil (segName i) at_ v = (D', x) ∧ D'.Still ∧ D'.Names segNames ∧ D'.Safe ∧ D'.segs = D.segs ∧ (∀ j d, lookX j X = some d → C.get D' j = (d, 0) ∨ C.get D' j = ([], 4)) ∧ AllP (Named l) (D'.replay 100) := by
  obtain ⟨D', x, a1, a2, a3, a4, a5, a6⟩ := Dk.spoil_cases hI.dk.still hI.dk.names hS h1 h2 at_ v
  refine ⟨D', x, a1, a2, a3, a4, a5, ?_, ?_⟩
  · intro j d hj
    rcases a6 with rfl | ⟨k, u, hp⟩
    · exact .inl (hI.says.get hI.dk.still hj)
    · exact hp.get hI a2 hj
  · rcases a6 with rfl | ⟨k, u, hp⟩
    · exact replay_allP (fun j hj => hr.parts j hj) 100 (Nat.le_refl _)
    · exact hp.replay h2 hr
theorem ChIn.ids (h : ChIn w0 w s b m g C D X) (hX : X.length ≤ 1000) :
    Calls Tryz.prog 22 #[.pointer (some ⟨s, 0, none⟩)] w fun e w' => ∃ A c, e = .returned (.slice A X.length c) ∧ NumsAt w' (.slice A X.length c) (X.map fun p => (p.1 : Int)) ∧ Keep [] w w' := by
  have hids := h.inv.says.ids h.inv.dk.ok.map h.inv.asc
  have hcast : rising (C.map.map (·.1)) = X.map fun p => (p.1 : Int) := by
    have h := Ck.ids_cast h.inv.dk.ok.map
    rw [hids, List.map_map] at h
    exact h
  have hml : C.map.length = X.length := by
    have h2 := C.ids_len
    rw [hids, List.length_map] at h2
    exact h2.symm
  have TI := ids_calls h.at_ h.inv.dk.ok (by omega)
  rw [hcast] at TI
  refine TI.mono ?_
  rintro e w' ⟨v, rfl, h1, h2⟩
  obtain ⟨A, c, rfl, -⟩ := id h1
  rw [List.length_map] at h1 ⊢
  exact ⟨A, c, rfl, h1, h2⟩
theorem ChIn.get (h : ChIn w0 w s b m g C D X) {i : Nat} {d : List UInt8} (hi : lookX i X = some d) :
    Calls Tryz.prog 25 #[.pointer (some ⟨s, 0, none⟩), .int .u64 (i : Int)] w fun e w' => e = .returned (.tuple #[.string (bs d), .int .i64 0]) ∧ ChIn w0 w' s b m g C D X ∧ Keep [b, m] w w' := by
  have T := sget_calls h.at_ h.inv.dk.ok h.still.good i
  rw [h.inv.says.get h.still hi, Ck.got_still h.still] at T
  refine T.mono ?_
  rintro e w' ⟨rfl, h1, h2⟩
  exact ⟨rfl, h.same h1 (h2.mono (by simp)), h2⟩
def SpRel1 (X : List (Nat × List UInt8)) (C : Ck) (D : Dk) (w1 : World) (s b m g : Nat) (x : Value) (wr : World) : Prop :=
  ∃ k : Nat, k ≤ X.length ∧ x = .int .i64 (k : Int) ∧ StoreAt wr s b m g C D ∧ Keep [b, m] w1 wr
def WasRel (l : List (Nat × List UInt8)) (i : Nat) (d : List UInt8) (w1 : World) (p x : Value) (wr : World) : Prop :=
  ∃ (k : Nat) (q : Bool), k ≤ l.length ∧ k ≤ 8 ∧ x = .int .i64 (k : Int) ∧ p = .bool q ∧ (q = true ↔ ∃ j, ∃ h : j < l.length, j < k ∧ l[j].1 = i ∧ l[j].2.take 40 = d) ∧ Keep [] w1 wr

set_option maxRecDepth 100000 in
set_option maxHeartbeats 4000000 in
theorem chunkSpoilt_calls (w : World) (hT : Tab w) (v : Value) (l : List (Nat × List UInt8)) (hv : ChsAt w v l) (hl : ∀ q ∈ l, q.1 < 18446744073709551616) (sg : Int) (_hs1 : -9223372036854775808 ≤ sg) (_hs2 : sg ≤ 9223372036854775807) (at_ : Int) (ha1 : -9223372036854775808 ≤ at_) (ha2 : at_ ≤ 9223372036854775807) (y : Int) (hy1 : 0 ≤ y) (hy2 : y ≤ 255) :
    Calls Tryz.prog 5 #[v, .int .i64 sg, .int .i64 at_, .int .u8 y] w fun e w' => e = .returned (.bool true) ∧ Keep [] w w' := by
  obtain ⟨u, rfl⟩ : ∃ u : UInt8, y = (u.toNat : Int) := ⟨UInt8.ofNat y.toNat, by rw [UInt8.toNat_ofNat']; omega⟩
  have HTF := Lib.hid (filled_calls w hT v l hv hl 60 (by decide))
  have HL : Hid (∀ W, Keep [] w W → ChsAt W v l) := fun W hW => hv.keep hW
  obtain ⟨A, c, rfl, -⟩ := hv
  clear hT hl hy1 hy2
  by_cases hs1 : sg < 1
  · have d1 : decide (sg < 1) = true := by simpa using hs1
    go_enter Tryz.func5, Tryz.ntmps5
    go_wp2_with (first
    | (go_at_call 20; refine HTF.out.mono ?_; rintro e w1 ⟨s, b, m, g, C, D, X, vx, rfl, hF⟩; have HF := Lib.hid hF; clear hF)
    | (go_at_call 12; refine (awake6_calls _ HF.out.at_.at_.tab).mono ?_; rintro e w2 ⟨rfl, hk2⟩; have H2 := Lib.hid (HF.out.at_.grow hk2); have HO2 := Lib.hid (HF.out.own.keep2 hk2 (by simp)); clear hk2))
    go_ret
    exact ⟨rfl, H2.out.keep⟩
  by_cases hs2 : 20 < sg
  · have d1 : decide (sg < 1) = false := by simpa using hs1
    have d2 : decide (20 < sg) = true := by simpa using hs2
    go_enter Tryz.func5, Tryz.ntmps5
    go_wp2_with (first
    | (go_at_call 20; refine HTF.out.mono ?_; rintro e w1 ⟨s, b, m, g, C, D, X, vx, rfl, hF⟩; have HF := Lib.hid hF; clear hF)
    | (go_at_call 12; refine (awake6_calls _ HF.out.at_.at_.tab).mono ?_; rintro e w2 ⟨rfl, hk2⟩; have H2 := Lib.hid (HF.out.at_.grow hk2); have HO2 := Lib.hid (HF.out.own.keep2 hk2 (by simp)); clear hk2))
    go_ret
    exact ⟨rfl, H2.out.keep⟩
  obtain ⟨i, rfl⟩ : ∃ i : Nat, sg = (i : Int) := ⟨sg.toNat, by omega⟩
  have d1 : decide ((i : Int) < 1) = false := by simpa using hs1
  have d2 : decide ((20 : Int) < (i : Int)) = false := by simpa using hs2
  have hi1 : 1 ≤ i := by omega
  have hi2 : i ≤ 20 := by omega
  go_enter Tryz.func5, Tryz.ntmps5
  go_upto_region 6 with (first
    | (go_at_call 20; refine HTF.out.mono ?_; rintro e w1 ⟨s, b, m, g, C, D, X, vx, rfl, hF⟩; have HF := Lib.hid hF; clear hF)
    | (go_at_call 12; refine (awake6_calls _ HF.out.at_.at_.tab).mono ?_; rintro e w2 ⟨rfl, hk2⟩; have H2 := Lib.hid (HF.out.at_.grow hk2); have HO2 := Lib.hid (HF.out.own.keep2 hk2 (by simp)); clear hk2))
  clear d1 d2
  obtain ⟨D', x', a1, a2, a3, a4, a5, a6, a7⟩ := spoil_law HF.out.at_.inv HF.out.safe HF.out.recd hi1 (by omega) at_ u
  have hxl := HF.out.len
  have TS := fun (W : World) (hW : DiskAt W b m D) => spoil_calls hW HF.out.at_.still.good (segName i) at_ ha1 ha2 u
  unfold SpoilPost at TS
  rw [a1] at TS
  have HTS := Lib.hid TS
  have HST := Lib.hid a2
  have HNM := Lib.hid a3
  have HSF := Lib.hid a4
  have HSG := Lib.hid a5
  have HGT := Lib.hid a6
  have HAL := Lib.hid a7
  clear TS a1 a2 a3 a4 a5 a6 a7
  go_upto_region 7 with (first
    | (go_at_call 24; refine (name_calls i hi1 (by omega) _).mono ?_; rintro e w3 ⟨rfl, hk3⟩; have H3 := Lib.hid (H2.out.grow hk3); have HO3 := Lib.hid (HO2.out.keep2 hk3 (by simp)); clear hk3)
    | (go_at_call 23; refine (HTS.out _ H3.out.at_.disk).mono ?_; rintro e w4 ⟨rfl, hd4, hk4⟩; have HS4 := Lib.hid (H3.out.at_.setDisk hk4 hd4); have HK4 : Hid (Keep [] w w4) := H3.out.keep.trans' hk4 (by have := H3.out.lo; simp; omega); have HO4 := Lib.hid (HO3.out.disk H3.out.at_.disk hk4); clear hd4 hk4))
  have hlo := H3.out.lo
  have HASC := Lib.hid HF.out.at_.inv.asc
  have HCO := Lib.hid HF.out.at_.inv.dk.ok
  have hseg := HF.out.seg
  have hsgl := HF.out.at_.inv.segs_le
  rw [← HSG.out] at hsgl
  have HSL := Lib.hid hsgl
  have hvx : ∃ A c, vx = .slice A X.length c := HO4.out.slice
  obtain ⟨Ax, cx, rfl⟩ := hvx
  clear hsgl HSG H2 HO2 HO3 HTS
  go_wp2
  go_loopw [50] (fun x wr => SpRel1 X C D' w4 s b m g x wr) (fun x _ => X.length - (intOf x).toNat)
  case atStart => exact ⟨0, Nat.zero_le _, rfl, HS4.out, Keep.refl _ _⟩
  case round =>
    obtain ⟨k, hk, rfl, hSr, hKr⟩ := hrel
    have HSR := Lib.hid hSr
    have HKR := Lib.hid hKr
    by_cases hlt : k < X.length
    · have d1 : decide ((k : Int) < (X.length : Int)) = true := by simp; omega
      have hlook := look_ofX HASC.out (List.getElem_mem hlt)
      obtain ⟨A', c', hv', hcc⟩ := (HO4.out.disk HS4.out.disk hKr).at_
      injection hv' with hA hz1' hz2'
      clear hz1' hz2'
      subst hA
      obtain ⟨gx, o, rfl, hcc2⟩ := hcc (by intro h0; rw [h0] at hlt; simp at hlt)
      obtain ⟨cx0, cx1⟩ := hcc2 k hlt
      have TG := fun (W : World) (hW : StoreAt W s b m g C D') => sget_calls hW HCO.out HST.out.good X[k].1
      have hgt := HGT.out _ _ hlook
      rw [Ck.got_still HST.out] at TG
      clear hcc hcc2 hSr hKr hlook
      generalize X[k] = pr at *
      obtain ⟨j, d⟩ := pr
      simp only at cx0 cx1 hgt TG
      go_upto_region 10 with fail
      have HB1 : Hid (Blk (wr.alloc (.cells #[.int .u64 (j : Int), .string (bs d)] 32)) wr.heap.size 32 #[.int .u64 (j : Int), .string (bs d)]) := Blk.new _ _ _
      have HS1 := Lib.hid (HSR.out.grow ((Keep.refl [] wr).alloc (.cells #[.int .u64 (j : Int), .string (bs d)] 32)))
      have HK1' : Hid (Keep [b, m] w4 (wr.alloc (.cells #[.int .u64 (j : Int), .string (bs d)] 32))) := HKR.out.alloc _
      have y0 : (wr.alloc (.cells #[.int .u64 (j : Int), .string (bs d)] 32)).cell? ⟨wr.heap.size, 0, none⟩ = some (.int .u64 (j : Int)) := HB1.out.cell 0
      have hpb : wr.heap.size ≠ b ∧ wr.heap.size ≠ m := by have := HSR.out.disk.blk.lt; have := HSR.out.disk.map.lt; omega
      have HPB := Lib.hid hpb
      clear hpb cx0 cx1
      generalize wr.alloc (.cells #[.int .u64 (j : Int), .string (bs d)] 32) = W1 at *
      rcases hgt with hgt | hgt
      all_goals
        rw [hgt] at TG
        have HTG := Lib.hid TG
        clear TG hgt
        go_wp2_with (go_at_call 25; refine (HTG.out _ HS1.out).mono ?_; rintro e w5 ⟨rfl, hS5, hk5⟩; have HS5 := Lib.hid hS5; have HK5 := Lib.hid hk5; have y1 : w5.cell? ⟨wr.heap.size, 1, none⟩ = some (.string (bs d)) := (HB1.out.keep hk5 (by simp; exact HPB.out)).cell 1; clear hS5 hk5)
        go_roundw
        case rel => exact ⟨k + 1, by omega, by go_num, HS5.out, HK1'.out.trans HK5.out⟩
        case measure => simp [intOf]; omega
    · obtain rfl : k = X.length := by omega
      have d1 : decide ((X.length : Int) < (X.length : Int)) = false := by simp
      have HKW : Hid (Keep [] w wr) := HK4.out.trans' hKr (by simp; omega)
      have hyl := named_len (D'.replay_asc 100) HAL.out
      clear hSr hKr
      have HTO := Lib.hid (open_in HKW.out HSR.out.disk hlo.2.1 hlo.2.2.1 HSR.out.tab HST.out HNM.out HSF.out (k := C.seg + 1) (by omega) (by omega) HSL.out 60 (by decide))
      generalize hY : D'.replay 100 = Y at *
      clear hY
      go_wp2_with (first
        | (go_at_call 14; refine HTO.out.mono ?_; rintro e w6 ⟨t, gt, rfl, h6, hk6, -, -, -⟩; have H6 := Lib.hid h6; clear h6 hk6)
        | (go_at_call 22; refine (H6.out.ids (by omega)).mono ?_; rintro e w7 ⟨Ai, ci, rfl, hvi, hk7⟩; have HVI := Lib.hid hvi; have H7 := Lib.hid (H6.out.grow hk7); clear hvi hk7))
      clear d1
      go_loopw [88] (fun x wr => ∃ k : Nat, k ≤ Y.length ∧ x = .int .i64 (k : Int) ∧ ChIn w wr t b m gt (D'.opens 60) D' Y ∧ Keep [b, m] w7 wr) (fun x _ => Y.length - (intOf x).toNat)
      case atStart => exact ⟨0, Nat.zero_le _, rfl, H7.out, Keep.refl _ _⟩
      case round =>
        obtain ⟨k, hk, rfl, hIr, hKr⟩ := hrel
        have HIR := Lib.hid hIr
        have HKR2 := Lib.hid hKr
        by_cases hlt : k < Y.length
        · have d1 : decide ((k : Int) < (Y.length : Int)) = true := by simp; omega
          have hlook := look_ofX hIr.inv.asc (List.getElem_mem hlt)
          have hnm := HAL.out _ _ hlook
          obtain ⟨A', c', hv', hcc⟩ := HVI.out.others (othersU_disk H7.out.at_.disk hKr)
          injection hv' with hA hz1' hz2'
          clear hz1' hz2'
          subst hA
          obtain ⟨gi, rfl, hcc3⟩ := hcc (by intro h0; rw [List.map_eq_nil_iff] at h0; rw [h0] at hlt; simp at hlt)
          have ci0 := hcc3 k (by rw [List.length_map]; exact hlt)
          rw [List.getElem_map] at ci0
          have HTG := Lib.hid (hIr.get hlook)
          clear hcc hcc3 hIr hKr hlook
          generalize Y[k] = pr at *
          obtain ⟨id, d⟩ := pr
          simp only at ci0 hnm HTG
          have HNMD := Lib.hid hnm
          clear hnm
          go_wp2_with (go_at_call 25; refine HTG.out.mono ?_; rintro e w8 ⟨rfl, h8, hk8⟩; have H8 := Lib.hid h8; have HK8 := Lib.hid hk8; clear h8 hk8)
          clear d1 ci0
          go_loopw [22, 23] (fun p x wr => WasRel l id d w8 p x wr) (fun _ x _ => 8 - (intOf x).toNat)
          case atStart => exact ⟨0, false, Nat.zero_le _, by omega, rfl, rfl, ⟨fun h => by simp at h, fun ⟨j, _, h, _⟩ => by omega⟩, Keep.refl _ _⟩
          case round =>
            obtain ⟨k2, q, hk1, hk2, rfl, rfl, hq, hkq⟩ := hrel
            have HKQ := Lib.hid hkq
            by_cases hlt2 : k2 < l.length ∧ k2 < 8
            · obtain ⟨hlt2, hl8⟩ := hlt2
              have d1 : decide ((k2 : Int) < (l.length : Int)) = true := by simp; omega
              have d1n : decide (k2 < l.length) = true := by simpa using hlt2
              have d2 : decide ((k2 : Int) < 8) = true := by simp; omega
              have d2n : decide (k2 < 8) = true := by simpa using hl8
              obtain ⟨A', c', hv', hcc⟩ := HL.out wr (H8.out.keep.trans hkq)
              injection hv' with hA hz1' hz2'
              clear hz1' hz2'
              subst hA
              obtain ⟨gx, o, rfl, hcc2⟩ := hcc (by intro h0; rw [h0] at hlt2; simp at hlt2)
              obtain ⟨cx0, cx1⟩ := hcc2 k2 hlt2
              have HW := Lib.hid (fun q' => was_step (q' := q') hlt2 hq)
              clear hcc hcc2 hkq hq
              generalize l[k2] = pr at *
              obtain ⟨i2, d2'⟩ := pr
              simp only at cx0 cx1 HW
              cases q with
              | true =>
                go_wp2
                go_roundw
                case rel => exact ⟨k2 + 1, true, by omega, by omega, by go_num, rfl, HW.out true (by simp), HKQ.out⟩
                case measure => simp [intOf]; omega
              | false =>
                by_cases e1 : i2 = id
                · subst e1
                  have TC := fun (W : World) => cut_calls d2' 40 W
                  by_cases e2 : d2'.take 40 = d
                  · rw [e2] at TC
                    have HTC := Lib.hid TC
                    have HE := Lib.hid e2
                    clear TC e2
                    go_wp2_with (go_at_call 15; refine (HTC.out _).mono ?_; rintro e w9 ⟨rfl, rfl⟩)
                    go_roundw
                    case rel => exact ⟨k2 + 1, true, by omega, by omega, by go_num, rfl, HW.out true (by simp [HE.out]), HKQ.out⟩
                    case measure => simp [intOf]; omega
                  · have hsb := str_leq e2
                    have HTC := Lib.hid TC
                    have HE := Lib.hid e2
                    clear TC e2
                    generalize hgt : d2'.take 40 = dt at *
                    clear hgt
                    go_wp2_with (go_at_call 15; refine (HTC.out _).mono ?_; rintro e w9 ⟨rfl, rfl⟩)
                    go_roundw
                    case rel => exact ⟨k2 + 1, false, by omega, by omega, by go_num, rfl, HW.out false (by simp [HE.out]), HKQ.out⟩
                    case measure => simp [intOf]; omega
                · have hib : ((i2 : Int) == (id : Int)) = false := by rw [beq_eq_false_iff_ne]; omega
                  have HE := Lib.hid e1
                  clear e1
                  go_wp2
                  go_roundw
                  case rel => exact ⟨k2 + 1, false, by omega, by omega, by go_num, rfl, HW.out false (by simp [HE.out]), HKQ.out⟩
                  case measure => simp [intOf]; omega
            · have hqt : q = true := by
                obtain ⟨j, hj, h8, e1, e2⟩ := HNMD.out
                exact hq.2 ⟨j, hj, by omega, e1, e2⟩
              subst hqt
              have hcase : k2 = l.length ∨ k2 = 8 ∧ k2 < l.length := by omega
              have HQ := Lib.hid hq
              clear hq hkq
              rcases hcase with rfl | ⟨hk8, hlt8⟩
              · have d1 : decide ((l.length : Int) < (l.length : Int)) = false := by simp
                go_wp2
                go_roundw
                case rel => exact ⟨k + 1, by omega, by go_num, H8.out.grow HKQ.out, (HKR2.out.trans HK8.out).trans HKQ.out.nil_⟩
                case measure => simp [intOf]; omega
              · have d1 : decide ((k2 : Int) < (l.length : Int)) = true := by simp; omega
                have d1n : decide (k2 < l.length) = true := by simpa using hlt8
                have d2 : decide ((k2 : Int) < 8) = false := by simp; omega
                have d2n : decide (k2 < 8) = false := by simp; omega
                go_wp2
                go_roundw
                case rel => exact ⟨k + 1, by omega, by go_num, H8.out.grow HKQ.out, (HKR2.out.trans HK8.out).trans HKQ.out.nil_⟩
                case measure => simp [intOf]; omega
        · obtain rfl : k = Y.length := by omega
          have d1 : decide ((Y.length : Int) < (Y.length : Int)) = false := by simp
          clear hIr hKr
          go_wp2
          go_ret
          exact ⟨rfl, HIR.out.keep⟩

end Go.Proofs.YtkplffkchanipaaGreatDoor
