/- glacierlaw11.QuorumWay answers true. -/
import Derived.Test.YtnlcipocobmgiaaGreatDoorQWayIn
import Derived.Test.YtnlcipocobmgiaaGreatDoorQWay
import Derived.Test.YtnlcipocobmgiaaGreatDoorQAwake
import Derived.Test.YtnlcipocobmgiaaGreatDoorWacts
namespace Go.Proofs.YtnlcipocobmgiaaGreatDoor
open Go.RowKit
attribute [local go_sem] size_bs bs_append bs_extract

section
variable {w0 : Bs} {w w' : World} {q n : Nat} {way : List Mg}
theorem way_way (h : WayIn w0 w q n way) (hl : way.length ≤ 200) :
    Calls Tryz.prog 31 #[.pointer (some ⟨q, 0, none⟩)] w fun e w' => e = .returned (.slice (some ⟨w.heap.size, 0, none⟩) way.length way.length) ∧ Keep [] w w' ∧ ∀ i y, way[i]? = some y → ∃ A c, ∀ m u, m < 10 → (y.cells (.slice A 0 c))[m]? = some u → w'.cell? ⟨w.heap.size, i * 10 + m, none⟩ = some u := by
  obtain ⟨⟨P, hN, hR⟩, ho⟩ := h
  refine (qway_calls hN (fun y hy => (ho y hy).1) hl).mono ?_
  rintro e w' ⟨rfl, ⟨cs, hB, hW⟩, hk⟩
  refine ⟨rfl, hk, fun i y hy => ?_⟩
  obtain ⟨A, c, hc⟩ := hW i y (List.getElem?_eq_some_iff.1 hy).1 hy
  refine ⟨A, c, fun m u hm hu => ?_⟩
  rw [hB.cell]
  exact hc m u hm hu
/-- The place of a message that an act means. -/
theorem place_of (x : Int) (L : Nat) (hL : 1 ≤ L) (h2 : L ≤ 100) : ∃ k : Nat, k < L ∧ IntKind.i64.wrap (x.tmod (L : Int)) = x.tmod (L : Int) ∧ IntKind.i64.wrap (x.tmod (L : Int) + (L : Int)) = x.tmod (L : Int) + (L : Int) ∧ IntKind.i64.wrap ((x.tmod (L : Int) + (L : Int)).tmod (L : Int)) = (k : Int) ∧ (x.tmod (L : Int) + (L : Int)).tmod (L : Int) = (k : Int) := by
  have e3 : x.tmod (L : Int) = x % (L : Int) - ((if 0 ≤ x ∨ (L : Int) ∣ x then 0 else (L : Int).natAbs : Nat) : Int) := Int.tmod_eq_emod
  have e1 := Int.emod_nonneg x (show (L : Int) ≠ 0 by omega)
  have e2 := Int.emod_lt_of_pos x (show (0 : Int) < (L : Int) by omega)
  have hb : -(L : Int) ≤ x.tmod (L : Int) ∧ x.tmod (L : Int) < (L : Int) := by split at e3 <;> omega
  have hm := Int.tmod_eq_emod_of_nonneg (a := x.tmod (L : Int) + (L : Int)) (b := (L : Int)) (by omega)
  have f1 := Int.emod_nonneg (x.tmod (L : Int) + (L : Int)) (show (L : Int) ≠ 0 by omega)
  have f2 := Int.emod_lt_of_pos (x.tmod (L : Int) + (L : Int)) (show (0 : Int) < (L : Int) by omega)
  refine ⟨((x.tmod (L : Int) + (L : Int)) % (L : Int)).toNat, by omega, IntWalk.i64_in _ (by omega), IntWalk.i64_in _ (by omega), ?_, by omega⟩
  rw [IntWalk.i64_in _ (by omega)]
  omega
set_option maxRecDepth 100000 in
set_option maxHeartbeats 4000000 in
theorem quorumWay_calls (w : World) (hT : Tab w) (n0 : Int) (hn1 : -9223372036854775808 ≤ n0) (hn2 : n0 ≤ 9223372036854775807) (v : Value) (acts : List Wa) (hv : WActsAt w v acts) :
    Calls Tryz.prog 6 #[.int .i64 n0, v] w fun e w' => e = .returned (.bool true) ∧ Keep [] w w' := by
  have TA : ∀ W, Keep [] w W → Calls Tryz.prog 27 #[] W fun e w' => e = .returned (.bool true) ∧ Keep [] W w' := fun W hk => awake_calls (hT.keep hk (by simp))
  have HTA := Lib.hid TA
  have HV := Lib.hid hv
  obtain ⟨At, ct, rfl, hvc⟩ := hv
  by_cases hlo : n0 < 2
  · have d1 : decide (n0 < 2) = true := decide_eq_true hlo
    clear hvc TA hT
    go_enter Tryz.func6, Tryz.ntmps6
    go_wp2_with (first
      | (go_at_call 27; (with_reducible refine (HTA.out _ (Keep.refl [] _)).mono ?_); rintro e w1 ⟨rfl, hk1⟩; have HK1 := Lib.hid hk1; clear hk1)
      | (go_at_call 27; (with_reducible refine (HTA.out _ HK1.out).mono ?_); rintro e w2 ⟨rfl, hk2⟩; have HK2 := Lib.hid hk2; clear hk2))
    go_ret
    exact ⟨rfl, HK1.out.trans HK2.out⟩
  by_cases hhi : 5 < n0
  · have d1 : decide (n0 < 2) = false := decide_eq_false hlo
    have d2 : decide (5 < n0) = true := decide_eq_true hhi
    clear hvc TA hT
    go_enter Tryz.func6, Tryz.ntmps6
    go_wp2_with (first
      | (go_at_call 27; (with_reducible refine (HTA.out _ (Keep.refl [] _)).mono ?_); rintro e w1 ⟨rfl, hk1⟩; have HK1 := Lib.hid hk1; clear hk1)
      | (go_at_call 27; (with_reducible refine (HTA.out _ HK1.out).mono ?_); rintro e w2 ⟨rfl, hk2⟩; have HK2 := Lib.hid hk2; clear hk2))
    go_ret
    exact ⟨rfl, HK1.out.trans HK2.out⟩
  obtain ⟨n, rfl⟩ : ∃ n : Nat, n0 = (n : Int) := ⟨n0.toNat, by omega⟩
  have h2 : 2 ≤ n := by omega
  have h5 : n ≤ 5 := by omega
  have HNW : Hid (∀ W, Keep [] w W → Calls Tryz.prog 28 #[.int .i64 (n : Int), .int .i64 1048576] W fun e w' => ∃ q, e = .returned (.tuple #[.pointer (some ⟨q, 0, none⟩), .int .i64 0]) ∧ TickIn W w' q n 0) := fun W hk => by
    refine (qnew_calls (hT.keep hk (by simp)) n (by omega) h5 1048576 (by omega)).mono ?_
    rintro e w' ⟨q, rfl, h⟩
    exact ⟨q, rfl, TickIn.start h h2⟩
  have HTK : Hid (∀ W0 W q j, j < 4 → TickIn W0 W q n j → Calls Tryz.prog 29 #[.pointer (some ⟨q, 0, none⟩), .int .i64 0] W fun e w' => e = .returned (.tuple #[]) ∧ TickIn W0 w' q n (j + 1)) := fun W0 W q j hj h => ticks_calls h hj h2 h5
  have HON : Hid (∀ W0 W q (L : Nat) (way : List Mg), way.length = L → WayIn W0 W q n way → Calls Tryz.prog 30 #[.pointer (some ⟨q, 0, none⟩)] W fun e w' => e = .returned (.int .i64 (L : Int)) ∧ W = w') := fun W0 W q L way hl h => hl ▸ way_on h
  have d1 : decide ((n : Int) < 2) = false := decide_eq_false (by omega)
  have d2 : decide (5 < (n : Int)) = false := decide_eq_false (by omega)
  have hsub : IntKind.i64.wrap ((n : Int) - 1) = (n : Int) - 1 := IntWalk.i64_in _ (by omega)
  have H2 := Lib.hid h2
  have H5 := Lib.hid h5
  clear hvc TA hT hlo hhi hn1 hn2
  obtain ⟨na, hna⟩ : ∃ na, na = acts.length := ⟨_, rfl⟩
  rw [← hna]
  have HNA := Lib.hid hna
  clear hna
  go_enter Tryz.func6, Tryz.ntmps6
  go_wp2_with (first
    | (go_at_call 27; (with_reducible refine (HTA.out _ (Keep.refl [] _)).mono ?_); rintro e w1 ⟨rfl, hk1⟩; have HK1 := Lib.hid hk1; clear hk1)
    | (go_at_call 28; (with_reducible refine (HNW.out _ HK1.out).mono ?_); rintro e w2 ⟨q, rfl, t2⟩; have T2 := Lib.hid t2; clear t2)
    | fail)
  go_loopw [7] (fun vi wr => ∃ j : Nat, j ≤ 4 ∧ vi = .int .i64 (j : Int) ∧ TickIn w1 wr q n j) (fun vi _ => 4 - (intOf vi).toNat)
  case atStart => exact ⟨0, Nat.zero_le _, rfl, T2.out⟩
  case round =>
    obtain ⟨j, hj, rfl, hR⟩ := hrel
    by_cases hlt : j < 4
    · have dj : decide ((j : Int) < 4) = true := decide_eq_true (by omega)
      have hjn : (j : Int) < 4 := by omega
      have HC := Lib.hid (HTK.out _ _ _ _ hlt hR)
      have HLT := Lib.hid hlt
      clear hR hlt
      go_wp2_with (first | (go_at_call 29; refine HC.out.mono ?_; rintro e w6 ⟨rfl, u1⟩; have U1 := Lib.hid u1; clear u1) | fail)
      go_roundw
      case rel => exact ⟨j + 1, HLT.out, by go_num, U1.out⟩
      case measure => have hlt := HLT.out; simp [intOf]; omega
    · have dj : decide ((j : Int) < 4) = false := decide_eq_false (by omega)
      obtain rfl : j = 4 := by omega
      obtain ⟨way0, hl0, hw0⟩ := hR.end_ H2.out H5.out
      obtain ⟨L0, hL0⟩ : ∃ L0, L0 = n - 1 := ⟨_, rfl⟩
      rw [← hL0] at hl0
      have hli : (L0 : Int) = (n : Int) - 1 := by omega
      have hbn : ((L0 : Int) != (n : Int) - 1) = false := by rw [hli]; simp
      have HL0 := Lib.hid hl0
      have HW0 := Lib.hid hw0
      have HLN := Lib.hid hL0
      clear hl0 hw0 hL0 hli hR hlt hj
      go_wp2_with (first | (go_at_call 30; refine (HON.out _ _ _ _ _ HL0.out HW0.out).mono ?_; rintro e w7 ⟨rfl, rfl⟩) | fail)
      clear hbn dj
      go_loopw [8] (fun vi wr => ∃ (j L : Nat) (way : List Mg), j ≤ na ∧ j ≤ 20 ∧ vi = .int .i64 (j : Int) ∧ L ≤ 4 + j ∧ way.length = L ∧ WayIn w1 wr q n way) (fun vi _ => na - (intOf vi).toNat)
      case atStart => exact ⟨0, L0, way0, Nat.zero_le _, Nat.zero_le _, rfl, (by have h1 := HLN.out; have h2 := H5.out; omega), HL0.out, HW0.out⟩
      case round =>
        obtain ⟨j, L, way, hj, h20, rfl, hLj, hl, hR⟩ := hrel
        have HC := Lib.hid (HON.out _ _ _ _ _ hl hR)
        have HK := Lib.hid (HK1.out.trans hR.keep)
        have l1 : decide ((L : Int) ≤ 200) = true := decide_eq_true (by omega)
        by_cases hlt : j < na
        · by_cases hlt2 : j < 20
          · have dj : decide ((j : Int) < (na : Int)) = true := decide_eq_true (by omega)
            have dj2 : decide ((j : Int) < 20) = true := decide_eq_true (by omega)
            have hjn : (j : Int) < (na : Int) := by omega
            have hjn2 : (j : Int) < 20 := by omega
            by_cases hz : L = 0
            · have e0 : ((L : Int) == 0) = true := by rw [hz]; rfl
              clear hR hl hz hLj hlt hlt2 hj h20
              go_wp2_with (first | (go_at_call 30; refine HC.out.mono ?_; rintro e w8 ⟨rfl, rfl⟩) | fail)
              go_ret
              exact ⟨rfl, HK.out⟩
            · have e0 : ((L : Int) == 0) = false := by simp; exact hz
              have em1 : ((L : Int) == -1) = false := by simp
              have hL1 : 1 ≤ L := by omega
              have hL100 : L ≤ 100 := by omega
              obtain ⟨A1, c1, hv1, hc1⟩ := HV.out.keep HK.out
              injection hv1 with v1 v2 v3
              subst v1
              clear v2 v3
              have hjl : j < acts.length := by rw [← HNA.out]; exact hlt
              obtain ⟨g, o, rfl, hca⟩ := hc1 (by intro h; rw [h] at hjl; simp at hjl)
              obtain ⟨a0, a1, an1, an2⟩ := hca j hjl
              obtain ⟨k, hkL, p1, p2, p3, p4⟩ := place_of acts[j].n L hL1 hL100
              clear hca hc1
              generalize acts[j].n = an at *
              generalize acts[j].kind = ak at *
              have hkw : k < way.length := by omega
              obtain ⟨y, hy⟩ : ∃ y, way[k]? = some y := ⟨_, List.getElem?_eq_getElem hkw⟩
              obtain ⟨hye, i, hyt, hi1, hin⟩ := hR.ok y (List.mem_of_getElem? hy)
              obtain ⟨L', hL'⟩ : ∃ L', L' = L - 1 := ⟨_, rfl⟩
              have hs1 : IntKind.i64.wrap ((L : Int) - 1) = (L : Int) - 1 := IntWalk.i64_in _ (by omega)
              have hs2 : IntKind.i64.wrap ((L : Int) + 1) = (L : Int) + 1 := IntWalk.i64_in _ (by omega)
              have hs3 : IntKind.i64.wrap ((j : Int) + 1) = (j : Int) + 1 := IntWalk.i64_in _ (by omega)
              have hb1 : ((L' : Int) != (L : Int) - 1) = false := by rw [show (L' : Int) = (L : Int) - 1 by omega]; simp
              have hle : (way.eraseIdx k).length = L' := by rw [List.length_eraseIdx, if_pos hkw]; omega
              obtain ⟨M, hM⟩ : ∃ M, M = L + 1 := ⟨_, rfl⟩
              have hla : (way ++ [y]).length = M := by rw [List.length_append, hl, hM]; rfl
              have hb2 : ((M : Int) != (L : Int) + 1) = false := by rw [show (M : Int) = (L : Int) + 1 by omega]; simp
              have hga : (way ++ [y])[L]? = some y := by rw [← hl]; simp
              have HWY : Hid (Calls Tryz.prog 31 #[.pointer (some ⟨q, 0, none⟩)] wr fun e w' => e = .returned (.slice (some ⟨wr.heap.size, 0, none⟩) L L) ∧ ∃ A c, (Keep [] wr (World.alloc w' (.cells (#[.int .i64 y.kind, .int .i64 y.frm, .int .i64 (i : Int), .int .i64 y.term, .int .i64 y.index, .int .i64 y.logTerm, .int .i64 y.commit, .bool y.ok, .slice A 0 c, .string (bs y.snap)] : Array Value) 56)) ∧ WayIn ⟨w1, [(w'.heap.size, 56, (#[.int .i64 y.kind, .int .i64 y.frm, .int .i64 (i : Int), .int .i64 y.term, .int .i64 y.index, .int .i64 y.logTerm, .int .i64 y.commit, .bool y.ok, .slice A 0 c, .string (bs y.snap)] : Array Value))]⟩ (World.alloc w' (.cells (#[.int .i64 y.kind, .int .i64 y.frm, .int .i64 (i : Int), .int .i64 y.term, .int .i64 y.index, .int .i64 y.logTerm, .int .i64 y.commit, .bool y.ok, .slice A 0 c, .string (bs y.snap)] : Array Value) 56)) q n way) ∧ ∀ m u, m < 10 → (((#[.int .i64 y.kind, .int .i64 y.frm, .int .i64 (i : Int), .int .i64 y.term, .int .i64 y.index, .int .i64 y.logTerm, .int .i64 y.commit, .bool y.ok, .slice A 0 c, .string (bs y.snap)] : Array Value)).toList)[m]? = some u → w'.cell? ⟨wr.heap.size, k * 10 + m, none⟩ = some u) := by
                refine (way_way hR (by omega)).mono ?_
                rintro e w' ⟨he, hk, hc⟩
                rw [hl] at he
                obtain ⟨A, c, hc⟩ := hc k y hy
                have hk2 : Keep [] wr (World.alloc w' (.cells (#[.int .i64 y.kind, .int .i64 y.frm, .int .i64 (i : Int), .int .i64 y.term, .int .i64 y.index, .int .i64 y.logTerm, .int .i64 y.commit, .bool y.ok, .slice A 0 c, .string (bs y.snap)] : Array Value) 56)) := hk.alloc _
                refine ⟨he, A, c, ⟨hk2, hR.with_ hk2 (Blk.new _ _ _) hk.size⟩, fun m u hm hu => hc m u hm ?_⟩
                rw [← hyt] at hu
                exact hu
              have HDR : Hid (∀ Z W, WayIn Z W q n way → Calls Tryz.prog 32 #[.pointer (some ⟨q, 0, none⟩), .int .i64 (k : Int)] W fun e w' => e = .returned (.tuple #[]) ∧ WayIn Z w' q n (way.eraseIdx k)) := fun Z W h => way_drop h k hkw (by omega)
              have HAG : Hid (∀ Z W, WayIn Z W q n way → Calls Tryz.prog 33 #[.pointer (some ⟨q, 0, none⟩), .int .i64 (k : Int)] W fun e w' => e = .returned (.tuple #[]) ∧ WayIn Z w' q n (way ++ [y])) := fun Z W h => way_again h k y hy (by omega)
              have HCR : Hid (∀ Z W, WayIn Z W q n way → Calls Tryz.prog 34 #[.pointer (some ⟨q, 0, none⟩), .int .i64 (i : Int), .slice none 0 0] W fun e w' => e = .returned (.int .i64 0) ∧ DownIn Z w' q n i way) := fun Z W h => way_crash h i hi1 hin
              have HDL : Hid (∀ Z W, DownIn Z W q n i way → Calls Tryz.prog 35 #[.pointer (some ⟨q, 0, none⟩), .int .i64 (k : Int)] W fun e w' => e = .returned (.tuple #[]) ∧ DownIn Z w' q n i (way.eraseIdx k)) := fun Z W h => way_deliver h k y hy hyt (by omega)
              have HDO : Hid (∀ Z W, DownIn Z W q n i (way.eraseIdx k) → Calls Tryz.prog 30 #[.pointer (some ⟨q, 0, none⟩)] W fun e w' => e = .returned (.int .i64 (L' : Int)) ∧ W = w') := fun Z W h => hle ▸ down_on h
              have hok : ∀ z ∈ way.eraseIdx k, MsgOk n z := fun z hz => hR.ok z (List.mem_of_mem_eraseIdx hz)
              have HDS : Hid (∀ Z W, DownIn Z W q n i (way.eraseIdx k) → Calls Tryz.prog 37 #[.pointer (some ⟨q, 0, none⟩), .int .i64 (i : Int)] W fun e w' => e = .returned (.int .i64 0) ∧ WayIn Z w' q n (way.eraseIdx k)) := fun Z W h => down_start h H5.out hok
              have HWX : Hid (∀ Z W, WayIn Z W q n (way ++ [y]) → Calls Tryz.prog 31 #[.pointer (some ⟨q, 0, none⟩)] W fun e w' => e = .returned (.slice (some ⟨W.heap.size, 0, none⟩) M M) ∧ Keep [] W w' ∧ w'.cell? ⟨W.heap.size, L * 10, none⟩ = some (.int .i64 y.kind) ∧ w'.cell? ⟨W.heap.size, L * 10 + 2, none⟩ = some (.int .i64 (i : Int))) := fun Z W h => by
                refine (way_way h (by omega)).mono ?_
                rintro e w' ⟨he, hk, hc⟩
                rw [hla] at he
                obtain ⟨A, c, hc⟩ := hc L y hga
                exact ⟨he, hk, hc 0 _ (by omega) rfl, by rw [← hyt]; exact hc 2 _ (by omega) rfl⟩
              have dk1 : decide ((k : Int) < 0) = false := decide_eq_false (by omega)
              have dk2 : decide ((L : Int) ≤ (k : Int)) = false := decide_eq_false (by omega)
              have dk3 : (k : Int) < (L : Int) := by omega
              have dk4 : decide ((M : Int) ≤ (L : Int)) = false := decide_eq_false (by omega)
              have dk5 : decide ((L : Int) < 0) = false := decide_eq_false (by omega)
              have dk6 : (L : Int) < (M : Int) := by omega
              have HREL1 : Hid (j + 1 ≤ na ∧ j + 1 ≤ 20 ∧ L' ≤ 4 + (j + 1) ∧ (way.eraseIdx k).length = L') := ⟨hlt, hlt2, by omega, hle⟩
              have HREL2 : Hid (j + 1 ≤ na ∧ j + 1 ≤ 20 ∧ M ≤ 4 + (j + 1) ∧ (way ++ [y]).length = M) := ⟨hlt, hlt2, by omega, hla⟩
              have HLT := Lib.hid hlt
              clear hR hl hkw hy hye hyt hi1 hin hL' hle hla hga hok hlt hlt2 hz hLj hj h20 an1 an2 hkL hL1 hL100 hjl hM
              generalize way.eraseIdx k = wayd at *
              generalize way ++ [y] = waya at *
              go_upto_region 20 with (first
                | (go_at_call 30; refine HC.out.mono ?_; rintro e w8 ⟨rfl, rfl⟩)
                | (go_at_call 31; refine HWY.out.mono ?_; rintro e w8 ⟨rfl, A, c, h8, hc8⟩; have s0 : w8.cell? ⟨wr.heap.size, k * 10, none⟩ = some (.int .i64 y.kind) := hc8 0 _ (by omega) rfl; have s1 : w8.cell? ⟨wr.heap.size, k * 10 + 1, none⟩ = some (.int .i64 y.frm) := hc8 1 _ (by omega) rfl; have s2 : w8.cell? ⟨wr.heap.size, k * 10 + 2, none⟩ = some (.int .i64 (i : Int)) := hc8 2 _ (by omega) rfl; have s3 : w8.cell? ⟨wr.heap.size, k * 10 + 3, none⟩ = some (.int .i64 y.term) := hc8 3 _ (by omega) rfl; have s4 : w8.cell? ⟨wr.heap.size, k * 10 + 4, none⟩ = some (.int .i64 y.index) := hc8 4 _ (by omega) rfl; have s5 : w8.cell? ⟨wr.heap.size, k * 10 + 5, none⟩ = some (.int .i64 y.logTerm) := hc8 5 _ (by omega) rfl; have s6 : w8.cell? ⟨wr.heap.size, k * 10 + 6, none⟩ = some (.int .i64 y.commit) := hc8 6 _ (by omega) rfl; have s7 : w8.cell? ⟨wr.heap.size, k * 10 + 7, none⟩ = some (.bool y.ok) := hc8 7 _ (by omega) rfl; have s8 : w8.cell? ⟨wr.heap.size, k * 10 + 8, none⟩ = some (.slice A 0 c) := hc8 8 _ (by omega) rfl; have s9 : w8.cell? ⟨wr.heap.size, k * 10 + 9, none⟩ = some (.string (bs y.snap)) := hc8 9 _ (by omega) rfl; have H8 := Lib.hid h8; clear h8 hc8)
                | fail)
              obtain ⟨Z, hz1, hz2, hz3⟩ : ∃ Z : Bs, WayIn Z (World.alloc w8 (.cells (#[.int .i64 y.kind, .int .i64 y.frm, .int .i64 (i : Int), .int .i64 y.term, .int .i64 y.index, .int .i64 y.logTerm, .int .i64 y.commit, .bool y.ok, .slice A 0 c, .string (bs y.snap)] : Array Value) 56)) q n way ∧ (∀ W l, WayIn Z W q n l → WayIn w1 W q n l ∧ (World.cell? W ⟨w8.heap.size, 0, none⟩ = some (.int .i64 y.kind) ∧ World.cell? W ⟨w8.heap.size, 2, none⟩ = some (.int .i64 (i : Int)))) ∧ (∀ W l, DownIn Z W q n i l → (World.cell? W ⟨w8.heap.size, 0, none⟩ = some (.int .i64 y.kind) ∧ World.cell? W ⟨w8.heap.size, 2, none⟩ = some (.int .i64 (i : Int)))) := ⟨⟨w1, [(w8.heap.size, 56, (#[.int .i64 y.kind, .int .i64 y.frm, .int .i64 (i : Int), .int .i64 y.term, .int .i64 y.index, .int .i64 y.logTerm, .int .i64 y.commit, .bool y.ok, .slice A 0 c, .string (bs y.snap)] : Array Value))]⟩, H8.out.2, fun W l h => ⟨h.bare, (h.blk (List.mem_singleton_self _)).cell 0, (h.blk (List.mem_singleton_self _)).cell 2⟩, fun W l h => ⟨(h.blk (List.mem_singleton_self _)).cell 0, (h.blk (List.mem_singleton_self _)).cell 2⟩⟩
              have b0 : World.cell? (World.alloc w8 (.cells (#[.int .i64 y.kind, .int .i64 y.frm, .int .i64 (i : Int), .int .i64 y.term, .int .i64 y.index, .int .i64 y.logTerm, .int .i64 y.commit, .bool y.ok, .slice A 0 c, .string (bs y.snap)] : Array Value) 56)) ⟨g, o + j * 5, none⟩ = some (.int .i64 ak) := (H8.out.1.cell (World.block_lt_of_cell? _ _ a0) (by simp)).trans a0
              clear s0 s1 s2 s3 s4 s5 s6 s7 s8 s9 H8 a0 a1 HWY
              generalize (World.alloc w8 (.cells (#[.int .i64 y.kind, .int .i64 y.frm, .int .i64 (i : Int), .int .i64 y.term, .int .i64 y.index, .int .i64 y.logTerm, .int .i64 y.commit, .bool y.ok, .slice A 0 c, .string (bs y.snap)] : Array Value) 56)) = W3 at *
              generalize w8.heap.size = mb at *
              have m0 := (hz2 _ _ hz1).2.1
              have m2 := (hz2 _ _ hz1).2.2
              have HZ1 := Lib.hid hz1
              have HZ2 := Lib.hid hz2
              have HZ3 := Lib.hid hz3
              clear hz1 hz2 hz3 HC dj dj2 e0 em1
              by_cases e2 : ak = 2
              · have t2 : (ak == 2) = true := beq_iff_eq.2 e2
                clear e2
                go_wp2_with (first
                  | (go_at_call 32; refine (HDR.out _ _ HZ1.out).mono ?_; rintro e w9 ⟨rfl, h9⟩; have H9 := Lib.hid h9; clear h9)
                  | (go_at_call 30; refine (HON.out _ _ _ _ _ HREL1.out.2.2.2 H9.out).mono ?_; rintro e w10 ⟨rfl, rfl⟩)
                  | fail)
                go_roundw
                case rel => exact ⟨j + 1, L', wayd, HREL1.out.1, HREL1.out.2.1, by go_num, HREL1.out.2.2.1, HREL1.out.2.2.2, (HZ2.out _ _ H9.out).1⟩
                case measure => have hlt := HLT.out; simp [intOf]; omega
              have t2 : (ak == 2) = false := beq_eq_false_iff_ne.2 e2
              by_cases e3 : ak = 3
              · have t3 : (ak == 3) = true := beq_iff_eq.2 e3
                clear e2 e3
                go_upto_region 32 with (first
                  | (go_at_call 33; refine (HAG.out _ _ HZ1.out).mono ?_; rintro e w9 ⟨rfl, h9⟩; have H9 := Lib.hid h9; clear h9)
                  | fail)
                clear m0 m2
                have HS9 : Hid (∀ W, Keep [] w9 W → (World.cell? W ⟨mb, 0, none⟩ = some (.int .i64 y.kind) ∧ World.cell? W ⟨mb, 2, none⟩ = some (.int .i64 (i : Int)))) := fun W hW => (HZ2.out _ _ (H9.out.grow hW)).2
                refine wp_region_held_drew (S := fun w' => (World.cell? w' ⟨mb, 0, none⟩ = some (.int .i64 y.kind) ∧ World.cell? w' ⟨mb, 2, none⟩ = some (.int .i64 (i : Int)))) (by kernel_rfl) (HS9.out _ (Keep.refl _ _).drew) (fun hHeld => ?_)
                refine wpAnyH_take (i := 0) (v := ?_) (by simp only [List.getElem?_toArray, List.getElem?_cons_zero]; rfl) (by kernel_rfl) (by kernel_rfl) (by kernel_rfl) (by exact fun _ _ _ h => h) ?_ hHeld ?_
                rotate_left
                · refine Or.inl ⟨by rfl, ?_⟩
                  rintro W ⟨s0, s2⟩
                  go_simp
                  with_reducible rfl
                try simp only [Act.put, List.setIfInBounds_toArray, List.set_cons_zero, List.set_cons_succ]
                refine wpAnyH_take (i := 2) (v := ?_) (by simp only [List.getElem?_toArray, List.getElem?_cons_succ, List.getElem?_cons_zero]; rfl) (by kernel_rfl) (by kernel_rfl) (by kernel_rfl) (by exact fun _ _ _ h => h) ?_ hHeld ?_
                rotate_left
                · refine Or.inl ⟨by rfl, ?_⟩
                  rintro W ⟨s0, s2⟩
                  go_simp
                  with_reducible rfl
                try simp only [Act.put, List.setIfInBounds_toArray, List.set_cons_zero, List.set_cons_succ]
                refine wpAnyH_take (i := 3) (v := ?_) (by simp only [List.getElem?_toArray, List.getElem?_cons_succ, List.getElem?_cons_zero]; rfl) (by kernel_rfl) (by kernel_rfl) (by kernel_rfl) (by exact fun _ _ _ h => h) ?_ hHeld ?_
                rotate_left
                · refine Or.inl ⟨by rfl, ?_⟩
                  rintro W ⟨s0, s2⟩
                  go_simp
                  with_reducible rfl
                try simp only [Act.put, List.setIfInBounds_toArray, List.set_cons_zero, List.set_cons_succ]
                refine wpAnyH_ready (rs := [1]) (by kernel_rfl) (by simp) (AllReadyH.cons rfl (fun K hK => ?_) AllReadyH.nil)
                go_simp
                go_at_call 30
                refine (HON.out _ _ _ _ _ HREL2.out.2.2.2 (H9.out.grow (by repeat (first | exact Keep.refl _ _ | exact HK10.out | refine Keep.drew ?_ | refine Keep.drewN ?_ _ | refine Keep.alloc ?_ _)))).mono ?_
                rintro e w11 ⟨rfl, rfl⟩
                go_simp
                refine hK.out _ _ hHeld (fun _ => ?_)
                clear hK K
                try simp only [Act.put, List.setIfInBounds_toArray, List.set_cons_zero, List.set_cons_succ]
                refine wpAnyH_take (i := 4) (v := ?_) (by simp only [List.getElem?_toArray, List.getElem?_cons_succ, List.getElem?_cons_zero]; rfl) (by kernel_rfl) (by kernel_rfl) (by kernel_rfl) (by exact fun _ _ _ h => h) ?_ hHeld ?_
                rotate_left
                · refine Or.inl ⟨by rfl, ?_⟩
                  rintro W ⟨s0, s2⟩
                  go_simp
                  with_reducible rfl
                try simp only [Act.put, List.setIfInBounds_toArray, List.set_cons_zero, List.set_cons_succ]
                refine wpAnyH_take (i := 5) (v := ?_) (by simp only [List.getElem?_toArray, List.getElem?_cons_succ, List.getElem?_cons_zero]; rfl) (by kernel_rfl) (by kernel_rfl) (by kernel_rfl) (by exact fun _ _ _ h => h) ?_ hHeld ?_
                rotate_left
                · refine Or.inl ⟨by rfl, ?_⟩
                  rintro W ⟨s0, s2⟩
                  go_simp
                  with_reducible rfl
                try simp only [Act.put, List.setIfInBounds_toArray, List.set_cons_zero, List.set_cons_succ]
                refine wpAnyH_take (i := 6) (v := ?_) (by simp only [List.getElem?_toArray, List.getElem?_cons_succ, List.getElem?_cons_zero]; rfl) (by kernel_rfl) (by kernel_rfl) (by kernel_rfl) (by exact fun _ _ _ h => h) ?_ hHeld ?_
                rotate_left
                · refine Or.inl ⟨by rfl, ?_⟩
                  rintro W ⟨s0, s2⟩
                  go_simp
                  with_reducible rfl
                try simp only [Act.put, List.setIfInBounds_toArray, List.set_cons_zero, List.set_cons_succ]
                refine wpAnyH_take (i := 8) (v := ?_) (by simp only [List.getElem?_toArray, List.getElem?_cons_succ, List.getElem?_cons_zero]; rfl) (by kernel_rfl) (by kernel_rfl) (by kernel_rfl) (by exact fun _ _ _ h => h) ?_ hHeld ?_
                rotate_left
                · refine Or.inl ⟨by rfl, ?_⟩
                  rintro W ⟨s0, s2⟩
                  go_simp
                  with_reducible rfl
                try simp only [Act.put, List.setIfInBounds_toArray, List.set_cons_zero, List.set_cons_succ]
                refine wpAnyH_take (i := 12) (v := ?_) (by simp only [List.getElem?_toArray, List.getElem?_cons_succ, List.getElem?_cons_zero]; rfl) (by kernel_rfl) (by kernel_rfl) (by kernel_rfl) (by exact fun _ _ _ h => h) ?_ hHeld ?_
                rotate_left
                · refine Or.inl ⟨by rfl, ?_⟩
                  rintro W ⟨s0, s2⟩
                  go_simp
                  with_reducible rfl
                try simp only [Act.put, List.setIfInBounds_toArray, List.set_cons_zero, List.set_cons_succ]
                refine wpAnyH_take (i := 13) (v := ?_) (by simp only [List.getElem?_toArray, List.getElem?_cons_succ, List.getElem?_cons_zero]; rfl) (by kernel_rfl) (by kernel_rfl) (by kernel_rfl) (by exact fun _ _ _ h => h) ?_ hHeld ?_
                rotate_left
                · refine Or.inl ⟨by rfl, ?_⟩
                  rintro W ⟨s0, s2⟩
                  go_simp
                  with_reducible rfl
                try simp only [Act.put, List.setIfInBounds_toArray, List.set_cons_zero, List.set_cons_succ]
                refine wpAnyH_ready (rs := [7]) (by kernel_rfl) (by simp) (AllReadyH.cons rfl (fun K hK => ?_) AllReadyH.nil)
                go_simp
                go_at_call 31
                refine (HWX.out _ _ (H9.out.grow (by repeat (first | exact Keep.refl _ _ | exact HK10.out | refine Keep.drew ?_ | refine Keep.drewN ?_ _ | refine Keep.alloc ?_ _)))).mono ?_
                rintro e w10 ⟨rfl, hk10, z0, z2⟩
                have y2 : w10.cell? ⟨w9.heap.size, L * 10 + 2, none⟩ = some (.int .i64 (i : Int)) := z2
                clear z0 z2
                have HK10 : Hid (Keep [] w9 w10) := Keep.trans (M := []) (by repeat (first | exact Keep.refl _ _ | exact HK10.out | refine Keep.drew ?_ | refine Keep.drewN ?_ _ | refine Keep.alloc ?_ _)) hk10
                clear hk10 hHeld
                have hHeld : (World.cell? w10 ⟨mb, 0, none⟩ = some (.int .i64 y.kind) ∧ World.cell? w10 ⟨mb, 2, none⟩ = some (.int .i64 (i : Int))) := HS9.out _ HK10.out
                go_simp
                refine hK.out _ _ hHeld (fun _ => ?_)
                clear hK K
                try simp only [Act.put, List.setIfInBounds_toArray, List.set_cons_zero, List.set_cons_succ]
                refine wpAnyH_take (i := 9) (v := ?_) (by simp only [List.getElem?_toArray, List.getElem?_cons_succ, List.getElem?_cons_zero]; rfl) (by kernel_rfl) (by kernel_rfl) (by kernel_rfl) (by exact fun _ _ _ h => h) ?_ hHeld ?_
                rotate_left
                · refine Or.inl ⟨by rfl, ?_⟩
                  rintro W ⟨s0, s2⟩
                  go_simp
                  with_reducible rfl
                try simp only [Act.put, List.setIfInBounds_toArray, List.set_cons_zero, List.set_cons_succ]
                refine wpAnyH_take (i := 10) (v := ?_) (by simp only [List.getElem?_toArray, List.getElem?_cons_succ, List.getElem?_cons_zero]; rfl) (by kernel_rfl) (by kernel_rfl) (by kernel_rfl) (by exact fun _ _ _ h => h) ?_ hHeld ?_
                rotate_left
                · refine Or.inl ⟨by rfl, ?_⟩
                  rintro W ⟨s0, s2⟩
                  go_simp
                  with_reducible rfl
                try simp only [Act.put, List.setIfInBounds_toArray, List.set_cons_zero, List.set_cons_succ]
                refine wpAnyH_ready (rs := [11]) (by kernel_rfl) (by simp) (AllReadyH.cons rfl (fun K hK => ?_) AllReadyH.nil)
                go_simp
                go_simp
                refine hK.out _ _ hHeld (fun _ => ?_)
                clear hK K
                try simp only [Act.put, List.setIfInBounds_toArray, List.set_cons_zero, List.set_cons_succ]
                clear y2
                refine wpAnyH_take (i := 14) (v := ?_) (by simp only [List.getElem?_toArray, List.getElem?_cons_succ, List.getElem?_cons_zero]; rfl) (by kernel_rfl) (by kernel_rfl) (by kernel_rfl) (by exact fun _ _ _ h => h) ?_ hHeld ?_
                rotate_left
                · refine Or.inl ⟨by rfl, ?_⟩
                  rintro W ⟨s0, s2⟩
                  go_simp
                  with_reducible rfl
                try simp only [Act.put, List.setIfInBounds_toArray, List.set_cons_zero, List.set_cons_succ]
                refine wpAnyH_take (i := 15) (v := ?_) (by simp only [List.getElem?_toArray, List.getElem?_cons_succ, List.getElem?_cons_zero]; rfl) (by kernel_rfl) (by kernel_rfl) (by kernel_rfl) (by exact fun _ _ _ h => h) ?_ hHeld ?_
                rotate_left
                · refine Or.inl ⟨by rfl, ?_⟩
                  rintro W ⟨s0, s2⟩
                  go_simp
                  with_reducible rfl
                try simp only [Act.put, List.setIfInBounds_toArray, List.set_cons_zero, List.set_cons_succ]
                refine wpAnyH_take (i := 16) (v := ?_) (by simp only [List.getElem?_toArray, List.getElem?_cons_succ, List.getElem?_cons_zero]; rfl) (by kernel_rfl) (by kernel_rfl) (by kernel_rfl) (by exact fun _ _ _ h => h) ?_ hHeld ?_
                rotate_left
                · refine Or.inl ⟨by rfl, ?_⟩
                  rintro W ⟨s0, s2⟩
                  go_simp
                  with_reducible rfl
                try simp only [Act.put, List.setIfInBounds_toArray, List.set_cons_zero, List.set_cons_succ]
                refine wpAnyH_take (i := 17) (v := ?_) (by simp only [List.getElem?_toArray, List.getElem?_cons_succ, List.getElem?_cons_zero]; rfl) (by kernel_rfl) (by kernel_rfl) (by kernel_rfl) (by exact fun _ _ _ h => h) ?_ hHeld ?_
                rotate_left
                · refine Or.inl ⟨by rfl, ?_⟩
                  rintro W ⟨s0, s2⟩
                  go_simp
                  with_reducible rfl
                try simp only [Act.put, List.setIfInBounds_toArray, List.set_cons_zero, List.set_cons_succ]
                refine wpAnyH_take (i := 19) (v := ?_) (by simp only [List.getElem?_toArray, List.getElem?_cons_succ, List.getElem?_cons_zero]; rfl) (by kernel_rfl) (by kernel_rfl) (by kernel_rfl) (by exact fun _ _ _ h => h) ?_ hHeld ?_
                rotate_left
                · refine Or.inl ⟨by rfl, ?_⟩
                  rintro W ⟨s0, s2⟩
                  go_simp
                  with_reducible rfl
                try simp only [Act.put, List.setIfInBounds_toArray, List.set_cons_zero, List.set_cons_succ]
                refine wpAnyH_take (i := 23) (v := ?_) (by simp only [List.getElem?_toArray, List.getElem?_cons_succ, List.getElem?_cons_zero]; rfl) (by kernel_rfl) (by kernel_rfl) (by kernel_rfl) (by exact fun _ _ _ h => h) ?_ hHeld ?_
                rotate_left
                · refine Or.inl ⟨by rfl, ?_⟩
                  rintro W ⟨s0, s2⟩
                  go_simp
                  with_reducible rfl
                try simp only [Act.put, List.setIfInBounds_toArray, List.set_cons_zero, List.set_cons_succ]
                refine wpAnyH_take (i := 24) (v := ?_) (by simp only [List.getElem?_toArray, List.getElem?_cons_succ, List.getElem?_cons_zero]; rfl) (by kernel_rfl) (by kernel_rfl) (by kernel_rfl) (by exact fun _ _ _ h => h) ?_ hHeld ?_
                rotate_left
                · refine Or.inl ⟨by rfl, ?_⟩
                  rintro W ⟨s0, s2⟩
                  go_simp
                  with_reducible rfl
                try simp only [Act.put, List.setIfInBounds_toArray, List.set_cons_zero, List.set_cons_succ]
                refine wpAnyH_ready (rs := [18]) (by kernel_rfl) (by simp) (AllReadyH.cons rfl (fun K hK => ?_) AllReadyH.nil)
                go_simp
                go_at_call 31
                refine (HWX.out _ _ (H9.out.grow HK10.out)).mono ?_
                rintro e w12 ⟨rfl, hk12, z0, z2⟩
                have y0 : w12.cell? ⟨w10.heap.size, L * 10, none⟩ = some (.int .i64 y.kind) := z0
                clear z0 z2
                have HK12 : Hid (Keep [] w9 w12) := Keep.trans (M := []) HK10.out hk12
                clear hk12 hHeld
                have hHeld : (World.cell? w12 ⟨mb, 0, none⟩ = some (.int .i64 y.kind) ∧ World.cell? w12 ⟨mb, 2, none⟩ = some (.int .i64 (i : Int))) := HS9.out _ HK12.out
                go_simp
                refine hK.out _ _ hHeld (fun _ => ?_)
                clear hK K
                try simp only [Act.put, List.setIfInBounds_toArray, List.set_cons_zero, List.set_cons_succ]
                refine wpAnyH_take (i := 20) (v := ?_) (by simp only [List.getElem?_toArray, List.getElem?_cons_succ, List.getElem?_cons_zero]; rfl) (by kernel_rfl) (by kernel_rfl) (by kernel_rfl) (by exact fun _ _ _ h => h) ?_ hHeld ?_
                rotate_left
                · refine Or.inl ⟨by rfl, ?_⟩
                  rintro W ⟨s0, s2⟩
                  go_simp
                  with_reducible rfl
                try simp only [Act.put, List.setIfInBounds_toArray, List.set_cons_zero, List.set_cons_succ]
                refine wpAnyH_take (i := 21) (v := ?_) (by simp only [List.getElem?_toArray, List.getElem?_cons_succ, List.getElem?_cons_zero]; rfl) (by kernel_rfl) (by kernel_rfl) (by kernel_rfl) (by exact fun _ _ _ h => h) ?_ hHeld ?_
                rotate_left
                · refine Or.inl ⟨by rfl, ?_⟩
                  rintro W ⟨s0, s2⟩
                  go_simp
                  with_reducible rfl
                try simp only [Act.put, List.setIfInBounds_toArray, List.set_cons_zero, List.set_cons_succ]
                refine wpAnyH_ready (rs := [22]) (by kernel_rfl) (by simp) (AllReadyH.cons rfl (fun K hK => ?_) AllReadyH.nil)
                go_simp
                go_simp
                refine hK.out _ _ hHeld (fun _ => ?_)
                clear hK K
                try simp only [Act.put, List.setIfInBounds_toArray, List.set_cons_zero, List.set_cons_succ]
                clear y0
                refine wpAnyH_take (i := 25) (v := ?_) (by simp only [List.getElem?_toArray, List.getElem?_cons_succ, List.getElem?_cons_zero]; rfl) (by kernel_rfl) (by kernel_rfl) (by kernel_rfl) (by exact fun _ _ _ h => h) ?_ hHeld ?_
                rotate_left
                · refine Or.inl ⟨by rfl, ?_⟩
                  rintro W ⟨s0, s2⟩
                  go_simp
                  with_reducible rfl
                try simp only [Act.put, List.setIfInBounds_toArray, List.set_cons_zero, List.set_cons_succ]
                refine wpAnyH_take (i := 26) (v := ?_) (by simp only [List.getElem?_toArray, List.getElem?_cons_succ, List.getElem?_cons_zero]; rfl) (by kernel_rfl) (by kernel_rfl) (by kernel_rfl) (by exact fun _ _ _ h => h) ?_ hHeld ?_
                rotate_left
                · refine Or.inl ⟨by rfl, ?_⟩
                  rintro W ⟨s0, s2⟩
                  go_simp
                  with_reducible rfl
                try simp only [Act.put, List.setIfInBounds_toArray, List.set_cons_zero, List.set_cons_succ]
                refine wpAnyH_done (by kernel_rfl) ?_ _
                clear hHeld
                go_wp2
                go_roundw
                case rel => exact ⟨j + 1, M, waya, HREL2.out.1, HREL2.out.2.1, by go_num, HREL2.out.2.2.1, HREL2.out.2.2.2, (HZ2.out _ _ (H9.out.grow HK12.out)).1⟩
                case measure => have hlt := HLT.out; simp [intOf]; omega
              · have t3 : (ak == 3) = false := beq_eq_false_iff_ne.2 e3
                clear e2 e3
                go_wp2_with (first
                  | (go_at_call 34; refine (HCR.out _ _ HZ1.out).mono ?_; rintro e w9 ⟨rfl, h9⟩; have H9 := Lib.hid h9; clear h9)
                  | (go_at_call 35; refine (HDL.out _ _ H9.out).mono ?_; rintro e w10 ⟨rfl, h10⟩; have n2 := (HZ3.out _ _ h10).2; have H10 := Lib.hid h10; clear h10)
                  | (go_at_call 30; refine (HDO.out _ _ H10.out).mono ?_; rintro e w11 ⟨rfl, rfl⟩)
                  | (go_at_call 36; refine (down_node H10.out).mono ?_; rintro e w12 ⟨rfl, rfl⟩)
                  | (go_at_call 37; refine (HDS.out _ _ H10.out).mono ?_; rintro e w13 ⟨rfl, h13⟩; have H13 := Lib.hid h13; clear h13)
                  | fail)
                go_roundw
                case rel => exact ⟨j + 1, L', wayd, HREL1.out.1, HREL1.out.2.1, by go_num, HREL1.out.2.2.1, HREL1.out.2.2.2, (HZ2.out _ _ H13.out).1⟩
                case measure => have hlt := HLT.out; simp [intOf]; omega
          · have dj : decide ((j : Int) < (na : Int)) = true := decide_eq_true (by omega)
            have dj2 : decide ((j : Int) < 20) = false := decide_eq_false (by omega)
            have hjn : (j : Int) < (na : Int) := by omega
            have hjn2 : ¬ (j : Int) < 20 := by omega
            clear hR hl hLj hlt hlt2 hj h20
            go_wp2_with (first | (go_at_call 30; refine HC.out.mono ?_; rintro e w8 ⟨rfl, rfl⟩) | fail)
            go_ret
            exact ⟨rfl, HK.out⟩
        · have dj : decide ((j : Int) < (na : Int)) = false := decide_eq_false (by omega)
          have hjn : ¬ (j : Int) < (na : Int) := by omega
          clear hR hl hLj hlt hj h20
          go_wp2_with (first | (go_at_call 30; refine HC.out.mono ?_; rintro e w8 ⟨rfl, rfl⟩) | fail)
          go_ret
          exact ⟨rfl, HK.out⟩
end

end Go.Proofs.YtnlcipocobmgiaaGreatDoor
