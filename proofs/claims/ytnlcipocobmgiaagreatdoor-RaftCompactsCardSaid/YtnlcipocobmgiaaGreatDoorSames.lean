/- The contract of glacierref09.Same. -/
import Derived.Test.YtnlcipocobmgiaaGreatDoorLast
namespace Go.Proofs.YtnlcipocobmgiaaGreatDoor
open Go.RowKit
attribute [local go_sem] size_bs bs_append bs_extract ba_self

instance : DecidableEq En := fun a b => decidable_of_iff (a.index = b.index ∧ a.term = b.term ∧ a.cmd = b.cmd) (by cases a; cases b; simp)
instance : DecidableEq Ts := fun a b => decidable_of_iff (a.term = b.term ∧ a.vote = b.vote ∧ a.base = b.base ∧ a.baseTerm = b.baseTerm ∧ a.snap = b.snap ∧ a.log = b.log) (by cases a; cases b; simp)

theorem str_ne {a b : List UInt8} (h : a ≠ b) : ¬ (bs a).toList = (bs b).toList := by
  rw [ByteArray.toList_eq, ByteArray.toList_eq]
  intro he
  have he2 : lst (bs a) = lst (bs b) := he
  rw [lst_bs, lst_bs] at he2
  exact h he2
theorem str_bne {a b : List UInt8} (h : a ≠ b) : (bs a != bs b) = true := by
  have := ba_ne (fun he => h (bs_inj he))
  simp only [bne, this, Bool.not_false]
theorem int_bne {a b : Nat} (h : a ≠ b) : ((a : Int) != (b : Int)) = true := by rw [bne_iff_ne]; omega


set_option maxRecDepth 100000 in
set_option maxHeartbeats 2000000 in
theorem same_calls (s t : Ts) (lg lh : Value) (w : World) (hs : EntsAt w lg s.log) (ht : EntsAt w lh t.log) (hn : s.log.length ≤ 1000000000) (hm : t.log.length ≤ 1000000000) :
    Calls Tryz.prog 18 #[s.agg lg, t.agg lh] w fun e w' => e = .returned (.bool (decide (s = t))) ∧ Keep [] w w' := by
  obtain ⟨A, c, rfl, hcs⟩ := hs
  obtain ⟨A2, c2, rfl, hct⟩ := ht
  obtain ⟨s1, s2, s3, s4, s5, sl⟩ := s
  obtain ⟨t1, t2, t3, t4, t5, tl⟩ := t
  unfold Ts.agg
  simp only at hn hm hcs hct ⊢
  have HCS := Lib.hid hcs
  have HCT := Lib.hid hct
  clear hcs hct
  by_cases h1 : s1 = t1
  case neg =>
    have b1 := int_bne h1
    have HNE : Hid (¬ (⟨s1, s2, s3, s4, s5, sl⟩ : Ts) = ⟨t1, t2, t3, t4, t5, tl⟩) := fun h => h1 (by injection h)
    go_enter Tryz.func18, Tryz.ntmps18
    go_wp2
    go_ret
    rw [decide_eq_false HNE.out]
    exact ⟨rfl, ((Keep.refl _ _).alloc _).alloc _⟩
  case pos =>
  subst h1
  by_cases h2 : s2 = t2
  case neg =>
    have b1 := int_bne h2
    have HNE : Hid (¬ (⟨s1, s2, s3, s4, s5, sl⟩ : Ts) = ⟨s1, t2, t3, t4, t5, tl⟩) := fun h => h2 (by injection h)
    go_enter Tryz.func18, Tryz.ntmps18
    go_wp2
    go_ret
    rw [decide_eq_false HNE.out]
    exact ⟨rfl, ((Keep.refl _ _).alloc _).alloc _⟩
  case pos =>
  subst h2
  by_cases h3 : s3 = t3
  case neg =>
    have b1 := int_bne h3
    have HNE : Hid (¬ (⟨s1, s2, s3, s4, s5, sl⟩ : Ts) = ⟨s1, s2, t3, t4, t5, tl⟩) := fun h => h3 (by injection h)
    go_enter Tryz.func18, Tryz.ntmps18
    go_wp2
    go_ret
    rw [decide_eq_false HNE.out]
    exact ⟨rfl, ((Keep.refl _ _).alloc _).alloc _⟩
  case pos =>
  subst h3
  by_cases h4 : s4 = t4
  case neg =>
    have b1 := int_bne h4
    have HNE : Hid (¬ (⟨s1, s2, s3, s4, s5, sl⟩ : Ts) = ⟨s1, s2, s3, t4, t5, tl⟩) := fun h => h4 (by injection h)
    go_enter Tryz.func18, Tryz.ntmps18
    go_wp2
    go_ret
    rw [decide_eq_false HNE.out]
    exact ⟨rfl, ((Keep.refl _ _).alloc _).alloc _⟩
  case pos =>
  subst h4
  by_cases h5 : s5 = t5
  case neg =>
    have b1 := str_bne h5
    have b2 := str_ne h5
    have HNE : Hid (¬ (⟨s1, s2, s3, s4, s5, sl⟩ : Ts) = ⟨s1, s2, s3, s4, t5, tl⟩) := fun h => h5 (by injection h)
    clear h5
    go_enter Tryz.func18, Tryz.ntmps18
    go_wp2
    go_ret
    rw [decide_eq_false HNE.out]
    exact ⟨rfl, ((Keep.refl _ _).alloc _).alloc _⟩
  case pos =>
  subst h5
  by_cases h6 : sl.length = tl.length
  case neg =>
    have b1 := int_bne h6
    have HNE : Hid (¬ (⟨s1, s2, s3, s4, s5, sl⟩ : Ts) = ⟨s1, s2, s3, s4, s5, tl⟩) := fun h => h6 (by injection h with _ _ _ _ _ h; rw [h])
    clear h6
    go_enter Tryz.func18, Tryz.ntmps18
    go_wp2
    go_ret
    rw [decide_eq_false HNE.out]
    exact ⟨rfl, ((Keep.refl _ _).alloc _).alloc _⟩
  case pos =>
  rw [← h6]
  have H6 := Lib.hid h6
  clear h6
  have HX : Hid (sl.take 0 = tl.take 0) := (by simp : sl.take 0 = tl.take 0)
  go_enter Tryz.func18, Tryz.ntmps18
  go_wp2
  go_loopw [51] (fun x wr => ∃ k : Nat, k ≤ sl.length ∧ x = .int .i64 (k : Int) ∧ sl.take k = tl.take k ∧ ∃ n, wr = ((w.alloc (.cells #[.int .i64 (s1 : Int), .int .i64 (s2 : Int), .int .i64 (s3 : Int), .int .i64 (s4 : Int), .string (bs s5), .slice A sl.length c] 31)).alloc (.cells #[.int .i64 (s1 : Int), .int .i64 (s2 : Int), .int .i64 (s3 : Int), .int .i64 (s4 : Int), .string (bs s5), .slice A2 sl.length c2] 31)).drewN n) (fun x _ => sl.length - (intOf x).toNat)
  case atStart => exact ⟨0, Nat.zero_le _, rfl, HX.out, 0, rfl⟩
  case round =>
    obtain ⟨k, hk, rfl, htk, n, rfl⟩ := hrel
    by_cases hlt : k < sl.length
    · have d1 : decide ((k : Int) < (sl.length : Int)) = true := by simp; omega
      have hlt2 : k < tl.length := by have := H6.out; omega
      obtain ⟨g, o, rfl, hc⟩ := HCS.out (by intro h; rw [h] at hlt; simp at hlt)
      obtain ⟨g', o', rfl, hc'⟩ := HCT.out (by intro h; rw [h] at hlt2; simp at hlt2)
      obtain ⟨k0, k1, k2⟩ := entsV_at sl k hlt
      obtain ⟨m0, m1, m2⟩ := entsV_at tl k hlt2
      have x0 := hc _ _ k0
      have x1 := hc _ _ k1
      have x2 := hc _ _ k2
      have y0 := hc' _ _ m0
      have y1 := hc' _ _ m1
      have y2 := hc' _ _ m2
      rw [Nat.mul_comm] at x0 x1 x2 y0 y1 y2
      rw [← Nat.add_assoc] at x1 x2 y1 y2
      have hs1 : sl.take (k + 1) = sl.take k ++ [sl[k]] := List.take_succ_eq_append_getElem hlt
      have ht1 : tl.take (k + 1) = tl.take k ++ [tl[k]] := List.take_succ_eq_append_getElem hlt2
      have HS1 := Lib.hid hs1
      have HT1 := Lib.hid ht1
      have HTK := Lib.hid htk
      have gl := World.block_lt_of_cell? _ _ x0
      have gl' := World.block_lt_of_cell? _ _ y0
      simp only at gl gl'
      clear hc hc' k0 k1 k2 m0 m1 m2 hs1 ht1 htk
      generalize sl[k] = e1 at *
      generalize tl[k] = e2 at *
      obtain ⟨a1, a2, a3⟩ := e1
      obtain ⟨b1, b2, b3⟩ := e2
      simp only at x0 x1 x2 y0 y1 y2
      by_cases q1 : a1 = b1
      · subst q1
        by_cases q2 : a2 = b2
        · subst q2
          by_cases q3 : a3 = b3
          · subst q3
            go_wp2
            go_quiet (fail)
            go_wp2
            go_roundw
            case rel => exact ⟨k + 1, by omega, by go_num, by rw [HS1.out, HT1.out, HTK.out], _, rfl⟩
            case measure => simp [intOf]; omega
          · have c1 := str_ne q3
            have HNE : Hid (¬ (⟨s1, s2, s3, s4, s5, sl⟩ : Ts) = ⟨s1, s2, s3, s4, s5, tl⟩) := fun h => by
              injection h with _ _ _ _ _ h
              subst h
              have := HS1.out.symm.trans HT1.out
              simp at this
              exact q3 this
            clear q3
            go_wp2
            go_quiet (fail)
            go_wp2
            go_ret
            rw [decide_eq_false HNE.out]
            exact ⟨rfl, by repeat (first | exact Keep.refl _ _ | refine Keep.drewN ?_ _ | refine Keep.alloc ?_ _)⟩
        · have c1 : ((a2 : Int) == (b2 : Int)) = false := by simp; omega
          have HNE : Hid (¬ (⟨s1, s2, s3, s4, s5, sl⟩ : Ts) = ⟨s1, s2, s3, s4, s5, tl⟩) := fun h => by
            injection h with _ _ _ _ _ h
            subst h
            have := HS1.out.symm.trans HT1.out
            simp at this
            exact q2 this.1
          go_wp2
          go_quiet (fail)
          go_wp2
          go_ret
          rw [decide_eq_false HNE.out]
          exact ⟨rfl, by repeat (first | exact Keep.refl _ _ | refine Keep.drewN ?_ _ | refine Keep.alloc ?_ _)⟩
      · have c1 : ((a1 : Int) == (b1 : Int)) = false := by simp; omega
        have HNE : Hid (¬ (⟨s1, s2, s3, s4, s5, sl⟩ : Ts) = ⟨s1, s2, s3, s4, s5, tl⟩) := fun h => by
          injection h with _ _ _ _ _ h
          subst h
          have := HS1.out.symm.trans HT1.out
          simp at this
          exact q1 this.1
        go_wp2
        go_quiet (fail)
        go_wp2
        go_ret
        rw [decide_eq_false HNE.out]
        exact ⟨rfl, by repeat (first | exact Keep.refl _ _ | refine Keep.drewN ?_ _ | refine Keep.alloc ?_ _)⟩
    · obtain rfl : k = sl.length := by omega
      have d1 : decide ((sl.length : Int) < (sl.length : Int)) = false := by simp
      have HEQ : Hid ((⟨s1, s2, s3, s4, s5, sl⟩ : Ts) = ⟨s1, s2, s3, s4, s5, tl⟩) := by
        show _ = _
        rw [List.take_of_length_le (Nat.le_refl _), List.take_of_length_le (by have := H6.out; omega)] at htk
        rw [htk]
      clear htk
      go_wp2
      go_ret
      rw [decide_eq_true HEQ.out]
      exact ⟨rfl, (((Keep.refl _ _).alloc _).alloc _).drewN _⟩

end Go.Proofs.YtnlcipocobmgiaaGreatDoor
/- glacierref09.Same, whatever the second state's length. -/
namespace Go.Proofs.YtnlcipocobmgiaaGreatDoor
open Go.RowKit
attribute [local go_sem] size_bs bs_append bs_extract ba_self
set_option maxRecDepth 100000 in
set_option maxHeartbeats 2000000 in
theorem same2_calls (s t : Ts) (lg lh : Value) (w : World) (hs : EntsAt w lg s.log) (ht : EntsAt w lh t.log) (hn : s.log.length ≤ 1000000000) :
    Calls Tryz.prog 18 #[s.agg lg, t.agg lh] w fun e w' => e = .returned (.bool (decide (s = t))) ∧ Keep [] w w' := by
  obtain ⟨A, c, rfl, hcs⟩ := hs
  obtain ⟨A2, c2, rfl, hct⟩ := ht
  obtain ⟨s1, s2, s3, s4, s5, sl⟩ := s
  obtain ⟨t1, t2, t3, t4, t5, tl⟩ := t
  unfold Ts.agg
  simp only at hn hcs hct ⊢
  have HCS := Lib.hid hcs
  have HCT := Lib.hid hct
  clear hcs hct
  by_cases h1 : s1 = t1
  case neg =>
    have b1 := int_bne h1
    have HNE : Hid (¬ (⟨s1, s2, s3, s4, s5, sl⟩ : Ts) = ⟨t1, t2, t3, t4, t5, tl⟩) := fun h => h1 (by injection h)
    go_enter Tryz.func18, Tryz.ntmps18
    go_wp2
    go_ret
    rw [decide_eq_false HNE.out]
    exact ⟨rfl, ((Keep.refl _ _).alloc _).alloc _⟩
  case pos =>
  subst h1
  by_cases h2 : s2 = t2
  case neg =>
    have b1 := int_bne h2
    have HNE : Hid (¬ (⟨s1, s2, s3, s4, s5, sl⟩ : Ts) = ⟨s1, t2, t3, t4, t5, tl⟩) := fun h => h2 (by injection h)
    go_enter Tryz.func18, Tryz.ntmps18
    go_wp2
    go_ret
    rw [decide_eq_false HNE.out]
    exact ⟨rfl, ((Keep.refl _ _).alloc _).alloc _⟩
  case pos =>
  subst h2
  by_cases h3 : s3 = t3
  case neg =>
    have b1 := int_bne h3
    have HNE : Hid (¬ (⟨s1, s2, s3, s4, s5, sl⟩ : Ts) = ⟨s1, s2, t3, t4, t5, tl⟩) := fun h => h3 (by injection h)
    go_enter Tryz.func18, Tryz.ntmps18
    go_wp2
    go_ret
    rw [decide_eq_false HNE.out]
    exact ⟨rfl, ((Keep.refl _ _).alloc _).alloc _⟩
  case pos =>
  subst h3
  by_cases h4 : s4 = t4
  case neg =>
    have b1 := int_bne h4
    have HNE : Hid (¬ (⟨s1, s2, s3, s4, s5, sl⟩ : Ts) = ⟨s1, s2, s3, t4, t5, tl⟩) := fun h => h4 (by injection h)
    go_enter Tryz.func18, Tryz.ntmps18
    go_wp2
    go_ret
    rw [decide_eq_false HNE.out]
    exact ⟨rfl, ((Keep.refl _ _).alloc _).alloc _⟩
  case pos =>
  subst h4
  by_cases h5 : s5 = t5
  case neg =>
    have b1 := str_bne h5
    have b2 := str_ne h5
    have HNE : Hid (¬ (⟨s1, s2, s3, s4, s5, sl⟩ : Ts) = ⟨s1, s2, s3, s4, t5, tl⟩) := fun h => h5 (by injection h)
    clear h5
    go_enter Tryz.func18, Tryz.ntmps18
    go_wp2
    go_ret
    rw [decide_eq_false HNE.out]
    exact ⟨rfl, ((Keep.refl _ _).alloc _).alloc _⟩
  case pos =>
  subst h5
  by_cases h6 : sl.length = tl.length
  case neg =>
    have b1 := int_bne h6
    have HNE : Hid (¬ (⟨s1, s2, s3, s4, s5, sl⟩ : Ts) = ⟨s1, s2, s3, s4, s5, tl⟩) := fun h => h6 (by injection h with _ _ _ _ _ h; rw [h])
    clear h6
    go_enter Tryz.func18, Tryz.ntmps18
    go_wp2
    go_ret
    rw [decide_eq_false HNE.out]
    exact ⟨rfl, ((Keep.refl _ _).alloc _).alloc _⟩
  case pos =>
  rw [← h6]
  have H6 := Lib.hid h6
  clear h6
  have HX : Hid (sl.take 0 = tl.take 0) := (by simp : sl.take 0 = tl.take 0)
  go_enter Tryz.func18, Tryz.ntmps18
  go_wp2
  go_loopw [51] (fun x wr => ∃ k : Nat, k ≤ sl.length ∧ x = .int .i64 (k : Int) ∧ sl.take k = tl.take k ∧ ∃ n, wr = ((w.alloc (.cells #[.int .i64 (s1 : Int), .int .i64 (s2 : Int), .int .i64 (s3 : Int), .int .i64 (s4 : Int), .string (bs s5), .slice A sl.length c] 31)).alloc (.cells #[.int .i64 (s1 : Int), .int .i64 (s2 : Int), .int .i64 (s3 : Int), .int .i64 (s4 : Int), .string (bs s5), .slice A2 sl.length c2] 31)).drewN n) (fun x _ => sl.length - (intOf x).toNat)
  case atStart => exact ⟨0, Nat.zero_le _, rfl, HX.out, 0, rfl⟩
  case round =>
    obtain ⟨k, hk, rfl, htk, n, rfl⟩ := hrel
    by_cases hlt : k < sl.length
    · have d1 : decide ((k : Int) < (sl.length : Int)) = true := by simp; omega
      have hlt2 : k < tl.length := by have := H6.out; omega
      obtain ⟨g, o, rfl, hc⟩ := HCS.out (by intro h; rw [h] at hlt; simp at hlt)
      obtain ⟨g', o', rfl, hc'⟩ := HCT.out (by intro h; rw [h] at hlt2; simp at hlt2)
      obtain ⟨k0, k1, k2⟩ := entsV_at sl k hlt
      obtain ⟨m0, m1, m2⟩ := entsV_at tl k hlt2
      have x0 := hc _ _ k0
      have x1 := hc _ _ k1
      have x2 := hc _ _ k2
      have y0 := hc' _ _ m0
      have y1 := hc' _ _ m1
      have y2 := hc' _ _ m2
      rw [Nat.mul_comm] at x0 x1 x2 y0 y1 y2
      rw [← Nat.add_assoc] at x1 x2 y1 y2
      have hs1 : sl.take (k + 1) = sl.take k ++ [sl[k]] := List.take_succ_eq_append_getElem hlt
      have ht1 : tl.take (k + 1) = tl.take k ++ [tl[k]] := List.take_succ_eq_append_getElem hlt2
      have HS1 := Lib.hid hs1
      have HT1 := Lib.hid ht1
      have HTK := Lib.hid htk
      have gl := World.block_lt_of_cell? _ _ x0
      have gl' := World.block_lt_of_cell? _ _ y0
      simp only at gl gl'
      clear hc hc' k0 k1 k2 m0 m1 m2 hs1 ht1 htk
      generalize sl[k] = e1 at *
      generalize tl[k] = e2 at *
      obtain ⟨a1, a2, a3⟩ := e1
      obtain ⟨b1, b2, b3⟩ := e2
      simp only at x0 x1 x2 y0 y1 y2
      by_cases q1 : a1 = b1
      · subst q1
        by_cases q2 : a2 = b2
        · subst q2
          by_cases q3 : a3 = b3
          · subst q3
            go_wp2
            go_quiet (fail)
            go_wp2
            go_roundw
            case rel => exact ⟨k + 1, by omega, by go_num, by rw [HS1.out, HT1.out, HTK.out], _, rfl⟩
            case measure => simp [intOf]; omega
          · have c1 := str_ne q3
            have HNE : Hid (¬ (⟨s1, s2, s3, s4, s5, sl⟩ : Ts) = ⟨s1, s2, s3, s4, s5, tl⟩) := fun h => by
              injection h with _ _ _ _ _ h
              subst h
              have := HS1.out.symm.trans HT1.out
              simp at this
              exact q3 this
            clear q3
            go_wp2
            go_quiet (fail)
            go_wp2
            go_ret
            rw [decide_eq_false HNE.out]
            exact ⟨rfl, by repeat (first | exact Keep.refl _ _ | refine Keep.drewN ?_ _ | refine Keep.alloc ?_ _)⟩
        · have c1 : ((a2 : Int) == (b2 : Int)) = false := by simp; omega
          have HNE : Hid (¬ (⟨s1, s2, s3, s4, s5, sl⟩ : Ts) = ⟨s1, s2, s3, s4, s5, tl⟩) := fun h => by
            injection h with _ _ _ _ _ h
            subst h
            have := HS1.out.symm.trans HT1.out
            simp at this
            exact q2 this.1
          go_wp2
          go_quiet (fail)
          go_wp2
          go_ret
          rw [decide_eq_false HNE.out]
          exact ⟨rfl, by repeat (first | exact Keep.refl _ _ | refine Keep.drewN ?_ _ | refine Keep.alloc ?_ _)⟩
      · have c1 : ((a1 : Int) == (b1 : Int)) = false := by simp; omega
        have HNE : Hid (¬ (⟨s1, s2, s3, s4, s5, sl⟩ : Ts) = ⟨s1, s2, s3, s4, s5, tl⟩) := fun h => by
          injection h with _ _ _ _ _ h
          subst h
          have := HS1.out.symm.trans HT1.out
          simp at this
          exact q1 this.1
        go_wp2
        go_quiet (fail)
        go_wp2
        go_ret
        rw [decide_eq_false HNE.out]
        exact ⟨rfl, by repeat (first | exact Keep.refl _ _ | refine Keep.drewN ?_ _ | refine Keep.alloc ?_ _)⟩
    · obtain rfl : k = sl.length := by omega
      have d1 : decide ((sl.length : Int) < (sl.length : Int)) = false := by simp
      have HEQ : Hid ((⟨s1, s2, s3, s4, s5, sl⟩ : Ts) = ⟨s1, s2, s3, s4, s5, tl⟩) := by
        show _ = _
        rw [List.take_of_length_le (Nat.le_refl _), List.take_of_length_le (by have := H6.out; omega)] at htk
        rw [htk]
      clear htk
      go_wp2
      go_ret
      rw [decide_eq_true HEQ.out]
      exact ⟨rfl, (((Keep.refl _ _).alloc _).alloc _).drewN _⟩

end Go.Proofs.YtnlcipocobmgiaaGreatDoor
