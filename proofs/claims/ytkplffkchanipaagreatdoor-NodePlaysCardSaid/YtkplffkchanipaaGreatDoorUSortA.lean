/- Rows of numbers in memory as the library's sort turns them: words; Less; insertion sort. -/
import Derived.Test.YtkplffkchanipaaGreatDoorBase
import Derived.Test.YtkplffkchanipaaGreatDoorProg
import Derived.Sort.AssemblyPlain
import Derived.Sort.Row
import Derived.Deep.QuietTactic
import Derived.BigQuiet
import Derived.IntWalk
namespace Go.Proofs.YtkplffkchanipaaGreatDoor
open Go.RowKit Go.Sort

/-- Block g's first cells are these numbers; none is frozen. -/
def UAt (w : World) (g : Nat) (d : Array Int) : Prop := ∀ j, j < d.size → w.cell? ⟨g, j, none⟩ = some (.int .u64 d[j]!) ∧ w.frozen? ⟨g, j, none⟩ = false
/-- What a turn of a row leaves: the row, and all other blocks as they were. -/
structure UTo (w w' : World) (g : Nat) (d : Array Int) : Prop where
  at_ : UAt w' g d
  keep : Keep [g] w w'
section
variable {w w' W : World} {g i j : Nat} {d : Array Int}
theorem UAt.lt (h : UAt w g d) (h0 : 0 < d.size) : g < w.heap.size := by
  have := World.block_lt_of_cell? _ _ (h 0 h0).1
  simpa using this
theorem UAt.keep {M : List Nat} (h : UAt w g d) (hk : Keep M w w') (hg : g ∉ M) : UAt w' g d := fun j hj => by
  have hl := h.lt (by omega)
  exact ⟨(hk.cell (p := ⟨g, j, none⟩) hl hg).trans (h j hj).1, (hk.frozen (p := ⟨g, j, none⟩) hl hg).trans (h j hj).2⟩
theorem UAt.drewN (h : UAt w g d) (n : Nat) : UAt (w.drewN n) g d := h
theorem UAt.set (h : UAt w g d) (hi : i < d.size) (x : Int) : UAt (w.setCell ⟨g, i, none⟩ (.int .u64 x)) g (d.setIfInBounds i x) := fun j hj => by
  rw [Array.size_setIfInBounds] at hj
  refine ⟨?_, by rw [World.frozen?_setCell]; exact (h j hj).2⟩
  by_cases he : i = j
  · subst he
    rw [getElem!_set_same d i x hi]
    exact World.cell?_setCell_same (h := (h i hj).1) ..
  · rw [getElem!_set_other d i j x (Ne.symm he)]
    exact (World.cell?_setCell_other (h := fun h => he (Addr.mk.inj h).2.1) ..).trans (h j hj).1
theorem UTo.refl (h : UAt w g d) : UTo w w g d := ⟨h, Keep.refl _ _⟩
theorem UTo.drewN (h : UTo w W g d) (n : Nat) : UTo w (W.drewN n) g d := ⟨h.at_.drewN n, h.keep.drewN n⟩
theorem UTo.read {n : Nat} (h : UTo w W g d) (hs : d.size = n) (hi : i < n) : ∃ x, x = d[i]! ∧ W.cell? ⟨g, i, none⟩ = some (.int .u64 x) ∧ W.frozen? ⟨g, i, none⟩ = false :=
  ⟨_, rfl, (h.at_ i (by omega)).1, (h.at_ i (by omega)).2⟩
theorem UTo.swap {n : Nat} {x y : Int} (h : UTo w W g d) (hs : d.size = n) (hi : i < n) (hj : j < n) (hx : x = d[j]!) (hy : y = d[i]!) (q : Nat) : UTo w (((W.drewN q).setCell ⟨g, i, none⟩ (.int .u64 x)).setCell ⟨g, j, none⟩ (.int .u64 y)) g (swp d i j) := by
  subst hx hy
  exact ⟨((h.at_.drewN q).set (by omega) _).set (by rw [Array.size_setIfInBounds]; omega) _, ((h.keep.drewN q).setCell (.inl (by simp)) _).setCell (.inl (by simp)) _⟩
theorem UTo.drew (h : UTo w W g d) : UTo w W.drew g d := ⟨h.at_, h.keep.drew⟩
theorem UTo.swap0 {n : Nat} {x y : Int} (h : UTo w W g d) (hs : d.size = n) (hi : i < n) (hj : j < n) (hx : x = d[j]!) (hy : y = d[i]!) : UTo w ((W.setCell ⟨g, i, none⟩ (.int .u64 x)).setCell ⟨g, j, none⟩ (.int .u64 y)) g (swp d i j) := h.swap hs hi hj hx hy 0
theorem UTo.trans {d' : Array Int} (h : UTo w W g d) (k : UTo W w' g d') : UTo w w' g d' := ⟨k.at_, h.keep.trans k.keep⟩
theorem UTo.keep_ (h : UTo w W g d) (k : Keep [] W w') : UTo w w' g d := ⟨h.at_.keep k (by simp), h.keep.trans k.nil_⟩
end

theorem insInner_go (a j : Nat) (d : Array Int) (ha : a < j + 1) (hl : ltInt d[j + 1]! d[j]! = true) : insInner ltInt a (j + 1) d = insInner ltInt a j (swp d (j + 1) j) := by
  rw [insInner, if_pos (by simp [hl]; omega)]
theorem insInner_stop (a j : Nat) (d : Array Int) (h : j ≤ a ∨ ltInt d[j]! d[j - 1]! = false) : insInner ltInt a j d = d := by
  cases j with
  | zero => rfl
  | succ j =>
    rw [insInner, if_neg]
    rcases h with h | h
    · simp; omega
    · simp at h
      simp [h]
theorem insOuter_go (a b i : Nat) (d : Array Int) (h : i < b) : insOuter ltInt a b i d = insOuter ltInt a b (i + 1) (insInner ltInt a i d) := by
  rw [insOuter, if_pos h]
theorem insOuter_stop (a b i : Nat) (d : Array Int) (h : b ≤ i) : insOuter ltInt a b i d = d := by
  rw [insOuter, if_neg (by omega)]

theorem isNaN_calls (x : Int) (w : World) : Calls Tryz.prog 157 #[.int .u64 x] w fun e w' => e = .returned (.bool false) ∧ w' = w := by
  go_enter Tryz.func157, Tryz.ntmps157
  go_wp2
  go_ret
  exact ⟨by simp, rfl⟩
theorem less_calls (x y : Int) (w : World) : Calls Tryz.prog 139 #[.int .u64 x, .int .u64 y] w fun e w' => e = .returned (.bool (ltInt x y)) ∧ w' = w := by
  go_enter Tryz.func139, Tryz.ntmps139
  go_wp2_with (go_at_call 157; refine (isNaN_calls _ _).mono ?_; rintro e w' ⟨rfl, rfl⟩)
  go_ret
  exact ⟨rfl, rfl⟩

/-- A call that leaves the world alone, in a region that draws behind another one. -/
theorem quiet_more {P : Program} {f : FuncId} {args : Array Value} {w : World} {i j : Nat} {v : Value} (h : Calls P f args (w.drewN (i + j)) fun e w' => e = .returned v ∧ w' = w.drewN (i + j)) :
    Calls P f args (w.drewN (i + j)) fun e w' => e = .returned v ∧ ∃ m, w' = w.drewN (i + m) := by
  refine h.mono ?_
  rintro e w' ⟨rfl, rfl⟩
  exact ⟨rfl, j, rfl⟩
theorem less_b {x y : Int} {b : Bool} (h : ltInt x y = b) (w : World) : Calls Tryz.prog 139 #[.int .u64 x, .int .u64 y] w fun e w' => e = .returned (.bool b) ∧ w' = w := by
  subst h
  exact less_calls x y w

set_option maxRecDepth 100000 in
set_option maxHeartbeats 2000000 in
theorem insSort_calls (w : World) (g n c a b : Nat) (d : Array Int) (hs : d.size = n) (hd : UAt w g d) (hab : a ≤ b) (hb : b ≤ n) (hn : n ≤ 1000000000000) :
    Calls Tryz.prog 133 #[.slice (some ⟨g, 0, none⟩) n c, .int .i64 (a : Int), .int .i64 (b : Int)] w fun e w' => e = .returned (.tuple #[]) ∧ UTo w w' g (insertionSort ltInt d a b) := by
  have HD := Lib.hid hd
  have HS := Lib.hid hs
  clear hd hs
  go_enter Tryz.func133, Tryz.ntmps133
  go_wp2
  go_loopw [6] (fun vi W => ∃ (i : Nat) (dk : Array Int), vi = .int .i64 (i : Int) ∧ a < i ∧ i ≤ b + 1 ∧ dk.size = n ∧ UTo w W g dk ∧ insOuter ltInt a b i dk = insOuter ltInt a b (a + 1) d) (fun vi _ => b + 1 - (intOf vi).toNat)
  case atStart => exact ⟨a + 1, d, by go_num, by omega, by omega, HS.out, UTo.refl HD.out, rfl⟩
  case round =>
    obtain ⟨i, dk, rfl, hai, hib, hsk, hU, hO⟩ := hrel
    have HU := Lib.hid hU
    have HO := Lib.hid hO
    have HSK := Lib.hid hsk
    clear hU hO hsk
    by_cases hlt : i < b
    · have e1 : decide ((i : Int) < (b : Int)) = true := by simpa using hlt
      go_wp2
      go_loopw [7] (fun vj W => ∃ (j : Nat) (dj : Array Int), vj = .int .i64 (j : Int) ∧ a ≤ j ∧ j ≤ i ∧ dj.size = n ∧ UTo w W g dj ∧ insInner ltInt a j dj = insInner ltInt a i dk) (fun vj _ => (intOf vj).toNat)
      case atStart => exact ⟨i, dk, rfl, by omega, Nat.le_refl _, HSK.out, HU.out, rfl⟩
      case round =>
        obtain ⟨j, dj, rfl, haj, hji, hsj, hV, hI⟩ := hrel
        have HV := Lib.hid hV
        have HI := Lib.hid hI
        have HSJ := Lib.hid hsj
        clear hV hI hsj
        by_cases hja : a < j
        · obtain ⟨k, rfl⟩ : ∃ k, j = k + 1 := ⟨j - 1, by omega⟩
          obtain ⟨m, hm⟩ : ∃ m, m = k + 1 := ⟨_, rfl⟩
          have e2 : decide ((a : Int) < (m : Int)) = true := by simp; omega
          have e2n : decide (a < m) = true := by simp; omega
          have e3 : IntKind.i64.wrap ((m : Int) - 1) = (k : Int) := by rw [IntWalk.i64_in _ (by omega)]; omega
          have e4 : (m : Int) - 1 = (k : Int) := by omega
          have hmn : m < n := by omega
          have hkn : k < n := by omega
          obtain ⟨y, hy, c1, f1⟩ := HV.out.read HSJ.out hmn
          obtain ⟨x, hx, c0, f0⟩ := HV.out.read HSJ.out hkn
          have HX := Lib.hid hx
          have HY := Lib.hid hy
          have HM := Lib.hid hm
          rw [← hm] at HI ⊢
          clear hx hy hm
          cases hl : ltInt y x
          · have HST : Hid (insInner ltInt a m dj = dj) := (insInner_stop _ _ _ (.inr (by rw [← HY.out, HM.out, Nat.add_sub_cancel, ← HX.out]; exact hl)) : insInner ltInt a m dj = dj)
            go_wp2
            go_quiet ((go_at_call 139; exact Calls.quiet_of_same (less_calls _ _ _)))
            go_wp2
            go_roundw
            case rel => exact ⟨i + 1, dj, by go_num, by omega, by omega, HSJ.out, HV.out.drewN _, by rw [← HO.out, insOuter_go _ _ _ _ hlt, ← HI.out, HST.out]⟩
            case measure => simp [intOf]; omega
          · have HGO : Hid (insInner ltInt a m dj = insInner ltInt a k (swp dj m k)) := (by have := HY.out; rw [HM.out] at this ⊢; exact insInner_go _ _ _ (by omega) (by rw [← HX.out, ← this]; exact hl) : insInner ltInt a m dj = insInner ltInt a k (swp dj m k))
            go_wp2
            go_quiet ((go_at_call 139; exact Calls.quiet_of_same (less_calls _ _ _)))
            go_wp2
            go_region
            all_goals
              go_wp2
              go_roundw
              case rel => exact ⟨k, swp dj m k, rfl, by omega, by omega, by rw [size_swp]; exact HSJ.out, HV.out.swap HSJ.out hmn hkn HX.out HY.out _, by rw [← HGO.out]; exact HI.out⟩
              case measure => simp [intOf]; omega
        · obtain rfl : j = a := by omega
          have e2 : decide ((j : Int) < (j : Int)) = false := by simp
          have e2n : decide (j < j) = false := by simp
          go_wp2
          go_quiet ((go_at_call 139; exact Calls.quiet_of_same (less_calls _ _ _)))
          go_wp2
          go_roundw
          case rel => exact ⟨i + 1, dj, by go_num, by omega, by omega, HSJ.out, HV.out.drewN _, by rw [← HO.out, insOuter_go _ _ _ _ hlt, ← HI.out, insInner_stop _ _ _ (.inl (Nat.le_refl _))]⟩
          case measure => simp [intOf]; omega
    · have e1 : decide ((i : Int) < (b : Int)) = false := by simp; omega
      go_wp2
      go_end0
      refine ⟨rfl, ?_⟩
      unfold insertionSort
      rw [← HO.out, insOuter_stop _ _ _ _ (by omega)]
      exact HU.out

end Go.Proofs.YtkplffkchanipaaGreatDoor
/- The sort's pivot at whole numbers: it lies in the range. -/
namespace Go.Proofs.YtkplffkchanipaaGreatDoor
open Go.RowKit Go.Sort

/-- A count in a block of its own. -/
def CntAt (w : World) (p : Nat) : Prop := ∃ k : Nat, k ≤ 1000 ∧ w.cell? ⟨p, 0, none⟩ = some (.int .i64 (k : Int)) ∧ w.frozen? ⟨p, 0, none⟩ = false
/-- Whatever was, but for the count, is as it was; the count has grown by at most m. -/
structure CntTo (w w' : World) (p g : Nat) (d : Array Int) (k m : Nat) : Prop where
  keep : Keep [p] w w'
  cnt : ∃ k' : Nat, k' ≤ k + m ∧ w'.cell? ⟨p, 0, none⟩ = some (.int .i64 (k' : Int)) ∧ w'.frozen? ⟨p, 0, none⟩ = false
  at_ : UAt w' g d

set_option maxRecDepth 100000 in
set_option maxHeartbeats 2000000 in
theorem order2_calls (w : World) (g n c a b p k : Nat) (d : Array Int) (hs : d.size = n) (hd : UAt w g d) (ha : a < n) (hb : b < n) (_hn : n ≤ 1000000000000) (hpg : p ≠ g) (hk : k ≤ 1000) (hc : w.cell? ⟨p, 0, none⟩ = some (.int .i64 (k : Int))) (hf : w.frozen? ⟨p, 0, none⟩ = false) :
    Calls Tryz.prog 171 #[.slice (some ⟨g, 0, none⟩) n c, .int .i64 (a : Int), .int .i64 (b : Int), .pointer (some ⟨p, 0, none⟩)] w fun e w' => ∃ x y : Nat, e = .returned (.tuple #[.int .i64 (x : Int), .int .i64 (y : Int)]) ∧ (x = a ∧ y = b ∨ x = b ∧ y = a) ∧ CntTo w w' p g d k 1 := by
  have HU := Lib.hid (UTo.refl hd)
  have HS := Lib.hid hs
  obtain ⟨y, hy, cb, fb⟩ := HU.out.read HS.out hb
  obtain ⟨x, hx, ca, fa⟩ := HU.out.read HS.out ha
  have hk1 : IntKind.i64.wrap ((k : Int) + 1) = ((k + 1 : Nat) : Int) := by rw [IntWalk.i64_in _ (by omega)]; omega
  clear hs hx hy fa fb
  cases hl : ltInt y x
  all_goals have HL := Lib.hid hl
  all_goals clear hl
  · go_enter Tryz.func171, Tryz.ntmps171
    go_wp2
    go_quiet ((go_at_call 139; exact Calls.quiet_of_same (less_b HL.out _)))
    go_wp2
    go_ret2
    exact ⟨a, b, rfl, .inl ⟨rfl, rfl⟩, (Keep.refl _ _).drewN _, ⟨k, by omega, hc, hf⟩, hd.drewN _⟩
  · go_enter Tryz.func171, Tryz.ntmps171
    go_wp2
    go_quiet ((go_at_call 139; exact Calls.quiet_of_same (less_b HL.out _)))
    go_wp2
    go_ret2
    exact ⟨b, a, rfl, .inr ⟨rfl, rfl⟩, ((Keep.refl _ _).drewN _).setCell (.inl (by simp)) _, ⟨k + 1, by omega, World.cell?_setCell_same (h := hc) .., by rw [World.frozen?_setCell]; exact hf⟩, (hd.drewN _).keep ((Keep.refl [p] _).setCell (.inl (by simp)) _) (by simp; omega)⟩
set_option maxRecDepth 100000 in
set_option maxHeartbeats 2000000 in
theorem median_calls (w : World) (g n c a b e p k : Nat) (d : Array Int) (hs : d.size = n) (hd : UAt w g d) (ha : a < n) (hb : b < n) (he : e < n) (hn : n ≤ 1000000000000) (hpg : p ≠ g) (hk : k ≤ 900) (hc : w.cell? ⟨p, 0, none⟩ = some (.int .i64 (k : Int))) (hf : w.frozen? ⟨p, 0, none⟩ = false) :
    Calls Tryz.prog 156 #[.slice (some ⟨g, 0, none⟩) n c, .int .i64 (a : Int), .int .i64 (b : Int), .int .i64 (e : Int), .pointer (some ⟨p, 0, none⟩)] w fun e' w' => ∃ x : Nat, e' = .returned (.int .i64 (x : Int)) ∧ (x = a ∨ x = b ∨ x = e) ∧ CntTo w w' p g d k 3 := by
  have T1 := Lib.hid (order2_calls w g n c a b p k d hs hd ha hb hn hpg (by omega) hc hf)
  have HS := Lib.hid hs
  clear hd hc hf hs
  go_enter Tryz.func156, Tryz.ntmps156
  go_wp2_with fail
  go_at_call 171
  refine T1.out.mono ?_
  rintro _ w1 ⟨x1, y1, rfl, h1, hk1, ⟨k1, hl1, hc1, hf1⟩, hu1⟩
  have hx1 : x1 < n := by omega
  have hy1 : y1 < n := by omega
  have T2 := Lib.hid (order2_calls w1 g n c y1 e p k1 d HS.out hu1 hy1 he hn hpg (by omega) hc1 hf1)
  have HK1 := Lib.hid hk1
  have H1 := Lib.hid h1
  clear hc1 hf1 hu1 hk1 h1 T1
  go_wp2_with fail
  go_at_call 171
  refine T2.out.mono ?_
  rintro _ w2 ⟨x2, y2, rfl, h2, hk2, ⟨k2, hl2, hc2, hf2⟩, hu2⟩
  have hx2 : x2 < n := by omega
  have T3 := Lib.hid (order2_calls w2 g n c x1 x2 p k2 d HS.out hu2 hx1 hx2 hn hpg (by omega) hc2 hf2)
  have HK2 := Lib.hid hk2
  have H2 := Lib.hid h2
  clear hc2 hf2 hu2 hk2 h2 T2
  go_wp2_with fail
  go_at_call 171
  refine T3.out.mono ?_
  rintro _ w3 ⟨x3, y3, rfl, h3, hk3, ⟨k3, hl3, hc3, hf3⟩, hu3⟩
  have HK3 := Lib.hid hk3
  have H3 := Lib.hid h3
  have HC3 := Lib.hid hc3
  have HF3 := Lib.hid hf3
  have HU3 := Lib.hid hu3
  clear hk3 h3 hc3 hf3 hu3 T3
  go_wp2
  go_ret
  have a1 := H1.out
  have a2 := H2.out
  have a3 := H3.out
  exact ⟨y3, rfl, by omega, HK1.out.trans (HK2.out.trans HK3.out), ⟨k3, by omega, HC3.out, HF3.out⟩, HU3.out⟩
set_option maxRecDepth 100000 in
set_option maxHeartbeats 2000000 in
theorem medAdj_calls (w : World) (g n c a p k : Nat) (d : Array Int) (hs : d.size = n) (hd : UAt w g d) (ha0 : 1 ≤ a) (ha : a + 1 < n) (hn : n ≤ 1000000000000) (hpg : p ≠ g) (hk : k ≤ 900) (hc : w.cell? ⟨p, 0, none⟩ = some (.int .i64 (k : Int))) (hf : w.frozen? ⟨p, 0, none⟩ = false) :
    Calls Tryz.prog 155 #[.slice (some ⟨g, 0, none⟩) n c, .int .i64 (a : Int), .pointer (some ⟨p, 0, none⟩)] w fun e' w' => ∃ x : Nat, e' = .returned (.int .i64 (x : Int)) ∧ (a - 1 ≤ x ∧ x ≤ a + 1) ∧ CntTo w w' p g d k 3 := by
  have e1 : IntKind.i64.wrap ((a : Int) - 1) = ((a - 1 : Nat) : Int) := by rw [IntWalk.i64_in _ (by omega)]; omega
  have e2 : IntKind.i64.wrap ((a : Int) + 1) = ((a + 1 : Nat) : Int) := by rw [IntWalk.i64_in _ (by omega)]; omega
  have e3 : (a : Int) - 1 = ((a - 1 : Nat) : Int) := by omega
  have e4 : (a : Int) + 1 = ((a + 1 : Nat) : Int) := by omega
  have T1 := Lib.hid (median_calls w g n c (a - 1) a (a + 1) p k d hs hd (by omega) (by omega) ha hn hpg hk hc hf)
  generalize a - 1 = a0 at *
  generalize ha1 : a + 1 = a1 at *
  have HA := Lib.hid ha1
  clear hd hc hf hs ha1
  go_enter Tryz.func155, Tryz.ntmps155
  go_wp2_with fail
  go_at_call 156
  (with_reducible refine T1.out.mono ?_)
  rintro _ w1 ⟨x1, rfl, h1, h2⟩
  have H1 := Lib.hid h1
  have H2 := Lib.hid h2
  clear h1 h2
  go_wp2
  go_ret
  have a1 := H1.out
  have a2 := HA.out
  exact ⟨x1, rfl, by omega, H2.out⟩
set_option maxRecDepth 100000 in
set_option maxHeartbeats 4000000 in
theorem pivot_calls (w : World) (g n c a b : Nat) (d : Array Int) (hs : d.size = n) (hd : UAt w g d) (hab : a < b) (hb : b ≤ n) (hn : n ≤ 1000000000000) :
    Calls Tryz.prog 136 #[.slice (some ⟨g, 0, none⟩) n c, .int .i64 (a : Int), .int .i64 (b : Int)] w fun e' w' => ∃ x h : Nat, e' = .returned (.tuple #[.int .i64 (x : Int), .int .i64 (h : Int)]) ∧ (a ≤ x ∧ x < b) ∧ Keep [] w w' ∧ UAt w' g d := by
  obtain ⟨l, hl⟩ : ∃ l, l = b - a := ⟨_, rfl⟩
  obtain ⟨q, hq⟩ : ∃ q, q = l / 4 := ⟨_, rfl⟩
  obtain ⟨i, hi⟩ : ∃ i, i = a + q := ⟨_, rfl⟩
  obtain ⟨j, hj⟩ : ∃ j, j = a + q * 2 := ⟨_, rfl⟩
  obtain ⟨k, hk⟩ : ∃ k, k = a + q * 3 := ⟨_, rfl⟩
  have e1 : (b : Int) - (a : Int) = (l : Int) := by omega
  have e1w : IntKind.i64.wrap ((b : Int) - (a : Int)) = (l : Int) := by rw [IntWalk.i64_in _ (by omega)]; omega
  have e2 : (l : Int) / 4 = (q : Int) := by omega
  have e3 : (a : Int) + (q : Int) = (i : Int) := by omega
  have e4 : (a : Int) + (q : Int) * 2 = (j : Int) := by omega
  have e5 : (a : Int) + (q : Int) * 3 = (k : Int) := by omega
  have hg := hd.lt (by omega)
  have hnew : ∀ o, UAt (w.alloc o) g d := fun o => hd.keep ((Keep.refl [] _).alloc o) (by simp)
  have HNEW := Lib.hid hnew
  have HS := Lib.hid hs
  have HL := Lib.hid hl
  have HQ := Lib.hid hq
  have HI := Lib.hid hi
  have HJ := Lib.hid hj
  have HK := Lib.hid hk
  have hql : q ≤ 1000000000000 := by omega
  have hll : l ≤ 1000000000000 := by omega
  have hnj : j < b ∧ a ≤ j := by omega
  clear hnew hs hl hq hi hj hk hd
  by_cases h8 : l < 8
  · have d1 : decide ((8 : Int) ≤ (l : Int)) = false := by simp; omega
    go_enter Tryz.func136, Tryz.ntmps136
    go_wp2
    go_ret2
    exact ⟨j, 1, rfl, ⟨hnj.2, hnj.1⟩, (Keep.refl [] _).alloc _, HNEW.out _⟩
  · have d1 : decide ((8 : Int) ≤ (l : Int)) = true := by simp; omega
    have hw : w.heap.size ≠ g := by omega
    have h1 : (w.alloc (.cells #[.int .i64 0] 3)).cell? ⟨w.heap.size, 0, none⟩ = some (.int .i64 ((0 : Nat) : Int)) := (Blk.new w 3 #[.int .i64 0]).cell 0
    have h2 : (w.alloc (.cells #[.int .i64 0] 3)).frozen? ⟨w.heap.size, 0, none⟩ = false := (Blk.new w 3 #[.int .i64 0]).frozen 0
    have hkb : k < b ∧ i < b ∧ a ≤ i ∧ a ≤ k := by have := HQ.out; have := HL.out; have := HI.out; have := HK.out; omega
    by_cases h50 : l < 50
    · have d2 : decide ((50 : Int) ≤ (l : Int)) = false := by simp; omega
      have T1 := Lib.hid (median_calls (w.alloc (.cells #[.int .i64 0] 3)) g n c i j k w.heap.size 0 d HS.out (HNEW.out _) (by omega) (by omega) (by omega) hn hw (by omega) h1 h2)
      clear h1 h2
      go_enter Tryz.func136, Tryz.ntmps136
      go_wp2_with fail
      go_at_call 156
      (with_reducible refine T1.out.mono ?_)
      rintro _ w1 ⟨x, rfl, hx, hk1, ⟨m, hm, hc1, hf1⟩, hu1⟩
      have hxb : a ≤ x ∧ x < b := by omega
      have hW : Keep [] w w1 := Keep.trans' (M := []) ((Keep.refl [] _).alloc _) hk1 (by simp)
      have HW := Lib.hid hW
      have HU1 := Lib.hid hu1
      clear hW hu1 hk1 hf1 hx
      by_cases m0 : m = 0
      · subst m0
        go_wp2
        go_ret2
        exact ⟨x, 1, rfl, hxb, HW.out, HU1.out⟩
      · have b0 : ((m : Int) == 0) = false := by simp; omega
        by_cases m12 : m = 12
        · subst m12
          go_wp2
          go_ret2
          exact ⟨x, 2, rfl, hxb, HW.out, HU1.out⟩
        · have b12 : ((m : Int) == 12) = false := by simp; omega
          go_wp2
          go_ret2
          exact ⟨x, 0, rfl, hxb, HW.out, HU1.out⟩
    · have d2 : decide ((50 : Int) ≤ (l : Int)) = true := by simp; omega
      have hq12 : 12 ≤ q := by have := HQ.out; omega
      have hall : a + 2 ≤ i ∧ i + 2 < j ∧ j + 2 < k ∧ k + 2 < b := by have := HQ.out; have := HL.out; have := HI.out; have := HJ.out; have := HK.out; omega
      have T1 := Lib.hid (medAdj_calls (w.alloc (.cells #[.int .i64 0] 3)) g n c i w.heap.size 0 d HS.out (HNEW.out _) (by omega) (by omega) hn hw (by omega) h1 h2)
      clear h1 h2
      go_enter Tryz.func136, Tryz.ntmps136
      go_wp2_with fail
      go_at_call 155
      (with_reducible refine T1.out.mono ?_)
      rintro _ w1 ⟨x1, rfl, hx1, hk1, ⟨m1, hm1, hc1, hf1⟩, hu1⟩
      have T2 := Lib.hid (medAdj_calls w1 g n c j w.heap.size m1 d HS.out hu1 (by omega) (by omega) hn hw (by omega) hc1 hf1)
      have HK1 := Lib.hid hk1
      clear hk1 hc1 hf1 hu1 T1
      go_wp2_with fail
      go_at_call 155
      (with_reducible refine T2.out.mono ?_)
      rintro _ w2 ⟨x2, rfl, hx2, hk2, ⟨m2, hm2, hc2, hf2⟩, hu2⟩
      have T3 := Lib.hid (medAdj_calls w2 g n c k w.heap.size m2 d HS.out hu2 (by omega) (by omega) hn hw (by omega) hc2 hf2)
      have HK2 := Lib.hid hk2
      clear hk2 hc2 hf2 hu2 T2
      go_wp2_with fail
      go_at_call 155
      (with_reducible refine T3.out.mono ?_)
      rintro _ w3 ⟨x3, rfl, hx3, hk3, ⟨m3, hm3, hc3, hf3⟩, hu3⟩
      have T4 := Lib.hid (median_calls w3 g n c x1 x2 x3 w.heap.size m3 d HS.out hu3 (by omega) (by omega) (by omega) hn hw (by omega) hc3 hf3)
      have HK3 := Lib.hid hk3
      clear hk3 hc3 hf3 hu3 T3
      go_wp2_with fail
      go_at_call 156
      (with_reducible refine T4.out.mono ?_)
      rintro _ w4 ⟨x, rfl, hx, hk1, ⟨m, hm, hc1, hf1⟩, hu1⟩
      have hxb : a ≤ x ∧ x < b := by omega
      have hW : Keep [] w w4 := Keep.trans' (M := []) ((Keep.refl [] _).alloc _) (HK1.out.trans (HK2.out.trans (HK3.out.trans hk1))) (by simp)
      have HW := Lib.hid hW
      have HU1 := Lib.hid hu1
      clear hW hu1 hk1 hf1 hx
      by_cases m0 : m = 0
      · subst m0
        go_wp2
        go_ret2
        exact ⟨x, 1, rfl, hxb, HW.out, HU1.out⟩
      · have b0 : ((m : Int) == 0) = false := by simp; omega
        by_cases m12 : m = 12
        · subst m12
          go_wp2
          go_ret2
          exact ⟨x, 2, rfl, hxb, HW.out, HU1.out⟩
        · have b12 : ((m : Int) == 12) = false := by simp; omega
          go_wp2
          go_ret2
          exact ⟨x, 0, rfl, hxb, HW.out, HU1.out⟩

end Go.Proofs.YtkplffkchanipaaGreatDoor
/- The sort's heap and its turning round, at whole numbers. -/
namespace Go.Proofs.YtkplffkchanipaaGreatDoor
open Go.RowKit Go.Sort

theorem siftDown_stop (hi f r : Nat) (d : Array Int) (h : hi ≤ 2 * r + 1) : siftDown ltInt hi f r d = d := by
  rw [siftDown, dif_pos (by omega)]
theorem siftDown_step (hi f r c : Nat) (d : Array Int) (h : 2 * r + 1 < hi) (hc : (2 * r + 2 < hi ∧ ltInt d[f + (2 * r + 1)]! d[f + (2 * r + 1) + 1]! = true ∧ c = 2 * r + 2) ∨ ((hi ≤ 2 * r + 2 ∨ ltInt d[f + (2 * r + 1)]! d[f + (2 * r + 1) + 1]! = false) ∧ c = 2 * r + 1)) :
    siftDown ltInt hi f r d = if ltInt d[f + r]! d[f + c]! = true then siftDown ltInt hi f c (swp d (f + r) (f + c)) else d := by
  rw [siftDown, dif_neg (by omega)]
  rcases hc with ⟨h1, h2, rfl⟩ | ⟨h1, rfl⟩
  · rw [if_pos (by simp [h2]; omega)]
    cases hl : ltInt d[f + r]! d[f + (2 * r + 2)]!
    · simp
    · simp [h1]
  · rw [if_neg (by rcases h1 with h1 | h1 <;> simp [h1]; omega)]
    cases hl : ltInt d[f + r]! d[f + (2 * r + 1)]! <;> simp
theorem reverseLoop_go (i j : Nat) (d : Array Int) (h : i < j) : reverseLoop i j d = reverseLoop (i + 1) (j - 1) (swp d i j) := by
  rw [reverseLoop, if_pos h]
theorem reverseLoop_stop (i j : Nat) (d : Array Int) (h : j ≤ i) : reverseLoop i j d = d := by
  rw [reverseLoop, if_neg (by omega)]

set_option maxRecDepth 100000 in
set_option maxHeartbeats 4000000 in
theorem reverse_calls (w : World) (g n c a b : Nat) (d : Array Int) (hs : d.size = n) (hd : UAt w g d) (hab : a < b) (hb : b ≤ n) (hn : n ≤ 1000000000000) :
    Calls Tryz.prog 137 #[.slice (some ⟨g, 0, none⟩) n c, .int .i64 (a : Int), .int .i64 (b : Int)] w fun e w' => e = .returned (.tuple #[]) ∧ UTo w w' g (reverseRange d a b) := by
  obtain ⟨b1, hb1⟩ : ∃ b1, b = b1 + 1 := ⟨b - 1, by omega⟩
  have e1 : (b : Int) - 1 = (b1 : Int) := by omega
  have HD := Lib.hid hd
  have HS := Lib.hid hs
  have HR : Hid (reverseRange d a b = reverseLoop a b1 d) := (by unfold reverseRange; rw [hb1]; rfl : reverseRange d a b = reverseLoop a b1 d)
  have hbn : b1 < n := by omega
  clear hd hs hb1
  go_enter Tryz.func137, Tryz.ntmps137
  go_wp2
  go_loopw [6, 7] (fun vi vj W => ∃ (i j : Nat) (dk : Array Int), vi = .int .i64 (i : Int) ∧ vj = .int .i64 (j : Int) ∧ i ≤ n ∧ j < n ∧ dk.size = n ∧ UTo w W g dk ∧ reverseLoop i j dk = reverseLoop a b1 d) (fun _ vj _ => (intOf vj).toNat)
  case atStart => exact ⟨a, b1, d, rfl, rfl, by omega, hbn, HS.out, UTo.refl HD.out, rfl⟩
  case round =>
    obtain ⟨i, j, dk, rfl, rfl, hi, hj, hsk, hU, hO⟩ := hrel
    have HU := Lib.hid hU
    have HO := Lib.hid hO
    have HSK := Lib.hid hsk
    clear hU hO hsk
    by_cases hlt : i < j
    · have d1 : decide ((i : Int) < (j : Int)) = true := by simpa using hlt
      have d1n : decide (i < j) = true := by simpa using hlt
      obtain ⟨j1, hj1⟩ : ∃ j1, j = j1 + 1 := ⟨j - 1, by omega⟩
      have e2 : (j : Int) - 1 = (j1 : Int) := by omega
      have hin : i < n := by omega
      obtain ⟨x, hx, cx, fx⟩ := HU.out.read HSK.out hj
      obtain ⟨y, hy, cy, fy⟩ := HU.out.read HSK.out hin
      have HX := Lib.hid hx
      have HY := Lib.hid hy
      have HGO : Hid (reverseLoop i j dk = reverseLoop (i + 1) j1 (swp dk i j)) := (by rw [reverseLoop_go _ _ _ hlt, hj1]; rfl : reverseLoop i j dk = reverseLoop (i + 1) j1 (swp dk i j))
      have HJ := Lib.hid hj1
      clear hx hy hj1
      go_wp2
      go_region
      all_goals
        go_wp2
        go_roundw
        case rel => exact ⟨i + 1, j1, swp dk i j, by go_num, rfl, by omega, by have := HJ.out; omega, by rw [size_swp]; exact HSK.out, HU.out.swap HSK.out hin hj HX.out HY.out _, by rw [← HGO.out]; exact HO.out⟩
        case measure => have := HJ.out; simp [intOf]; omega
    · have d1 : decide ((i : Int) < (j : Int)) = false := by simp; omega
      have d1n : decide (i < j) = false := by simp; omega
      go_wp2
      go_end0
      refine ⟨rfl, ?_⟩
      rw [HR.out, ← HO.out, reverseLoop_stop _ _ _ (by omega)]
      exact HU.out

set_option maxRecDepth 100000 in
set_option maxHeartbeats 4000000 in
theorem sift_calls (w : World) (g n c lo hi f : Nat) (d : Array Int) (hs : d.size = n) (hd : UAt w g d) (hlo : lo ≤ n) (hb : f + hi ≤ n) (hn : n ≤ 1000000000000) :
    Calls Tryz.prog 152 #[.slice (some ⟨g, 0, none⟩) n c, .int .i64 (lo : Int), .int .i64 (hi : Int), .int .i64 (f : Int)] w fun e w' => e = .returned (.tuple #[]) ∧ UTo w w' g (siftDown ltInt hi f lo d) := by
  have HD := Lib.hid hd
  have HS := Lib.hid hs
  clear hd hs
  go_enter Tryz.func152, Tryz.ntmps152
  go_wp2
  go_loopw [8] (fun vr W => ∃ (r : Nat) (dk : Array Int), vr = .int .i64 (r : Int) ∧ r ≤ n ∧ dk.size = n ∧ UTo w W g dk ∧ siftDown ltInt hi f r dk = siftDown ltInt hi f lo d) (fun vr _ => (n + 1 - (intOf vr).toNat))
  case atStart => exact ⟨lo, d, rfl, hlo, HS.out, UTo.refl HD.out, rfl⟩
  case round =>
    obtain ⟨r, dk, rfl, hr, hsk, hU, hO⟩ := hrel
    have HU := Lib.hid hU
    have HO := Lib.hid hO
    have HSK := Lib.hid hsk
    clear hU hO hsk
    obtain ⟨c1, hc1⟩ : ∃ c1, c1 = 2 * r + 1 := ⟨_, rfl⟩
    obtain ⟨c2, hc2⟩ : ∃ c2, c2 = 2 * r + 2 := ⟨_, rfl⟩
    have e1 : (2 : Int) * (r : Int) + 1 = (c1 : Int) := by omega
    have e2 : (c1 : Int) + 1 = (c2 : Int) := by omega
    have hc1l : c1 ≤ 3000000000000 := by omega
    by_cases hge : hi ≤ c1
    · have d1 : decide ((hi : Int) ≤ (c1 : Int)) = true := by simpa using hge
      have d1n : decide (hi ≤ c1) = true := by simpa using hge
      have HST : Hid (siftDown ltInt hi f r dk = dk) := (siftDown_stop hi f r dk (by omega) : siftDown ltInt hi f r dk = dk)
      clear hc1 hc2
      go_wp2
      go_end0
      refine ⟨rfl, ?_⟩
      rw [← HO.out, HST.out]
      exact HU.out
    · have d1 : decide ((hi : Int) ≤ (c1 : Int)) = false := by simp; omega
      have d1n : decide (hi ≤ c1) = false := by simp; omega
      obtain ⟨pr, hpr⟩ : ∃ pr, pr = f + r := ⟨_, rfl⟩
      obtain ⟨p1, hp1⟩ : ∃ p1, p1 = f + c1 := ⟨_, rfl⟩
      obtain ⟨p2, hp2⟩ : ∃ p2, p2 = f + c2 := ⟨_, rfl⟩
      have e3 : (f : Int) + (r : Int) = (pr : Int) := by omega
      have e4 : (f : Int) + (c1 : Int) = (p1 : Int) := by omega
      have e5 : (f : Int) + (c2 : Int) = (p2 : Int) := by omega
      have e6 : (p1 : Int) + 1 = (p2 : Int) := by omega
      have hprn : pr < n := by omega
      have hp1n : p1 < n := by omega
      obtain ⟨xr, hxr, cr, fr⟩ := HU.out.read HSK.out hprn
      obtain ⟨x1, hx1, k1, f1⟩ := HU.out.read HSK.out hp1n
      have HXR := Lib.hid hxr
      have HX1 := Lib.hid hx1
      have HPR := Lib.hid hpr
      have HP1 := Lib.hid hp1
      have HP2 := Lib.hid hp2
      have HC1 := Lib.hid hc1
      have HC2 := Lib.hid hc2
      by_cases h2 : c2 < hi
      · have d2 : decide ((c2 : Int) < (hi : Int)) = true := by simpa using h2
        have d2n : decide (c2 < hi) = true := by simpa using h2
        have hp2n : p2 < n := by omega
        obtain ⟨x2, hx2, k2, f2⟩ := HU.out.read HSK.out hp2n
        have HX2 := Lib.hid hx2
        clear hxr hx1 hx2 hpr hp1 hp2 hc1 hc2
        cases hl1 : ltInt x1 x2
        · have HSTEP : Hid (siftDown ltInt hi f r dk = if ltInt xr x1 = true then siftDown ltInt hi f c1 (swp dk pr p1) else dk) := (by rw [siftDown_step hi f r c1 dk (by have := HC1.out; omega) (.inr ⟨.inr (by rw [← HC1.out, ← HP1.out, ← HX1.out, show p1 + 1 = p2 by omega, ← HX2.out]; exact hl1), HC1.out⟩), ← HPR.out, ← HP1.out, ← HXR.out, ← HX1.out] : siftDown ltInt hi f r dk = if ltInt xr x1 = true then siftDown ltInt hi f c1 (swp dk pr p1) else dk)
          have HL1 := Lib.hid hl1
          clear hl1
          cases hl2 : ltInt xr x1
          · have HL := Lib.hid hl2
            clear hl2
            go_wp2
            go_quiet ((go_at_call 139; exact Calls.quiet_of_same (less_b HL1.out _)))
            go_wp2
            go_quiet ((go_at_call 139; exact quiet_more (less_b HL.out _)))
            go_wp2
            refine bodyPost_ret (results_none rfl _ _ _) rfl ?_
            refine ⟨rfl, ?_⟩
            rw [← HO.out, HSTEP.out, HL.out, if_neg (by decide)]
            exact (HU.out.drewN _).drewN _
          · have HL := Lib.hid hl2
            clear hl2
            go_wp2
            go_quiet ((go_at_call 139; exact Calls.quiet_of_same (less_b HL1.out _)))
            go_wp2
            go_quiet ((go_at_call 139; exact quiet_more (less_b HL.out _)))
            go_wp2
            go_region
            all_goals
              go_wp2
              go_roundw
              case rel => exact ⟨c1, swp dk pr p1, rfl, by have := HP1.out; have := HP2.out; omega, by rw [size_swp]; exact HSK.out, HU.out.swap HSK.out hprn hp1n HX1.out HXR.out _, by rw [← HO.out, HSTEP.out, HL.out]; rfl⟩
              case measure => have := HC1.out; have := HC2.out; simp [intOf]; omega
        · have HSTEP : Hid (siftDown ltInt hi f r dk = if ltInt xr x2 = true then siftDown ltInt hi f c2 (swp dk pr p2) else dk) := (by rw [siftDown_step hi f r c2 dk (by have := HC1.out; omega) (.inl ⟨by have := HC2.out; omega, by rw [← HC1.out, ← HP1.out, ← HX1.out, show p1 + 1 = p2 by omega, ← HX2.out]; exact hl1, HC2.out⟩), ← HPR.out, ← HP2.out, ← HXR.out, ← HX2.out] : siftDown ltInt hi f r dk = if ltInt xr x2 = true then siftDown ltInt hi f c2 (swp dk pr p2) else dk)
          have HL1 := Lib.hid hl1
          clear hl1
          cases hl2 : ltInt xr x2
          · have HL := Lib.hid hl2
            clear hl2
            go_wp2
            go_quiet ((go_at_call 139; exact Calls.quiet_of_same (less_b HL1.out _)))
            go_wp2
            go_quiet ((go_at_call 139; exact quiet_more (less_b HL.out _)))
            go_wp2
            refine bodyPost_ret (results_none rfl _ _ _) rfl ?_
            refine ⟨rfl, ?_⟩
            rw [← HO.out, HSTEP.out, HL.out, if_neg (by decide)]
            exact (HU.out.drewN _).drewN _
          · have HL := Lib.hid hl2
            clear hl2
            go_wp2
            go_quiet ((go_at_call 139; exact Calls.quiet_of_same (less_b HL1.out _)))
            go_wp2
            go_quiet ((go_at_call 139; exact quiet_more (less_b HL.out _)))
            go_wp2
            go_region
            all_goals
              go_wp2
              go_roundw
              case rel => exact ⟨c2, swp dk pr p2, rfl, by have := HP1.out; have := HP2.out; omega, by rw [size_swp]; exact HSK.out, HU.out.swap HSK.out hprn hp2n HX2.out HXR.out _, by rw [← HO.out, HSTEP.out, HL.out]; rfl⟩
              case measure => have := HC1.out; have := HC2.out; simp [intOf]; omega
      · have d2 : decide ((c2 : Int) < (hi : Int)) = false := by simp; omega
        have d2n : decide (c2 < hi) = false := by simp; omega
        clear hxr hx1 hpr hp1 hp2 hc1 hc2
        have HSTEP : Hid (siftDown ltInt hi f r dk = if ltInt xr x1 = true then siftDown ltInt hi f c1 (swp dk pr p1) else dk) := (by rw [siftDown_step hi f r c1 dk (by have := HC1.out; omega) (.inr ⟨.inl (by have := HC2.out; omega), HC1.out⟩), ← HPR.out, ← HP1.out, ← HXR.out, ← HX1.out] : siftDown ltInt hi f r dk = if ltInt xr x1 = true then siftDown ltInt hi f c1 (swp dk pr p1) else dk)
        have HL1 : Hid (ltInt 0 0 = false) := rfl
        cases hl2 : ltInt xr x1
        · have HL := Lib.hid hl2
          clear hl2
          go_wp2
          go_quiet ((go_at_call 139; exact Calls.quiet_of_same (less_b HL1.out _)))
          go_wp2
          go_quiet ((go_at_call 139; exact quiet_more (less_b HL.out _)))
          go_wp2
          refine bodyPost_ret (results_none rfl _ _ _) rfl ?_
          refine ⟨rfl, ?_⟩
          rw [← HO.out, HSTEP.out, HL.out, if_neg (by decide)]
          exact (HU.out.drewN _).drewN _
        · have HL := Lib.hid hl2
          clear hl2
          go_wp2
          go_quiet ((go_at_call 139; exact Calls.quiet_of_same (less_b HL1.out _)))
          go_wp2
          go_quiet ((go_at_call 139; exact quiet_more (less_b HL.out _)))
          go_wp2
          go_region
          all_goals
            go_wp2
            go_roundw
            case rel => exact ⟨c1, swp dk pr p1, rfl, by have := HP1.out; have := HP2.out; omega, by rw [size_swp]; exact HSK.out, HU.out.swap HSK.out hprn hp1n HX1.out HXR.out _, by rw [← HO.out, HSTEP.out, HL.out]; rfl⟩
            case measure => have := HC1.out; have := HC2.out; simp [intOf]; omega
theorem heapBuild_step (hi f k : Nat) (d : Array Int) : heapBuild ltInt hi f (k + 1) d = heapBuild ltInt hi f k (siftDown ltInt hi f k d) := rfl
theorem heapPop_step (f k : Nat) (d : Array Int) : heapPop ltInt f (k + 1) d = heapPop ltInt f k (siftDown ltInt k f 0 (swp d f (f + k))) := rfl
theorem siftDown_size (hi f : Nat) : ∀ (m r : Nat) (d : Array Int), hi - r ≤ m → (siftDown ltInt hi f r d).size = d.size
  | 0, r, d, h => by rw [siftDown_stop hi f r d (by omega)]
  | m + 1, r, d, h => by
    by_cases h0 : hi ≤ 2 * r + 1
    · rw [siftDown_stop hi f r d h0]
    · have hex : ∃ c, (2 * r + 2 < hi ∧ ltInt d[f + (2 * r + 1)]! d[f + (2 * r + 1) + 1]! = true ∧ c = 2 * r + 2) ∨ ((hi ≤ 2 * r + 2 ∨ ltInt d[f + (2 * r + 1)]! d[f + (2 * r + 1) + 1]! = false) ∧ c = 2 * r + 1) := by
        by_cases h1 : 2 * r + 2 < hi
        · cases hl : ltInt d[f + (2 * r + 1)]! d[f + (2 * r + 1) + 1]!
          · exact ⟨_, .inr ⟨.inr rfl, rfl⟩⟩
          · exact ⟨_, .inl ⟨h1, rfl, rfl⟩⟩
        · exact ⟨_, .inr ⟨.inl (by omega), rfl⟩⟩
      obtain ⟨c, hc⟩ := hex
      rw [siftDown_step hi f r c d (by omega) hc]
      split
      · rw [siftDown_size hi f m c _ (by omega), size_swp]
      · rfl

set_option maxRecDepth 100000 in
set_option maxHeartbeats 4000000 in
theorem heap_calls (w : World) (g n c a b : Nat) (d : Array Int) (hs : d.size = n) (hd : UAt w g d) (hab : a < b) (hb : b ≤ n) (hn : n ≤ 1000000000000) :
    Calls Tryz.prog 134 #[.slice (some ⟨g, 0, none⟩) n c, .int .i64 (a : Int), .int .i64 (b : Int)] w fun e w' => e = .returned (.tuple #[]) ∧ UTo w w' g (heapSort ltInt d a b) := by
  obtain ⟨h, hh⟩ : ∃ h, h = b - a := ⟨_, rfl⟩
  obtain ⟨h1, hh1⟩ : ∃ h1, h1 = (h - 1) / 2 := ⟨_, rfl⟩
  have e1 : (b : Int) - (a : Int) = (h : Int) := by omega
  have e2 : ((h : Int) - 1) / 2 = (h1 : Int) := by omega
  have HD := Lib.hid hd
  have HS := Lib.hid hs
  have hfh : a + h = b := by omega
  have HR : Hid (heapSort ltInt d a b = heapPop ltInt a h (heapBuild ltInt h a (h1 + 1) d)) := (by unfold heapSort; rw [← hh, ← hh1] : heapSort ltInt d a b = heapPop ltInt a h (heapBuild ltInt h a (h1 + 1) d))
  have HFH := Lib.hid hfh
  have hhn : h ≤ n := by omega
  have hh0 : 0 < h := by omega
  have hh1n : h1 < h := by omega
  have han : a + h ≤ n := by omega
  have han' : a < n := by omega
  clear hd hs hh hh1 hfh
  go_enter Tryz.func134, Tryz.ntmps134
  go_wp2
  rw [e2]
  clear e1 e2
  go_loopw [9] (fun vi W => ∃ (k : Nat) (dk : Array Int), vi = .int .i64 ((k : Int) - 1) ∧ k ≤ h ∧ dk.size = n ∧ UTo w W g dk ∧ heapBuild ltInt h a k dk = heapBuild ltInt h a (h1 + 1) d) (fun vi _ => (intOf vi + 1).toNat)
  case atStart => exact ⟨h1 + 1, d, by go_num, by omega, HS.out, UTo.refl HD.out, rfl⟩
  case round =>
    obtain ⟨k, dk, rfl, hk, hsk, hU, hO⟩ := hrel
    have HU := Lib.hid hU
    have HO := Lib.hid hO
    have HSK := Lib.hid hsk
    clear hU hO hsk
    cases k with
    | zero =>
      rw [show (((0 : Nat) : Int) - 1) = -1 from rfl]
      go_wp2
      go_loopw [10] (fun vi W => ∃ (k : Nat) (dj : Array Int), vi = .int .i64 ((k : Int) - 1) ∧ k ≤ h ∧ dj.size = n ∧ UTo w W g dj ∧ heapPop ltInt a k dj = heapPop ltInt a h dk) (fun vi _ => (intOf vi + 1).toNat)
      case atStart => exact ⟨h, dk, rfl, Nat.le_refl _, HSK.out, HU.out, rfl⟩
      case round =>
        obtain ⟨k, dj, rfl, hk, hsj, hV, hI⟩ := hrel
        have HV := Lib.hid hV
        have HI := Lib.hid hI
        have HSJ := Lib.hid hsj
        clear hV hI hsj
        cases k with
        | zero =>
          go_wp2
          go_end0
          refine ⟨rfl, ?_⟩
          rw [HR.out, ← HO.out]
          show UTo w wr g (heapPop ltInt a h dk)
          rw [← HI.out]
          exact HV.out
        | succ k =>
          have ek : (((k + 1 : Nat) : Int) - 1) = (k : Int) := by omega
          obtain ⟨p, hp⟩ : ∃ p, p = a + k := ⟨_, rfl⟩
          have ep : (a : Int) + (k : Int) = (p : Int) := by omega
          have hpn : p < n := by omega
          obtain ⟨x, hx, cx, fx⟩ := HV.out.read HSJ.out hpn
          obtain ⟨y, hy, cy, fy⟩ := HV.out.read HSJ.out han'
          have HX := Lib.hid hx
          have HY := Lib.hid hy
          have HGO : Hid (heapPop ltInt a (k + 1) dj = heapPop ltInt a k (siftDown ltInt k a 0 (swp dj a p))) := (by rw [hp]; rfl : heapPop ltInt a (k + 1) dj = heapPop ltInt a k (siftDown ltInt k a 0 (swp dj a p)))
          have HSW : Hid (∀ q, UTo w (((wr.drewN q).setCell ⟨g, a, none⟩ (.int .u64 x)).setCell ⟨g, p, none⟩ (.int .u64 y)) g (swp dj a p)) := fun q => HV.out.swap HSJ.out han' hpn HX.out HY.out q
          have HSD : Hid (UTo w ((wr.setCell ⟨g, a, none⟩ (.int .u64 x)).setCell ⟨g, p, none⟩ (.int .u64 y)).drew g (swp dj a p)) := (HV.out.swap0 HSJ.out han' hpn HX.out HY.out).drew
          have HT : Hid (∀ W, UTo w W g (swp dj a p) → Calls Tryz.prog 152 #[.slice (some ⟨g, 0, none⟩) n c, .int .i64 0, .int .i64 (k : Int), .int .i64 (a : Int)] W fun e w' => e = .returned (.tuple #[]) ∧ UTo w w' g (siftDown ltInt k a 0 (swp dj a p))) := fun W hW => by
            refine (sift_calls W g n c 0 k a (swp dj a p) (by rw [size_swp]; exact HSJ.out) hW.at_ (by omega) (by omega) hn).mono ?_
            rintro e w' ⟨rfl, h2⟩
            exact ⟨rfl, hW.trans h2⟩
          have HKP : Hid (k + 1 ≤ h) := hk
          rw [ek]
          by_cases hpa : p = a
          · subst hpa
            obtain rfl : x = y := hx.trans hy.symm
            clear hx hy hp hk cy fy
            go_wp2
            go_region
            all_goals
              go_wp2_with (go_at_call 152; (first | (with_reducible refine (HT.out _ HSD.out).mono ?_) | refine (HT.out _ (HSW.out 1)).mono ?_); rintro e w2 ⟨rfl, h2⟩; have H2 := Lib.hid h2; clear h2)
              go_roundw
              case rel => exact ⟨k, _, rfl, by have := HKP.out; omega, by rw [siftDown_size _ _ _ _ _ (Nat.le_refl _), size_swp]; exact HSJ.out, H2.out, by rw [← HGO.out]; exact HI.out⟩
              case measure => simp [intOf]
          · clear hx hy hp hk
            go_wp2
            go_region
            all_goals
              go_wp2_with (go_at_call 152; (first | (with_reducible refine (HT.out _ HSD.out).mono ?_) | refine (HT.out _ (HSW.out 1)).mono ?_); rintro e w2 ⟨rfl, h2⟩; have H2 := Lib.hid h2; clear h2)
              go_roundw
              case rel => exact ⟨k, _, rfl, by have := HKP.out; omega, by rw [siftDown_size _ _ _ _ _ (Nat.le_refl _), size_swp]; exact HSJ.out, H2.out, by rw [← HGO.out]; exact HI.out⟩
              case measure => simp [intOf]
    | succ k =>
      have ek : (((k + 1 : Nat) : Int) - 1) = (k : Int) := by omega
      have HT : Hid (∀ W, UTo w W g dk → Calls Tryz.prog 152 #[.slice (some ⟨g, 0, none⟩) n c, .int .i64 (k : Int), .int .i64 (h : Int), .int .i64 (a : Int)] W fun e w' => e = .returned (.tuple #[]) ∧ UTo w w' g (siftDown ltInt h a k dk)) := fun W hW => by
        refine (sift_calls W g n c k h a dk HSK.out hW.at_ (by omega) han hn).mono ?_
        rintro e w' ⟨rfl, h2⟩
        exact ⟨rfl, hW.trans h2⟩
      rw [ek]
      go_wp2_with (go_at_call 152; (with_reducible refine (HT.out _ HU.out).mono ?_); rintro e w2 ⟨rfl, h2⟩; have H2 := Lib.hid h2; clear h2)
      go_roundw
      case rel => exact ⟨k, _, rfl, by omega, by rw [siftDown_size _ _ _ _ _ (Nat.le_refl _)]; exact HSK.out, H2.out, by exact HO.out⟩
      case measure => simp [intOf]

end Go.Proofs.YtkplffkchanipaaGreatDoor
