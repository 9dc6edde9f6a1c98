/- The sort's partitions at whole numbers. -/
import Derived.Test.YtkplffkchanipaaGreatDoorUSortA
import Derived.Test.YtkplffkchanipaaGreatDoorUSortB
import Derived.Deep.DeepCutAuto
namespace Go.Proofs.YtkplffkchanipaaGreatDoor
open Go.RowKit Go.Sort

/-- Of two turned round: what lies where. -/
theorem swp_at (d : Array Int) {i j : Nat} (hi : i < d.size) (hj : j < d.size) (k : Nat) : (swp d i j)[k]! = if k = j then d[i]! else if k = i then d[j]! else d[k]! := swp_get d hi hj k

/-- In the midst of a partition by what is no greater than p (lying at a): [a, i) is known, and (j, b). -/
structure PEq (a b i j : Nat) (p : Int) (d0 dk : Array Int) : Prop where
  size : dk.size = d0.size
  perm : PermIn a b d0 dk
  piv : dk[a]! = p
  lo : ∀ t, a ≤ t → t < i → ltInt p dk[t]! = false
  hi : ∀ t, j < t → t < b → ltInt p dk[t]! = true
  ai : a < i
  ij : i ≤ j + 1
  jb : j < b
  bs : b ≤ d0.size
theorem PEq.up {a b i j : Nat} {p : Int} {d0 dk : Array Int} (h : PEq a b i j p d0 dk) (hij : i ≤ j) (hl : ltInt p dk[i]! = false) : PEq a b (i + 1) j p d0 dk :=
  ⟨h.size, h.perm, h.piv, fun t h1 h2 => by
    by_cases ht : t = i
    · rw [ht]; exact hl
    · exact h.lo t h1 (by omega), h.hi, by have := h.ai; omega, by omega, h.jb, h.bs⟩
theorem PEq.down {a b i j : Nat} {p : Int} {d0 dk : Array Int} (h : PEq a b i (j + 1) p d0 dk) (hij : i ≤ j + 1) (hl : ltInt p dk[j + 1]! = true) : PEq a b i j p d0 dk :=
  ⟨h.size, h.perm, h.piv, h.lo, fun t h1 h2 => by
    by_cases ht : t = j + 1
    · rw [ht]; exact hl
    · exact h.hi t (by omega) h2, h.ai, by omega, by have := h.jb; omega, h.bs⟩
theorem PEq.swap {a b i j : Nat} {p : Int} {d0 dk : Array Int} (h : PEq a b i (j + 1) p d0 dk) (hij : i ≤ j + 1) (h1 : ltInt p dk[i]! = true) (h2 : ltInt p dk[j + 1]! = false) : PEq a b (i + 1) j p d0 (swp dk i (j + 1)) := by
  have hne : i ≠ j + 1 := fun e => by rw [e, h2] at h1; cases h1
  have hai := h.ai
  have hjb := h.jb
  have hsz := h.size
  have hbs := h.bs
  have g := swp_at dk (i := i) (j := j + 1) (by omega) (by omega)
  refine ⟨by rw [size_swp]; exact hsz, permIn_trans _ _ _ _ _ h.perm (swp_permIn _ _ _ _ _ (by omega) (by omega) (by omega) (by omega) (by omega)), ?_, ?_, ?_, by omega, by omega, by omega, hbs⟩
  · rw [g, if_neg (by omega), if_neg (by omega)]
    exact h.piv
  · intro t h3 h4
    rw [g]
    by_cases ht : t = i
    · rw [if_neg (by omega), if_pos ht]; exact h2
    · rw [if_neg (by omega), if_neg ht]; exact h.lo t h3 (by omega)
  · intro t h3 h4
    rw [g]
    by_cases ht : t = j + 1
    · rw [if_pos ht]; exact h1
    · rw [if_neg ht, if_neg (by omega)]; exact h.hi t (by omega) h4
theorem PEq.start {a b q : Nat} {d : Array Int} (h1 : a ≤ q) (h2 : q < b) (h3 : b ≤ d.size) : PEq a b (a + 1) (b - 1) d[q]! d (swp d a q) := by
  have g := swp_at d (i := a) (j := q) (by omega) (by omega)
  have e : (swp d a q)[a]! = d[q]! := by
    rw [g]
    by_cases hq : a = q
    · rw [if_pos hq, hq]
    · rw [if_neg hq, if_pos rfl]
  refine ⟨size_swp _ _ _, swp_permIn _ _ _ _ _ (by omega) (by omega) h1 h2 h3, e, ?_, fun t _ _ => by omega, by omega, by omega, by omega, h3⟩
  intro t h4 h5
  obtain rfl : t = a := by omega
  rw [e]
  simp [ltInt]
/-- What partitionEqual's result says. -/
def EqRes (a b : Nat) (p : Int) (d0 : Array Int) (mid : Nat) (d' : Array Int) : Prop :=
  a < mid ∧ mid ≤ b ∧ d'.size = d0.size ∧ PermIn a b d0 d' ∧ (∀ t, a ≤ t → t < mid → ltInt p d'[t]! = false) ∧ (∀ t, mid ≤ t → t < b → ltInt p d'[t]! = true)
theorem PEq.res {a b i j : Nat} {p : Int} {d0 dk : Array Int} (h : PEq a b i j p d0 dk) (hij : j < i) : EqRes a b p d0 i dk :=
  ⟨h.ai, by have := h.ij; have := h.jb; omega, h.size, h.perm, h.lo, fun t h1 h2 => h.hi t (by omega) h2⟩

set_option maxRecDepth 100000 in
set_option maxHeartbeats 8000000 in
theorem partEq_calls (w : World) (g n c a b q : Nat) (d : Array Int) (hs : d.size = n) (hd : UAt w g d) (haq : a ≤ q) (hqb : q < b) (hb : b ≤ n) (hn : n ≤ 1000000000000) :
    Calls Tryz.prog 140 #[.slice (some ⟨g, 0, none⟩) n c, .int .i64 (a : Int), .int .i64 (b : Int), .int .i64 (q : Int)] w fun e w' => ∃ (mid : Nat) (d' : Array Int), e = .returned (.int .i64 (mid : Int)) ∧ EqRes a b d[q]! d mid d' ∧ UTo w w' g d' := by
  obtain ⟨b1, hb1⟩ : ∃ b1, b = b1 + 1 := ⟨b - 1, by omega⟩
  have e1 : (b : Int) - 1 = (b1 : Int) := by omega
  have HU := Lib.hid (UTo.refl hd)
  have HS := Lib.hid hs
  have HP0 : Hid (PEq a b (a + 1) b1 d[q]! d (swp d a q)) := by
    have := PEq.start haq hqb (d := d) (by omega)
    rw [show b - 1 = b1 by omega] at this
    exact this
  have han : a < n := by omega
  have hqn : q < n := by omega
  obtain ⟨p, hp, cq, fq⟩ := HU.out.read HS.out hqn
  obtain ⟨y, hy, ca, fa⟩ := HU.out.read HS.out han
  rw [← hp] at HP0 ⊢
  have HP := Lib.hid hp
  have HY := Lib.hid hy
  clear hs hd hb1 hp hy
  go_enter Tryz.func140, Tryz.ntmps140
  by_cases haq' : a = q
  · subst haq'
    obtain rfl : p = y := HP.out.trans HY.out.symm
    clear ca fa
    go_wp2
    go_region
    go_wp2
    have HU1 := Lib.hid (HU.out.swap0 HS.out han hqn HP.out HY.out).drew
    clear cq fq
    generalize ((w.setCell ⟨g, a, none⟩ (.int .u64 p)).setCell ⟨g, a, none⟩ (.int .u64 p)).drew = W1 at *
    go_loopw [9, 10] (fun vi vj W => ∃ (i j : Nat) (dk : Array Int), vi = .int .i64 (i : Int) ∧ vj = .int .i64 (j : Int) ∧ PEq a b i j p d dk ∧ UTo w W g dk) (fun _ vj _ => (intOf vj).toNat)
    case atStart => exact ⟨a + 1, b1, _, by go_num, rfl, HP0.out, HU1.out⟩
    case round =>
      obtain ⟨i, j, dk, rfl, rfl, hE, hV⟩ := hrel
      have HE := Lib.hid hE
      have HV := Lib.hid hV
      have HSK : Hid (dk.size = n) := (hE.size.trans HS.out : dk.size = n)
      have hjn : j < n := by have := hE.jb; omega
      clear hE hV
      go_wp2
      go_loopw [9] (fun vi W => ∃ (i : Nat), vi = .int .i64 (i : Int) ∧ PEq a b i j p d dk ∧ UTo w W g dk) (fun vi _ => j + 1 - (intOf vi).toNat)
      case atStart => exact ⟨i, rfl, HE.out, HV.out⟩
      case round =>
        obtain ⟨i, rfl, hE, hV⟩ := hrel
        have HE := Lib.hid hE
        have HV := Lib.hid hV
        have hij1 := hE.ij
        have ca : wr.cell? ⟨g, a, none⟩ = some (.int .u64 p) := by have := (hV.at_ a (by rw [HSK.out]; exact han)).1; rw [hE.piv] at this; exact this
        clear hE hV
        by_cases hij : i ≤ j
        · have d1 : decide ((i : Int) ≤ (j : Int)) = true := by simpa using hij
          have d1n : decide (i ≤ j) = true := by simpa using hij
          have hin : i < n := by omega
          obtain ⟨x, hx, cx, fx⟩ := HV.out.read HSK.out hin
          have HX := Lib.hid hx
          clear hx
          cases hl : ltInt p x
          · have HL := Lib.hid hl
            have HE2 := Lib.hid (HE.out.up hij (by rw [← HX.out]; exact hl))
            clear hl
            go_wp2
            go_quiet ((go_at_call 139; exact Calls.quiet_of_same (less_b HL.out _)))
            go_wp2
            go_roundw
            case rel => exact ⟨i + 1, by go_num, HE2.out, HV.out.drewN _⟩
            case measure => simp [intOf]; omega
          · have HL := Lib.hid hl
            have HIA : Hid (i ≤ j → ltInt p dk[i]! = true) := fun _ => by rw [← HX.out]; exact hl
            clear hl
            go_wp2
            go_quiet ((go_at_call 139; exact Calls.quiet_of_same (less_b HL.out _)))
            have HV2 := Lib.hid (HV.out.drewN nq)
            clear ca cx fx d1 d1n
            generalize wr.drewN nq = W2 at *
            go_wp2
            go_loopw [10] (fun vj W => ∃ (j2 : Nat), vj = .int .i64 (j2 : Int) ∧ j2 ≤ j ∧ PEq a b i j2 p d dk ∧ UTo w W g dk) (fun vj _ => (intOf vj).toNat)
            case atStart => exact ⟨j, rfl, Nat.le_refl _, HE.out, HV2.out⟩
            case round =>
              obtain ⟨j2, rfl, hjj, hE3, hV3⟩ := hrel
              have HE3 := Lib.hid hE3
              have HV3 := Lib.hid hV3
              have hij3 := hE3.ij
              have hai3 := hE3.ai
              have ca : wr.cell? ⟨g, a, none⟩ = some (.int .u64 p) := by have := (hV3.at_ a (by rw [HSK.out]; exact han)).1; rw [hE3.piv] at this; exact this
              clear hE3 hV3
              by_cases hij2 : i ≤ j2
              · have d2 : decide ((i : Int) ≤ (j2 : Int)) = true := by simpa using hij2
                have d2n : decide (i ≤ j2) = true := by simpa using hij2
                have hj2n : j2 < n := by omega
                obtain ⟨j3, hj3⟩ : ∃ j3, j2 = j3 + 1 := ⟨j2 - 1, by omega⟩
                have ej3 : (j2 : Int) - 1 = (j3 : Int) := by omega
                obtain ⟨z, hz, cz, fz⟩ := HV3.out.read HSK.out hj2n
                have HZ := Lib.hid hz
                have HJ3 := Lib.hid hj3
                clear hz hj3
                cases hl : ltInt p z
                · have HL3 := Lib.hid hl
                  have hin : i < n := by omega
                  obtain ⟨x3, hx3, cx3, fx3⟩ := HV3.out.read HSK.out hin
                  have HX3 := Lib.hid hx3
                  have HE4 : Hid (PEq a b (i + 1) j3 p d (swp dk i j2)) := by
                    have h1 := HE3.out
                    have h2 := HZ.out
                    have h3 := HIA.out (by omega)
                    rw [HJ3.out] at h1 h2 ⊢
                    exact h1.swap (by have := HJ3.out; omega) h3 (by rw [← h2]; exact hl)
                  have d3 : decide ((j2 : Int) < (i : Int)) = false := by simp; omega
                  have d3n : decide (j2 < i) = false := by simp; omega
                  have hne : i ≠ j2 := fun e => by have h4 := HIA.out (by omega); rw [e, ← HZ.out, hl] at h4; cases h4
                  clear hl hx3
                  go_wp2
                  go_quiet ((go_at_call 139; exact Calls.quiet_of_same (less_b HL3.out _)))
                  go_wp2
                  go_region
                  all_goals
                    go_wp2
                    go_roundw
                    case rel => exact ⟨i + 1, j3, swp dk i j2, by go_num, rfl, HE4.out, HV3.out.swap HSK.out hin hj2n HZ.out HX3.out _⟩
                    case measure => have := HJ3.out; simp [intOf]; omega
                · have HL3 := Lib.hid hl
                  have HE4 : Hid (PEq a b i j3 p d dk) := by
                    have h1 := HE3.out
                    have h2 := HZ.out
                    rw [HJ3.out] at h1 h2
                    exact h1.down (by have := HJ3.out; omega) (by rw [← h2]; exact hl)
                  clear hl
                  go_wp2
                  go_quiet ((go_at_call 139; exact Calls.quiet_of_same (less_b HL3.out _)))
                  go_wp2
                  go_roundw
                  case rel => exact ⟨j3, rfl, by have := HJ3.out; omega, HE4.out, HV3.out.drewN _⟩
                  case measure => have := HJ3.out; simp [intOf]; omega
              · have d2 : decide ((i : Int) ≤ (j2 : Int)) = false := by simp; omega
                have d2n : decide (i ≤ j2) = false := by simp; omega
                have d3 : decide ((j2 : Int) < (i : Int)) = true := by simp; omega
                have d3n : decide (j2 < i) = true := by simp; omega
                have HL : Hid (ltInt 0 0 = false) := rfl
                go_wp2
                go_quiet ((go_at_call 139; exact Calls.quiet_of_same (less_b HL.out _)))
                go_wp2
                go_ret
                exact ⟨i, dk, rfl, HE3.out.res (by omega), HV3.out.drewN _⟩
        · have d1 : decide ((i : Int) ≤ (j : Int)) = false := by simp; omega
          have d1n : decide (i ≤ j) = false := by simp; omega
          have HIA : Hid (i ≤ j → ltInt p dk[i]! = true) := fun h => absurd h hij
          have HL : Hid (ltInt 0 0 = false) := rfl
          go_wp2
          go_quiet ((go_at_call 139; exact Calls.quiet_of_same (less_b HL.out _)))
          have HV2 := Lib.hid (HV.out.drewN nq)
          clear ca d1 d1n hij HL
          generalize wr.drewN nq = W2 at *
          go_wp2
          go_loopw [10] (fun vj W => ∃ (j2 : Nat), vj = .int .i64 (j2 : Int) ∧ j2 ≤ j ∧ PEq a b i j2 p d dk ∧ UTo w W g dk) (fun vj _ => (intOf vj).toNat)
          case atStart => exact ⟨j, rfl, Nat.le_refl _, HE.out, HV2.out⟩
          case round =>
            obtain ⟨j2, rfl, hjj, hE3, hV3⟩ := hrel
            have HE3 := Lib.hid hE3
            have HV3 := Lib.hid hV3
            have hij3 := hE3.ij
            have hai3 := hE3.ai
            have ca : wr.cell? ⟨g, a, none⟩ = some (.int .u64 p) := by have := (hV3.at_ a (by rw [HSK.out]; exact han)).1; rw [hE3.piv] at this; exact this
            clear hE3 hV3
            by_cases hij2 : i ≤ j2
            · have d2 : decide ((i : Int) ≤ (j2 : Int)) = true := by simpa using hij2
              have d2n : decide (i ≤ j2) = true := by simpa using hij2
              have hj2n : j2 < n := by omega
              obtain ⟨j3, hj3⟩ : ∃ j3, j2 = j3 + 1 := ⟨j2 - 1, by omega⟩
              have ej3 : (j2 : Int) - 1 = (j3 : Int) := by omega
              obtain ⟨z, hz, cz, fz⟩ := HV3.out.read HSK.out hj2n
              have HZ := Lib.hid hz
              have HJ3 := Lib.hid hj3
              clear hz hj3
              cases hl : ltInt p z
              · have HL3 := Lib.hid hl
                have hin : i < n := by omega
                obtain ⟨x3, hx3, cx3, fx3⟩ := HV3.out.read HSK.out hin
                have HX3 := Lib.hid hx3
                have HE4 : Hid (PEq a b (i + 1) j3 p d (swp dk i j2)) := by
                  have h1 := HE3.out
                  have h2 := HZ.out
                  have h3 := HIA.out (by omega)
                  rw [HJ3.out] at h1 h2 ⊢
                  exact h1.swap (by have := HJ3.out; omega) h3 (by rw [← h2]; exact hl)
                have d3 : decide ((j2 : Int) < (i : Int)) = false := by simp; omega
                have d3n : decide (j2 < i) = false := by simp; omega
                have hne : i ≠ j2 := fun e => by have h4 := HIA.out (by omega); rw [e, ← HZ.out, hl] at h4; cases h4
                clear hl hx3
                go_wp2
                go_quiet ((go_at_call 139; exact Calls.quiet_of_same (less_b HL3.out _)))
                go_wp2
                go_region
                all_goals
                  go_wp2
                  go_roundw
                  case rel => exact ⟨i + 1, j3, swp dk i j2, by go_num, rfl, HE4.out, HV3.out.swap HSK.out hin hj2n HZ.out HX3.out _⟩
                  case measure => have := HJ3.out; simp [intOf]; omega
              · have HL3 := Lib.hid hl
                have HE4 : Hid (PEq a b i j3 p d dk) := by
                  have h1 := HE3.out
                  have h2 := HZ.out
                  rw [HJ3.out] at h1 h2
                  exact h1.down (by have := HJ3.out; omega) (by rw [← h2]; exact hl)
                clear hl
                go_wp2
                go_quiet ((go_at_call 139; exact Calls.quiet_of_same (less_b HL3.out _)))
                go_wp2
                go_roundw
                case rel => exact ⟨j3, rfl, by have := HJ3.out; omega, HE4.out, HV3.out.drewN _⟩
                case measure => have := HJ3.out; simp [intOf]; omega
            · have d2 : decide ((i : Int) ≤ (j2 : Int)) = false := by simp; omega
              have d2n : decide (i ≤ j2) = false := by simp; omega
              have d3 : decide ((j2 : Int) < (i : Int)) = true := by simp; omega
              have d3n : decide (j2 < i) = true := by simp; omega
              have HL : Hid (ltInt 0 0 = false) := rfl
              go_wp2
              go_quiet ((go_at_call 139; exact Calls.quiet_of_same (less_b HL.out _)))
              go_wp2
              go_ret
              exact ⟨i, dk, rfl, HE3.out.res (by omega), HV3.out.drewN _⟩
  · go_wp2
    go_region
    go_wp2
    have HU1 := Lib.hid (HU.out.swap0 HS.out han hqn HP.out HY.out).drew
    clear cq fq ca fa
    generalize ((w.setCell ⟨g, a, none⟩ (.int .u64 p)).setCell ⟨g, q, none⟩ (.int .u64 y)).drew = W1 at *
    go_loopw [9, 10] (fun vi vj W => ∃ (i j : Nat) (dk : Array Int), vi = .int .i64 (i : Int) ∧ vj = .int .i64 (j : Int) ∧ PEq a b i j p d dk ∧ UTo w W g dk) (fun _ vj _ => (intOf vj).toNat)
    case atStart => exact ⟨a + 1, b1, _, by go_num, rfl, HP0.out, HU1.out⟩
    case round =>
      obtain ⟨i, j, dk, rfl, rfl, hE, hV⟩ := hrel
      have HE := Lib.hid hE
      have HV := Lib.hid hV
      have HSK : Hid (dk.size = n) := (hE.size.trans HS.out : dk.size = n)
      have hjn : j < n := by have := hE.jb; omega
      clear hE hV
      go_wp2
      go_loopw [9] (fun vi W => ∃ (i : Nat), vi = .int .i64 (i : Int) ∧ PEq a b i j p d dk ∧ UTo w W g dk) (fun vi _ => j + 1 - (intOf vi).toNat)
      case atStart => exact ⟨i, rfl, HE.out, HV.out⟩
      case round =>
        obtain ⟨i, rfl, hE, hV⟩ := hrel
        have HE := Lib.hid hE
        have HV := Lib.hid hV
        have hij1 := hE.ij
        have ca : wr.cell? ⟨g, a, none⟩ = some (.int .u64 p) := by have := (hV.at_ a (by rw [HSK.out]; exact han)).1; rw [hE.piv] at this; exact this
        clear hE hV
        by_cases hij : i ≤ j
        · have d1 : decide ((i : Int) ≤ (j : Int)) = true := by simpa using hij
          have d1n : decide (i ≤ j) = true := by simpa using hij
          have hin : i < n := by omega
          obtain ⟨x, hx, cx, fx⟩ := HV.out.read HSK.out hin
          have HX := Lib.hid hx
          clear hx
          cases hl : ltInt p x
          · have HL := Lib.hid hl
            have HE2 := Lib.hid (HE.out.up hij (by rw [← HX.out]; exact hl))
            clear hl
            go_wp2
            go_quiet ((go_at_call 139; exact Calls.quiet_of_same (less_b HL.out _)))
            go_wp2
            go_roundw
            case rel => exact ⟨i + 1, by go_num, HE2.out, HV.out.drewN _⟩
            case measure => simp [intOf]; omega
          · have HL := Lib.hid hl
            have HIA : Hid (i ≤ j → ltInt p dk[i]! = true) := fun _ => by rw [← HX.out]; exact hl
            clear hl
            go_wp2
            go_quiet ((go_at_call 139; exact Calls.quiet_of_same (less_b HL.out _)))
            have HV2 := Lib.hid (HV.out.drewN nq)
            clear ca cx fx d1 d1n
            generalize wr.drewN nq = W2 at *
            go_wp2
            go_loopw [10] (fun vj W => ∃ (j2 : Nat), vj = .int .i64 (j2 : Int) ∧ j2 ≤ j ∧ PEq a b i j2 p d dk ∧ UTo w W g dk) (fun vj _ => (intOf vj).toNat)
            case atStart => exact ⟨j, rfl, Nat.le_refl _, HE.out, HV2.out⟩
            case round =>
              obtain ⟨j2, rfl, hjj, hE3, hV3⟩ := hrel
              have HE3 := Lib.hid hE3
              have HV3 := Lib.hid hV3
              have hij3 := hE3.ij
              have hai3 := hE3.ai
              have ca : wr.cell? ⟨g, a, none⟩ = some (.int .u64 p) := by have := (hV3.at_ a (by rw [HSK.out]; exact han)).1; rw [hE3.piv] at this; exact this
              clear hE3 hV3
              by_cases hij2 : i ≤ j2
              · have d2 : decide ((i : Int) ≤ (j2 : Int)) = true := by simpa using hij2
                have d2n : decide (i ≤ j2) = true := by simpa using hij2
                have hj2n : j2 < n := by omega
                obtain ⟨j3, hj3⟩ : ∃ j3, j2 = j3 + 1 := ⟨j2 - 1, by omega⟩
                have ej3 : (j2 : Int) - 1 = (j3 : Int) := by omega
                obtain ⟨z, hz, cz, fz⟩ := HV3.out.read HSK.out hj2n
                have HZ := Lib.hid hz
                have HJ3 := Lib.hid hj3
                clear hz hj3
                cases hl : ltInt p z
                · have HL3 := Lib.hid hl
                  have hin : i < n := by omega
                  obtain ⟨x3, hx3, cx3, fx3⟩ := HV3.out.read HSK.out hin
                  have HX3 := Lib.hid hx3
                  have HE4 : Hid (PEq a b (i + 1) j3 p d (swp dk i j2)) := by
                    have h1 := HE3.out
                    have h2 := HZ.out
                    have h3 := HIA.out (by omega)
                    rw [HJ3.out] at h1 h2 ⊢
                    exact h1.swap (by have := HJ3.out; omega) h3 (by rw [← h2]; exact hl)
                  have d3 : decide ((j2 : Int) < (i : Int)) = false := by simp; omega
                  have d3n : decide (j2 < i) = false := by simp; omega
                  have hne : i ≠ j2 := fun e => by have h4 := HIA.out (by omega); rw [e, ← HZ.out, hl] at h4; cases h4
                  clear hl hx3
                  go_wp2
                  go_quiet ((go_at_call 139; exact Calls.quiet_of_same (less_b HL3.out _)))
                  go_wp2
                  go_region
                  all_goals
                    go_wp2
                    go_roundw
                    case rel => exact ⟨i + 1, j3, swp dk i j2, by go_num, rfl, HE4.out, HV3.out.swap HSK.out hin hj2n HZ.out HX3.out _⟩
                    case measure => have := HJ3.out; simp [intOf]; omega
                · have HL3 := Lib.hid hl
                  have HE4 : Hid (PEq a b i j3 p d dk) := by
                    have h1 := HE3.out
                    have h2 := HZ.out
                    rw [HJ3.out] at h1 h2
                    exact h1.down (by have := HJ3.out; omega) (by rw [← h2]; exact hl)
                  clear hl
                  go_wp2
                  go_quiet ((go_at_call 139; exact Calls.quiet_of_same (less_b HL3.out _)))
                  go_wp2
                  go_roundw
                  case rel => exact ⟨j3, rfl, by have := HJ3.out; omega, HE4.out, HV3.out.drewN _⟩
                  case measure => have := HJ3.out; simp [intOf]; omega
              · have d2 : decide ((i : Int) ≤ (j2 : Int)) = false := by simp; omega
                have d2n : decide (i ≤ j2) = false := by simp; omega
                have d3 : decide ((j2 : Int) < (i : Int)) = true := by simp; omega
                have d3n : decide (j2 < i) = true := by simp; omega
                have HL : Hid (ltInt 0 0 = false) := rfl
                go_wp2
                go_quiet ((go_at_call 139; exact Calls.quiet_of_same (less_b HL.out _)))
                go_wp2
                go_ret
                exact ⟨i, dk, rfl, HE3.out.res (by omega), HV3.out.drewN _⟩
        · have d1 : decide ((i : Int) ≤ (j : Int)) = false := by simp; omega
          have d1n : decide (i ≤ j) = false := by simp; omega
          have HIA : Hid (i ≤ j → ltInt p dk[i]! = true) := fun h => absurd h hij
          have HL : Hid (ltInt 0 0 = false) := rfl
          go_wp2
          go_quiet ((go_at_call 139; exact Calls.quiet_of_same (less_b HL.out _)))
          have HV2 := Lib.hid (HV.out.drewN nq)
          clear ca d1 d1n hij HL
          generalize wr.drewN nq = W2 at *
          go_wp2
          go_loopw [10] (fun vj W => ∃ (j2 : Nat), vj = .int .i64 (j2 : Int) ∧ j2 ≤ j ∧ PEq a b i j2 p d dk ∧ UTo w W g dk) (fun vj _ => (intOf vj).toNat)
          case atStart => exact ⟨j, rfl, Nat.le_refl _, HE.out, HV2.out⟩
          case round =>
            obtain ⟨j2, rfl, hjj, hE3, hV3⟩ := hrel
            have HE3 := Lib.hid hE3
            have HV3 := Lib.hid hV3
            have hij3 := hE3.ij
            have hai3 := hE3.ai
            have ca : wr.cell? ⟨g, a, none⟩ = some (.int .u64 p) := by have := (hV3.at_ a (by rw [HSK.out]; exact han)).1; rw [hE3.piv] at this; exact this
            clear hE3 hV3
            by_cases hij2 : i ≤ j2
            · have d2 : decide ((i : Int) ≤ (j2 : Int)) = true := by simpa using hij2
              have d2n : decide (i ≤ j2) = true := by simpa using hij2
              have hj2n : j2 < n := by omega
              obtain ⟨j3, hj3⟩ : ∃ j3, j2 = j3 + 1 := ⟨j2 - 1, by omega⟩
              have ej3 : (j2 : Int) - 1 = (j3 : Int) := by omega
              obtain ⟨z, hz, cz, fz⟩ := HV3.out.read HSK.out hj2n
              have HZ := Lib.hid hz
              have HJ3 := Lib.hid hj3
              clear hz hj3
              cases hl : ltInt p z
              · have HL3 := Lib.hid hl
                have hin : i < n := by omega
                obtain ⟨x3, hx3, cx3, fx3⟩ := HV3.out.read HSK.out hin
                have HX3 := Lib.hid hx3
                have HE4 : Hid (PEq a b (i + 1) j3 p d (swp dk i j2)) := by
                  have h1 := HE3.out
                  have h2 := HZ.out
                  have h3 := HIA.out (by omega)
                  rw [HJ3.out] at h1 h2 ⊢
                  exact h1.swap (by have := HJ3.out; omega) h3 (by rw [← h2]; exact hl)
                have d3 : decide ((j2 : Int) < (i : Int)) = false := by simp; omega
                have d3n : decide (j2 < i) = false := by simp; omega
                have hne : i ≠ j2 := fun e => by have h4 := HIA.out (by omega); rw [e, ← HZ.out, hl] at h4; cases h4
                clear hl hx3
                go_wp2
                go_quiet ((go_at_call 139; exact Calls.quiet_of_same (less_b HL3.out _)))
                go_wp2
                go_region
                all_goals
                  go_wp2
                  go_roundw
                  case rel => exact ⟨i + 1, j3, swp dk i j2, by go_num, rfl, HE4.out, HV3.out.swap HSK.out hin hj2n HZ.out HX3.out _⟩
                  case measure => have := HJ3.out; simp [intOf]; omega
              · have HL3 := Lib.hid hl
                have HE4 : Hid (PEq a b i j3 p d dk) := by
                  have h1 := HE3.out
                  have h2 := HZ.out
                  rw [HJ3.out] at h1 h2
                  exact h1.down (by have := HJ3.out; omega) (by rw [← h2]; exact hl)
                clear hl
                go_wp2
                go_quiet ((go_at_call 139; exact Calls.quiet_of_same (less_b HL3.out _)))
                go_wp2
                go_roundw
                case rel => exact ⟨j3, rfl, by have := HJ3.out; omega, HE4.out, HV3.out.drewN _⟩
                case measure => have := HJ3.out; simp [intOf]; omega
            · have d2 : decide ((i : Int) ≤ (j2 : Int)) = false := by simp; omega
              have d2n : decide (i ≤ j2) = false := by simp; omega
              have d3 : decide ((j2 : Int) < (i : Int)) = true := by simp; omega
              have d3n : decide (j2 < i) = true := by simp; omega
              have HL : Hid (ltInt 0 0 = false) := rfl
              go_wp2
              go_quiet ((go_at_call 139; exact Calls.quiet_of_same (less_b HL.out _)))
              go_wp2
              go_ret
              exact ⟨i, dk, rfl, HE3.out.res (by omega), HV3.out.drewN _⟩

end Go.Proofs.YtkplffkchanipaaGreatDoor
/- The sort's partition at whole numbers. -/
namespace Go.Proofs.YtkplffkchanipaaGreatDoor
open Go.RowKit Go.Sort

/-- In the midst of a partition by p (lying at a): what lies in (a, i) is less, what lies in (j, b) isn't. -/
structure PLt (a b i j : Nat) (p : Int) (d0 dk : Array Int) : Prop where
  size : dk.size = d0.size
  perm : PermIn a b d0 dk
  piv : dk[a]! = p
  lo : ∀ t, a < t → t < i → ltInt dk[t]! p = true
  hi : ∀ t, j < t → t < b → ltInt dk[t]! p = false
  ai : a < i
  ij : i ≤ j + 1
  jb : j < b
  bs : b ≤ d0.size
theorem PLt.up {a b i j : Nat} {p : Int} {d0 dk : Array Int} (h : PLt a b i j p d0 dk) (hij : i ≤ j) (hl : ltInt dk[i]! p = true) : PLt a b (i + 1) j p d0 dk :=
  ⟨h.size, h.perm, h.piv, fun t h1 h2 => by
    by_cases ht : t = i
    · rw [ht]; exact hl
    · exact h.lo t h1 (by omega), h.hi, by have := h.ai; omega, by omega, h.jb, h.bs⟩
theorem PLt.down {a b i j : Nat} {p : Int} {d0 dk : Array Int} (h : PLt a b i (j + 1) p d0 dk) (hij : i ≤ j + 1) (hl : ltInt dk[j + 1]! p = false) : PLt a b i j p d0 dk :=
  ⟨h.size, h.perm, h.piv, h.lo, fun t h1 h2 => by
    by_cases ht : t = j + 1
    · rw [ht]; exact hl
    · exact h.hi t (by omega) h2, h.ai, by omega, by have := h.jb; omega, h.bs⟩
theorem PLt.swap {a b i j : Nat} {p : Int} {d0 dk : Array Int} (h : PLt a b i (j + 1) p d0 dk) (hij : i ≤ j + 1) (h1 : ltInt dk[i]! p = false) (h2 : ltInt dk[j + 1]! p = true) : PLt a b (i + 1) j p d0 (swp dk i (j + 1)) := by
  have hne : i ≠ j + 1 := fun e => by rw [e, h2] at h1; cases h1
  have hai := h.ai
  have hjb := h.jb
  have hsz := h.size
  have hbs := h.bs
  have g := swp_at dk (i := i) (j := j + 1) (by omega) (by omega)
  refine ⟨by rw [size_swp]; exact hsz, permIn_trans _ _ _ _ _ h.perm (swp_permIn _ _ _ _ _ (by omega) (by omega) (by omega) (by omega) (by omega)), ?_, ?_, ?_, by omega, by omega, by omega, hbs⟩
  · rw [g, if_neg (by omega), if_neg (by omega)]
    exact h.piv
  · intro t h3 h4
    rw [g]
    by_cases ht : t = i
    · rw [if_neg (by omega), if_pos ht]; exact h2
    · rw [if_neg (by omega), if_neg ht]; exact h.lo t h3 (by omega)
  · intro t h3 h4
    rw [g]
    by_cases ht : t = j + 1
    · rw [if_pos ht]; exact h1
    · rw [if_neg ht, if_neg (by omega)]; exact h.hi t (by omega) h4
theorem PLt.start {a b q : Nat} {d : Array Int} (h1 : a ≤ q) (h2 : q < b) (h3 : b ≤ d.size) : PLt a b (a + 1) (b - 1) d[q]! d (swp d a q) := by
  have g := swp_at d (i := a) (j := q) (by omega) (by omega)
  have e : (swp d a q)[a]! = d[q]! := by
    rw [g]
    by_cases hq : a = q
    · rw [if_pos hq, hq]
    · rw [if_neg hq, if_pos rfl]
  exact ⟨size_swp _ _ _, swp_permIn _ _ _ _ _ (by omega) (by omega) h1 h2 h3, e, fun t _ _ => by omega, fun t _ _ => by omega, by omega, by omega, by omega, h3⟩
/-- What partition's result says. -/
def LtRes (a b : Nat) (d0 : Array Int) (mid : Nat) (d' : Array Int) : Prop :=
  a ≤ mid ∧ mid < b ∧ d'.size = d0.size ∧ PermIn a b d0 d' ∧ (∀ t, a ≤ t → t < mid → ltInt d'[t]! d'[mid]! = true) ∧ (∀ t, mid < t → t < b → ltInt d'[t]! d'[mid]! = false)
theorem PLt.res {a b i j : Nat} {p : Int} {d0 dk : Array Int} (h : PLt a b i j p d0 dk) (hij : j < i) : LtRes a b d0 j (swp dk j a) := by
  have hai := h.ai
  have hij2 := h.ij
  have hjb := h.jb
  have hsz := h.size
  have hbs := h.bs
  have g := swp_at dk (i := j) (j := a) (by omega) (by omega)
  have ej : (swp dk j a)[j]! = p := by
    rw [g]
    by_cases hja : j = a
    · rw [if_pos hja, hja]; exact h.piv
    · rw [if_neg hja, if_pos rfl]; exact h.piv
  refine ⟨by omega, hjb, by rw [size_swp]; exact hsz, permIn_trans _ _ _ _ _ h.perm (swp_permIn _ _ _ _ _ (by omega) hjb (by omega) (by omega) (by omega)), ?_, ?_⟩
  · intro t h1 h2
    rw [ej, g]
    by_cases ht : t = a
    · rw [if_pos ht]; exact h.lo j (by omega) hij
    · rw [if_neg ht, if_neg (by omega)]; exact h.lo t (by omega) (by omega)
  · intro t h1 h2
    rw [ej, g, if_neg (by omega), if_neg (by omega)]
    exact h.hi t h1 h2

set_option maxRecDepth 100000 in
set_option maxHeartbeats 16000000 in
theorem part_calls (w : World) (g n c a b q : Nat) (d : Array Int) (hs : d.size = n) (hd : UAt w g d) (haq : a ≤ q) (hqb : q < b) (hb : b ≤ n) (hn : n ≤ 1000000000000) :
    Calls Tryz.prog 141 #[.slice (some ⟨g, 0, none⟩) n c, .int .i64 (a : Int), .int .i64 (b : Int), .int .i64 (q : Int)] w fun e w' => ∃ (mid : Nat) (o : Bool) (d' : Array Int), e = .returned (.tuple #[.int .i64 (mid : Int), .bool o]) ∧ LtRes a b d mid d' ∧ UTo w w' g d' := by
  obtain ⟨b1, hb1⟩ : ∃ b1, b = b1 + 1 := ⟨b - 1, by omega⟩
  have e1 : (b : Int) - 1 = (b1 : Int) := by omega
  have HU := Lib.hid (UTo.refl hd)
  have HS := Lib.hid hs
  have HP0 : Hid (PLt a b (a + 1) b1 d[q]! d (swp d a q)) := by
    have := PLt.start haq hqb (d := d) (by omega)
    rw [show b - 1 = b1 by omega] at this
    exact this
  have han : a < n := by omega
  have hqn : q < n := by omega
  obtain ⟨p, hp, cq, fq⟩ := HU.out.read HS.out hqn
  obtain ⟨y, hy, ca, fa⟩ := HU.out.read HS.out han
  rw [← hp] at HP0
  have HP := Lib.hid hp
  have HY := Lib.hid hy
  obtain ⟨dk, hdk⟩ : ∃ dk, dk = swp d a q := ⟨_, rfl⟩
  have HSK : Hid (dk.size = n) := (by rw [hdk, size_swp]; exact HS.out : dk.size = n)
  have HE0 : Hid (PLt a b (a + 1) b1 p d dk) := (by rw [hdk]; exact HP0.out : PLt a b (a + 1) b1 p d dk)
  have HDK := Lib.hid hdk
  have hb1n : b1 < n := by omega
  obtain ⟨j, hj⟩ : ∃ j, j = b1 := ⟨_, rfl⟩
  rw [← hj] at HE0 e1 hb1n
  have hjn : j < n := hb1n
  clear hs hd hb1 hp hy hdk hj HP0 hb1n
  go_enter Tryz.func141, Tryz.ntmps141
  by_cases haq' : a = q
  · subst haq'
    obtain rfl : p = y := HP.out.trans HY.out.symm
    clear ca fa
    go_wp2
    go_region
    go_wp2
    have HU1 : Hid (UTo w ((w.setCell ⟨g, a, none⟩ (.int .u64 p)).setCell ⟨g, a, none⟩ (.int .u64 p)).drew g dk) := by rw [HDK.out]; exact (HU.out.swap0 HS.out han hqn HP.out HY.out).drew
    clear cq fq
    generalize ((w.setCell ⟨g, a, none⟩ (.int .u64 p)).setCell ⟨g, a, none⟩ (.int .u64 p)).drew = W1 at *
    go_loopw [10] (fun vi W => ∃ (i : Nat), vi = .int .i64 (i : Int) ∧ PLt a b i j p d dk ∧ UTo w W g dk) (fun vi _ => j + 1 - (intOf vi).toNat)
    case atStart => exact ⟨(a + 1), (by go_num), HE0.out, HU1.out⟩
    case round =>
      obtain ⟨i, rfl, hE, hV⟩ := hrel
      have HE := Lib.hid hE
      have HV := Lib.hid hV
      have hij1 := hE.ij
      have ca : wr.cell? ⟨g, a, none⟩ = some (.int .u64 p) := by have := (hV.at_ a (by rw [HSK.out]; exact han)).1; rw [hE.piv] at this; exact this
      clear hE hV
      by_cases hij : i ≤ j
      · have d1 : decide ((i : Int) ≤ (j : Int)) = true := by simpa using hij
        have d1n : decide (i ≤ j) = true := by simpa using hij
        have hin : i < n := by omega
        obtain ⟨x, hx, cx, fx⟩ := HV.out.read HSK.out hin
        have HX := Lib.hid hx
        clear hx
        cases hl : ltInt x p
        · have HL := Lib.hid hl
          have HIA : Hid (i ≤ j → ltInt dk[i]! p = false) := fun _ => by rw [← HX.out]; exact hl
          clear hl
          go_wp2
          go_quiet ((go_at_call 139; exact Calls.quiet_of_same (less_b HL.out _)))
          have HV2 := Lib.hid (HV.out.drewN nq)
          clear ca cx fx d1 d1n
          generalize wr.drewN nq = W2 at *
          go_wp2
          go_loopw [11] (fun vj W => ∃ (j2 : Nat), vj = .int .i64 (j2 : Int) ∧ j2 ≤ j ∧ PLt a b i j2 p d dk ∧ UTo w W g dk) (fun vj _ => (intOf vj).toNat)
          case atStart => exact ⟨j, rfl, Nat.le_refl _, HE.out, HV2.out⟩
          case round =>
            obtain ⟨j2, rfl, hjj, hE3, hV3⟩ := hrel
            have HE3 := Lib.hid hE3
            have HV3 := Lib.hid hV3
            have hij3 := hE3.ij
            have hai3 := hE3.ai
            have ca : wr.cell? ⟨g, a, none⟩ = some (.int .u64 p) := by have := (hV3.at_ a (by rw [HSK.out]; exact han)).1; rw [hE3.piv] at this; exact this
            have fa : wr.frozen? ⟨g, a, none⟩ = false := (hV3.at_ a (by rw [HSK.out]; exact han)).2
            have HPV := Lib.hid hE3.piv
            clear hE3 hV3
            by_cases hij2 : i ≤ j2
            · have d2 : decide ((i : Int) ≤ (j2 : Int)) = true := by simpa using hij2
              have d2n : decide (i ≤ j2) = true := by simpa using hij2
              have hj2n : j2 < n := by omega
              obtain ⟨j3, hj3⟩ : ∃ j3, j2 = j3 + 1 := ⟨j2 - 1, by omega⟩
              have ej3 : (j2 : Int) - 1 = (j3 : Int) := by omega
              obtain ⟨z, hz, cz, fz⟩ := HV3.out.read HSK.out hj2n
              have HZ := Lib.hid hz
              have HJ3 := Lib.hid hj3
              clear hz hj3
              cases hl : ltInt z p
              · have HL3 := Lib.hid hl
                have HE4 : Hid (PLt a b i j3 p d dk) := by
                  have h1 := HE3.out
                  have h2 := HZ.out
                  rw [HJ3.out] at h1 h2
                  exact h1.down (by have := HJ3.out; omega) (by rw [← h2]; exact hl)
                clear hl
                go_wp2
                go_quiet ((go_at_call 139; exact Calls.quiet_of_same (less_b HL3.out _)))
                go_wp2
                go_roundw
                case rel => exact ⟨j3, rfl, by have := HJ3.out; omega, HE4.out, HV3.out.drewN _⟩
                case measure => have := HJ3.out; simp [intOf]; omega
              · have HL3 := Lib.hid hl
                have hin : i < n := by omega
                obtain ⟨x3, hx3, cx3, fx3⟩ := HV3.out.read HSK.out hin
                have HX3 := Lib.hid hx3
                have HE4 : Hid (PLt a b (i + 1) j3 p d (swp dk i j2)) := by
                  have h1 := HE3.out
                  have h2 := HZ.out
                  have h3 := HIA.out (by omega)
                  rw [HJ3.out] at h1 h2 ⊢
                  exact h1.swap (by have := HJ3.out; omega) h3 (by rw [← h2]; exact hl)
                have d3 : decide ((j2 : Int) < (i : Int)) = false := by simp; omega
                have d3n : decide (j2 < i) = false := by simp; omega
                have hne : i ≠ j2 := fun e => by have h4 := HIA.out (by omega); rw [e, ← HZ.out, hl] at h4; cases h4
                clear hl hx3
                go_wp2
                go_quiet ((go_at_call 139; exact Calls.quiet_of_same (less_b HL3.out _)))
                go_wp2
                go_region
                have HV5 := Lib.hid (HV3.out.swap HSK.out hin hj2n HZ.out HX3.out (nq + 1))
                have HSK5 : Hid ((swp dk i j2).size = n) := (by rw [size_swp]; exact HSK.out : (swp dk i j2).size = n)
                clear cz fz cx3 fx3 ca fa
                generalize ((wr.drewN (nq + 1)).setCell ⟨g, i, none⟩ (.int .u64 z)).setCell ⟨g, j2, none⟩ (.int .u64 x3) = W5 at *
                go_wp2
                go_loopw [10, 11] (fun vi vj W => ∃ (i j : Nat) (dk : Array Int), vi = .int .i64 (i : Int) ∧ vj = .int .i64 (j : Int) ∧ PLt a b i j p d dk ∧ UTo w W g dk) (fun _ vj _ => (intOf vj).toNat)
                case atStart => exact ⟨i + 1, j3, _, by go_num, rfl, HE4.out, HV5.out⟩
                case round =>
                  obtain ⟨i, j, dk, rfl, rfl, hE, hV⟩ := hrel
                  have HE6 := Lib.hid hE
                  have HV6 := Lib.hid hV
                  have HSK : Hid (dk.size = n) := (hE.size.trans HS.out : dk.size = n)
                  have hjn : j < n := by have := hE.jb; omega
                  clear hE hV
                  go_wp2
                  go_loopw [10] (fun vi W => ∃ (i : Nat), vi = .int .i64 (i : Int) ∧ PLt a b i j p d dk ∧ UTo w W g dk) (fun vi _ => j + 1 - (intOf vi).toNat)
                  case atStart => exact ⟨i, rfl, HE6.out, HV6.out⟩
                  case round =>
                    obtain ⟨i, rfl, hE, hV⟩ := hrel
                    have HE := Lib.hid hE
                    have HV := Lib.hid hV
                    have hij1 := hE.ij
                    have ca : wr.cell? ⟨g, a, none⟩ = some (.int .u64 p) := by have := (hV.at_ a (by rw [HSK.out]; exact han)).1; rw [hE.piv] at this; exact this
                    clear hE hV
                    by_cases hij : i ≤ j
                    · have d1 : decide ((i : Int) ≤ (j : Int)) = true := by simpa using hij
                      have d1n : decide (i ≤ j) = true := by simpa using hij
                      have hin : i < n := by omega
                      obtain ⟨x, hx, cx, fx⟩ := HV.out.read HSK.out hin
                      have HX := Lib.hid hx
                      clear hx
                      cases hl : ltInt x p
                      · have HL := Lib.hid hl
                        have HIA : Hid (i ≤ j → ltInt dk[i]! p = false) := fun _ => by rw [← HX.out]; exact hl
                        clear hl
                        go_wp2
                        go_quiet ((go_at_call 139; exact Calls.quiet_of_same (less_b HL.out _)))
                        have HV2 := Lib.hid (HV.out.drewN nq)
                        clear ca cx fx d1 d1n
                        generalize wr.drewN nq = W2 at *
                        go_wp2
                        go_loopw [11] (fun vj W => ∃ (j2 : Nat), vj = .int .i64 (j2 : Int) ∧ j2 ≤ j ∧ PLt a b i j2 p d dk ∧ UTo w W g dk) (fun vj _ => (intOf vj).toNat)
                        case atStart => exact ⟨j, rfl, Nat.le_refl _, HE.out, HV2.out⟩
                        case round =>
                          obtain ⟨j2, rfl, hjj, hE3, hV3⟩ := hrel
                          have HE3 := Lib.hid hE3
                          have HV3 := Lib.hid hV3
                          have hij3 := hE3.ij
                          have hai3 := hE3.ai
                          have ca : wr.cell? ⟨g, a, none⟩ = some (.int .u64 p) := by have := (hV3.at_ a (by rw [HSK.out]; exact han)).1; rw [hE3.piv] at this; exact this
                          have fa : wr.frozen? ⟨g, a, none⟩ = false := (hV3.at_ a (by rw [HSK.out]; exact han)).2
                          have HPV := Lib.hid hE3.piv
                          clear hE3 hV3
                          by_cases hij2 : i ≤ j2
                          · have d2 : decide ((i : Int) ≤ (j2 : Int)) = true := by simpa using hij2
                            have d2n : decide (i ≤ j2) = true := by simpa using hij2
                            have hj2n : j2 < n := by omega
                            obtain ⟨j3, hj3⟩ : ∃ j3, j2 = j3 + 1 := ⟨j2 - 1, by omega⟩
                            have ej3 : (j2 : Int) - 1 = (j3 : Int) := by omega
                            obtain ⟨z, hz, cz, fz⟩ := HV3.out.read HSK.out hj2n
                            have HZ := Lib.hid hz
                            have HJ3 := Lib.hid hj3
                            clear hz hj3
                            cases hl : ltInt z p
                            · have HL3 := Lib.hid hl
                              have HE4 : Hid (PLt a b i j3 p d dk) := by
                                have h1 := HE3.out
                                have h2 := HZ.out
                                rw [HJ3.out] at h1 h2
                                exact h1.down (by have := HJ3.out; omega) (by rw [← h2]; exact hl)
                              clear hl
                              go_wp2
                              go_quiet ((go_at_call 139; exact Calls.quiet_of_same (less_b HL3.out _)))
                              go_wp2
                              go_roundw
                              case rel => exact ⟨j3, rfl, by have := HJ3.out; omega, HE4.out, HV3.out.drewN _⟩
                              case measure => have := HJ3.out; simp [intOf]; omega
                            · have HL3 := Lib.hid hl
                              have hin : i < n := by omega
                              obtain ⟨x3, hx3, cx3, fx3⟩ := HV3.out.read HSK.out hin
                              have HX3 := Lib.hid hx3
                              have HE4 : Hid (PLt a b (i + 1) j3 p d (swp dk i j2)) := by
                                have h1 := HE3.out
                                have h2 := HZ.out
                                have h3 := HIA.out (by omega)
                                rw [HJ3.out] at h1 h2 ⊢
                                exact h1.swap (by have := HJ3.out; omega) h3 (by rw [← h2]; exact hl)
                              have d3 : decide ((j2 : Int) < (i : Int)) = false := by simp; omega
                              have d3n : decide (j2 < i) = false := by simp; omega
                              have hne : i ≠ j2 := fun e => by have h4 := HIA.out (by omega); rw [e, ← HZ.out, hl] at h4; cases h4
                              clear hl hx3
                              go_wp2
                              go_quiet ((go_at_call 139; exact Calls.quiet_of_same (less_b HL3.out _)))
                              go_wp2
                              go_region
                              have HV5 := Lib.hid (HV3.out.swap HSK.out hin hj2n HZ.out HX3.out (nq + 1))
                              have HSK5 : Hid ((swp dk i j2).size = n) := (by rw [size_swp]; exact HSK.out : (swp dk i j2).size = n)
                              go_wp2
                              go_roundw
                              case rel => exact ⟨i + 1, j3, _, by go_num, rfl, HE4.out, HV5.out⟩
                              case measure => have := HJ3.out; simp [intOf]; omega
                          · have d2 : decide ((i : Int) ≤ (j2 : Int)) = false := by simp; omega
                            have d2n : decide (i ≤ j2) = false := by simp; omega
                            have d3 : decide ((j2 : Int) < (i : Int)) = true := by simp; omega
                            have d3n : decide (j2 < i) = true := by simp; omega
                            have HL : Hid (ltInt 0 0 = false) := rfl
                            have hj2n : j2 < n := by omega
                            obtain ⟨z, hz, cz, fz⟩ := HV3.out.read HSK.out hj2n
                            have HZ := Lib.hid hz
                            have HRS := Lib.hid (HE3.out.res (by omega))
                            by_cases hja : j2 = a
                            · subst hja
                              obtain rfl : z = p := hz.trans HPV.out
                              clear hz ca fa
                              go_wp2
                              go_quiet ((go_at_call 139; exact Calls.quiet_of_same (less_b HL.out _)))
                              go_wp2
                              go_region
                              all_goals
                                go_wp2
                                go_ret2
                                exact ⟨j2, _, _, rfl, HRS.out, HV3.out.swap HSK.out hj2n hj2n HZ.out HZ.out _⟩
                            · clear hz
                              go_wp2
                              go_quiet ((go_at_call 139; exact Calls.quiet_of_same (less_b HL.out _)))
                              go_wp2
                              go_region
                              all_goals
                                go_wp2
                                go_ret2
                                exact ⟨j2, _, _, rfl, HRS.out, HV3.out.swap HSK.out hj2n han HPV.out.symm HZ.out _⟩
                      · have HL := Lib.hid hl
                        have HE2 := Lib.hid (HE.out.up hij (by rw [← HX.out]; exact hl))
                        clear hl
                        go_wp2
                        go_quiet ((go_at_call 139; exact Calls.quiet_of_same (less_b HL.out _)))
                        go_wp2
                        go_roundw
                        case rel => exact ⟨i + 1, by go_num, HE2.out, HV.out.drewN _⟩
                        case measure => simp [intOf]; omega
                    · have d1 : decide ((i : Int) ≤ (j : Int)) = false := by simp; omega
                      have d1n : decide (i ≤ j) = false := by simp; omega
                      have HIA : Hid (i ≤ j → ltInt dk[i]! p = false) := fun h => absurd h hij
                      have HL : Hid (ltInt 0 0 = false) := rfl
                      go_wp2
                      go_quiet ((go_at_call 139; exact Calls.quiet_of_same (less_b HL.out _)))
                      have HV2 := Lib.hid (HV.out.drewN nq)
                      clear ca d1 d1n hij HL
                      generalize wr.drewN nq = W2 at *
                      go_wp2
                      go_loopw [11] (fun vj W => ∃ (j2 : Nat), vj = .int .i64 (j2 : Int) ∧ j2 ≤ j ∧ PLt a b i j2 p d dk ∧ UTo w W g dk) (fun vj _ => (intOf vj).toNat)
                      case atStart => exact ⟨j, rfl, Nat.le_refl _, HE.out, HV2.out⟩
                      case round =>
                        obtain ⟨j2, rfl, hjj, hE3, hV3⟩ := hrel
                        have HE3 := Lib.hid hE3
                        have HV3 := Lib.hid hV3
                        have hij3 := hE3.ij
                        have hai3 := hE3.ai
                        have ca : wr.cell? ⟨g, a, none⟩ = some (.int .u64 p) := by have := (hV3.at_ a (by rw [HSK.out]; exact han)).1; rw [hE3.piv] at this; exact this
                        have fa : wr.frozen? ⟨g, a, none⟩ = false := (hV3.at_ a (by rw [HSK.out]; exact han)).2
                        have HPV := Lib.hid hE3.piv
                        clear hE3 hV3
                        by_cases hij2 : i ≤ j2
                        · have d2 : decide ((i : Int) ≤ (j2 : Int)) = true := by simpa using hij2
                          have d2n : decide (i ≤ j2) = true := by simpa using hij2
                          have hj2n : j2 < n := by omega
                          obtain ⟨j3, hj3⟩ : ∃ j3, j2 = j3 + 1 := ⟨j2 - 1, by omega⟩
                          have ej3 : (j2 : Int) - 1 = (j3 : Int) := by omega
                          obtain ⟨z, hz, cz, fz⟩ := HV3.out.read HSK.out hj2n
                          have HZ := Lib.hid hz
                          have HJ3 := Lib.hid hj3
                          clear hz hj3
                          cases hl : ltInt z p
                          · have HL3 := Lib.hid hl
                            have HE4 : Hid (PLt a b i j3 p d dk) := by
                              have h1 := HE3.out
                              have h2 := HZ.out
                              rw [HJ3.out] at h1 h2
                              exact h1.down (by have := HJ3.out; omega) (by rw [← h2]; exact hl)
                            clear hl
                            go_wp2
                            go_quiet ((go_at_call 139; exact Calls.quiet_of_same (less_b HL3.out _)))
                            go_wp2
                            go_roundw
                            case rel => exact ⟨j3, rfl, by have := HJ3.out; omega, HE4.out, HV3.out.drewN _⟩
                            case measure => have := HJ3.out; simp [intOf]; omega
                          · have HL3 := Lib.hid hl
                            have hin : i < n := by omega
                            obtain ⟨x3, hx3, cx3, fx3⟩ := HV3.out.read HSK.out hin
                            have HX3 := Lib.hid hx3
                            have HE4 : Hid (PLt a b (i + 1) j3 p d (swp dk i j2)) := by
                              have h1 := HE3.out
                              have h2 := HZ.out
                              have h3 := HIA.out (by omega)
                              rw [HJ3.out] at h1 h2 ⊢
                              exact h1.swap (by have := HJ3.out; omega) h3 (by rw [← h2]; exact hl)
                            have d3 : decide ((j2 : Int) < (i : Int)) = false := by simp; omega
                            have d3n : decide (j2 < i) = false := by simp; omega
                            have hne : i ≠ j2 := fun e => by have h4 := HIA.out (by omega); rw [e, ← HZ.out, hl] at h4; cases h4
                            clear hl hx3
                            go_wp2
                            go_quiet ((go_at_call 139; exact Calls.quiet_of_same (less_b HL3.out _)))
                            go_wp2
                            go_region
                            have HV5 := Lib.hid (HV3.out.swap HSK.out hin hj2n HZ.out HX3.out (nq + 1))
                            have HSK5 : Hid ((swp dk i j2).size = n) := (by rw [size_swp]; exact HSK.out : (swp dk i j2).size = n)
                            go_wp2
                            go_roundw
                            case rel => exact ⟨i + 1, j3, _, by go_num, rfl, HE4.out, HV5.out⟩
                            case measure => have := HJ3.out; simp [intOf]; omega
                        · have d2 : decide ((i : Int) ≤ (j2 : Int)) = false := by simp; omega
                          have d2n : decide (i ≤ j2) = false := by simp; omega
                          have d3 : decide ((j2 : Int) < (i : Int)) = true := by simp; omega
                          have d3n : decide (j2 < i) = true := by simp; omega
                          have HL : Hid (ltInt 0 0 = false) := rfl
                          have hj2n : j2 < n := by omega
                          obtain ⟨z, hz, cz, fz⟩ := HV3.out.read HSK.out hj2n
                          have HZ := Lib.hid hz
                          have HRS := Lib.hid (HE3.out.res (by omega))
                          by_cases hja : j2 = a
                          · subst hja
                            obtain rfl : z = p := hz.trans HPV.out
                            clear hz ca fa
                            go_wp2
                            go_quiet ((go_at_call 139; exact Calls.quiet_of_same (less_b HL.out _)))
                            go_wp2
                            go_region
                            all_goals
                              go_wp2
                              go_ret2
                              exact ⟨j2, _, _, rfl, HRS.out, HV3.out.swap HSK.out hj2n hj2n HZ.out HZ.out _⟩
                          · clear hz
                            go_wp2
                            go_quiet ((go_at_call 139; exact Calls.quiet_of_same (less_b HL.out _)))
                            go_wp2
                            go_region
                            all_goals
                              go_wp2
                              go_ret2
                              exact ⟨j2, _, _, rfl, HRS.out, HV3.out.swap HSK.out hj2n han HPV.out.symm HZ.out _⟩
            · have d2 : decide ((i : Int) ≤ (j2 : Int)) = false := by simp; omega
              have d2n : decide (i ≤ j2) = false := by simp; omega
              have d3 : decide ((j2 : Int) < (i : Int)) = true := by simp; omega
              have d3n : decide (j2 < i) = true := by simp; omega
              have HL : Hid (ltInt 0 0 = false) := rfl
              have hj2n : j2 < n := by omega
              obtain ⟨z, hz, cz, fz⟩ := HV3.out.read HSK.out hj2n
              have HZ := Lib.hid hz
              have HRS := Lib.hid (HE3.out.res (by omega))
              by_cases hja : j2 = a
              · subst hja
                obtain rfl : z = p := hz.trans HPV.out
                clear hz ca fa
                go_wp2
                go_quiet ((go_at_call 139; exact Calls.quiet_of_same (less_b HL.out _)))
                go_wp2
                go_region
                all_goals
                  go_wp2
                  go_ret2
                  exact ⟨j2, _, _, rfl, HRS.out, HV3.out.swap HSK.out hj2n hj2n HZ.out HZ.out _⟩
              · clear hz
                go_wp2
                go_quiet ((go_at_call 139; exact Calls.quiet_of_same (less_b HL.out _)))
                go_wp2
                go_region
                all_goals
                  go_wp2
                  go_ret2
                  exact ⟨j2, _, _, rfl, HRS.out, HV3.out.swap HSK.out hj2n han HPV.out.symm HZ.out _⟩
        · have HL := Lib.hid hl
          have HE2 := Lib.hid (HE.out.up hij (by rw [← HX.out]; exact hl))
          clear hl
          go_wp2
          go_quiet ((go_at_call 139; exact Calls.quiet_of_same (less_b HL.out _)))
          go_wp2
          go_roundw
          case rel => exact ⟨i + 1, by go_num, HE2.out, HV.out.drewN _⟩
          case measure => simp [intOf]; omega
      · have d1 : decide ((i : Int) ≤ (j : Int)) = false := by simp; omega
        have d1n : decide (i ≤ j) = false := by simp; omega
        have HIA : Hid (i ≤ j → ltInt dk[i]! p = false) := fun h => absurd h hij
        have HL : Hid (ltInt 0 0 = false) := rfl
        go_wp2
        go_quiet ((go_at_call 139; exact Calls.quiet_of_same (less_b HL.out _)))
        have HV2 := Lib.hid (HV.out.drewN nq)
        clear ca d1 d1n hij HL
        generalize wr.drewN nq = W2 at *
        go_wp2
        go_loopw [11] (fun vj W => ∃ (j2 : Nat), vj = .int .i64 (j2 : Int) ∧ j2 ≤ j ∧ PLt a b i j2 p d dk ∧ UTo w W g dk) (fun vj _ => (intOf vj).toNat)
        case atStart => exact ⟨j, rfl, Nat.le_refl _, HE.out, HV2.out⟩
        case round =>
          obtain ⟨j2, rfl, hjj, hE3, hV3⟩ := hrel
          have HE3 := Lib.hid hE3
          have HV3 := Lib.hid hV3
          have hij3 := hE3.ij
          have hai3 := hE3.ai
          have ca : wr.cell? ⟨g, a, none⟩ = some (.int .u64 p) := by have := (hV3.at_ a (by rw [HSK.out]; exact han)).1; rw [hE3.piv] at this; exact this
          have fa : wr.frozen? ⟨g, a, none⟩ = false := (hV3.at_ a (by rw [HSK.out]; exact han)).2
          have HPV := Lib.hid hE3.piv
          clear hE3 hV3
          by_cases hij2 : i ≤ j2
          · have d2 : decide ((i : Int) ≤ (j2 : Int)) = true := by simpa using hij2
            have d2n : decide (i ≤ j2) = true := by simpa using hij2
            have hj2n : j2 < n := by omega
            obtain ⟨j3, hj3⟩ : ∃ j3, j2 = j3 + 1 := ⟨j2 - 1, by omega⟩
            have ej3 : (j2 : Int) - 1 = (j3 : Int) := by omega
            obtain ⟨z, hz, cz, fz⟩ := HV3.out.read HSK.out hj2n
            have HZ := Lib.hid hz
            have HJ3 := Lib.hid hj3
            clear hz hj3
            cases hl : ltInt z p
            · have HL3 := Lib.hid hl
              have HE4 : Hid (PLt a b i j3 p d dk) := by
                have h1 := HE3.out
                have h2 := HZ.out
                rw [HJ3.out] at h1 h2
                exact h1.down (by have := HJ3.out; omega) (by rw [← h2]; exact hl)
              clear hl
              go_wp2
              go_quiet ((go_at_call 139; exact Calls.quiet_of_same (less_b HL3.out _)))
              go_wp2
              go_roundw
              case rel => exact ⟨j3, rfl, by have := HJ3.out; omega, HE4.out, HV3.out.drewN _⟩
              case measure => have := HJ3.out; simp [intOf]; omega
            · have HL3 := Lib.hid hl
              have hin : i < n := by omega
              obtain ⟨x3, hx3, cx3, fx3⟩ := HV3.out.read HSK.out hin
              have HX3 := Lib.hid hx3
              have HE4 : Hid (PLt a b (i + 1) j3 p d (swp dk i j2)) := by
                have h1 := HE3.out
                have h2 := HZ.out
                have h3 := HIA.out (by omega)
                rw [HJ3.out] at h1 h2 ⊢
                exact h1.swap (by have := HJ3.out; omega) h3 (by rw [← h2]; exact hl)
              have d3 : decide ((j2 : Int) < (i : Int)) = false := by simp; omega
              have d3n : decide (j2 < i) = false := by simp; omega
              have hne : i ≠ j2 := fun e => by have h4 := HIA.out (by omega); rw [e, ← HZ.out, hl] at h4; cases h4
              clear hl hx3
              go_wp2
              go_quiet ((go_at_call 139; exact Calls.quiet_of_same (less_b HL3.out _)))
              go_wp2
              go_region
              have HV5 := Lib.hid (HV3.out.swap HSK.out hin hj2n HZ.out HX3.out (nq + 1))
              have HSK5 : Hid ((swp dk i j2).size = n) := (by rw [size_swp]; exact HSK.out : (swp dk i j2).size = n)
              clear cz fz cx3 fx3 ca fa
              generalize ((wr.drewN (nq + 1)).setCell ⟨g, i, none⟩ (.int .u64 z)).setCell ⟨g, j2, none⟩ (.int .u64 x3) = W5 at *
              go_wp2
              go_loopw [10, 11] (fun vi vj W => ∃ (i j : Nat) (dk : Array Int), vi = .int .i64 (i : Int) ∧ vj = .int .i64 (j : Int) ∧ PLt a b i j p d dk ∧ UTo w W g dk) (fun _ vj _ => (intOf vj).toNat)
              case atStart => exact ⟨i + 1, j3, _, by go_num, rfl, HE4.out, HV5.out⟩
              case round =>
                obtain ⟨i, j, dk, rfl, rfl, hE, hV⟩ := hrel
                have HE6 := Lib.hid hE
                have HV6 := Lib.hid hV
                have HSK : Hid (dk.size = n) := (hE.size.trans HS.out : dk.size = n)
                have hjn : j < n := by have := hE.jb; omega
                clear hE hV
                go_wp2
                go_loopw [10] (fun vi W => ∃ (i : Nat), vi = .int .i64 (i : Int) ∧ PLt a b i j p d dk ∧ UTo w W g dk) (fun vi _ => j + 1 - (intOf vi).toNat)
                case atStart => exact ⟨i, rfl, HE6.out, HV6.out⟩
                case round =>
                  obtain ⟨i, rfl, hE, hV⟩ := hrel
                  have HE := Lib.hid hE
                  have HV := Lib.hid hV
                  have hij1 := hE.ij
                  have ca : wr.cell? ⟨g, a, none⟩ = some (.int .u64 p) := by have := (hV.at_ a (by rw [HSK.out]; exact han)).1; rw [hE.piv] at this; exact this
                  clear hE hV
                  by_cases hij : i ≤ j
                  · have d1 : decide ((i : Int) ≤ (j : Int)) = true := by simpa using hij
                    have d1n : decide (i ≤ j) = true := by simpa using hij
                    have hin : i < n := by omega
                    obtain ⟨x, hx, cx, fx⟩ := HV.out.read HSK.out hin
                    have HX := Lib.hid hx
                    clear hx
                    cases hl : ltInt x p
                    · have HL := Lib.hid hl
                      have HIA : Hid (i ≤ j → ltInt dk[i]! p = false) := fun _ => by rw [← HX.out]; exact hl
                      clear hl
                      go_wp2
                      go_quiet ((go_at_call 139; exact Calls.quiet_of_same (less_b HL.out _)))
                      have HV2 := Lib.hid (HV.out.drewN nq)
                      clear ca cx fx d1 d1n
                      generalize wr.drewN nq = W2 at *
                      go_wp2
                      go_loopw [11] (fun vj W => ∃ (j2 : Nat), vj = .int .i64 (j2 : Int) ∧ j2 ≤ j ∧ PLt a b i j2 p d dk ∧ UTo w W g dk) (fun vj _ => (intOf vj).toNat)
                      case atStart => exact ⟨j, rfl, Nat.le_refl _, HE.out, HV2.out⟩
                      case round =>
                        obtain ⟨j2, rfl, hjj, hE3, hV3⟩ := hrel
                        have HE3 := Lib.hid hE3
                        have HV3 := Lib.hid hV3
                        have hij3 := hE3.ij
                        have hai3 := hE3.ai
                        have ca : wr.cell? ⟨g, a, none⟩ = some (.int .u64 p) := by have := (hV3.at_ a (by rw [HSK.out]; exact han)).1; rw [hE3.piv] at this; exact this
                        have fa : wr.frozen? ⟨g, a, none⟩ = false := (hV3.at_ a (by rw [HSK.out]; exact han)).2
                        have HPV := Lib.hid hE3.piv
                        clear hE3 hV3
                        by_cases hij2 : i ≤ j2
                        · have d2 : decide ((i : Int) ≤ (j2 : Int)) = true := by simpa using hij2
                          have d2n : decide (i ≤ j2) = true := by simpa using hij2
                          have hj2n : j2 < n := by omega
                          obtain ⟨j3, hj3⟩ : ∃ j3, j2 = j3 + 1 := ⟨j2 - 1, by omega⟩
                          have ej3 : (j2 : Int) - 1 = (j3 : Int) := by omega
                          obtain ⟨z, hz, cz, fz⟩ := HV3.out.read HSK.out hj2n
                          have HZ := Lib.hid hz
                          have HJ3 := Lib.hid hj3
                          clear hz hj3
                          cases hl : ltInt z p
                          · have HL3 := Lib.hid hl
                            have HE4 : Hid (PLt a b i j3 p d dk) := by
                              have h1 := HE3.out
                              have h2 := HZ.out
                              rw [HJ3.out] at h1 h2
                              exact h1.down (by have := HJ3.out; omega) (by rw [← h2]; exact hl)
                            clear hl
                            go_wp2
                            go_quiet ((go_at_call 139; exact Calls.quiet_of_same (less_b HL3.out _)))
                            go_wp2
                            go_roundw
                            case rel => exact ⟨j3, rfl, by have := HJ3.out; omega, HE4.out, HV3.out.drewN _⟩
                            case measure => have := HJ3.out; simp [intOf]; omega
                          · have HL3 := Lib.hid hl
                            have hin : i < n := by omega
                            obtain ⟨x3, hx3, cx3, fx3⟩ := HV3.out.read HSK.out hin
                            have HX3 := Lib.hid hx3
                            have HE4 : Hid (PLt a b (i + 1) j3 p d (swp dk i j2)) := by
                              have h1 := HE3.out
                              have h2 := HZ.out
                              have h3 := HIA.out (by omega)
                              rw [HJ3.out] at h1 h2 ⊢
                              exact h1.swap (by have := HJ3.out; omega) h3 (by rw [← h2]; exact hl)
                            have d3 : decide ((j2 : Int) < (i : Int)) = false := by simp; omega
                            have d3n : decide (j2 < i) = false := by simp; omega
                            have hne : i ≠ j2 := fun e => by have h4 := HIA.out (by omega); rw [e, ← HZ.out, hl] at h4; cases h4
                            clear hl hx3
                            go_wp2
                            go_quiet ((go_at_call 139; exact Calls.quiet_of_same (less_b HL3.out _)))
                            go_wp2
                            go_region
                            have HV5 := Lib.hid (HV3.out.swap HSK.out hin hj2n HZ.out HX3.out (nq + 1))
                            have HSK5 : Hid ((swp dk i j2).size = n) := (by rw [size_swp]; exact HSK.out : (swp dk i j2).size = n)
                            go_wp2
                            go_roundw
                            case rel => exact ⟨i + 1, j3, _, by go_num, rfl, HE4.out, HV5.out⟩
                            case measure => have := HJ3.out; simp [intOf]; omega
                        · have d2 : decide ((i : Int) ≤ (j2 : Int)) = false := by simp; omega
                          have d2n : decide (i ≤ j2) = false := by simp; omega
                          have d3 : decide ((j2 : Int) < (i : Int)) = true := by simp; omega
                          have d3n : decide (j2 < i) = true := by simp; omega
                          have HL : Hid (ltInt 0 0 = false) := rfl
                          have hj2n : j2 < n := by omega
                          obtain ⟨z, hz, cz, fz⟩ := HV3.out.read HSK.out hj2n
                          have HZ := Lib.hid hz
                          have HRS := Lib.hid (HE3.out.res (by omega))
                          by_cases hja : j2 = a
                          · subst hja
                            obtain rfl : z = p := hz.trans HPV.out
                            clear hz ca fa
                            go_wp2
                            go_quiet ((go_at_call 139; exact Calls.quiet_of_same (less_b HL.out _)))
                            go_wp2
                            go_region
                            all_goals
                              go_wp2
                              go_ret2
                              exact ⟨j2, _, _, rfl, HRS.out, HV3.out.swap HSK.out hj2n hj2n HZ.out HZ.out _⟩
                          · clear hz
                            go_wp2
                            go_quiet ((go_at_call 139; exact Calls.quiet_of_same (less_b HL.out _)))
                            go_wp2
                            go_region
                            all_goals
                              go_wp2
                              go_ret2
                              exact ⟨j2, _, _, rfl, HRS.out, HV3.out.swap HSK.out hj2n han HPV.out.symm HZ.out _⟩
                    · have HL := Lib.hid hl
                      have HE2 := Lib.hid (HE.out.up hij (by rw [← HX.out]; exact hl))
                      clear hl
                      go_wp2
                      go_quiet ((go_at_call 139; exact Calls.quiet_of_same (less_b HL.out _)))
                      go_wp2
                      go_roundw
                      case rel => exact ⟨i + 1, by go_num, HE2.out, HV.out.drewN _⟩
                      case measure => simp [intOf]; omega
                  · have d1 : decide ((i : Int) ≤ (j : Int)) = false := by simp; omega
                    have d1n : decide (i ≤ j) = false := by simp; omega
                    have HIA : Hid (i ≤ j → ltInt dk[i]! p = false) := fun h => absurd h hij
                    have HL : Hid (ltInt 0 0 = false) := rfl
                    go_wp2
                    go_quiet ((go_at_call 139; exact Calls.quiet_of_same (less_b HL.out _)))
                    have HV2 := Lib.hid (HV.out.drewN nq)
                    clear ca d1 d1n hij HL
                    generalize wr.drewN nq = W2 at *
                    go_wp2
                    go_loopw [11] (fun vj W => ∃ (j2 : Nat), vj = .int .i64 (j2 : Int) ∧ j2 ≤ j ∧ PLt a b i j2 p d dk ∧ UTo w W g dk) (fun vj _ => (intOf vj).toNat)
                    case atStart => exact ⟨j, rfl, Nat.le_refl _, HE.out, HV2.out⟩
                    case round =>
                      obtain ⟨j2, rfl, hjj, hE3, hV3⟩ := hrel
                      have HE3 := Lib.hid hE3
                      have HV3 := Lib.hid hV3
                      have hij3 := hE3.ij
                      have hai3 := hE3.ai
                      have ca : wr.cell? ⟨g, a, none⟩ = some (.int .u64 p) := by have := (hV3.at_ a (by rw [HSK.out]; exact han)).1; rw [hE3.piv] at this; exact this
                      have fa : wr.frozen? ⟨g, a, none⟩ = false := (hV3.at_ a (by rw [HSK.out]; exact han)).2
                      have HPV := Lib.hid hE3.piv
                      clear hE3 hV3
                      by_cases hij2 : i ≤ j2
                      · have d2 : decide ((i : Int) ≤ (j2 : Int)) = true := by simpa using hij2
                        have d2n : decide (i ≤ j2) = true := by simpa using hij2
                        have hj2n : j2 < n := by omega
                        obtain ⟨j3, hj3⟩ : ∃ j3, j2 = j3 + 1 := ⟨j2 - 1, by omega⟩
                        have ej3 : (j2 : Int) - 1 = (j3 : Int) := by omega
                        obtain ⟨z, hz, cz, fz⟩ := HV3.out.read HSK.out hj2n
                        have HZ := Lib.hid hz
                        have HJ3 := Lib.hid hj3
                        clear hz hj3
                        cases hl : ltInt z p
                        · have HL3 := Lib.hid hl
                          have HE4 : Hid (PLt a b i j3 p d dk) := by
                            have h1 := HE3.out
                            have h2 := HZ.out
                            rw [HJ3.out] at h1 h2
                            exact h1.down (by have := HJ3.out; omega) (by rw [← h2]; exact hl)
                          clear hl
                          go_wp2
                          go_quiet ((go_at_call 139; exact Calls.quiet_of_same (less_b HL3.out _)))
                          go_wp2
                          go_roundw
                          case rel => exact ⟨j3, rfl, by have := HJ3.out; omega, HE4.out, HV3.out.drewN _⟩
                          case measure => have := HJ3.out; simp [intOf]; omega
                        · have HL3 := Lib.hid hl
                          have hin : i < n := by omega
                          obtain ⟨x3, hx3, cx3, fx3⟩ := HV3.out.read HSK.out hin
                          have HX3 := Lib.hid hx3
                          have HE4 : Hid (PLt a b (i + 1) j3 p d (swp dk i j2)) := by
                            have h1 := HE3.out
                            have h2 := HZ.out
                            have h3 := HIA.out (by omega)
                            rw [HJ3.out] at h1 h2 ⊢
                            exact h1.swap (by have := HJ3.out; omega) h3 (by rw [← h2]; exact hl)
                          have d3 : decide ((j2 : Int) < (i : Int)) = false := by simp; omega
                          have d3n : decide (j2 < i) = false := by simp; omega
                          have hne : i ≠ j2 := fun e => by have h4 := HIA.out (by omega); rw [e, ← HZ.out, hl] at h4; cases h4
                          clear hl hx3
                          go_wp2
                          go_quiet ((go_at_call 139; exact Calls.quiet_of_same (less_b HL3.out _)))
                          go_wp2
                          go_region
                          have HV5 := Lib.hid (HV3.out.swap HSK.out hin hj2n HZ.out HX3.out (nq + 1))
                          have HSK5 : Hid ((swp dk i j2).size = n) := (by rw [size_swp]; exact HSK.out : (swp dk i j2).size = n)
                          go_wp2
                          go_roundw
                          case rel => exact ⟨i + 1, j3, _, by go_num, rfl, HE4.out, HV5.out⟩
                          case measure => have := HJ3.out; simp [intOf]; omega
                      · have d2 : decide ((i : Int) ≤ (j2 : Int)) = false := by simp; omega
                        have d2n : decide (i ≤ j2) = false := by simp; omega
                        have d3 : decide ((j2 : Int) < (i : Int)) = true := by simp; omega
                        have d3n : decide (j2 < i) = true := by simp; omega
                        have HL : Hid (ltInt 0 0 = false) := rfl
                        have hj2n : j2 < n := by omega
                        obtain ⟨z, hz, cz, fz⟩ := HV3.out.read HSK.out hj2n
                        have HZ := Lib.hid hz
                        have HRS := Lib.hid (HE3.out.res (by omega))
                        by_cases hja : j2 = a
                        · subst hja
                          obtain rfl : z = p := hz.trans HPV.out
                          clear hz ca fa
                          go_wp2
                          go_quiet ((go_at_call 139; exact Calls.quiet_of_same (less_b HL.out _)))
                          go_wp2
                          go_region
                          all_goals
                            go_wp2
                            go_ret2
                            exact ⟨j2, _, _, rfl, HRS.out, HV3.out.swap HSK.out hj2n hj2n HZ.out HZ.out _⟩
                        · clear hz
                          go_wp2
                          go_quiet ((go_at_call 139; exact Calls.quiet_of_same (less_b HL.out _)))
                          go_wp2
                          go_region
                          all_goals
                            go_wp2
                            go_ret2
                            exact ⟨j2, _, _, rfl, HRS.out, HV3.out.swap HSK.out hj2n han HPV.out.symm HZ.out _⟩
          · have d2 : decide ((i : Int) ≤ (j2 : Int)) = false := by simp; omega
            have d2n : decide (i ≤ j2) = false := by simp; omega
            have d3 : decide ((j2 : Int) < (i : Int)) = true := by simp; omega
            have d3n : decide (j2 < i) = true := by simp; omega
            have HL : Hid (ltInt 0 0 = false) := rfl
            have hj2n : j2 < n := by omega
            obtain ⟨z, hz, cz, fz⟩ := HV3.out.read HSK.out hj2n
            have HZ := Lib.hid hz
            have HRS := Lib.hid (HE3.out.res (by omega))
            by_cases hja : j2 = a
            · subst hja
              obtain rfl : z = p := hz.trans HPV.out
              clear hz ca fa
              go_wp2
              go_quiet ((go_at_call 139; exact Calls.quiet_of_same (less_b HL.out _)))
              go_wp2
              go_region
              all_goals
                go_wp2
                go_ret2
                exact ⟨j2, _, _, rfl, HRS.out, HV3.out.swap HSK.out hj2n hj2n HZ.out HZ.out _⟩
            · clear hz
              go_wp2
              go_quiet ((go_at_call 139; exact Calls.quiet_of_same (less_b HL.out _)))
              go_wp2
              go_region
              all_goals
                go_wp2
                go_ret2
                exact ⟨j2, _, _, rfl, HRS.out, HV3.out.swap HSK.out hj2n han HPV.out.symm HZ.out _⟩
  · go_wp2
    go_region
    go_wp2
    have HU1 : Hid (UTo w ((w.setCell ⟨g, a, none⟩ (.int .u64 p)).setCell ⟨g, q, none⟩ (.int .u64 y)).drew g dk) := by rw [HDK.out]; exact (HU.out.swap0 HS.out han hqn HP.out HY.out).drew
    clear cq fq ca fa
    generalize ((w.setCell ⟨g, a, none⟩ (.int .u64 p)).setCell ⟨g, q, none⟩ (.int .u64 y)).drew = W1 at *
    go_loopw [10] (fun vi W => ∃ (i : Nat), vi = .int .i64 (i : Int) ∧ PLt a b i j p d dk ∧ UTo w W g dk) (fun vi _ => j + 1 - (intOf vi).toNat)
    case atStart => exact ⟨(a + 1), (by go_num), HE0.out, HU1.out⟩
    case round =>
      obtain ⟨i, rfl, hE, hV⟩ := hrel
      have HE := Lib.hid hE
      have HV := Lib.hid hV
      have hij1 := hE.ij
      have ca : wr.cell? ⟨g, a, none⟩ = some (.int .u64 p) := by have := (hV.at_ a (by rw [HSK.out]; exact han)).1; rw [hE.piv] at this; exact this
      clear hE hV
      by_cases hij : i ≤ j
      · have d1 : decide ((i : Int) ≤ (j : Int)) = true := by simpa using hij
        have d1n : decide (i ≤ j) = true := by simpa using hij
        have hin : i < n := by omega
        obtain ⟨x, hx, cx, fx⟩ := HV.out.read HSK.out hin
        have HX := Lib.hid hx
        clear hx
        cases hl : ltInt x p
        · have HL := Lib.hid hl
          have HIA : Hid (i ≤ j → ltInt dk[i]! p = false) := fun _ => by rw [← HX.out]; exact hl
          clear hl
          go_wp2
          go_quiet ((go_at_call 139; exact Calls.quiet_of_same (less_b HL.out _)))
          have HV2 := Lib.hid (HV.out.drewN nq)
          clear ca cx fx d1 d1n
          generalize wr.drewN nq = W2 at *
          go_wp2
          go_loopw [11] (fun vj W => ∃ (j2 : Nat), vj = .int .i64 (j2 : Int) ∧ j2 ≤ j ∧ PLt a b i j2 p d dk ∧ UTo w W g dk) (fun vj _ => (intOf vj).toNat)
          case atStart => exact ⟨j, rfl, Nat.le_refl _, HE.out, HV2.out⟩
          case round =>
            obtain ⟨j2, rfl, hjj, hE3, hV3⟩ := hrel
            have HE3 := Lib.hid hE3
            have HV3 := Lib.hid hV3
            have hij3 := hE3.ij
            have hai3 := hE3.ai
            have ca : wr.cell? ⟨g, a, none⟩ = some (.int .u64 p) := by have := (hV3.at_ a (by rw [HSK.out]; exact han)).1; rw [hE3.piv] at this; exact this
            have fa : wr.frozen? ⟨g, a, none⟩ = false := (hV3.at_ a (by rw [HSK.out]; exact han)).2
            have HPV := Lib.hid hE3.piv
            clear hE3 hV3
            by_cases hij2 : i ≤ j2
            · have d2 : decide ((i : Int) ≤ (j2 : Int)) = true := by simpa using hij2
              have d2n : decide (i ≤ j2) = true := by simpa using hij2
              have hj2n : j2 < n := by omega
              obtain ⟨j3, hj3⟩ : ∃ j3, j2 = j3 + 1 := ⟨j2 - 1, by omega⟩
              have ej3 : (j2 : Int) - 1 = (j3 : Int) := by omega
              obtain ⟨z, hz, cz, fz⟩ := HV3.out.read HSK.out hj2n
              have HZ := Lib.hid hz
              have HJ3 := Lib.hid hj3
              clear hz hj3
              cases hl : ltInt z p
              · have HL3 := Lib.hid hl
                have HE4 : Hid (PLt a b i j3 p d dk) := by
                  have h1 := HE3.out
                  have h2 := HZ.out
                  rw [HJ3.out] at h1 h2
                  exact h1.down (by have := HJ3.out; omega) (by rw [← h2]; exact hl)
                clear hl
                go_wp2
                go_quiet ((go_at_call 139; exact Calls.quiet_of_same (less_b HL3.out _)))
                go_wp2
                go_roundw
                case rel => exact ⟨j3, rfl, by have := HJ3.out; omega, HE4.out, HV3.out.drewN _⟩
                case measure => have := HJ3.out; simp [intOf]; omega
              · have HL3 := Lib.hid hl
                have hin : i < n := by omega
                obtain ⟨x3, hx3, cx3, fx3⟩ := HV3.out.read HSK.out hin
                have HX3 := Lib.hid hx3
                have HE4 : Hid (PLt a b (i + 1) j3 p d (swp dk i j2)) := by
                  have h1 := HE3.out
                  have h2 := HZ.out
                  have h3 := HIA.out (by omega)
                  rw [HJ3.out] at h1 h2 ⊢
                  exact h1.swap (by have := HJ3.out; omega) h3 (by rw [← h2]; exact hl)
                have d3 : decide ((j2 : Int) < (i : Int)) = false := by simp; omega
                have d3n : decide (j2 < i) = false := by simp; omega
                have hne : i ≠ j2 := fun e => by have h4 := HIA.out (by omega); rw [e, ← HZ.out, hl] at h4; cases h4
                clear hl hx3
                go_wp2
                go_quiet ((go_at_call 139; exact Calls.quiet_of_same (less_b HL3.out _)))
                go_wp2
                go_region
                have HV5 := Lib.hid (HV3.out.swap HSK.out hin hj2n HZ.out HX3.out (nq + 1))
                have HSK5 : Hid ((swp dk i j2).size = n) := (by rw [size_swp]; exact HSK.out : (swp dk i j2).size = n)
                clear cz fz cx3 fx3 ca fa
                generalize ((wr.drewN (nq + 1)).setCell ⟨g, i, none⟩ (.int .u64 z)).setCell ⟨g, j2, none⟩ (.int .u64 x3) = W5 at *
                go_wp2
                go_loopw [10, 11] (fun vi vj W => ∃ (i j : Nat) (dk : Array Int), vi = .int .i64 (i : Int) ∧ vj = .int .i64 (j : Int) ∧ PLt a b i j p d dk ∧ UTo w W g dk) (fun _ vj _ => (intOf vj).toNat)
                case atStart => exact ⟨i + 1, j3, _, by go_num, rfl, HE4.out, HV5.out⟩
                case round =>
                  obtain ⟨i, j, dk, rfl, rfl, hE, hV⟩ := hrel
                  have HE6 := Lib.hid hE
                  have HV6 := Lib.hid hV
                  have HSK : Hid (dk.size = n) := (hE.size.trans HS.out : dk.size = n)
                  have hjn : j < n := by have := hE.jb; omega
                  clear hE hV
                  go_wp2
                  go_loopw [10] (fun vi W => ∃ (i : Nat), vi = .int .i64 (i : Int) ∧ PLt a b i j p d dk ∧ UTo w W g dk) (fun vi _ => j + 1 - (intOf vi).toNat)
                  case atStart => exact ⟨i, rfl, HE6.out, HV6.out⟩
                  case round =>
                    obtain ⟨i, rfl, hE, hV⟩ := hrel
                    have HE := Lib.hid hE
                    have HV := Lib.hid hV
                    have hij1 := hE.ij
                    have ca : wr.cell? ⟨g, a, none⟩ = some (.int .u64 p) := by have := (hV.at_ a (by rw [HSK.out]; exact han)).1; rw [hE.piv] at this; exact this
                    clear hE hV
                    by_cases hij : i ≤ j
                    · have d1 : decide ((i : Int) ≤ (j : Int)) = true := by simpa using hij
                      have d1n : decide (i ≤ j) = true := by simpa using hij
                      have hin : i < n := by omega
                      obtain ⟨x, hx, cx, fx⟩ := HV.out.read HSK.out hin
                      have HX := Lib.hid hx
                      clear hx
                      cases hl : ltInt x p
                      · have HL := Lib.hid hl
                        have HIA : Hid (i ≤ j → ltInt dk[i]! p = false) := fun _ => by rw [← HX.out]; exact hl
                        clear hl
                        go_wp2
                        go_quiet ((go_at_call 139; exact Calls.quiet_of_same (less_b HL.out _)))
                        have HV2 := Lib.hid (HV.out.drewN nq)
                        clear ca cx fx d1 d1n
                        generalize wr.drewN nq = W2 at *
                        go_wp2
                        go_loopw [11] (fun vj W => ∃ (j2 : Nat), vj = .int .i64 (j2 : Int) ∧ j2 ≤ j ∧ PLt a b i j2 p d dk ∧ UTo w W g dk) (fun vj _ => (intOf vj).toNat)
                        case atStart => exact ⟨j, rfl, Nat.le_refl _, HE.out, HV2.out⟩
                        case round =>
                          obtain ⟨j2, rfl, hjj, hE3, hV3⟩ := hrel
                          have HE3 := Lib.hid hE3
                          have HV3 := Lib.hid hV3
                          have hij3 := hE3.ij
                          have hai3 := hE3.ai
                          have ca : wr.cell? ⟨g, a, none⟩ = some (.int .u64 p) := by have := (hV3.at_ a (by rw [HSK.out]; exact han)).1; rw [hE3.piv] at this; exact this
                          have fa : wr.frozen? ⟨g, a, none⟩ = false := (hV3.at_ a (by rw [HSK.out]; exact han)).2
                          have HPV := Lib.hid hE3.piv
                          clear hE3 hV3
                          by_cases hij2 : i ≤ j2
                          · have d2 : decide ((i : Int) ≤ (j2 : Int)) = true := by simpa using hij2
                            have d2n : decide (i ≤ j2) = true := by simpa using hij2
                            have hj2n : j2 < n := by omega
                            obtain ⟨j3, hj3⟩ : ∃ j3, j2 = j3 + 1 := ⟨j2 - 1, by omega⟩
                            have ej3 : (j2 : Int) - 1 = (j3 : Int) := by omega
                            obtain ⟨z, hz, cz, fz⟩ := HV3.out.read HSK.out hj2n
                            have HZ := Lib.hid hz
                            have HJ3 := Lib.hid hj3
                            clear hz hj3
                            cases hl : ltInt z p
                            · have HL3 := Lib.hid hl
                              have HE4 : Hid (PLt a b i j3 p d dk) := by
                                have h1 := HE3.out
                                have h2 := HZ.out
                                rw [HJ3.out] at h1 h2
                                exact h1.down (by have := HJ3.out; omega) (by rw [← h2]; exact hl)
                              clear hl
                              go_wp2
                              go_quiet ((go_at_call 139; exact Calls.quiet_of_same (less_b HL3.out _)))
                              go_wp2
                              go_roundw
                              case rel => exact ⟨j3, rfl, by have := HJ3.out; omega, HE4.out, HV3.out.drewN _⟩
                              case measure => have := HJ3.out; simp [intOf]; omega
                            · have HL3 := Lib.hid hl
                              have hin : i < n := by omega
                              obtain ⟨x3, hx3, cx3, fx3⟩ := HV3.out.read HSK.out hin
                              have HX3 := Lib.hid hx3
                              have HE4 : Hid (PLt a b (i + 1) j3 p d (swp dk i j2)) := by
                                have h1 := HE3.out
                                have h2 := HZ.out
                                have h3 := HIA.out (by omega)
                                rw [HJ3.out] at h1 h2 ⊢
                                exact h1.swap (by have := HJ3.out; omega) h3 (by rw [← h2]; exact hl)
                              have d3 : decide ((j2 : Int) < (i : Int)) = false := by simp; omega
                              have d3n : decide (j2 < i) = false := by simp; omega
                              have hne : i ≠ j2 := fun e => by have h4 := HIA.out (by omega); rw [e, ← HZ.out, hl] at h4; cases h4
                              clear hl hx3
                              go_wp2
                              go_quiet ((go_at_call 139; exact Calls.quiet_of_same (less_b HL3.out _)))
                              go_wp2
                              go_region
                              have HV5 := Lib.hid (HV3.out.swap HSK.out hin hj2n HZ.out HX3.out (nq + 1))
                              have HSK5 : Hid ((swp dk i j2).size = n) := (by rw [size_swp]; exact HSK.out : (swp dk i j2).size = n)
                              go_wp2
                              go_roundw
                              case rel => exact ⟨i + 1, j3, _, by go_num, rfl, HE4.out, HV5.out⟩
                              case measure => have := HJ3.out; simp [intOf]; omega
                          · have d2 : decide ((i : Int) ≤ (j2 : Int)) = false := by simp; omega
                            have d2n : decide (i ≤ j2) = false := by simp; omega
                            have d3 : decide ((j2 : Int) < (i : Int)) = true := by simp; omega
                            have d3n : decide (j2 < i) = true := by simp; omega
                            have HL : Hid (ltInt 0 0 = false) := rfl
                            have hj2n : j2 < n := by omega
                            obtain ⟨z, hz, cz, fz⟩ := HV3.out.read HSK.out hj2n
                            have HZ := Lib.hid hz
                            have HRS := Lib.hid (HE3.out.res (by omega))
                            by_cases hja : j2 = a
                            · subst hja
                              obtain rfl : z = p := hz.trans HPV.out
                              clear hz ca fa
                              go_wp2
                              go_quiet ((go_at_call 139; exact Calls.quiet_of_same (less_b HL.out _)))
                              go_wp2
                              go_region
                              all_goals
                                go_wp2
                                go_ret2
                                exact ⟨j2, _, _, rfl, HRS.out, HV3.out.swap HSK.out hj2n hj2n HZ.out HZ.out _⟩
                            · clear hz
                              go_wp2
                              go_quiet ((go_at_call 139; exact Calls.quiet_of_same (less_b HL.out _)))
                              go_wp2
                              go_region
                              all_goals
                                go_wp2
                                go_ret2
                                exact ⟨j2, _, _, rfl, HRS.out, HV3.out.swap HSK.out hj2n han HPV.out.symm HZ.out _⟩
                      · have HL := Lib.hid hl
                        have HE2 := Lib.hid (HE.out.up hij (by rw [← HX.out]; exact hl))
                        clear hl
                        go_wp2
                        go_quiet ((go_at_call 139; exact Calls.quiet_of_same (less_b HL.out _)))
                        go_wp2
                        go_roundw
                        case rel => exact ⟨i + 1, by go_num, HE2.out, HV.out.drewN _⟩
                        case measure => simp [intOf]; omega
                    · have d1 : decide ((i : Int) ≤ (j : Int)) = false := by simp; omega
                      have d1n : decide (i ≤ j) = false := by simp; omega
                      have HIA : Hid (i ≤ j → ltInt dk[i]! p = false) := fun h => absurd h hij
                      have HL : Hid (ltInt 0 0 = false) := rfl
                      go_wp2
                      go_quiet ((go_at_call 139; exact Calls.quiet_of_same (less_b HL.out _)))
                      have HV2 := Lib.hid (HV.out.drewN nq)
                      clear ca d1 d1n hij HL
                      generalize wr.drewN nq = W2 at *
                      go_wp2
                      go_loopw [11] (fun vj W => ∃ (j2 : Nat), vj = .int .i64 (j2 : Int) ∧ j2 ≤ j ∧ PLt a b i j2 p d dk ∧ UTo w W g dk) (fun vj _ => (intOf vj).toNat)
                      case atStart => exact ⟨j, rfl, Nat.le_refl _, HE.out, HV2.out⟩
                      case round =>
                        obtain ⟨j2, rfl, hjj, hE3, hV3⟩ := hrel
                        have HE3 := Lib.hid hE3
                        have HV3 := Lib.hid hV3
                        have hij3 := hE3.ij
                        have hai3 := hE3.ai
                        have ca : wr.cell? ⟨g, a, none⟩ = some (.int .u64 p) := by have := (hV3.at_ a (by rw [HSK.out]; exact han)).1; rw [hE3.piv] at this; exact this
                        have fa : wr.frozen? ⟨g, a, none⟩ = false := (hV3.at_ a (by rw [HSK.out]; exact han)).2
                        have HPV := Lib.hid hE3.piv
                        clear hE3 hV3
                        by_cases hij2 : i ≤ j2
                        · have d2 : decide ((i : Int) ≤ (j2 : Int)) = true := by simpa using hij2
                          have d2n : decide (i ≤ j2) = true := by simpa using hij2
                          have hj2n : j2 < n := by omega
                          obtain ⟨j3, hj3⟩ : ∃ j3, j2 = j3 + 1 := ⟨j2 - 1, by omega⟩
                          have ej3 : (j2 : Int) - 1 = (j3 : Int) := by omega
                          obtain ⟨z, hz, cz, fz⟩ := HV3.out.read HSK.out hj2n
                          have HZ := Lib.hid hz
                          have HJ3 := Lib.hid hj3
                          clear hz hj3
                          cases hl : ltInt z p
                          · have HL3 := Lib.hid hl
                            have HE4 : Hid (PLt a b i j3 p d dk) := by
                              have h1 := HE3.out
                              have h2 := HZ.out
                              rw [HJ3.out] at h1 h2
                              exact h1.down (by have := HJ3.out; omega) (by rw [← h2]; exact hl)
                            clear hl
                            go_wp2
                            go_quiet ((go_at_call 139; exact Calls.quiet_of_same (less_b HL3.out _)))
                            go_wp2
                            go_roundw
                            case rel => exact ⟨j3, rfl, by have := HJ3.out; omega, HE4.out, HV3.out.drewN _⟩
                            case measure => have := HJ3.out; simp [intOf]; omega
                          · have HL3 := Lib.hid hl
                            have hin : i < n := by omega
                            obtain ⟨x3, hx3, cx3, fx3⟩ := HV3.out.read HSK.out hin
                            have HX3 := Lib.hid hx3
                            have HE4 : Hid (PLt a b (i + 1) j3 p d (swp dk i j2)) := by
                              have h1 := HE3.out
                              have h2 := HZ.out
                              have h3 := HIA.out (by omega)
                              rw [HJ3.out] at h1 h2 ⊢
                              exact h1.swap (by have := HJ3.out; omega) h3 (by rw [← h2]; exact hl)
                            have d3 : decide ((j2 : Int) < (i : Int)) = false := by simp; omega
                            have d3n : decide (j2 < i) = false := by simp; omega
                            have hne : i ≠ j2 := fun e => by have h4 := HIA.out (by omega); rw [e, ← HZ.out, hl] at h4; cases h4
                            clear hl hx3
                            go_wp2
                            go_quiet ((go_at_call 139; exact Calls.quiet_of_same (less_b HL3.out _)))
                            go_wp2
                            go_region
                            have HV5 := Lib.hid (HV3.out.swap HSK.out hin hj2n HZ.out HX3.out (nq + 1))
                            have HSK5 : Hid ((swp dk i j2).size = n) := (by rw [size_swp]; exact HSK.out : (swp dk i j2).size = n)
                            go_wp2
                            go_roundw
                            case rel => exact ⟨i + 1, j3, _, by go_num, rfl, HE4.out, HV5.out⟩
                            case measure => have := HJ3.out; simp [intOf]; omega
                        · have d2 : decide ((i : Int) ≤ (j2 : Int)) = false := by simp; omega
                          have d2n : decide (i ≤ j2) = false := by simp; omega
                          have d3 : decide ((j2 : Int) < (i : Int)) = true := by simp; omega
                          have d3n : decide (j2 < i) = true := by simp; omega
                          have HL : Hid (ltInt 0 0 = false) := rfl
                          have hj2n : j2 < n := by omega
                          obtain ⟨z, hz, cz, fz⟩ := HV3.out.read HSK.out hj2n
                          have HZ := Lib.hid hz
                          have HRS := Lib.hid (HE3.out.res (by omega))
                          by_cases hja : j2 = a
                          · subst hja
                            obtain rfl : z = p := hz.trans HPV.out
                            clear hz ca fa
                            go_wp2
                            go_quiet ((go_at_call 139; exact Calls.quiet_of_same (less_b HL.out _)))
                            go_wp2
                            go_region
                            all_goals
                              go_wp2
                              go_ret2
                              exact ⟨j2, _, _, rfl, HRS.out, HV3.out.swap HSK.out hj2n hj2n HZ.out HZ.out _⟩
                          · clear hz
                            go_wp2
                            go_quiet ((go_at_call 139; exact Calls.quiet_of_same (less_b HL.out _)))
                            go_wp2
                            go_region
                            all_goals
                              go_wp2
                              go_ret2
                              exact ⟨j2, _, _, rfl, HRS.out, HV3.out.swap HSK.out hj2n han HPV.out.symm HZ.out _⟩
            · have d2 : decide ((i : Int) ≤ (j2 : Int)) = false := by simp; omega
              have d2n : decide (i ≤ j2) = false := by simp; omega
              have d3 : decide ((j2 : Int) < (i : Int)) = true := by simp; omega
              have d3n : decide (j2 < i) = true := by simp; omega
              have HL : Hid (ltInt 0 0 = false) := rfl
              have hj2n : j2 < n := by omega
              obtain ⟨z, hz, cz, fz⟩ := HV3.out.read HSK.out hj2n
              have HZ := Lib.hid hz
              have HRS := Lib.hid (HE3.out.res (by omega))
              by_cases hja : j2 = a
              · subst hja
                obtain rfl : z = p := hz.trans HPV.out
                clear hz ca fa
                go_wp2
                go_quiet ((go_at_call 139; exact Calls.quiet_of_same (less_b HL.out _)))
                go_wp2
                go_region
                all_goals
                  go_wp2
                  go_ret2
                  exact ⟨j2, _, _, rfl, HRS.out, HV3.out.swap HSK.out hj2n hj2n HZ.out HZ.out _⟩
              · clear hz
                go_wp2
                go_quiet ((go_at_call 139; exact Calls.quiet_of_same (less_b HL.out _)))
                go_wp2
                go_region
                all_goals
                  go_wp2
                  go_ret2
                  exact ⟨j2, _, _, rfl, HRS.out, HV3.out.swap HSK.out hj2n han HPV.out.symm HZ.out _⟩
        · have HL := Lib.hid hl
          have HE2 := Lib.hid (HE.out.up hij (by rw [← HX.out]; exact hl))
          clear hl
          go_wp2
          go_quiet ((go_at_call 139; exact Calls.quiet_of_same (less_b HL.out _)))
          go_wp2
          go_roundw
          case rel => exact ⟨i + 1, by go_num, HE2.out, HV.out.drewN _⟩
          case measure => simp [intOf]; omega
      · have d1 : decide ((i : Int) ≤ (j : Int)) = false := by simp; omega
        have d1n : decide (i ≤ j) = false := by simp; omega
        have HIA : Hid (i ≤ j → ltInt dk[i]! p = false) := fun h => absurd h hij
        have HL : Hid (ltInt 0 0 = false) := rfl
        go_wp2
        go_quiet ((go_at_call 139; exact Calls.quiet_of_same (less_b HL.out _)))
        have HV2 := Lib.hid (HV.out.drewN nq)
        clear ca d1 d1n hij HL
        generalize wr.drewN nq = W2 at *
        go_wp2
        go_loopw [11] (fun vj W => ∃ (j2 : Nat), vj = .int .i64 (j2 : Int) ∧ j2 ≤ j ∧ PLt a b i j2 p d dk ∧ UTo w W g dk) (fun vj _ => (intOf vj).toNat)
        case atStart => exact ⟨j, rfl, Nat.le_refl _, HE.out, HV2.out⟩
        case round =>
          obtain ⟨j2, rfl, hjj, hE3, hV3⟩ := hrel
          have HE3 := Lib.hid hE3
          have HV3 := Lib.hid hV3
          have hij3 := hE3.ij
          have hai3 := hE3.ai
          have ca : wr.cell? ⟨g, a, none⟩ = some (.int .u64 p) := by have := (hV3.at_ a (by rw [HSK.out]; exact han)).1; rw [hE3.piv] at this; exact this
          have fa : wr.frozen? ⟨g, a, none⟩ = false := (hV3.at_ a (by rw [HSK.out]; exact han)).2
          have HPV := Lib.hid hE3.piv
          clear hE3 hV3
          by_cases hij2 : i ≤ j2
          · have d2 : decide ((i : Int) ≤ (j2 : Int)) = true := by simpa using hij2
            have d2n : decide (i ≤ j2) = true := by simpa using hij2
            have hj2n : j2 < n := by omega
            obtain ⟨j3, hj3⟩ : ∃ j3, j2 = j3 + 1 := ⟨j2 - 1, by omega⟩
            have ej3 : (j2 : Int) - 1 = (j3 : Int) := by omega
            obtain ⟨z, hz, cz, fz⟩ := HV3.out.read HSK.out hj2n
            have HZ := Lib.hid hz
            have HJ3 := Lib.hid hj3
            clear hz hj3
            cases hl : ltInt z p
            · have HL3 := Lib.hid hl
              have HE4 : Hid (PLt a b i j3 p d dk) := by
                have h1 := HE3.out
                have h2 := HZ.out
                rw [HJ3.out] at h1 h2
                exact h1.down (by have := HJ3.out; omega) (by rw [← h2]; exact hl)
              clear hl
              go_wp2
              go_quiet ((go_at_call 139; exact Calls.quiet_of_same (less_b HL3.out _)))
              go_wp2
              go_roundw
              case rel => exact ⟨j3, rfl, by have := HJ3.out; omega, HE4.out, HV3.out.drewN _⟩
              case measure => have := HJ3.out; simp [intOf]; omega
            · have HL3 := Lib.hid hl
              have hin : i < n := by omega
              obtain ⟨x3, hx3, cx3, fx3⟩ := HV3.out.read HSK.out hin
              have HX3 := Lib.hid hx3
              have HE4 : Hid (PLt a b (i + 1) j3 p d (swp dk i j2)) := by
                have h1 := HE3.out
                have h2 := HZ.out
                have h3 := HIA.out (by omega)
                rw [HJ3.out] at h1 h2 ⊢
                exact h1.swap (by have := HJ3.out; omega) h3 (by rw [← h2]; exact hl)
              have d3 : decide ((j2 : Int) < (i : Int)) = false := by simp; omega
              have d3n : decide (j2 < i) = false := by simp; omega
              have hne : i ≠ j2 := fun e => by have h4 := HIA.out (by omega); rw [e, ← HZ.out, hl] at h4; cases h4
              clear hl hx3
              go_wp2
              go_quiet ((go_at_call 139; exact Calls.quiet_of_same (less_b HL3.out _)))
              go_wp2
              go_region
              have HV5 := Lib.hid (HV3.out.swap HSK.out hin hj2n HZ.out HX3.out (nq + 1))
              have HSK5 : Hid ((swp dk i j2).size = n) := (by rw [size_swp]; exact HSK.out : (swp dk i j2).size = n)
              clear cz fz cx3 fx3 ca fa
              generalize ((wr.drewN (nq + 1)).setCell ⟨g, i, none⟩ (.int .u64 z)).setCell ⟨g, j2, none⟩ (.int .u64 x3) = W5 at *
              go_wp2
              go_loopw [10, 11] (fun vi vj W => ∃ (i j : Nat) (dk : Array Int), vi = .int .i64 (i : Int) ∧ vj = .int .i64 (j : Int) ∧ PLt a b i j p d dk ∧ UTo w W g dk) (fun _ vj _ => (intOf vj).toNat)
              case atStart => exact ⟨i + 1, j3, _, by go_num, rfl, HE4.out, HV5.out⟩
              case round =>
                obtain ⟨i, j, dk, rfl, rfl, hE, hV⟩ := hrel
                have HE6 := Lib.hid hE
                have HV6 := Lib.hid hV
                have HSK : Hid (dk.size = n) := (hE.size.trans HS.out : dk.size = n)
                have hjn : j < n := by have := hE.jb; omega
                clear hE hV
                go_wp2
                go_loopw [10] (fun vi W => ∃ (i : Nat), vi = .int .i64 (i : Int) ∧ PLt a b i j p d dk ∧ UTo w W g dk) (fun vi _ => j + 1 - (intOf vi).toNat)
                case atStart => exact ⟨i, rfl, HE6.out, HV6.out⟩
                case round =>
                  obtain ⟨i, rfl, hE, hV⟩ := hrel
                  have HE := Lib.hid hE
                  have HV := Lib.hid hV
                  have hij1 := hE.ij
                  have ca : wr.cell? ⟨g, a, none⟩ = some (.int .u64 p) := by have := (hV.at_ a (by rw [HSK.out]; exact han)).1; rw [hE.piv] at this; exact this
                  clear hE hV
                  by_cases hij : i ≤ j
                  · have d1 : decide ((i : Int) ≤ (j : Int)) = true := by simpa using hij
                    have d1n : decide (i ≤ j) = true := by simpa using hij
                    have hin : i < n := by omega
                    obtain ⟨x, hx, cx, fx⟩ := HV.out.read HSK.out hin
                    have HX := Lib.hid hx
                    clear hx
                    cases hl : ltInt x p
                    · have HL := Lib.hid hl
                      have HIA : Hid (i ≤ j → ltInt dk[i]! p = false) := fun _ => by rw [← HX.out]; exact hl
                      clear hl
                      go_wp2
                      go_quiet ((go_at_call 139; exact Calls.quiet_of_same (less_b HL.out _)))
                      have HV2 := Lib.hid (HV.out.drewN nq)
                      clear ca cx fx d1 d1n
                      generalize wr.drewN nq = W2 at *
                      go_wp2
                      go_loopw [11] (fun vj W => ∃ (j2 : Nat), vj = .int .i64 (j2 : Int) ∧ j2 ≤ j ∧ PLt a b i j2 p d dk ∧ UTo w W g dk) (fun vj _ => (intOf vj).toNat)
                      case atStart => exact ⟨j, rfl, Nat.le_refl _, HE.out, HV2.out⟩
                      case round =>
                        obtain ⟨j2, rfl, hjj, hE3, hV3⟩ := hrel
                        have HE3 := Lib.hid hE3
                        have HV3 := Lib.hid hV3
                        have hij3 := hE3.ij
                        have hai3 := hE3.ai
                        have ca : wr.cell? ⟨g, a, none⟩ = some (.int .u64 p) := by have := (hV3.at_ a (by rw [HSK.out]; exact han)).1; rw [hE3.piv] at this; exact this
                        have fa : wr.frozen? ⟨g, a, none⟩ = false := (hV3.at_ a (by rw [HSK.out]; exact han)).2
                        have HPV := Lib.hid hE3.piv
                        clear hE3 hV3
                        by_cases hij2 : i ≤ j2
                        · have d2 : decide ((i : Int) ≤ (j2 : Int)) = true := by simpa using hij2
                          have d2n : decide (i ≤ j2) = true := by simpa using hij2
                          have hj2n : j2 < n := by omega
                          obtain ⟨j3, hj3⟩ : ∃ j3, j2 = j3 + 1 := ⟨j2 - 1, by omega⟩
                          have ej3 : (j2 : Int) - 1 = (j3 : Int) := by omega
                          obtain ⟨z, hz, cz, fz⟩ := HV3.out.read HSK.out hj2n
                          have HZ := Lib.hid hz
                          have HJ3 := Lib.hid hj3
                          clear hz hj3
                          cases hl : ltInt z p
                          · have HL3 := Lib.hid hl
                            have HE4 : Hid (PLt a b i j3 p d dk) := by
                              have h1 := HE3.out
                              have h2 := HZ.out
                              rw [HJ3.out] at h1 h2
                              exact h1.down (by have := HJ3.out; omega) (by rw [← h2]; exact hl)
                            clear hl
                            go_wp2
                            go_quiet ((go_at_call 139; exact Calls.quiet_of_same (less_b HL3.out _)))
                            go_wp2
                            go_roundw
                            case rel => exact ⟨j3, rfl, by have := HJ3.out; omega, HE4.out, HV3.out.drewN _⟩
                            case measure => have := HJ3.out; simp [intOf]; omega
                          · have HL3 := Lib.hid hl
                            have hin : i < n := by omega
                            obtain ⟨x3, hx3, cx3, fx3⟩ := HV3.out.read HSK.out hin
                            have HX3 := Lib.hid hx3
                            have HE4 : Hid (PLt a b (i + 1) j3 p d (swp dk i j2)) := by
                              have h1 := HE3.out
                              have h2 := HZ.out
                              have h3 := HIA.out (by omega)
                              rw [HJ3.out] at h1 h2 ⊢
                              exact h1.swap (by have := HJ3.out; omega) h3 (by rw [← h2]; exact hl)
                            have d3 : decide ((j2 : Int) < (i : Int)) = false := by simp; omega
                            have d3n : decide (j2 < i) = false := by simp; omega
                            have hne : i ≠ j2 := fun e => by have h4 := HIA.out (by omega); rw [e, ← HZ.out, hl] at h4; cases h4
                            clear hl hx3
                            go_wp2
                            go_quiet ((go_at_call 139; exact Calls.quiet_of_same (less_b HL3.out _)))
                            go_wp2
                            go_region
                            have HV5 := Lib.hid (HV3.out.swap HSK.out hin hj2n HZ.out HX3.out (nq + 1))
                            have HSK5 : Hid ((swp dk i j2).size = n) := (by rw [size_swp]; exact HSK.out : (swp dk i j2).size = n)
                            go_wp2
                            go_roundw
                            case rel => exact ⟨i + 1, j3, _, by go_num, rfl, HE4.out, HV5.out⟩
                            case measure => have := HJ3.out; simp [intOf]; omega
                        · have d2 : decide ((i : Int) ≤ (j2 : Int)) = false := by simp; omega
                          have d2n : decide (i ≤ j2) = false := by simp; omega
                          have d3 : decide ((j2 : Int) < (i : Int)) = true := by simp; omega
                          have d3n : decide (j2 < i) = true := by simp; omega
                          have HL : Hid (ltInt 0 0 = false) := rfl
                          have hj2n : j2 < n := by omega
                          obtain ⟨z, hz, cz, fz⟩ := HV3.out.read HSK.out hj2n
                          have HZ := Lib.hid hz
                          have HRS := Lib.hid (HE3.out.res (by omega))
                          by_cases hja : j2 = a
                          · subst hja
                            obtain rfl : z = p := hz.trans HPV.out
                            clear hz ca fa
                            go_wp2
                            go_quiet ((go_at_call 139; exact Calls.quiet_of_same (less_b HL.out _)))
                            go_wp2
                            go_region
                            all_goals
                              go_wp2
                              go_ret2
                              exact ⟨j2, _, _, rfl, HRS.out, HV3.out.swap HSK.out hj2n hj2n HZ.out HZ.out _⟩
                          · clear hz
                            go_wp2
                            go_quiet ((go_at_call 139; exact Calls.quiet_of_same (less_b HL.out _)))
                            go_wp2
                            go_region
                            all_goals
                              go_wp2
                              go_ret2
                              exact ⟨j2, _, _, rfl, HRS.out, HV3.out.swap HSK.out hj2n han HPV.out.symm HZ.out _⟩
                    · have HL := Lib.hid hl
                      have HE2 := Lib.hid (HE.out.up hij (by rw [← HX.out]; exact hl))
                      clear hl
                      go_wp2
                      go_quiet ((go_at_call 139; exact Calls.quiet_of_same (less_b HL.out _)))
                      go_wp2
                      go_roundw
                      case rel => exact ⟨i + 1, by go_num, HE2.out, HV.out.drewN _⟩
                      case measure => simp [intOf]; omega
                  · have d1 : decide ((i : Int) ≤ (j : Int)) = false := by simp; omega
                    have d1n : decide (i ≤ j) = false := by simp; omega
                    have HIA : Hid (i ≤ j → ltInt dk[i]! p = false) := fun h => absurd h hij
                    have HL : Hid (ltInt 0 0 = false) := rfl
                    go_wp2
                    go_quiet ((go_at_call 139; exact Calls.quiet_of_same (less_b HL.out _)))
                    have HV2 := Lib.hid (HV.out.drewN nq)
                    clear ca d1 d1n hij HL
                    generalize wr.drewN nq = W2 at *
                    go_wp2
                    go_loopw [11] (fun vj W => ∃ (j2 : Nat), vj = .int .i64 (j2 : Int) ∧ j2 ≤ j ∧ PLt a b i j2 p d dk ∧ UTo w W g dk) (fun vj _ => (intOf vj).toNat)
                    case atStart => exact ⟨j, rfl, Nat.le_refl _, HE.out, HV2.out⟩
                    case round =>
                      obtain ⟨j2, rfl, hjj, hE3, hV3⟩ := hrel
                      have HE3 := Lib.hid hE3
                      have HV3 := Lib.hid hV3
                      have hij3 := hE3.ij
                      have hai3 := hE3.ai
                      have ca : wr.cell? ⟨g, a, none⟩ = some (.int .u64 p) := by have := (hV3.at_ a (by rw [HSK.out]; exact han)).1; rw [hE3.piv] at this; exact this
                      have fa : wr.frozen? ⟨g, a, none⟩ = false := (hV3.at_ a (by rw [HSK.out]; exact han)).2
                      have HPV := Lib.hid hE3.piv
                      clear hE3 hV3
                      by_cases hij2 : i ≤ j2
                      · have d2 : decide ((i : Int) ≤ (j2 : Int)) = true := by simpa using hij2
                        have d2n : decide (i ≤ j2) = true := by simpa using hij2
                        have hj2n : j2 < n := by omega
                        obtain ⟨j3, hj3⟩ : ∃ j3, j2 = j3 + 1 := ⟨j2 - 1, by omega⟩
                        have ej3 : (j2 : Int) - 1 = (j3 : Int) := by omega
                        obtain ⟨z, hz, cz, fz⟩ := HV3.out.read HSK.out hj2n
                        have HZ := Lib.hid hz
                        have HJ3 := Lib.hid hj3
                        clear hz hj3
                        cases hl : ltInt z p
                        · have HL3 := Lib.hid hl
                          have HE4 : Hid (PLt a b i j3 p d dk) := by
                            have h1 := HE3.out
                            have h2 := HZ.out
                            rw [HJ3.out] at h1 h2
                            exact h1.down (by have := HJ3.out; omega) (by rw [← h2]; exact hl)
                          clear hl
                          go_wp2
                          go_quiet ((go_at_call 139; exact Calls.quiet_of_same (less_b HL3.out _)))
                          go_wp2
                          go_roundw
                          case rel => exact ⟨j3, rfl, by have := HJ3.out; omega, HE4.out, HV3.out.drewN _⟩
                          case measure => have := HJ3.out; simp [intOf]; omega
                        · have HL3 := Lib.hid hl
                          have hin : i < n := by omega
                          obtain ⟨x3, hx3, cx3, fx3⟩ := HV3.out.read HSK.out hin
                          have HX3 := Lib.hid hx3
                          have HE4 : Hid (PLt a b (i + 1) j3 p d (swp dk i j2)) := by
                            have h1 := HE3.out
                            have h2 := HZ.out
                            have h3 := HIA.out (by omega)
                            rw [HJ3.out] at h1 h2 ⊢
                            exact h1.swap (by have := HJ3.out; omega) h3 (by rw [← h2]; exact hl)
                          have d3 : decide ((j2 : Int) < (i : Int)) = false := by simp; omega
                          have d3n : decide (j2 < i) = false := by simp; omega
                          have hne : i ≠ j2 := fun e => by have h4 := HIA.out (by omega); rw [e, ← HZ.out, hl] at h4; cases h4
                          clear hl hx3
                          go_wp2
                          go_quiet ((go_at_call 139; exact Calls.quiet_of_same (less_b HL3.out _)))
                          go_wp2
                          go_region
                          have HV5 := Lib.hid (HV3.out.swap HSK.out hin hj2n HZ.out HX3.out (nq + 1))
                          have HSK5 : Hid ((swp dk i j2).size = n) := (by rw [size_swp]; exact HSK.out : (swp dk i j2).size = n)
                          go_wp2
                          go_roundw
                          case rel => exact ⟨i + 1, j3, _, by go_num, rfl, HE4.out, HV5.out⟩
                          case measure => have := HJ3.out; simp [intOf]; omega
                      · have d2 : decide ((i : Int) ≤ (j2 : Int)) = false := by simp; omega
                        have d2n : decide (i ≤ j2) = false := by simp; omega
                        have d3 : decide ((j2 : Int) < (i : Int)) = true := by simp; omega
                        have d3n : decide (j2 < i) = true := by simp; omega
                        have HL : Hid (ltInt 0 0 = false) := rfl
                        have hj2n : j2 < n := by omega
                        obtain ⟨z, hz, cz, fz⟩ := HV3.out.read HSK.out hj2n
                        have HZ := Lib.hid hz
                        have HRS := Lib.hid (HE3.out.res (by omega))
                        by_cases hja : j2 = a
                        · subst hja
                          obtain rfl : z = p := hz.trans HPV.out
                          clear hz ca fa
                          go_wp2
                          go_quiet ((go_at_call 139; exact Calls.quiet_of_same (less_b HL.out _)))
                          go_wp2
                          go_region
                          all_goals
                            go_wp2
                            go_ret2
                            exact ⟨j2, _, _, rfl, HRS.out, HV3.out.swap HSK.out hj2n hj2n HZ.out HZ.out _⟩
                        · clear hz
                          go_wp2
                          go_quiet ((go_at_call 139; exact Calls.quiet_of_same (less_b HL.out _)))
                          go_wp2
                          go_region
                          all_goals
                            go_wp2
                            go_ret2
                            exact ⟨j2, _, _, rfl, HRS.out, HV3.out.swap HSK.out hj2n han HPV.out.symm HZ.out _⟩
          · have d2 : decide ((i : Int) ≤ (j2 : Int)) = false := by simp; omega
            have d2n : decide (i ≤ j2) = false := by simp; omega
            have d3 : decide ((j2 : Int) < (i : Int)) = true := by simp; omega
            have d3n : decide (j2 < i) = true := by simp; omega
            have HL : Hid (ltInt 0 0 = false) := rfl
            have hj2n : j2 < n := by omega
            obtain ⟨z, hz, cz, fz⟩ := HV3.out.read HSK.out hj2n
            have HZ := Lib.hid hz
            have HRS := Lib.hid (HE3.out.res (by omega))
            by_cases hja : j2 = a
            · subst hja
              obtain rfl : z = p := hz.trans HPV.out
              clear hz ca fa
              go_wp2
              go_quiet ((go_at_call 139; exact Calls.quiet_of_same (less_b HL.out _)))
              go_wp2
              go_region
              all_goals
                go_wp2
                go_ret2
                exact ⟨j2, _, _, rfl, HRS.out, HV3.out.swap HSK.out hj2n hj2n HZ.out HZ.out _⟩
            · clear hz
              go_wp2
              go_quiet ((go_at_call 139; exact Calls.quiet_of_same (less_b HL.out _)))
              go_wp2
              go_region
              all_goals
                go_wp2
                go_ret2
                exact ⟨j2, _, _, rfl, HRS.out, HV3.out.swap HSK.out hj2n han HPV.out.symm HZ.out _⟩

end Go.Proofs.YtkplffkchanipaaGreatDoor
/- The quick sort's loop, plain: what is sorted when the rest will be. -/
namespace Go.Proofs.YtkplffkchanipaaGreatDoor
open Go.Sort

theorem lt_false {x y : Int} : ltInt x y = false ↔ y ≤ x := by simp [ltInt]
theorem lt_true {x y : Int} : ltInt x y = true ↔ x < y := by simp [ltInt]
/-- Between two rounds: the range [a, b) is what is left of [a0, b0). -/
structure PInv (a0 b0 : Nat) (d0 : Array Int) (a b : Nat) (dk : Array Int) : Prop where
  aa : a0 ≤ a
  ab : a ≤ b
  bb : b ≤ b0
  bs : b0 ≤ d0.size
  size : dk.size = d0.size
  perm : PermIn a0 b0 d0 dk
  below : Below ltInt a b dk
  fin : ∀ d', PermIn a b dk d' → SortedIn ltInt a b d' → SortedIn ltInt a0 b0 d'
theorem below_perm {a b a' b' : Nat} {d d' : Array Int} (h : Below ltInt a b d) (hp : PermIn a' b' d d') (haa : a ≤ a') (hbb : b' ≤ b) (hs : b ≤ d.size) : Below ltInt a b d' := by
  rcases h with h | h
  · exact .inl h
  · by_cases h0 : a = 0
    · exact .inl h0
    · refine .inr ?_
      rw [hp.2.1 (a - 1) (.inl (by omega))]
      have hp2 : PermIn a b d d' := permIn_mono d d' a' b' a b haa hbb hs hp
      exact permIn_all d d' a b (fun x => ltInt x d[a - 1]! = false) hs hp2 h
theorem PInv.start {a b : Nat} {d : Array Int} (hab : a ≤ b) (hb : b ≤ d.size) (h : Below ltInt a b d) : PInv a b d a b d :=
  ⟨Nat.le_refl _, hab, Nat.le_refl _, hb, rfl, permIn_refl _ _ _, h, fun _ _ h => h⟩
theorem PInv.mix {a0 b0 a b : Nat} {d0 dk d1 : Array Int} (h : PInv a0 b0 d0 a b dk) (hp : PermIn a b dk d1) : PInv a0 b0 d0 a b d1 := by
  have h1 := h.size
  have h2 := h.bs
  have h3 := h.bb
  exact ⟨h.aa, h.ab, h.bb, h.bs, by rw [hp.1]; exact h1, permIn_trans _ _ _ _ _ h.perm (permIn_mono _ _ _ _ _ _ h.aa h.bb (by omega) hp), below_perm h.below hp (Nat.le_refl _) (Nat.le_refl _) (by omega), fun d' hp' hs => h.fin d' (permIn_trans _ _ _ _ _ hp hp') hs⟩
theorem PInv.done {a0 b0 a b : Nat} {d0 dk d1 : Array Int} (h : PInv a0 b0 d0 a b dk) (hp : PermIn a b dk d1) (hs : SortedIn ltInt a b d1) : PermIn a0 b0 d0 d1 ∧ SortedIn ltInt a0 b0 d1 :=
  ⟨(h.mix hp).perm, h.fin d1 hp hs⟩
theorem PInv.eq {a0 b0 a b x mid : Nat} {d0 dk d' : Array Int} (h : PInv a0 b0 d0 a b dk) (ha : 0 < a) (hl : ltInt dk[a - 1]! dk[x]! = false) (hr : EqRes a b dk[x]! dk mid d') : PInv a0 b0 d0 mid b d' := by
  obtain ⟨r1, r2, r3, r4, r5, r6⟩ := hr
  have h1 := h.size
  have h2 := h.bs
  have h3 := h.bb
  have hB : ∀ i, a ≤ i → i < b → dk[x]! ≤ dk[i]! := fun i hi1 hi2 => by
    rcases h.below with hb | hb
    · omega
    · have e1 := lt_false.1 (hb i hi1 hi2)
      have e2 := lt_false.1 hl
      omega
  have hB' : ∀ i, a ≤ i → i < b → dk[x]! ≤ d'[i]! := permIn_all dk d' a b (fun y => dk[x]! ≤ y) (by omega) r4 hB
  have hm := h.mix r4
  refine ⟨by have := h.aa; omega, r2, h.bb, h.bs, by omega, hm.perm, ?_, ?_⟩
  · refine .inr fun i hi1 hi2 => ?_
    have e1 := lt_true.1 (r6 i hi1 hi2)
    have e2 := lt_false.1 (r5 (mid - 1) (by omega) (by omega))
    exact lt_false.2 (by omega)
  · intro d2 hp hs
    refine hm.fin d2 (permIn_mono _ _ _ _ _ _ (by omega) (Nat.le_refl _) (by omega) hp) ?_
    have hH : ∀ t, mid ≤ t → t < b → dk[x]! < d2[t]! := permIn_all d' d2 mid b (fun y => dk[x]! < y) (by omega) hp (fun t ht1 ht2 => lt_true.1 (r6 t ht1 ht2))
    intro i j hi hij hj
    by_cases hjm : j < mid
    · rw [hp.2.1 i (.inl (by omega)), hp.2.1 j (.inl hjm)]
      have e1 := lt_false.1 (r5 i hi (by omega))
      have e2 := hB' j (by omega) hj
      exact lt_false.2 (by omega)
    · by_cases him : i < mid
      · rw [hp.2.1 i (.inl him)]
        have e1 := lt_false.1 (r5 i hi him)
        have e2 := hH j (by omega) hj
        exact lt_false.2 (by omega)
      · exact hs i j (by omega) hij hj
theorem PInv.belowL {a0 b0 a b mid : Nat} {d0 dk d' : Array Int} (h : PInv a0 b0 d0 a b dk) (hr : LtRes a b dk mid d') : Below ltInt a mid d' := by
  obtain ⟨r1, r2, r3, r4, r5, r6⟩ := hr
  rcases (h.mix r4).below with hb | hb
  · exact .inl hb
  · exact .inr fun i hi1 hi2 => hb i hi1 (by omega)
theorem PInv.belowR {a b mid : Nat} {dk d' : Array Int} (hr : LtRes a b dk mid d') : Below ltInt (mid + 1) b d' := by
  obtain ⟨r1, r2, r3, r4, r5, r6⟩ := hr
  exact .inr fun i hi1 hi2 => r6 i (by omega) hi2
theorem PInv.left {a0 b0 a b mid : Nat} {d0 dk d' d4 : Array Int} (h : PInv a0 b0 d0 a b dk) (hr : LtRes a b dk mid d') (hp : PermIn a mid d' d4) (hs : SortedIn ltInt a mid d4) : PInv a0 b0 d0 (mid + 1) b d4 := by
  have hbR := PInv.belowR hr
  obtain ⟨r1, r2, r3, r4, r5, r6⟩ := hr
  have h1 := h.size
  have h2 := h.bs
  have h3 := h.bb
  have hm := (h.mix r4).mix (permIn_mono _ _ _ _ _ _ (Nat.le_refl _) (by omega) (by omega) hp)
  have hlo : ∀ t, a ≤ t → t < mid → d4[t]! < d4[mid]! := by
    rw [hp.2.1 mid (.inr (Nat.le_refl _))]
    exact permIn_all d' d4 a mid (fun y => y < d'[mid]!) (by omega) hp (fun t h1 h2 => lt_true.1 (r5 t h1 h2))
  have hhi : ∀ t, mid < t → t < b → d4[mid]! ≤ d4[t]! := fun t ht1 ht2 => by
    rw [hp.2.1 mid (.inr (Nat.le_refl _)), hp.2.1 t (.inr (by omega))]
    exact lt_false.1 (r6 t ht1 ht2)
  refine ⟨by have := h.aa; omega, by omega, h.bb, h.bs, hm.size, hm.perm, .inr fun i hi1 hi2 => lt_false.2 (hhi i (by omega) hi2), ?_⟩
  intro d2 hp2 hs2
  refine hm.fin d2 (permIn_mono _ _ _ _ _ _ (by omega) (Nat.le_refl _) (by have := hm.size; omega) hp2) ?_
  have hH : ∀ t, mid + 1 ≤ t → t < b → d4[mid]! ≤ d2[t]! := permIn_all d4 d2 (mid + 1) b (fun y => d4[mid]! ≤ y) (by have := hm.size; omega) hp2 (fun t ht1 ht2 => hhi t (by omega) ht2)
  intro i j hi hij hj
  by_cases hjm : j < mid + 1
  · rw [hp2.2.1 i (.inl (by omega)), hp2.2.1 j (.inl hjm)]
    by_cases hje : j = mid
    · subst hje
      have := hlo i hi hij
      exact lt_false.2 (by omega)
    · exact hs i j hi hij (by omega)
  · by_cases him : i < mid + 1
    · rw [hp2.2.1 i (.inl him)]
      have e2 := hH j (by omega) hj
      by_cases hie : i = mid
      · subst hie
        exact lt_false.2 e2
      · have := hlo i hi (by omega)
        exact lt_false.2 (by omega)
    · exact hs2 i j (by omega) hij hj
theorem PInv.right {a0 b0 a b mid : Nat} {d0 dk d' d4 : Array Int} (h : PInv a0 b0 d0 a b dk) (hr : LtRes a b dk mid d') (hp : PermIn (mid + 1) b d' d4) (hs : SortedIn ltInt (mid + 1) b d4) : PInv a0 b0 d0 a mid d4 := by
  have hbL := h.belowL hr
  obtain ⟨r1, r2, r3, r4, r5, r6⟩ := hr
  have h1 := h.size
  have h2 := h.bs
  have h3 := h.bb
  have hm := (h.mix r4).mix (permIn_mono _ _ _ _ _ _ (by omega) (Nat.le_refl _) (by omega) hp)
  have hlo : ∀ t, a ≤ t → t < mid → d4[t]! < d4[mid]! := fun t ht1 ht2 => by
    rw [hp.2.1 mid (.inl (by omega)), hp.2.1 t (.inl (by omega))]
    exact lt_true.1 (r5 t ht1 ht2)
  have hhi : ∀ t, mid + 1 ≤ t → t < b → d4[mid]! ≤ d4[t]! := by
    rw [hp.2.1 mid (.inl (by omega))]
    exact permIn_all d' d4 (mid + 1) b (fun y => d'[mid]! ≤ y) (by omega) hp (fun t ht1 ht2 => lt_false.1 (r6 t (by omega) ht2))
  have hbel : Below ltInt a mid d4 := by
    rcases hbL with hb | hb
    · exact .inl hb
    · by_cases h0 : a = 0
      · exact .inl h0
      · refine .inr fun i hi1 hi2 => ?_
        rw [hp.2.1 i (.inl (by omega)), hp.2.1 (a - 1) (.inl (by omega))]
        exact hb i hi1 hi2
  refine ⟨h.aa, r1, by omega, h.bs, hm.size, hm.perm, hbel, ?_⟩
  intro d2 hp2 hs2
  refine hm.fin d2 (permIn_mono _ _ _ _ _ _ (Nat.le_refl _) (by omega) (by have := hm.size; omega) hp2) ?_
  have hL : ∀ t, a ≤ t → t < mid → d2[t]! < d4[mid]! := permIn_all d4 d2 a mid (fun y => y < d4[mid]!) (by have := hm.size; omega) hp2 hlo
  intro i j hi hij hj
  by_cases him : i < mid
  · by_cases hjm : j < mid
    · exact hs2 i j hi hij hjm
    · rw [hp2.2.1 j (.inr (by omega))]
      have e1 := hL i hi him
      by_cases hje : j = mid
      · subst hje
        exact lt_false.2 (by omega)
      · have := hhi j (by omega) hj
        exact lt_false.2 (by omega)
  · rw [hp2.2.1 i (.inr (by omega)), hp2.2.1 j (.inr (by omega))]
    by_cases hie : i = mid
    · subst hie
      exact lt_false.2 (hhi j (by omega) hj)
    · exact hs i j (by omega) hij hj

end Go.Proofs.YtkplffkchanipaaGreatDoor
/- The quick sort at whole numbers: what it leaves is sorted. -/
namespace Go.Proofs.YtkplffkchanipaaGreatDoor
open Go.RowKit Go.Sort

/-- What a sort of [a, b) leaves. -/
def SortedTo (w w' : World) (g n a b : Nat) (d : Array Int) : Prop := ∃ d', d'.size = n ∧ PermIn a b d d' ∧ SortedIn ltInt a b d' ∧ UTo w w' g d'
theorem PInv.out {w w1 w' : World} {g n a0 b0 a b : Nat} {d0 dk d1 : Array Int} (h : PInv a0 b0 d0 a b dk) (hs : d0.size = n) (hU : UTo w w1 g dk) (hV : UTo w1 w' g d1) (hp : PermIn a b dk d1) (hso : SortedIn ltInt a b d1) : SortedTo w w' g n a0 b0 d0 := by
  obtain ⟨h1, h2⟩ := h.done hp hso
  exact ⟨d1, by rw [hp.1, h.size, hs], h1, h2, hU.trans hV⟩

set_option maxRecDepth 100000 in
set_option maxHeartbeats 16000000 in
theorem pdq_calls (g n c : Nat) (hn : n ≤ 1000000000000) : ∀ (m : Nat) (w : World) (a b lim : Nat) (d : Array Int), b - a ≤ m → d.size = n → UAt w g d → a ≤ b → b ≤ n → lim ≤ 1000000 → Below ltInt a b d →
    Calls Tryz.prog 112 #[.slice (some ⟨g, 0, none⟩) n c, .int .i64 (a : Int), .int .i64 (b : Int), .int .i64 (lim : Int)] w fun e w' => e = .returned (.tuple #[]) ∧ SortedTo w w' g n a b d := by
  intro m
  induction m using Nat.strongRecOn with
  | _ m ih =>
  intro w a b lim d hm hs hd hab hb hlim hbel
  have HP0 : Hid (PInv a b d a b d) := PInv.start hab (by omega) hbel
  have HU0 := Lib.hid (UTo.refl hd)
  have HS := Lib.hid hs
  have HIH : Hid (∀ (W : World) (a1 b1 lm : Nat) (d1 : Array Int), b1 - a1 < b - a → d1.size = n → UAt W g d1 → a1 ≤ b1 → b1 ≤ n → lm ≤ 1000000 → Below ltInt a1 b1 d1 →
      Calls Tryz.prog 112 #[.slice (some ⟨g, 0, none⟩) n c, .int .i64 (a1 : Int), .int .i64 (b1 : Int), .int .i64 (lm : Int)] W fun e w' => e = .returned (.tuple #[]) ∧ SortedTo W w' g n a1 b1 d1) := fun W a1 b1 lm d1 h1 => ih (b1 - a1) (by omega) W a1 b1 lm d1 (Nat.le_refl _)
  clear ih hs hd hbel hm
  go_enter Tryz.func112, Tryz.ntmps112
  go_wp2_with fail
  go_loopw [1, 2, 3, 8, 9] (fun va vb vl v8 v9 W => ∃ (a1 b1 lm : Nat) (wb wp : Bool) (d1 : Array Int), va = .int .i64 (a1 : Int) ∧ vb = .int .i64 (b1 : Int) ∧ vl = .int .i64 (lm : Int) ∧ v8 = .bool wb ∧ v9 = .bool wp ∧ lm ≤ 1000000 ∧ PInv a b d a1 b1 d1 ∧ UTo w W g d1) (fun va vb _ _ _ _ => (intOf vb).toNat - (intOf va).toNat)
  case atStart => exact ⟨a, b, lim, true, true, d, rfl, rfl, rfl, rfl, rfl, hlim, HP0.out, HU0.out⟩
  case round =>
    obtain ⟨a1, b1, lm, wb, wp, d1, rfl, rfl, rfl, rfl, rfl, hlm, hP, hU⟩ := hrel
    have HP := Lib.hid hP
    have HU := Lib.hid hU
    have ha1 := hP.ab
    have haa := hP.aa
    have hbb := hP.bb
    have HS1 : Hid (d1.size = n) := (hP.size.trans HS.out : d1.size = n)
    obtain ⟨l, hl⟩ : ∃ l, l = b1 - a1 := ⟨_, rfl⟩
    have e1 : (b1 : Int) - (a1 : Int) = (l : Int) := by omega
    have HL := Lib.hid hl
    clear hP hU hl
    by_cases h12 : l ≤ 12
    · have q1 : decide ((l : Int) ≤ 12) = true := by simp; omega
      go_wp2_with (go_at_call 133; refine (insSort_calls _ g n c a1 b1 d1 HS1.out HU.out.at_ ha1 (by omega) hn).mono ?_; rintro e w2 ⟨rfl, h2⟩; have H2 := Lib.hid h2; clear h2)
      refine bodyPost_ret (results_none rfl _ _ _) rfl ?_
      have hh := insertionSort_holds (lt := ltInt) swo_ltInt d1 a1 b1 ha1 (by rw [HS1.out]; omega)
      exact ⟨rfl, HP.out.out HS.out HU.out H2.out hh.1 hh.2⟩
    · have q1 : decide ((l : Int) ≤ 12) = false := by simp; omega
      have hab1 : a1 + 12 < b1 := by have := HL.out; omega
      by_cases hl0 : lm = 0
      · have q2 : ((lm : Int) == 0) = true := by simp; omega
        go_wp2_with (go_at_call 134; refine (heap_calls _ g n c a1 b1 d1 HS1.out HU.out.at_ (by omega) (by omega) hn).mono ?_; rintro e w2 ⟨rfl, h2⟩; have H2 := Lib.hid h2; clear h2)
        refine bodyPost_ret (results_none rfl _ _ _) rfl ?_
        have hh := heapSort_holds (lt := ltInt) swo_ltInt d1 a1 b1 ha1 (by rw [HS1.out]; omega)
        exact ⟨rfl, HP.out.out HS.out HU.out H2.out hh.1 hh.2⟩
      · have q2 : ((lm : Int) == 0) = false := by simp; omega
        have hp1 : 2 ≤ b1 := by omega
        obtain ⟨b2, hb2⟩ : ∃ b2, b2 = b1 - 1 := ⟨_, rfl⟩
        have eb2 : (b1 : Int) - 1 = (b2 : Int) := by omega
        have HB2 := Lib.hid hb2
        clear hb2
        go_upto_if 35 with fail
        go_cut [3] (fun s3 wx => ∃ (l2 : Nat) (d2 : Array Int), s3 = .int .i64 (l2 : Int) ∧ l2 ≤ 1000000 ∧ PInv a b d a1 b1 d2 ∧ UTo w wx g d2)
        case first =>
          cases wb
          · obtain ⟨l3, hl3⟩ : ∃ l3, lm = l3 + 1 := ⟨lm - 1, by omega⟩
            have e3 : (lm : Int) - 1 = (l3 : Int) := by omega
            have hl3b : l3 ≤ 1000000 := by omega
            clear hl3
            go_wp2_with (go_at_call 135; refine (breaks_calls _ g n c a1 b1 d1 HS1.out HU.out.at_ (by omega) (by omega) hn).mono ?_; rintro e w2 ⟨rfl, d2, hz2, hp2, hu2⟩; have HPP := Lib.hid hp2; have HUU := Lib.hid hu2; clear hz2 hp2 hu2)
            go_meet
            exact ⟨l3, d2, rfl, hl3b, HP.out.mix HPP.out, HU.out.trans HUU.out⟩
          · go_wp2_with fail
            go_meet
            exact ⟨lm, d1, rfl, hlm, HP.out, HU.out⟩
        case rest =>
          obtain ⟨l2, d2, rfl, hl2, hP2, hU2⟩ := hcut
          have HP2 := Lib.hid hP2
          have HU2 := Lib.hid hU2
          have HS2 : Hid (d2.size = n) := (hP2.size.trans HS.out : d2.size = n)
          clear hP2 hU2 HP HU HS1
          go_upto_if 50 with (go_at_call 136; refine (pivot_calls _ g n c a1 b1 d2 HS2.out HU2.out.at_ (by omega) (by omega) hn).mono ?_; rintro e w3 ⟨x, hh, rfl, hx, hk3, hu3⟩; have HU3 := Lib.hid (HU2.out.keep_ hk3); clear hk3 hu3)
          go_cut [11, 12] (fun s11 s12 wx => ∃ (x h : Nat) (d3 : Array Int), s11 = .int .i64 (x : Int) ∧ s12 = .int .i64 (h : Int) ∧ (a1 ≤ x ∧ x < b1) ∧ PInv a b d a1 b1 d3 ∧ UTo w wx g d3)
          case first =>
            by_cases h2 : hh = 2
            · have q3 : ((hh : Int) == 2) = true := by simp; omega
              obtain ⟨x2, hx2⟩ : ∃ x2, x2 = b2 - (x - a1) := ⟨_, rfl⟩
              have e4 : (b2 : Int) - ((x : Int) - (a1 : Int)) = (x2 : Int) := by have := HB2.out; omega
              have hx2b : a1 ≤ x2 ∧ x2 < b1 := by have := HB2.out; omega
              clear hx2
              go_wp2_with (go_at_call 137; refine (reverse_calls _ g n c a1 b1 d2 HS2.out HU3.out.at_ (by omega) (by omega) hn).mono ?_; rintro e w4 ⟨rfl, hu4⟩; have HU4 := Lib.hid (HU3.out.trans hu4); clear hu4)
              go_meet
              exact ⟨x2, 1, _, rfl, rfl, hx2b, HP2.out.mix (reverseRange_holds _ _ _ (by omega) (by rw [HS2.out]; omega)), HU4.out⟩
            · have q3 : ((hh : Int) == 2) = false := by simp; omega
              go_wp2_with fail
              go_meet
              exact ⟨x, hh, d2, rfl, rfl, hx, HP2.out, HU3.out⟩
          case rest =>
            obtain ⟨x, h, d3, rfl, rfl, hx, hP3, hU3⟩ := hcut
            have HP3 := Lib.hid hP3
            have HU3 := Lib.hid hU3
            have HS3 : Hid (d3.size = n) := (hP3.size.trans HS.out : d3.size = n)
            clear hP3 hU3 HP2 HU2 HS2
            have hxn : x < n := by omega
            obtain ⟨l8, hl8⟩ : ∃ l8, l8 = l / 8 := ⟨_, rfl⟩
            have el8 : (l : Int) / 8 = (l8 : Int) := by omega
            clear hl8
            cases wb
            · go_wp2_with fail
              by_cases ha0 : a1 = 0
              · have q5 : decide ((0 : Int) < (a1 : Int)) = false := by simp; omega
                have q5n : decide (0 < a1) = false := by simp; omega
                have HLL : Hid (ltInt 0 0 = false) := rfl
                clear ha0
                go_quiet ((go_at_call 139; exact Calls.quiet_of_same (less_b HLL.out _)))
                go_wp2_with fail
                go_at_call 141
                refine (part_calls _ g n c a1 b1 x d3 HS3.out (HU3.out.drewN nq).at_ hx.1 hx.2 (by omega) hn).mono ?_
                rintro e w6 ⟨mid, o, d4, rfl, hr, hu6⟩
                have HR := Lib.hid hr
                have HU6 := Lib.hid ((HU3.out.drewN nq).trans hu6)
                have HS4 : Hid (d4.size = n) := (hr.2.2.1.trans HS3.out : d4.size = n)
                have hm1 := hr.1
                have hm2 := hr.2.1
                obtain ⟨lL, hlL⟩ : ∃ lL, lL = mid - a1 := ⟨_, rfl⟩
                obtain ⟨lR, hlR⟩ : ∃ lR, lR = b1 - mid := ⟨_, rfl⟩
                have elL : (mid : Int) - (a1 : Int) = (lL : Int) := by omega
                have elR : (b1 : Int) - (mid : Int) = (lR : Int) := by omega
                obtain ⟨m1, hmm1⟩ : ∃ m1, m1 = mid + 1 := ⟨_, rfl⟩
                have em1 : (mid : Int) + 1 = (m1 : Int) := by omega
                have HM1 := Lib.hid hmm1
                clear hr hu6 hlL hlR hmm1
                by_cases hlr : lL < lR
                · have q6 : decide ((lL : Int) < (lR : Int)) = true := by simpa using hlr
                  have q6n : decide (lL < lR) = true := by simpa using hlr
                  go_wp2_with fail
                  go_at_call 112
                  refine (HIH.out _ a1 mid l2 d4 (by omega) HS4.out HU6.out.at_ hm1 (by omega) hl2 (HP3.out.belowL HR.out)).mono ?_
                  rintro e w7 ⟨rfl, d5, hs5, hp5, hso5, hu7⟩
                  have HP7 := Lib.hid (HP3.out.left HR.out hp5 hso5)
                  have HU7 := Lib.hid (HU6.out.trans hu7)
                  clear hs5 hp5 hso5 hu7
                  go_wp2_with fail
                  go_roundw
                  case rel => exact ⟨m1, b1, l2, _, o, d5, rfl, rfl, rfl, rfl, rfl, hl2, by rw [HM1.out]; exact HP7.out, HU7.out⟩
                  case measure => have := HM1.out; simp [intOf]; omega
                · have q6 : decide ((lL : Int) < (lR : Int)) = false := by simp; omega
                  have q6n : decide (lL < lR) = false := by simp; omega
                  go_wp2_with fail
                  go_at_call 112
                  refine (HIH.out _ m1 b1 l2 d4 (by have := HM1.out; omega) HS4.out HU6.out.at_ (by have := HM1.out; omega) (by omega) hl2 (by rw [HM1.out]; exact PInv.belowR HR.out)).mono ?_
                  rintro e w7 ⟨rfl, d5, hs5, hp5, hso5, hu7⟩
                  rw [HM1.out] at hp5 hso5
                  have HP7 := Lib.hid (HP3.out.right HR.out hp5 hso5)
                  have HU7 := Lib.hid (HU6.out.trans hu7)
                  clear hs5 hp5 hso5 hu7
                  go_wp2_with fail
                  go_roundw
                  case rel => exact ⟨a1, mid, l2, _, o, d5, rfl, rfl, rfl, rfl, rfl, hl2, HP7.out, HU7.out⟩
                  case measure => simp [intOf]; omega
              · have q5 : decide ((0 : Int) < (a1 : Int)) = true := by simp; omega
                have q5n : decide (0 < a1) = true := by simp; omega
                obtain ⟨a2, ha2⟩ : ∃ a2, a2 = a1 - 1 := ⟨_, rfl⟩
                have ea2 : (a1 : Int) - 1 = (a2 : Int) := by omega
                have ha2n : a2 < n := by omega
                obtain ⟨y, hy, cy, fy⟩ := HU3.out.read HS3.out ha2n
                obtain ⟨z, hz, cz, fz⟩ := HU3.out.read HS3.out hxn
                have HY := Lib.hid hy
                have HZ := Lib.hid hz
                have HA2 := Lib.hid ha2
                clear hy hz ha2
                cases hll : ltInt y z
                · have HLL := Lib.hid hll
                  clear hll
                  go_quiet ((go_at_call 139; exact Calls.quiet_of_same (less_b HLL.out _)))
                  go_wp2_with (go_at_call 140; refine (partEq_calls _ g n c a1 b1 x d3 HS3.out (HU3.out.drewN nq).at_ hx.1 hx.2 (by omega) hn).mono ?_; rintro e w6 ⟨mid, d4, rfl, hr, hu6⟩; have HR := Lib.hid hr; have HU6 := Lib.hid ((HU3.out.drewN nq).trans hu6); have hm1 := hr.1; have hm2 := hr.2.1; clear hr hu6)
                  go_roundw
                  case rel => exact ⟨mid, b1, l2, false, wp, d4, rfl, rfl, rfl, rfl, rfl, hl2, HP3.out.eq (by omega) (by rw [← HZ.out, ← HA2.out, ← HY.out]; exact HLL.out) HR.out, HU6.out⟩
                  case measure => simp [intOf]; omega
                · have HLL := Lib.hid hll
                  clear hll
                  go_quiet ((go_at_call 139; exact Calls.quiet_of_same (less_b HLL.out _)))
                  go_wp2_with fail
                  go_at_call 141
                  refine (part_calls _ g n c a1 b1 x d3 HS3.out (HU3.out.drewN nq).at_ hx.1 hx.2 (by omega) hn).mono ?_
                  rintro e w6 ⟨mid, o, d4, rfl, hr, hu6⟩
                  have HR := Lib.hid hr
                  have HU6 := Lib.hid ((HU3.out.drewN nq).trans hu6)
                  have HS4 : Hid (d4.size = n) := (hr.2.2.1.trans HS3.out : d4.size = n)
                  have hm1 := hr.1
                  have hm2 := hr.2.1
                  obtain ⟨lL, hlL⟩ : ∃ lL, lL = mid - a1 := ⟨_, rfl⟩
                  obtain ⟨lR, hlR⟩ : ∃ lR, lR = b1 - mid := ⟨_, rfl⟩
                  have elL : (mid : Int) - (a1 : Int) = (lL : Int) := by omega
                  have elR : (b1 : Int) - (mid : Int) = (lR : Int) := by omega
                  obtain ⟨m1, hmm1⟩ : ∃ m1, m1 = mid + 1 := ⟨_, rfl⟩
                  have em1 : (mid : Int) + 1 = (m1 : Int) := by omega
                  have HM1 := Lib.hid hmm1
                  clear hr hu6 hlL hlR hmm1
                  by_cases hlr : lL < lR
                  · have q6 : decide ((lL : Int) < (lR : Int)) = true := by simpa using hlr
                    have q6n : decide (lL < lR) = true := by simpa using hlr
                    go_wp2_with fail
                    go_at_call 112
                    refine (HIH.out _ a1 mid l2 d4 (by omega) HS4.out HU6.out.at_ hm1 (by omega) hl2 (HP3.out.belowL HR.out)).mono ?_
                    rintro e w7 ⟨rfl, d5, hs5, hp5, hso5, hu7⟩
                    have HP7 := Lib.hid (HP3.out.left HR.out hp5 hso5)
                    have HU7 := Lib.hid (HU6.out.trans hu7)
                    clear hs5 hp5 hso5 hu7
                    go_wp2_with fail
                    go_roundw
                    case rel => exact ⟨m1, b1, l2, _, o, d5, rfl, rfl, rfl, rfl, rfl, hl2, by rw [HM1.out]; exact HP7.out, HU7.out⟩
                    case measure => have := HM1.out; simp [intOf]; omega
                  · have q6 : decide ((lL : Int) < (lR : Int)) = false := by simp; omega
                    have q6n : decide (lL < lR) = false := by simp; omega
                    go_wp2_with fail
                    go_at_call 112
                    refine (HIH.out _ m1 b1 l2 d4 (by have := HM1.out; omega) HS4.out HU6.out.at_ (by have := HM1.out; omega) (by omega) hl2 (by rw [HM1.out]; exact PInv.belowR HR.out)).mono ?_
                    rintro e w7 ⟨rfl, d5, hs5, hp5, hso5, hu7⟩
                    rw [HM1.out] at hp5 hso5
                    have HP7 := Lib.hid (HP3.out.right HR.out hp5 hso5)
                    have HU7 := Lib.hid (HU6.out.trans hu7)
                    clear hs5 hp5 hso5 hu7
                    go_wp2_with fail
                    go_roundw
                    case rel => exact ⟨a1, mid, l2, _, o, d5, rfl, rfl, rfl, rfl, rfl, hl2, HP7.out, HU7.out⟩
                    case measure => simp [intOf]; omega
            · cases wp
              · go_wp2_with fail
                by_cases ha0 : a1 = 0
                · have q5 : decide ((0 : Int) < (a1 : Int)) = false := by simp; omega
                  have q5n : decide (0 < a1) = false := by simp; omega
                  have HLL : Hid (ltInt 0 0 = false) := rfl
                  clear ha0
                  go_quiet ((go_at_call 139; exact Calls.quiet_of_same (less_b HLL.out _)))
                  go_wp2_with fail
                  go_at_call 141
                  refine (part_calls _ g n c a1 b1 x d3 HS3.out (HU3.out.drewN nq).at_ hx.1 hx.2 (by omega) hn).mono ?_
                  rintro e w6 ⟨mid, o, d4, rfl, hr, hu6⟩
                  have HR := Lib.hid hr
                  have HU6 := Lib.hid ((HU3.out.drewN nq).trans hu6)
                  have HS4 : Hid (d4.size = n) := (hr.2.2.1.trans HS3.out : d4.size = n)
                  have hm1 := hr.1
                  have hm2 := hr.2.1
                  obtain ⟨lL, hlL⟩ : ∃ lL, lL = mid - a1 := ⟨_, rfl⟩
                  obtain ⟨lR, hlR⟩ : ∃ lR, lR = b1 - mid := ⟨_, rfl⟩
                  have elL : (mid : Int) - (a1 : Int) = (lL : Int) := by omega
                  have elR : (b1 : Int) - (mid : Int) = (lR : Int) := by omega
                  obtain ⟨m1, hmm1⟩ : ∃ m1, m1 = mid + 1 := ⟨_, rfl⟩
                  have em1 : (mid : Int) + 1 = (m1 : Int) := by omega
                  have HM1 := Lib.hid hmm1
                  clear hr hu6 hlL hlR hmm1
                  by_cases hlr : lL < lR
                  · have q6 : decide ((lL : Int) < (lR : Int)) = true := by simpa using hlr
                    have q6n : decide (lL < lR) = true := by simpa using hlr
                    go_wp2_with fail
                    go_at_call 112
                    refine (HIH.out _ a1 mid l2 d4 (by omega) HS4.out HU6.out.at_ hm1 (by omega) hl2 (HP3.out.belowL HR.out)).mono ?_
                    rintro e w7 ⟨rfl, d5, hs5, hp5, hso5, hu7⟩
                    have HP7 := Lib.hid (HP3.out.left HR.out hp5 hso5)
                    have HU7 := Lib.hid (HU6.out.trans hu7)
                    clear hs5 hp5 hso5 hu7
                    go_wp2_with fail
                    go_roundw
                    case rel => exact ⟨m1, b1, l2, _, o, d5, rfl, rfl, rfl, rfl, rfl, hl2, by rw [HM1.out]; exact HP7.out, HU7.out⟩
                    case measure => have := HM1.out; simp [intOf]; omega
                  · have q6 : decide ((lL : Int) < (lR : Int)) = false := by simp; omega
                    have q6n : decide (lL < lR) = false := by simp; omega
                    go_wp2_with fail
                    go_at_call 112
                    refine (HIH.out _ m1 b1 l2 d4 (by have := HM1.out; omega) HS4.out HU6.out.at_ (by have := HM1.out; omega) (by omega) hl2 (by rw [HM1.out]; exact PInv.belowR HR.out)).mono ?_
                    rintro e w7 ⟨rfl, d5, hs5, hp5, hso5, hu7⟩
                    rw [HM1.out] at hp5 hso5
                    have HP7 := Lib.hid (HP3.out.right HR.out hp5 hso5)
                    have HU7 := Lib.hid (HU6.out.trans hu7)
                    clear hs5 hp5 hso5 hu7
                    go_wp2_with fail
                    go_roundw
                    case rel => exact ⟨a1, mid, l2, _, o, d5, rfl, rfl, rfl, rfl, rfl, hl2, HP7.out, HU7.out⟩
                    case measure => simp [intOf]; omega
                · have q5 : decide ((0 : Int) < (a1 : Int)) = true := by simp; omega
                  have q5n : decide (0 < a1) = true := by simp; omega
                  obtain ⟨a2, ha2⟩ : ∃ a2, a2 = a1 - 1 := ⟨_, rfl⟩
                  have ea2 : (a1 : Int) - 1 = (a2 : Int) := by omega
                  have ha2n : a2 < n := by omega
                  obtain ⟨y, hy, cy, fy⟩ := HU3.out.read HS3.out ha2n
                  obtain ⟨z, hz, cz, fz⟩ := HU3.out.read HS3.out hxn
                  have HY := Lib.hid hy
                  have HZ := Lib.hid hz
                  have HA2 := Lib.hid ha2
                  clear hy hz ha2
                  cases hll : ltInt y z
                  · have HLL := Lib.hid hll
                    clear hll
                    go_quiet ((go_at_call 139; exact Calls.quiet_of_same (less_b HLL.out _)))
                    go_wp2_with (go_at_call 140; refine (partEq_calls _ g n c a1 b1 x d3 HS3.out (HU3.out.drewN nq).at_ hx.1 hx.2 (by omega) hn).mono ?_; rintro e w6 ⟨mid, d4, rfl, hr, hu6⟩; have HR := Lib.hid hr; have HU6 := Lib.hid ((HU3.out.drewN nq).trans hu6); have hm1 := hr.1; have hm2 := hr.2.1; clear hr hu6)
                    go_roundw
                    case rel => exact ⟨mid, b1, l2, true, false, d4, rfl, rfl, rfl, rfl, rfl, hl2, HP3.out.eq (by omega) (by rw [← HZ.out, ← HA2.out, ← HY.out]; exact HLL.out) HR.out, HU6.out⟩
                    case measure => simp [intOf]; omega
                  · have HLL := Lib.hid hll
                    clear hll
                    go_quiet ((go_at_call 139; exact Calls.quiet_of_same (less_b HLL.out _)))
                    go_wp2_with fail
                    go_at_call 141
                    refine (part_calls _ g n c a1 b1 x d3 HS3.out (HU3.out.drewN nq).at_ hx.1 hx.2 (by omega) hn).mono ?_
                    rintro e w6 ⟨mid, o, d4, rfl, hr, hu6⟩
                    have HR := Lib.hid hr
                    have HU6 := Lib.hid ((HU3.out.drewN nq).trans hu6)
                    have HS4 : Hid (d4.size = n) := (hr.2.2.1.trans HS3.out : d4.size = n)
                    have hm1 := hr.1
                    have hm2 := hr.2.1
                    obtain ⟨lL, hlL⟩ : ∃ lL, lL = mid - a1 := ⟨_, rfl⟩
                    obtain ⟨lR, hlR⟩ : ∃ lR, lR = b1 - mid := ⟨_, rfl⟩
                    have elL : (mid : Int) - (a1 : Int) = (lL : Int) := by omega
                    have elR : (b1 : Int) - (mid : Int) = (lR : Int) := by omega
                    obtain ⟨m1, hmm1⟩ : ∃ m1, m1 = mid + 1 := ⟨_, rfl⟩
                    have em1 : (mid : Int) + 1 = (m1 : Int) := by omega
                    have HM1 := Lib.hid hmm1
                    clear hr hu6 hlL hlR hmm1
                    by_cases hlr : lL < lR
                    · have q6 : decide ((lL : Int) < (lR : Int)) = true := by simpa using hlr
                      have q6n : decide (lL < lR) = true := by simpa using hlr
                      go_wp2_with fail
                      go_at_call 112
                      refine (HIH.out _ a1 mid l2 d4 (by omega) HS4.out HU6.out.at_ hm1 (by omega) hl2 (HP3.out.belowL HR.out)).mono ?_
                      rintro e w7 ⟨rfl, d5, hs5, hp5, hso5, hu7⟩
                      have HP7 := Lib.hid (HP3.out.left HR.out hp5 hso5)
                      have HU7 := Lib.hid (HU6.out.trans hu7)
                      clear hs5 hp5 hso5 hu7
                      go_wp2_with fail
                      go_roundw
                      case rel => exact ⟨m1, b1, l2, _, o, d5, rfl, rfl, rfl, rfl, rfl, hl2, by rw [HM1.out]; exact HP7.out, HU7.out⟩
                      case measure => have := HM1.out; simp [intOf]; omega
                    · have q6 : decide ((lL : Int) < (lR : Int)) = false := by simp; omega
                      have q6n : decide (lL < lR) = false := by simp; omega
                      go_wp2_with fail
                      go_at_call 112
                      refine (HIH.out _ m1 b1 l2 d4 (by have := HM1.out; omega) HS4.out HU6.out.at_ (by have := HM1.out; omega) (by omega) hl2 (by rw [HM1.out]; exact PInv.belowR HR.out)).mono ?_
                      rintro e w7 ⟨rfl, d5, hs5, hp5, hso5, hu7⟩
                      rw [HM1.out] at hp5 hso5
                      have HP7 := Lib.hid (HP3.out.right HR.out hp5 hso5)
                      have HU7 := Lib.hid (HU6.out.trans hu7)
                      clear hs5 hp5 hso5 hu7
                      go_wp2_with fail
                      go_roundw
                      case rel => exact ⟨a1, mid, l2, _, o, d5, rfl, rfl, rfl, rfl, rfl, hl2, HP7.out, HU7.out⟩
                      case measure => simp [intOf]; omega
              · by_cases h1 : h = 1
                · have q4 : ((h : Int) == 1) = true := by simp; omega
                  obtain ⟨hQ1, hQ2⟩ := partialInsertionSort_holds (lt := ltInt) swo_ltInt d3 a1 b1 (by omega) (by rw [HS3.out]; omega) HP3.out.below
                  have HPC := Lib.hid (fun W (hW : UTo w W g d3) => partial_calls W g n c a1 b1 d3 HS3.out hW.at_ (by omega) (by omega) hn)
                  generalize partialInsertionSort ltInt d3 a1 b1 = q at *
                  obtain ⟨dq, oq⟩ := q
                  simp only at hQ1 hQ2
                  have HPC2 : Hid (∀ W, UTo w W g d3 → Calls Tryz.prog 138 #[.slice (some ⟨g, 0, none⟩) n c, .int .i64 (a1 : Int), .int .i64 (b1 : Int)] W fun e w' => e = .returned (.bool oq) ∧ UTo W w' g dq) := HPC.out
                  have HQ1 := Lib.hid hQ1
                  have HQ2 := Lib.hid hQ2
                  clear hQ1 hQ2 HPC
                  cases oq
                  · go_wp2_with (go_at_call 138; (with_reducible refine (HPC2.out _ HU3.out).mono ?_); rintro e w5 ⟨rfl, hu5⟩; have HU5 := Lib.hid (HU3.out.trans hu5); have HP5 := Lib.hid (HP3.out.mix HQ1.out); have HS5 : Hid (dq.size = n) := (HP5.out.size.trans HS.out : dq.size = n); clear hu5 HU3 HP3 HS3)
                    have HU3 := HU5
                    have HP3 := HP5
                    have HS3 := HS5
                    clear HU5 HP5 HS5 HPC2 HQ1 HQ2
                    generalize d3 = d3' at *
                    generalize dq = d3 at *
                    by_cases ha0 : a1 = 0
                    · have q5 : decide ((0 : Int) < (a1 : Int)) = false := by simp; omega
                      have q5n : decide (0 < a1) = false := by simp; omega
                      have HLL : Hid (ltInt 0 0 = false) := rfl
                      clear ha0
                      go_quiet ((go_at_call 139; exact Calls.quiet_of_same (less_b HLL.out _)))
                      go_wp2_with fail
                      go_at_call 141
                      refine (part_calls _ g n c a1 b1 x d3 HS3.out (HU3.out.drewN nq).at_ hx.1 hx.2 (by omega) hn).mono ?_
                      rintro e w6 ⟨mid, o, d4, rfl, hr, hu6⟩
                      have HR := Lib.hid hr
                      have HU6 := Lib.hid ((HU3.out.drewN nq).trans hu6)
                      have HS4 : Hid (d4.size = n) := (hr.2.2.1.trans HS3.out : d4.size = n)
                      have hm1 := hr.1
                      have hm2 := hr.2.1
                      obtain ⟨lL, hlL⟩ : ∃ lL, lL = mid - a1 := ⟨_, rfl⟩
                      obtain ⟨lR, hlR⟩ : ∃ lR, lR = b1 - mid := ⟨_, rfl⟩
                      have elL : (mid : Int) - (a1 : Int) = (lL : Int) := by omega
                      have elR : (b1 : Int) - (mid : Int) = (lR : Int) := by omega
                      obtain ⟨m1, hmm1⟩ : ∃ m1, m1 = mid + 1 := ⟨_, rfl⟩
                      have em1 : (mid : Int) + 1 = (m1 : Int) := by omega
                      have HM1 := Lib.hid hmm1
                      clear hr hu6 hlL hlR hmm1
                      by_cases hlr : lL < lR
                      · have q6 : decide ((lL : Int) < (lR : Int)) = true := by simpa using hlr
                        have q6n : decide (lL < lR) = true := by simpa using hlr
                        go_wp2_with fail
                        go_at_call 112
                        refine (HIH.out _ a1 mid l2 d4 (by omega) HS4.out HU6.out.at_ hm1 (by omega) hl2 (HP3.out.belowL HR.out)).mono ?_
                        rintro e w7 ⟨rfl, d5, hs5, hp5, hso5, hu7⟩
                        have HP7 := Lib.hid (HP3.out.left HR.out hp5 hso5)
                        have HU7 := Lib.hid (HU6.out.trans hu7)
                        clear hs5 hp5 hso5 hu7
                        go_wp2_with fail
                        go_roundw
                        case rel => exact ⟨m1, b1, l2, _, o, d5, rfl, rfl, rfl, rfl, rfl, hl2, by rw [HM1.out]; exact HP7.out, HU7.out⟩
                        case measure => have := HM1.out; simp [intOf]; omega
                      · have q6 : decide ((lL : Int) < (lR : Int)) = false := by simp; omega
                        have q6n : decide (lL < lR) = false := by simp; omega
                        go_wp2_with fail
                        go_at_call 112
                        refine (HIH.out _ m1 b1 l2 d4 (by have := HM1.out; omega) HS4.out HU6.out.at_ (by have := HM1.out; omega) (by omega) hl2 (by rw [HM1.out]; exact PInv.belowR HR.out)).mono ?_
                        rintro e w7 ⟨rfl, d5, hs5, hp5, hso5, hu7⟩
                        rw [HM1.out] at hp5 hso5
                        have HP7 := Lib.hid (HP3.out.right HR.out hp5 hso5)
                        have HU7 := Lib.hid (HU6.out.trans hu7)
                        clear hs5 hp5 hso5 hu7
                        go_wp2_with fail
                        go_roundw
                        case rel => exact ⟨a1, mid, l2, _, o, d5, rfl, rfl, rfl, rfl, rfl, hl2, HP7.out, HU7.out⟩
                        case measure => simp [intOf]; omega
                    · have q5 : decide ((0 : Int) < (a1 : Int)) = true := by simp; omega
                      have q5n : decide (0 < a1) = true := by simp; omega
                      obtain ⟨a2, ha2⟩ : ∃ a2, a2 = a1 - 1 := ⟨_, rfl⟩
                      have ea2 : (a1 : Int) - 1 = (a2 : Int) := by omega
                      have ha2n : a2 < n := by omega
                      obtain ⟨y, hy, cy, fy⟩ := HU3.out.read HS3.out ha2n
                      obtain ⟨z, hz, cz, fz⟩ := HU3.out.read HS3.out hxn
                      have HY := Lib.hid hy
                      have HZ := Lib.hid hz
                      have HA2 := Lib.hid ha2
                      clear hy hz ha2
                      cases hll : ltInt y z
                      · have HLL := Lib.hid hll
                        clear hll
                        go_quiet ((go_at_call 139; exact Calls.quiet_of_same (less_b HLL.out _)))
                        go_wp2_with (go_at_call 140; refine (partEq_calls _ g n c a1 b1 x d3 HS3.out (HU3.out.drewN nq).at_ hx.1 hx.2 (by omega) hn).mono ?_; rintro e w6 ⟨mid, d4, rfl, hr, hu6⟩; have HR := Lib.hid hr; have HU6 := Lib.hid ((HU3.out.drewN nq).trans hu6); have hm1 := hr.1; have hm2 := hr.2.1; clear hr hu6)
                        go_roundw
                        case rel => exact ⟨mid, b1, l2, true, true, d4, rfl, rfl, rfl, rfl, rfl, hl2, HP3.out.eq (by omega) (by rw [← HZ.out, ← HA2.out, ← HY.out]; exact HLL.out) HR.out, HU6.out⟩
                        case measure => simp [intOf]; omega
                      · have HLL := Lib.hid hll
                        clear hll
                        go_quiet ((go_at_call 139; exact Calls.quiet_of_same (less_b HLL.out _)))
                        go_wp2_with fail
                        go_at_call 141
                        refine (part_calls _ g n c a1 b1 x d3 HS3.out (HU3.out.drewN nq).at_ hx.1 hx.2 (by omega) hn).mono ?_
                        rintro e w6 ⟨mid, o, d4, rfl, hr, hu6⟩
                        have HR := Lib.hid hr
                        have HU6 := Lib.hid ((HU3.out.drewN nq).trans hu6)
                        have HS4 : Hid (d4.size = n) := (hr.2.2.1.trans HS3.out : d4.size = n)
                        have hm1 := hr.1
                        have hm2 := hr.2.1
                        obtain ⟨lL, hlL⟩ : ∃ lL, lL = mid - a1 := ⟨_, rfl⟩
                        obtain ⟨lR, hlR⟩ : ∃ lR, lR = b1 - mid := ⟨_, rfl⟩
                        have elL : (mid : Int) - (a1 : Int) = (lL : Int) := by omega
                        have elR : (b1 : Int) - (mid : Int) = (lR : Int) := by omega
                        obtain ⟨m1, hmm1⟩ : ∃ m1, m1 = mid + 1 := ⟨_, rfl⟩
                        have em1 : (mid : Int) + 1 = (m1 : Int) := by omega
                        have HM1 := Lib.hid hmm1
                        clear hr hu6 hlL hlR hmm1
                        by_cases hlr : lL < lR
                        · have q6 : decide ((lL : Int) < (lR : Int)) = true := by simpa using hlr
                          have q6n : decide (lL < lR) = true := by simpa using hlr
                          go_wp2_with fail
                          go_at_call 112
                          refine (HIH.out _ a1 mid l2 d4 (by omega) HS4.out HU6.out.at_ hm1 (by omega) hl2 (HP3.out.belowL HR.out)).mono ?_
                          rintro e w7 ⟨rfl, d5, hs5, hp5, hso5, hu7⟩
                          have HP7 := Lib.hid (HP3.out.left HR.out hp5 hso5)
                          have HU7 := Lib.hid (HU6.out.trans hu7)
                          clear hs5 hp5 hso5 hu7
                          go_wp2_with fail
                          go_roundw
                          case rel => exact ⟨m1, b1, l2, _, o, d5, rfl, rfl, rfl, rfl, rfl, hl2, by rw [HM1.out]; exact HP7.out, HU7.out⟩
                          case measure => have := HM1.out; simp [intOf]; omega
                        · have q6 : decide ((lL : Int) < (lR : Int)) = false := by simp; omega
                          have q6n : decide (lL < lR) = false := by simp; omega
                          go_wp2_with fail
                          go_at_call 112
                          refine (HIH.out _ m1 b1 l2 d4 (by have := HM1.out; omega) HS4.out HU6.out.at_ (by have := HM1.out; omega) (by omega) hl2 (by rw [HM1.out]; exact PInv.belowR HR.out)).mono ?_
                          rintro e w7 ⟨rfl, d5, hs5, hp5, hso5, hu7⟩
                          rw [HM1.out] at hp5 hso5
                          have HP7 := Lib.hid (HP3.out.right HR.out hp5 hso5)
                          have HU7 := Lib.hid (HU6.out.trans hu7)
                          clear hs5 hp5 hso5 hu7
                          go_wp2_with fail
                          go_roundw
                          case rel => exact ⟨a1, mid, l2, _, o, d5, rfl, rfl, rfl, rfl, rfl, hl2, HP7.out, HU7.out⟩
                          case measure => simp [intOf]; omega
                  · go_wp2_with (go_at_call 138; (with_reducible refine (HPC2.out _ HU3.out).mono ?_); rintro e w5 ⟨rfl, hu5⟩; have HU5 := Lib.hid hu5; clear hu5)
                    refine bodyPost_ret (results_none rfl _ _ _) rfl ?_
                    exact ⟨rfl, HP3.out.out HS.out HU3.out HU5.out HQ1.out (HQ2.out (by simp))⟩
                · have q4 : ((h : Int) == 1) = false := by simp; omega
                  go_wp2_with fail
                  by_cases ha0 : a1 = 0
                  · have q5 : decide ((0 : Int) < (a1 : Int)) = false := by simp; omega
                    have q5n : decide (0 < a1) = false := by simp; omega
                    have HLL : Hid (ltInt 0 0 = false) := rfl
                    clear ha0
                    go_quiet ((go_at_call 139; exact Calls.quiet_of_same (less_b HLL.out _)))
                    go_wp2_with fail
                    go_at_call 141
                    refine (part_calls _ g n c a1 b1 x d3 HS3.out (HU3.out.drewN nq).at_ hx.1 hx.2 (by omega) hn).mono ?_
                    rintro e w6 ⟨mid, o, d4, rfl, hr, hu6⟩
                    have HR := Lib.hid hr
                    have HU6 := Lib.hid ((HU3.out.drewN nq).trans hu6)
                    have HS4 : Hid (d4.size = n) := (hr.2.2.1.trans HS3.out : d4.size = n)
                    have hm1 := hr.1
                    have hm2 := hr.2.1
                    obtain ⟨lL, hlL⟩ : ∃ lL, lL = mid - a1 := ⟨_, rfl⟩
                    obtain ⟨lR, hlR⟩ : ∃ lR, lR = b1 - mid := ⟨_, rfl⟩
                    have elL : (mid : Int) - (a1 : Int) = (lL : Int) := by omega
                    have elR : (b1 : Int) - (mid : Int) = (lR : Int) := by omega
                    obtain ⟨m1, hmm1⟩ : ∃ m1, m1 = mid + 1 := ⟨_, rfl⟩
                    have em1 : (mid : Int) + 1 = (m1 : Int) := by omega
                    have HM1 := Lib.hid hmm1
                    clear hr hu6 hlL hlR hmm1
                    by_cases hlr : lL < lR
                    · have q6 : decide ((lL : Int) < (lR : Int)) = true := by simpa using hlr
                      have q6n : decide (lL < lR) = true := by simpa using hlr
                      go_wp2_with fail
                      go_at_call 112
                      refine (HIH.out _ a1 mid l2 d4 (by omega) HS4.out HU6.out.at_ hm1 (by omega) hl2 (HP3.out.belowL HR.out)).mono ?_
                      rintro e w7 ⟨rfl, d5, hs5, hp5, hso5, hu7⟩
                      have HP7 := Lib.hid (HP3.out.left HR.out hp5 hso5)
                      have HU7 := Lib.hid (HU6.out.trans hu7)
                      clear hs5 hp5 hso5 hu7
                      go_wp2_with fail
                      go_roundw
                      case rel => exact ⟨m1, b1, l2, _, o, d5, rfl, rfl, rfl, rfl, rfl, hl2, by rw [HM1.out]; exact HP7.out, HU7.out⟩
                      case measure => have := HM1.out; simp [intOf]; omega
                    · have q6 : decide ((lL : Int) < (lR : Int)) = false := by simp; omega
                      have q6n : decide (lL < lR) = false := by simp; omega
                      go_wp2_with fail
                      go_at_call 112
                      refine (HIH.out _ m1 b1 l2 d4 (by have := HM1.out; omega) HS4.out HU6.out.at_ (by have := HM1.out; omega) (by omega) hl2 (by rw [HM1.out]; exact PInv.belowR HR.out)).mono ?_
                      rintro e w7 ⟨rfl, d5, hs5, hp5, hso5, hu7⟩
                      rw [HM1.out] at hp5 hso5
                      have HP7 := Lib.hid (HP3.out.right HR.out hp5 hso5)
                      have HU7 := Lib.hid (HU6.out.trans hu7)
                      clear hs5 hp5 hso5 hu7
                      go_wp2_with fail
                      go_roundw
                      case rel => exact ⟨a1, mid, l2, _, o, d5, rfl, rfl, rfl, rfl, rfl, hl2, HP7.out, HU7.out⟩
                      case measure => simp [intOf]; omega
                  · have q5 : decide ((0 : Int) < (a1 : Int)) = true := by simp; omega
                    have q5n : decide (0 < a1) = true := by simp; omega
                    obtain ⟨a2, ha2⟩ : ∃ a2, a2 = a1 - 1 := ⟨_, rfl⟩
                    have ea2 : (a1 : Int) - 1 = (a2 : Int) := by omega
                    have ha2n : a2 < n := by omega
                    obtain ⟨y, hy, cy, fy⟩ := HU3.out.read HS3.out ha2n
                    obtain ⟨z, hz, cz, fz⟩ := HU3.out.read HS3.out hxn
                    have HY := Lib.hid hy
                    have HZ := Lib.hid hz
                    have HA2 := Lib.hid ha2
                    clear hy hz ha2
                    cases hll : ltInt y z
                    · have HLL := Lib.hid hll
                      clear hll
                      go_quiet ((go_at_call 139; exact Calls.quiet_of_same (less_b HLL.out _)))
                      go_wp2_with (go_at_call 140; refine (partEq_calls _ g n c a1 b1 x d3 HS3.out (HU3.out.drewN nq).at_ hx.1 hx.2 (by omega) hn).mono ?_; rintro e w6 ⟨mid, d4, rfl, hr, hu6⟩; have HR := Lib.hid hr; have HU6 := Lib.hid ((HU3.out.drewN nq).trans hu6); have hm1 := hr.1; have hm2 := hr.2.1; clear hr hu6)
                      go_roundw
                      case rel => exact ⟨mid, b1, l2, true, true, d4, rfl, rfl, rfl, rfl, rfl, hl2, HP3.out.eq (by omega) (by rw [← HZ.out, ← HA2.out, ← HY.out]; exact HLL.out) HR.out, HU6.out⟩
                      case measure => simp [intOf]; omega
                    · have HLL := Lib.hid hll
                      clear hll
                      go_quiet ((go_at_call 139; exact Calls.quiet_of_same (less_b HLL.out _)))
                      go_wp2_with fail
                      go_at_call 141
                      refine (part_calls _ g n c a1 b1 x d3 HS3.out (HU3.out.drewN nq).at_ hx.1 hx.2 (by omega) hn).mono ?_
                      rintro e w6 ⟨mid, o, d4, rfl, hr, hu6⟩
                      have HR := Lib.hid hr
                      have HU6 := Lib.hid ((HU3.out.drewN nq).trans hu6)
                      have HS4 : Hid (d4.size = n) := (hr.2.2.1.trans HS3.out : d4.size = n)
                      have hm1 := hr.1
                      have hm2 := hr.2.1
                      obtain ⟨lL, hlL⟩ : ∃ lL, lL = mid - a1 := ⟨_, rfl⟩
                      obtain ⟨lR, hlR⟩ : ∃ lR, lR = b1 - mid := ⟨_, rfl⟩
                      have elL : (mid : Int) - (a1 : Int) = (lL : Int) := by omega
                      have elR : (b1 : Int) - (mid : Int) = (lR : Int) := by omega
                      obtain ⟨m1, hmm1⟩ : ∃ m1, m1 = mid + 1 := ⟨_, rfl⟩
                      have em1 : (mid : Int) + 1 = (m1 : Int) := by omega
                      have HM1 := Lib.hid hmm1
                      clear hr hu6 hlL hlR hmm1
                      by_cases hlr : lL < lR
                      · have q6 : decide ((lL : Int) < (lR : Int)) = true := by simpa using hlr
                        have q6n : decide (lL < lR) = true := by simpa using hlr
                        go_wp2_with fail
                        go_at_call 112
                        refine (HIH.out _ a1 mid l2 d4 (by omega) HS4.out HU6.out.at_ hm1 (by omega) hl2 (HP3.out.belowL HR.out)).mono ?_
                        rintro e w7 ⟨rfl, d5, hs5, hp5, hso5, hu7⟩
                        have HP7 := Lib.hid (HP3.out.left HR.out hp5 hso5)
                        have HU7 := Lib.hid (HU6.out.trans hu7)
                        clear hs5 hp5 hso5 hu7
                        go_wp2_with fail
                        go_roundw
                        case rel => exact ⟨m1, b1, l2, _, o, d5, rfl, rfl, rfl, rfl, rfl, hl2, by rw [HM1.out]; exact HP7.out, HU7.out⟩
                        case measure => have := HM1.out; simp [intOf]; omega
                      · have q6 : decide ((lL : Int) < (lR : Int)) = false := by simp; omega
                        have q6n : decide (lL < lR) = false := by simp; omega
                        go_wp2_with fail
                        go_at_call 112
                        refine (HIH.out _ m1 b1 l2 d4 (by have := HM1.out; omega) HS4.out HU6.out.at_ (by have := HM1.out; omega) (by omega) hl2 (by rw [HM1.out]; exact PInv.belowR HR.out)).mono ?_
                        rintro e w7 ⟨rfl, d5, hs5, hp5, hso5, hu7⟩
                        rw [HM1.out] at hp5 hso5
                        have HP7 := Lib.hid (HP3.out.right HR.out hp5 hso5)
                        have HU7 := Lib.hid (HU6.out.trans hu7)
                        clear hs5 hp5 hso5 hu7
                        go_wp2_with fail
                        go_roundw
                        case rel => exact ⟨a1, mid, l2, _, o, d5, rfl, rfl, rfl, rfl, rfl, hl2, HP7.out, HU7.out⟩
                        case measure => simp [intOf]; omega

end Go.Proofs.YtkplffkchanipaaGreatDoor
