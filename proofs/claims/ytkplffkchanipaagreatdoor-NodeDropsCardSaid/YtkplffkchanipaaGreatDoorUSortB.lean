/- The sort's breaking of patterns at whole numbers: some places are exchanged. -/
import Derived.Test.YtkplffkchanipaaGreatDoorUSortA
import Derived.Test.YtkplffkchanipaaGreatDoorShelf
namespace Go.Proofs.YtkplffkchanipaaGreatDoor
open Go.RowKit Go.Sort

theorem bits_u64_bd (o : BinOp) (a b : Int) : 0 ≤ bits o .u64 a b ∧ bits o .u64 a b ≤ 18446744073709551615 := by
  unfold bits
  rw [IntKind.wrap_u64]
  omega
theorem and_u64_le (x : Int) (m : Nat) (hm : m ≤ 18446744073709551615) : bits .and .u64 x (m : Int) ≤ (m : Int) := by
  show IntKind.u64.wrap ((BitVec.ofInt 64 x &&& BitVec.ofInt 64 (m : Int)).toNat : Int) ≤ (m : Int)
  have h2 : (BitVec.ofInt 64 x &&& BitVec.ofInt 64 (m : Int)).toNat ≤ m := by
    rw [BitVec.toNat_and]
    refine Nat.le_trans Nat.and_le_right ?_
    rw [BitVec.toNat_ofInt]
    omega
  rw [IntKind.wrap_u64]
  omega
theorem bitLenAux_le : ∀ (f x : Nat), 1 ≤ x → 2 ^ Lib.bitLenAux f x ≤ 2 * x
  | 0, x, h => by simp [Lib.bitLenAux]; omega
  | f + 1, x, h => by
    unfold Lib.bitLenAux
    rw [if_neg (by omega)]
    by_cases h2 : x / 2 = 0
    · have : Lib.bitLenAux f (x / 2) = 0 := by
        rw [h2]
        cases f with
        | zero => rfl
        | succ f => simp [Lib.bitLenAux]
      rw [this]
      omega
    · have := bitLenAux_le f (x / 2) (by omega)
      rw [Nat.pow_add]
      omega
theorem bitLen_le (x : Nat) (h : 1 ≤ x) : 2 ^ Lib.bitLen x ≤ 2 * x := bitLenAux_le 64 x h

theorem nextPow_calls (w : World) (l : Nat) (h1 : 1 ≤ l) (h2 : l ≤ 1000000000000) :
    Calls Tryz.prog 153 #[.int .i64 (l : Int)] w fun e w' => ∃ m : Nat, e = .returned (.int .u64 (m : Int)) ∧ 1 ≤ m ∧ m ≤ 2 * l ∧ w' = w := by
  have T := Tryz.bits_Len (l : Int) w (by omega) (by omega)
  rw [Int.toNat_natCast] at T
  have hb := bitLen_le l h1
  generalize Lib.bitLen l = L at *
  have hpos : 1 ≤ 2 ^ L := Nat.one_le_two_pow
  have hL : L ≤ 63 := by
    rcases Nat.lt_or_ge 63 L with h | h
    · have : 2 ^ 64 ≤ 2 ^ L := Nat.pow_le_pow_right (by omega) (by omega)
      omega
    · exact h
  have HT := Lib.hid T
  have HB := Lib.hid hb
  have HP := Lib.hid hpos
  clear T hb hpos
  go_enter Tryz.func153, Tryz.ntmps153
  go_wp2_with (go_at_call 113; refine HT.out.mono ?_; rintro e w' ⟨rfl, rfl⟩)
  go_ret
  have hw : IntKind.u64.wrap ((2 : Int) ^ L) = ((2 ^ L : Nat) : Int) := by
    have h1 := HB.out
    have h3 : ((2 ^ L : Nat) : Int) = (2 : Int) ^ L := by push_cast; rfl
    have h4 : (0 : Int) ≤ ((2 ^ L : Nat) : Int) := Int.natCast_nonneg _
    rw [← h3, IntKind.wrap_u64]
    generalize 2 ^ L = M at *
    omega
  exact ⟨2 ^ L, by show Ending.returned (.int .u64 (IntKind.u64.wrap ((2 : Int) ^ L))) = _; rw [hw], HP.out, HB.out, rfl⟩

set_option maxRecDepth 100000 in
theorem next_calls (w : World) (p : Nat) (r : Int) (hc : w.cell? ⟨p, 0, none⟩ = some (.int .u64 r)) (hf : w.frozen? ⟨p, 0, none⟩ = false) :
    Calls Tryz.prog 154 #[.pointer (some ⟨p, 0, none⟩)] w fun e w' => ∃ v : Int, e = .returned (.int .u64 v) ∧ w'.cell? ⟨p, 0, none⟩ = some (.int .u64 v) ∧ w'.frozen? ⟨p, 0, none⟩ = false ∧ Keep [p] w w' := by
  go_enter Tryz.func154, Tryz.ntmps154
  go_wp2
  go_region
  generalize bits BinOp.xor IntKind.u64 r (IntKind.u64.wrap (r * 8192)) = v1
  go_wp2
  obtain ⟨k1, c1, f1⟩ : Keep [p] w (w.setCell ⟨p, 0, none⟩ (.int .u64 v1)).drew ∧ (w.setCell ⟨p, 0, none⟩ (.int .u64 v1)).drew.cell? ⟨p, 0, none⟩ = some (.int .u64 v1) ∧ (w.setCell ⟨p, 0, none⟩ (.int .u64 v1)).drew.frozen? ⟨p, 0, none⟩ = false := ⟨((Keep.refl _ _).setCell (.inl (by simp)) _).drew, World.cell?_setCell_same (h := hc) .., by show World.frozen? _ _ = false; exact (World.frozen?_setCell ..).trans hf⟩
  generalize (w.setCell ⟨p, 0, none⟩ (.int .u64 v1)).drew = w1 at *
  clear hc hf
  go_region
  generalize bits BinOp.xor IntKind.u64 v1 (v1 / 128) = v2
  go_wp2
  obtain ⟨k2, c2, f2⟩ : Keep [p] w1 (w1.setCell ⟨p, 0, none⟩ (.int .u64 v2)).drew ∧ (w1.setCell ⟨p, 0, none⟩ (.int .u64 v2)).drew.cell? ⟨p, 0, none⟩ = some (.int .u64 v2) ∧ (w1.setCell ⟨p, 0, none⟩ (.int .u64 v2)).drew.frozen? ⟨p, 0, none⟩ = false := ⟨((Keep.refl _ _).setCell (.inl (by simp)) _).drew, World.cell?_setCell_same (h := c1) .., by show World.frozen? _ _ = false; exact (World.frozen?_setCell ..).trans f1⟩
  generalize (w1.setCell ⟨p, 0, none⟩ (.int .u64 v2)).drew = w2 at *
  clear c1 f1
  go_region
  generalize bits BinOp.xor IntKind.u64 v2 (IntKind.u64.wrap (v2 * 131072)) = v3
  obtain ⟨k3, c3, f3⟩ : Keep [p] w2 (w2.setCell ⟨p, 0, none⟩ (.int .u64 v3)).drew ∧ (w2.setCell ⟨p, 0, none⟩ (.int .u64 v3)).drew.cell? ⟨p, 0, none⟩ = some (.int .u64 v3) ∧ (w2.setCell ⟨p, 0, none⟩ (.int .u64 v3)).drew.frozen? ⟨p, 0, none⟩ = false := ⟨((Keep.refl _ _).setCell (.inl (by simp)) _).drew, World.cell?_setCell_same (h := c2) .., by show World.frozen? _ _ = false; exact (World.frozen?_setCell ..).trans f2⟩
  generalize (w2.setCell ⟨p, 0, none⟩ (.int .u64 v3)).drew = w3 at *
  clear c2 f2
  go_wp2
  go_ret
  exact ⟨v3, rfl, c3, f3, k1.trans (k2.trans k3)⟩

theorem UTo.other {w W w2 : World} {g p : Nat} {d : Array Int} (h : UTo w W g d) (hk : Keep [p] W w2) (hp : w.heap.size ≤ p) (hpg : g ≠ p) : UTo w w2 g d :=
  ⟨h.at_.keep hk (by simp; exact hpg), h.keep.trans' hk (fun x hx => .inr (by simp at hx; omega))⟩

theorem swap_far {W : World} {g p i j : Nat} {x y v : Value} (h : g ≠ p) (hc : W.cell? ⟨p, 0, none⟩ = some v) : ((W.setCell ⟨g, i, none⟩ x).setCell ⟨g, j, none⟩ y).drew.cell? ⟨p, 0, none⟩ = some v := by
  show World.cell? ((W.setCell ⟨g, i, none⟩ x).setCell ⟨g, j, none⟩ y) ⟨p, 0, none⟩ = some v
  exact (World.cell?_setCell_other (h := fun e => h (Addr.mk.inj e).1) ..).trans ((World.cell?_setCell_other (h := fun e => h (Addr.mk.inj e).1) ..).trans hc)
theorem swap_far_fz {W : World} {g p i j : Nat} {x y : Value} (hf : W.frozen? ⟨p, 0, none⟩ = false) : ((W.setCell ⟨g, i, none⟩ x).setCell ⟨g, j, none⟩ y).drew.frozen? ⟨p, 0, none⟩ = false := by
  show World.frozen? ((W.setCell ⟨g, i, none⟩ x).setCell ⟨g, j, none⟩ y) ⟨p, 0, none⟩ = false
  exact (World.frozen?_setCell ..).trans ((World.frozen?_setCell ..).trans hf)

set_option maxRecDepth 100000 in
set_option maxHeartbeats 4000000 in
theorem breaks_calls (w : World) (g n c a b : Nat) (d : Array Int) (hs : d.size = n) (hd : UAt w g d) (hab : a + 8 ≤ b) (hb : b ≤ n) (hn : n ≤ 1000000000000) :
    Calls Tryz.prog 135 #[.slice (some ⟨g, 0, none⟩) n c, .int .i64 (a : Int), .int .i64 (b : Int)] w fun e w' => e = .returned (.tuple #[]) ∧ ∃ d', d'.size = n ∧ PermIn a b d d' ∧ UTo w w' g d' := by
  obtain ⟨l, hl⟩ : ∃ l, l = b - a := ⟨_, rfl⟩
  obtain ⟨q, hq⟩ : ∃ q, q = l / 4 := ⟨_, rfl⟩
  obtain ⟨i0, hi0⟩ : ∃ i0, i0 + 1 = a + q * 2 := ⟨a + q * 2 - 1, by omega⟩
  have e1 : (b : Int) - (a : Int) = (l : Int) := by omega
  have e2 : (l : Int) / 4 = (q : Int) := by omega
  have e3 : (a : Int) + (q : Int) * 2 - 1 = (i0 : Int) := by omega
  obtain ⟨i2, hi2⟩ : ∃ i2, i2 = i0 + 2 := ⟨_, rfl⟩
  have e4 : (a : Int) + (q : Int) * 2 + 1 = (i2 : Int) := by omega
  have HI2 := Lib.hid hi2
  have hg := hd.lt (by omega)
  have hll : l ≤ 1000000000000 := by omega
  have hq2 : 2 ≤ q := by omega
  have hi3 : i0 + 2 < b := by omega
  have hai : a ≤ i0 := by omega
  have hal : a + l = b := by omega
  have d8 : decide ((8 : Int) ≤ (l : Int)) = true := by simp; omega
  have HN := Lib.hid (fun W => nextPow_calls W l (by omega) hll)
  have HS := Lib.hid hs
  have HAL := Lib.hid hal
  have HU0 : Hid (UTo w (w.alloc (.cells #[.int .u64 (l : Int)] 210)) g d) := ⟨hd.keep ((Keep.refl [] _).alloc _) (by simp), (Keep.refl [g] _).alloc _⟩
  have HC0 : Hid ((w.alloc (.cells #[.int .u64 (l : Int)] 210)).cell? ⟨w.heap.size, 0, none⟩ = some (.int .u64 (l : Int)) ∧ (w.alloc (.cells #[.int .u64 (l : Int)] 210)).frozen? ⟨w.heap.size, 0, none⟩ = false) := ⟨(Blk.new w 210 #[.int .u64 (l : Int)]).cell 0, (Blk.new w 210 #[.int .u64 (l : Int)]).frozen 0⟩
  clear hs hd hl hq hi0 hal hi2
  go_enter Tryz.func135, Tryz.ntmps135
  go_wp2_with (go_at_call 153; refine (HN.out _).mono ?_; rintro _ _ ⟨M, rfl, hM1, hM2, rfl⟩)
  obtain ⟨M1, hM⟩ : ∃ M1, M1 + 1 = M := ⟨M - 1, by omega⟩
  have e5 : (M : Int) - 1 = (M1 : Int) := by omega
  have hM1l : M1 < 2 * l := by omega
  clear hM hM1 hM2
  go_loopw [9] (fun vi W => ∃ (i : Nat) (dk : Array Int) (r : Int), vi = .int .i64 (i : Int) ∧ i0 ≤ i ∧ i ≤ i0 + 3 ∧ dk.size = n ∧ PermIn a b d dk ∧ UTo w W g dk ∧ W.cell? ⟨w.heap.size, 0, none⟩ = some (.int .u64 r) ∧ W.frozen? ⟨w.heap.size, 0, none⟩ = false) (fun vi _ => i0 + 3 - (intOf vi).toNat)
  case atStart => exact ⟨i0, d, _, rfl, Nat.le_refl _, by omega, HS.out, permIn_refl _ _ _, HU0.out, HC0.out.1, HC0.out.2⟩
  case round =>
    obtain ⟨i, dk, r, rfl, hi, hi', hsk, hP, hU, hc, hf⟩ := hrel
    have HU := Lib.hid hU
    have HP := Lib.hid hP
    have HSK := Lib.hid hsk
    have HNX := Lib.hid (next_calls wr w.heap.size r hc hf)
    clear hU hP hsk hc hf
    by_cases hle : i ≤ i2
    · have d1 : decide ((i : Int) ≤ (i2 : Int)) = true := by simpa using hle
      have d1n : decide (i ≤ i2) = true := by simpa using hle
      have hin : i < n := by have := HI2.out; omega
      have hib : i < b := by have := HI2.out; omega
      go_upto_region 7 with fail
      go_wp2_with fail
      go_at_call 154
      refine HNX.out.mono ?_
      rintro _ W2 ⟨v, rfl, hc2, hf2, hk2⟩
      have HU2 := Lib.hid (HU.out.other hk2 (Nat.le_refl _) (by omega))
      have HC2 := Lib.hid hc2
      have HF2 := Lib.hid hf2
      obtain ⟨x, hx⟩ : ∃ x : Nat, bits .and .u64 v (M1 : Int) = (x : Int) := ⟨(bits .and .u64 v (M1 : Int)).toNat, by have := (bits_u64_bd .and v (M1 : Int)).1; omega⟩
      have hxM : x ≤ M1 := by have := and_u64_le v M1 (by omega); omega
      clear hc2 hf2 hk2
      by_cases hxl : l ≤ x
      · have d2 : decide ((l : Int) ≤ (x : Int)) = true := by simpa using hxl
        have d2n : decide (l ≤ x) = true := by simpa using hxl
        obtain ⟨o, ho⟩ : ∃ o, x = l + o := ⟨x - l, by omega⟩
        have e6 : (x : Int) - (l : Int) = (o : Int) := by omega
        have hol : o < l := by omega
        clear ho
        obtain ⟨p, hp⟩ : ∃ p, p = a + o := ⟨_, rfl⟩
        have e7 : (a : Int) + (o : Int) = (p : Int) := by omega
        have hpn : p < n := by omega
        have hpb : p < b := by omega
        have hpa : a ≤ p := by omega
        have HPM : Hid (PermIn a b d (swp dk i p)) := permIn_trans _ _ _ _ _ HP.out (swp_permIn _ _ _ _ _ (by omega) hib hpa hpb (by rw [HSK.out]; exact hb))
        by_cases hip : i = p
        · subst hip
          obtain ⟨y, hy, cy, fy⟩ := HU2.out.read HSK.out hin
          have HY := Lib.hid hy
          clear hy hp
          go_wp2
          go_region
          all_goals
            go_wp2
            go_roundw
            case rel => exact ⟨i + 1, swp dk i i, v, by go_num, by omega, by have := HI2.out; omega, by rw [size_swp]; exact HSK.out, HPM.out, (HU2.out.swap0 HSK.out hin hin HY.out HY.out).drew, swap_far (by omega) HC2.out, swap_far_fz HF2.out⟩
            case measure => simp [intOf]; omega
        · obtain ⟨y, hy, cy, fy⟩ := HU2.out.read HSK.out hpn
          obtain ⟨z, hz, cz, fz⟩ := HU2.out.read HSK.out hin
          have HY := Lib.hid hy
          have HZ := Lib.hid hz
          clear hy hz hp
          go_wp2
          go_region
          all_goals
            go_wp2
            go_roundw
            case rel => exact ⟨i + 1, swp dk i p, v, by go_num, by omega, by have := HI2.out; omega, by rw [size_swp]; exact HSK.out, HPM.out, (HU2.out.swap0 HSK.out hin hpn HY.out HZ.out).drew, swap_far (by omega) HC2.out, swap_far_fz HF2.out⟩
            case measure => simp [intOf]; omega
      · have d2 : decide ((l : Int) ≤ (x : Int)) = false := by simp; omega
        have d2n : decide (l ≤ x) = false := by simp; omega
        have hol : x < l := by omega
        obtain ⟨p, hp⟩ : ∃ p, p = a + x := ⟨_, rfl⟩
        have e7 : (a : Int) + (x : Int) = (p : Int) := by omega
        have hpn : p < n := by omega
        have hpb : p < b := by omega
        have hpa : a ≤ p := by omega
        have HPM : Hid (PermIn a b d (swp dk i p)) := permIn_trans _ _ _ _ _ HP.out (swp_permIn _ _ _ _ _ (by omega) hib hpa hpb (by rw [HSK.out]; exact hb))
        by_cases hip : i = p
        · subst hip
          obtain ⟨y, hy, cy, fy⟩ := HU2.out.read HSK.out hin
          have HY := Lib.hid hy
          clear hy hp
          go_wp2
          go_region
          all_goals
            go_wp2
            go_roundw
            case rel => exact ⟨i + 1, swp dk i i, v, by go_num, by omega, by have := HI2.out; omega, by rw [size_swp]; exact HSK.out, HPM.out, (HU2.out.swap0 HSK.out hin hin HY.out HY.out).drew, swap_far (by omega) HC2.out, swap_far_fz HF2.out⟩
            case measure => simp [intOf]; omega
        · obtain ⟨y, hy, cy, fy⟩ := HU2.out.read HSK.out hpn
          obtain ⟨z, hz, cz, fz⟩ := HU2.out.read HSK.out hin
          have HY := Lib.hid hy
          have HZ := Lib.hid hz
          clear hy hz hp
          go_wp2
          go_region
          all_goals
            go_wp2
            go_roundw
            case rel => exact ⟨i + 1, swp dk i p, v, by go_num, by omega, by have := HI2.out; omega, by rw [size_swp]; exact HSK.out, HPM.out, (HU2.out.swap0 HSK.out hin hpn HY.out HZ.out).drew, swap_far (by omega) HC2.out, swap_far_fz HF2.out⟩
            case measure => simp [intOf]; omega
    · have d1 : decide ((i : Int) ≤ (i2 : Int)) = false := by simp; omega
      have d1n : decide (i ≤ i2) = false := by simp; omega
      go_wp2
      go_end0
      exact ⟨rfl, dk, HSK.out, HP.out, HU.out⟩

end Go.Proofs.YtkplffkchanipaaGreatDoor
/- The sort's partial insertion at whole numbers. -/
namespace Go.Proofs.YtkplffkchanipaaGreatDoor
open Go.RowKit Go.Sort

theorem scanSorted_go (d : Array Int) (b i : Nat) (h : i < b) (hl : ltInt d[i]! d[i - 1]! = false) : scanSorted ltInt d b i = scanSorted ltInt d b (i + 1) := by
  rw [scanSorted, if_pos (by simp [h, hl])]
theorem scanSorted_stop (d : Array Int) (b i : Nat) (h : b ≤ i ∨ ltInt d[i]! d[i - 1]! = true) : scanSorted ltInt d b i = i := by
  rw [scanSorted, if_neg (by rcases h with h | h <;> simp [h]; omega)]
theorem shiftDown_go (j : Nat) (d : Array Int) (hl : ltInt d[j + 1]! d[j]! = true) : shiftDown ltInt (j + 1) d = shiftDown ltInt j (swp d (j + 1) j) := by
  rw [shiftDown, if_neg (by simp [hl])]
theorem shiftDown_stop (j : Nat) (d : Array Int) (h : j = 0 ∨ ltInt d[j]! d[j - 1]! = false) : shiftDown ltInt j d = d := by
  cases j with
  | zero => rfl
  | succ j =>
    rcases h with h | h
    · cases h
    · rw [shiftDown, if_pos (by simpa using h)]
theorem shiftUp_go (b j : Nat) (d : Array Int) (h : j < b) (hl : ltInt d[j]! d[j - 1]! = true) : shiftUp ltInt b j d = shiftUp ltInt b (j + 1) (swp d j (j - 1)) := by
  rw [shiftUp, if_pos h, if_neg (by simp [hl])]
theorem shiftUp_stop (b j : Nat) (d : Array Int) (h : b ≤ j ∨ ltInt d[j]! d[j - 1]! = false) : shiftUp ltInt b j d = d := by
  rw [shiftUp]
  split
  · rw [if_pos (by rcases h with h | h <;> simp [h] <;> omega)]
  · rfl
def dnF (a i : Nat) (d : Array Int) : Array Int := if i - a ≥ 2 then shiftDown ltInt (i - 1) d else d
def upF (b i : Nat) (d : Array Int) : Array Int := if b - i ≥ 2 then shiftUp ltInt b (i + 1) d else d
theorem partialIns_true {a b s i : Nat} {d : Array Int} (h : scanSorted ltInt d b i = b) : partialIns ltInt a b (s + 1) i d = (d, true) := by
  simp only [partialIns, h, if_true]
theorem partialIns_short {a b s i i' : Nat} {d : Array Int} (h : scanSorted ltInt d b i = i') (hne : i' ≠ b) (hs : b - a < 50) : partialIns ltInt a b (s + 1) i d = (d, false) := by
  simp only [partialIns, h, if_neg hne, if_pos hs]
theorem partialIns_go {a b s i i' : Nat} {d : Array Int} (h : scanSorted ltInt d b i = i') (hne : i' ≠ b) (hs : 50 ≤ b - a) : partialIns ltInt a b (s + 1) i d = partialIns ltInt a b s i' (upF b i' (dnF a i' (swp d i' (i' - 1)))) := by
  simp only [partialIns, h, if_neg hne, if_neg (show ¬ b - a < 50 by omega)]
  rfl

set_option maxRecDepth 100000 in
set_option maxHeartbeats 8000000 in
theorem partial_calls (w : World) (g n c a b : Nat) (d : Array Int) (hs : d.size = n) (hd : UAt w g d) (hab : a < b) (hb : b ≤ n) (hn : n ≤ 1000000000000) :
    Calls Tryz.prog 138 #[.slice (some ⟨g, 0, none⟩) n c, .int .i64 (a : Int), .int .i64 (b : Int)] w fun e w' => e = .returned (.bool (partialInsertionSort ltInt d a b).2) ∧ UTo w w' g (partialInsertionSort ltInt d a b).1 := by
  obtain ⟨l, hl⟩ : ∃ l, l = b - a := ⟨_, rfl⟩
  have e1 : (b : Int) - (a : Int) = (l : Int) := by omega
  have HD := Lib.hid hd
  have HS := Lib.hid hs
  have HL := Lib.hid hl
  have HR : Hid (partialInsertionSort ltInt d a b = partialIns ltInt a b 5 (a + 1) d) := (rfl : partialInsertionSort ltInt d a b = partialIns ltInt a b 5 (a + 1) d)
  clear hd hs hl
  go_enter Tryz.func138, Tryz.ntmps138
  go_wp2
  go_loopw [7, 8] (fun vi vk W => ∃ (k i : Nat) (dk : Array Int), vi = .int .i64 (i : Int) ∧ vk = .int .i64 (k : Int) ∧ k ≤ 5 ∧ a < i ∧ i ≤ b ∧ dk.size = n ∧ UTo w W g dk ∧ partialIns ltInt a b (5 - k) i dk = partialIns ltInt a b 5 (a + 1) d) (fun _ vk _ => 5 - (intOf vk).toNat)
  case atStart => exact ⟨0, a + 1, d, by go_num, rfl, by omega, by omega, by omega, HS.out, UTo.refl HD.out, rfl⟩
  case round =>
    obtain ⟨k, i, dk, rfl, rfl, hk, hai, hib, hsk, hU, hO⟩ := hrel
    have HU := Lib.hid hU
    have HO := Lib.hid hO
    have HSK := Lib.hid hsk
    clear hU hO hsk
    by_cases hk5 : k < 5
    · have d1 : decide ((k : Int) < 5) = true := by simp; omega
      obtain ⟨s, hs⟩ : ∃ s, 5 - k = s + 1 := ⟨4 - k, by omega⟩
      have HSS := Lib.hid hs
      clear hs
      go_wp2
      go_loopw [7] (fun vi W => ∃ (j : Nat), vi = .int .i64 (j : Int) ∧ a < j ∧ j ≤ b ∧ UTo w W g dk ∧ scanSorted ltInt dk b j = scanSorted ltInt dk b i) (fun vi _ => b - (intOf vi).toNat)
      case atStart => exact ⟨i, rfl, hai, hib, HU.out, rfl⟩
      case round =>
        obtain ⟨j, rfl, haj, hjb, hV, hI⟩ := hrel
        have HV := Lib.hid hV
        have HI := Lib.hid hI
        clear hV hI
        obtain ⟨m, hm⟩ : ∃ m, j = m + 1 := ⟨j - 1, by omega⟩
        have em : (j : Int) - 1 = (m : Int) := by omega
        have hmn : m < n := by omega
        by_cases hjlt : j < b
        · have d2 : decide ((j : Int) < (b : Int)) = true := by simpa using hjlt
          have d2n : decide (j < b) = true := by simpa using hjlt
          have hjn : j < n := by omega
          obtain ⟨y, hy, cy, fy⟩ := HV.out.read HSK.out hjn
          obtain ⟨x, hx, cx, fx⟩ := HV.out.read HSK.out hmn
          have HX := Lib.hid hx
          have HY := Lib.hid hy
          have HM := Lib.hid hm
          clear hx hy hm
          cases hll : ltInt y x
          · have HLL := Lib.hid hll
            have HG : Hid (scanSorted ltInt dk b j = scanSorted ltInt dk b (j + 1)) := (scanSorted_go dk b j hjlt (by rw [← HY.out, HM.out, Nat.add_sub_cancel, ← HX.out]; exact hll) : scanSorted ltInt dk b j = scanSorted ltInt dk b (j + 1))
            clear hll
            go_wp2
            go_quiet ((go_at_call 139; exact Calls.quiet_of_same (less_b HLL.out _)))
            go_wp2
            go_roundw
            case rel => exact ⟨j + 1, by go_num, by omega, by omega, HV.out.drewN _, by rw [← HG.out]; exact HI.out⟩
            case measure => simp [intOf]; omega
          · have HLL := Lib.hid hll
            have HG : Hid (scanSorted ltInt dk b i = j) := (by rw [← HI.out]; exact scanSorted_stop dk b j (.inr (by rw [← HY.out, HM.out, Nat.add_sub_cancel, ← HX.out]; exact hll)) : scanSorted ltInt dk b i = j)
            clear hll
            have hjne : j ≠ b := by omega
            have d3 : ((j : Int) == (b : Int)) = false := by simp; omega
            by_cases h50 : l < 50
            · have d4 : decide ((l : Int) < 50) = true := by simp; omega
              go_wp2
              go_quiet ((go_at_call 139; exact Calls.quiet_of_same (less_b HLL.out _)))
              go_wp2
              go_ret
              have e : partialInsertionSort ltInt d a b = (dk, false) := by
                rw [HR.out, ← HO.out, HSS.out]
                exact partialIns_short HG.out hjne (by have := HL.out; omega)
              rw [e]
              exact ⟨rfl, HV.out.drewN _⟩
            · have d4 : decide ((l : Int) < 50) = false := by simp; omega
              go_wp2
              go_quiet ((go_at_call 139; exact Calls.quiet_of_same (less_b HLL.out _)))
              go_wp2
              go_region
              have HU3 := Lib.hid (HV.out.swap HSK.out hjn hmn HX.out HY.out (nq + 1))
              have HSZ : Hid ((swp dk j m).size = n) := (by rw [size_swp]; exact HSK.out : (swp dk j m).size = n)
              have HJM : Hid (swp dk j (j - 1) = swp dk j m) := (by rw [HM.out]; rfl : swp dk j (j - 1) = swp dk j m)
              have HLG : Hid (50 ≤ b - a) := (by have := HL.out; omega : 50 ≤ b - a)
              obtain ⟨ja, hja⟩ : ∃ ja, ja = j - a := ⟨_, rfl⟩
              have eja : (j : Int) - (a : Int) = (ja : Int) := by omega
              obtain ⟨bj, hbj⟩ : ∃ bj, bj = b - j := ⟨_, rfl⟩
              have ebj : (b : Int) - (j : Int) = (bj : Int) := by omega
              have HJA := Lib.hid hja
              have HBJ := Lib.hid hbj
              clear cy fy cx fx hja hbj d2 d2n d3 d4
              generalize ((wr.drewN (nq + 1)).setCell ⟨g, j, none⟩ (.int .u64 x)).setCell ⟨g, m, none⟩ (.int .u64 y) = W3 at *
              by_cases h2 : 2 ≤ ja
              · have d5 : decide ((2 : Int) ≤ (ja : Int)) = true := by simp; omega
                go_wp2
                go_loopw [9] (fun vq W => ∃ (q : Nat) (dq : Array Int), vq = .int .i64 (q : Int) ∧ q ≤ m ∧ dq.size = n ∧ UTo w W g dq ∧ shiftDown ltInt q dq = shiftDown ltInt m (swp dk j m)) (fun vq _ => (intOf vq).toNat)
                case atStart => exact ⟨m, _, rfl, Nat.le_refl _, HSZ.out, HU3.out, rfl⟩
                case round =>
                  obtain ⟨q, dq, rfl, hqm, hsq, hQ, hD⟩ := hrel
                  have HQ := Lib.hid hQ
                  have HD := Lib.hid hD
                  have HSQ := Lib.hid hsq
                  clear hQ hD hsq
                  by_cases hq1 : 1 ≤ q
                  · have d6 : decide ((1 : Int) ≤ (q : Int)) = true := by simp; omega
                    obtain ⟨r, hr⟩ : ∃ r, q = r + 1 := ⟨q - 1, by omega⟩
                    have eq1 : (q : Int) - 1 = (r : Int) := by omega
                    have hqn : q < n := by omega
                    have hrn : r < n := by omega
                    obtain ⟨y2, hy2, cy2, fy2⟩ := HQ.out.read HSQ.out hqn
                    obtain ⟨x2, hx2, cx2, fx2⟩ := HQ.out.read HSQ.out hrn
                    have HX2 := Lib.hid hx2
                    have HY2 := Lib.hid hy2
                    have HRR := Lib.hid hr
                    clear hx2 hy2 hr
                    cases hl2 : ltInt y2 x2
                    · have HL2 := Lib.hid hl2
                      have HDN : Hid (dnF a j (swp dk j m) = dq) := (by unfold dnF; rw [if_pos (by have := HJA.out; omega), HM.out, Nat.add_sub_cancel, ← HM.out, ← HD.out]; exact shiftDown_stop q dq (.inr (by rw [← HY2.out, HRR.out, Nat.add_sub_cancel, ← HX2.out]; exact hl2)) : dnF a j (swp dk j m) = dq)
                      clear hl2 d5 d6
                      go_wp2
                      go_quiet ((go_at_call 139; exact Calls.quiet_of_same (less_b HL2.out _)))
                      have HU4 := Lib.hid (HQ.out.drewN nq)
                      clear cy2 fy2 cx2 fx2
                      generalize wr.drewN nq = W4 at *
                      by_cases h3 : 2 ≤ bj
                      · have d7 : decide ((2 : Int) ≤ (bj : Int)) = true := by simp; omega
                        go_wp2
                        go_loopw [10] (fun vr W => ∃ (r : Nat) (dr : Array Int), vr = .int .i64 (r : Int) ∧ j < r ∧ r ≤ b ∧ dr.size = n ∧ UTo w W g dr ∧ shiftUp ltInt b r dr = shiftUp ltInt b (j + 1) dq) (fun vr _ => b - (intOf vr).toNat)
                        case atStart => exact ⟨j + 1, _, by go_num, by omega, by omega, HSQ.out, HU4.out, rfl⟩
                        case round =>
                          obtain ⟨r3, dr, rfl, hr3, hr3b, hsr, hR3, hE3⟩ := hrel
                          have HR3 := Lib.hid hR3
                          have HE3 := Lib.hid hE3
                          have HSR := Lib.hid hsr
                          clear hR3 hE3 hsr
                          obtain ⟨t3, ht3⟩ : ∃ t3, r3 = t3 + 1 := ⟨r3 - 1, by omega⟩
                          have et3 : (r3 : Int) - 1 = (t3 : Int) := by omega
                          have ht3n : t3 < n := by omega
                          have HT3 := Lib.hid ht3
                          clear ht3
                          by_cases hrb : r3 < b
                          · have d8 : decide ((r3 : Int) < (b : Int)) = true := by simpa using hrb
                            have d8n : decide (r3 < b) = true := by simpa using hrb
                            have hr3n : r3 < n := by omega
                            obtain ⟨y3, hy3, cy3, fy3⟩ := HR3.out.read HSR.out hr3n
                            obtain ⟨x3, hx3, cx3, fx3⟩ := HR3.out.read HSR.out ht3n
                            have HX3 := Lib.hid hx3
                            have HY3 := Lib.hid hy3
                            clear hx3 hy3
                            cases hl3 : ltInt y3 x3
                            · have HL3 := Lib.hid hl3
                              have HUP : Hid (upF b j (dnF a j (swp dk j (j - 1))) = dr) := (by rw [HJM.out, HDN.out]; unfold upF; rw [if_pos (by have := HBJ.out; omega), ← HE3.out]; exact shiftUp_stop b r3 dr (.inr (by rw [← HY3.out, HT3.out, Nat.add_sub_cancel, ← HX3.out]; exact hl3)) : upF b j (dnF a j (swp dk j (j - 1))) = dr)
                              clear hl3
                              go_wp2
                              go_quiet ((go_at_call 139; exact Calls.quiet_of_same (less_b HL3.out _)))
                              go_wp2
                              go_roundw
                              case rel => exact ⟨k + 1, j, _, rfl, by go_num, by omega, haj, hjb, HSR.out, (HR3.out.drewN _), by rw [← HO.out, HSS.out, partialIns_go HG.out hjne HLG.out, HUP.out]; have := HSS.out; rw [show 5 - (k + 1) = s by omega]⟩
                              case measure => simp [intOf]; omega
                            · have HL3 := Lib.hid hl3
                              have HGU : Hid (shiftUp ltInt b r3 dr = shiftUp ltInt b (r3 + 1) (swp dr r3 t3)) := (by have h := shiftUp_go b r3 dr hrb (by rw [← HY3.out, HT3.out, Nat.add_sub_cancel, ← HX3.out]; exact hl3); rw [h, HT3.out]; rfl : shiftUp ltInt b r3 dr = shiftUp ltInt b (r3 + 1) (swp dr r3 t3))
                              clear hl3
                              go_wp2
                              go_quiet ((go_at_call 139; exact Calls.quiet_of_same (less_b HL3.out _)))
                              go_wp2
                              go_region
                              go_wp2
                              go_roundw
                              case rel => exact ⟨r3 + 1, swp dr r3 t3, by go_num, by omega, by omega, by rw [size_swp]; exact HSR.out, HR3.out.swap HSR.out hr3n ht3n HX3.out HY3.out _, by rw [← HGU.out]; exact HE3.out⟩
                              case measure => simp [intOf]; omega
                          · have d8 : decide ((r3 : Int) < (b : Int)) = false := by simp; omega
                            have d8n : decide (r3 < b) = false := by simp; omega
                            have HUP : Hid (upF b j (dnF a j (swp dk j (j - 1))) = dr) := (by rw [HJM.out, HDN.out]; unfold upF; rw [if_pos (by have := HBJ.out; omega), ← HE3.out]; exact shiftUp_stop b r3 dr (.inl (by omega)) : upF b j (dnF a j (swp dk j (j - 1))) = dr)
                            go_wp2
                            go_roundw
                            case rel => exact ⟨k + 1, j, _, rfl, by go_num, by omega, haj, hjb, HSR.out, HR3.out, by rw [← HO.out, HSS.out, partialIns_go HG.out hjne HLG.out, HUP.out]; have := HSS.out; rw [show 5 - (k + 1) = s by omega]⟩
                            case measure => simp [intOf]; omega
                      · have d7 : decide ((2 : Int) ≤ (bj : Int)) = false := by simp; omega
                        have HUP : Hid (upF b j (dnF a j (swp dk j (j - 1))) = dq) := (by rw [HJM.out, HDN.out]; unfold upF; rw [if_neg (by have := HBJ.out; omega)] : upF b j (dnF a j (swp dk j (j - 1))) = dq)
                        go_wp2
                        go_roundw
                        case rel => exact ⟨k + 1, j, _, rfl, by go_num, by omega, haj, hjb, HSQ.out, HU4.out, by rw [← HO.out, HSS.out, partialIns_go HG.out hjne HLG.out, HUP.out]; have := HSS.out; rw [show 5 - (k + 1) = s by omega]⟩
                        case measure => simp [intOf]; omega
                    · have HL2 := Lib.hid hl2
                      have HGD : Hid (shiftDown ltInt q dq = shiftDown ltInt r (swp dq q r)) := (by have h := HY2.out; rw [HRR.out] at h ⊢; exact shiftDown_go r dq (by rw [← h, ← HX2.out]; exact hl2) : shiftDown ltInt q dq = shiftDown ltInt r (swp dq q r))
                      clear hl2
                      go_wp2
                      go_quiet ((go_at_call 139; exact Calls.quiet_of_same (less_b HL2.out _)))
                      go_wp2
                      go_region
                      go_wp2
                      go_roundw
                      case rel => exact ⟨r, swp dq q r, rfl, by have := HRR.out; omega, by rw [size_swp]; exact HSQ.out, HQ.out.swap HSQ.out hqn hrn HX2.out HY2.out _, by rw [← HGD.out]; exact HD.out⟩
                      case measure => have := HRR.out; simp [intOf]; omega
                  · have hq0 : q = 0 := by omega
                    have d6 : decide ((1 : Int) ≤ (q : Int)) = false := by simp; omega
                    have HDN : Hid (dnF a j (swp dk j m) = dq) := (by unfold dnF; rw [if_pos (by have := HJA.out; omega), HM.out, Nat.add_sub_cancel, ← HM.out, ← HD.out]; exact shiftDown_stop q dq (.inl hq0) : dnF a j (swp dk j m) = dq)
                    clear hq0 d5
                    by_cases h3 : 2 ≤ bj
                    · have d7 : decide ((2 : Int) ≤ (bj : Int)) = true := by simp; omega
                      go_wp2
                      go_loopw [10] (fun vr W => ∃ (r : Nat) (dr : Array Int), vr = .int .i64 (r : Int) ∧ j < r ∧ r ≤ b ∧ dr.size = n ∧ UTo w W g dr ∧ shiftUp ltInt b r dr = shiftUp ltInt b (j + 1) dq) (fun vr _ => b - (intOf vr).toNat)
                      case atStart => exact ⟨j + 1, _, by go_num, by omega, by omega, HSQ.out, HQ.out, rfl⟩
                      case round =>
                        obtain ⟨r3, dr, rfl, hr3, hr3b, hsr, hR3, hE3⟩ := hrel
                        have HR3 := Lib.hid hR3
                        have HE3 := Lib.hid hE3
                        have HSR := Lib.hid hsr
                        clear hR3 hE3 hsr
                        obtain ⟨t3, ht3⟩ : ∃ t3, r3 = t3 + 1 := ⟨r3 - 1, by omega⟩
                        have et3 : (r3 : Int) - 1 = (t3 : Int) := by omega
                        have ht3n : t3 < n := by omega
                        have HT3 := Lib.hid ht3
                        clear ht3
                        by_cases hrb : r3 < b
                        · have d8 : decide ((r3 : Int) < (b : Int)) = true := by simpa using hrb
                          have d8n : decide (r3 < b) = true := by simpa using hrb
                          have hr3n : r3 < n := by omega
                          obtain ⟨y3, hy3, cy3, fy3⟩ := HR3.out.read HSR.out hr3n
                          obtain ⟨x3, hx3, cx3, fx3⟩ := HR3.out.read HSR.out ht3n
                          have HX3 := Lib.hid hx3
                          have HY3 := Lib.hid hy3
                          clear hx3 hy3
                          cases hl3 : ltInt y3 x3
                          · have HL3 := Lib.hid hl3
                            have HUP : Hid (upF b j (dnF a j (swp dk j (j - 1))) = dr) := (by rw [HJM.out, HDN.out]; unfold upF; rw [if_pos (by have := HBJ.out; omega), ← HE3.out]; exact shiftUp_stop b r3 dr (.inr (by rw [← HY3.out, HT3.out, Nat.add_sub_cancel, ← HX3.out]; exact hl3)) : upF b j (dnF a j (swp dk j (j - 1))) = dr)
                            clear hl3
                            go_wp2
                            go_quiet ((go_at_call 139; exact Calls.quiet_of_same (less_b HL3.out _)))
                            go_wp2
                            go_roundw
                            case rel => exact ⟨k + 1, j, _, rfl, by go_num, by omega, haj, hjb, HSR.out, (HR3.out.drewN _), by rw [← HO.out, HSS.out, partialIns_go HG.out hjne HLG.out, HUP.out]; have := HSS.out; rw [show 5 - (k + 1) = s by omega]⟩
                            case measure => simp [intOf]; omega
                          · have HL3 := Lib.hid hl3
                            have HGU : Hid (shiftUp ltInt b r3 dr = shiftUp ltInt b (r3 + 1) (swp dr r3 t3)) := (by have h := shiftUp_go b r3 dr hrb (by rw [← HY3.out, HT3.out, Nat.add_sub_cancel, ← HX3.out]; exact hl3); rw [h, HT3.out]; rfl : shiftUp ltInt b r3 dr = shiftUp ltInt b (r3 + 1) (swp dr r3 t3))
                            clear hl3
                            go_wp2
                            go_quiet ((go_at_call 139; exact Calls.quiet_of_same (less_b HL3.out _)))
                            go_wp2
                            go_region
                            go_wp2
                            go_roundw
                            case rel => exact ⟨r3 + 1, swp dr r3 t3, by go_num, by omega, by omega, by rw [size_swp]; exact HSR.out, HR3.out.swap HSR.out hr3n ht3n HX3.out HY3.out _, by rw [← HGU.out]; exact HE3.out⟩
                            case measure => simp [intOf]; omega
                        · have d8 : decide ((r3 : Int) < (b : Int)) = false := by simp; omega
                          have d8n : decide (r3 < b) = false := by simp; omega
                          have HUP : Hid (upF b j (dnF a j (swp dk j (j - 1))) = dr) := (by rw [HJM.out, HDN.out]; unfold upF; rw [if_pos (by have := HBJ.out; omega), ← HE3.out]; exact shiftUp_stop b r3 dr (.inl (by omega)) : upF b j (dnF a j (swp dk j (j - 1))) = dr)
                          go_wp2
                          go_roundw
                          case rel => exact ⟨k + 1, j, _, rfl, by go_num, by omega, haj, hjb, HSR.out, HR3.out, by rw [← HO.out, HSS.out, partialIns_go HG.out hjne HLG.out, HUP.out]; have := HSS.out; rw [show 5 - (k + 1) = s by omega]⟩
                          case measure => simp [intOf]; omega
                    · have d7 : decide ((2 : Int) ≤ (bj : Int)) = false := by simp; omega
                      have HUP : Hid (upF b j (dnF a j (swp dk j (j - 1))) = dq) := (by rw [HJM.out, HDN.out]; unfold upF; rw [if_neg (by have := HBJ.out; omega)] : upF b j (dnF a j (swp dk j (j - 1))) = dq)
                      go_wp2
                      go_roundw
                      case rel => exact ⟨k + 1, j, _, rfl, by go_num, by omega, haj, hjb, HSQ.out, HQ.out, by rw [← HO.out, HSS.out, partialIns_go HG.out hjne HLG.out, HUP.out]; have := HSS.out; rw [show 5 - (k + 1) = s by omega]⟩
                      case measure => simp [intOf]; omega
              · have d5 : decide ((2 : Int) ≤ (ja : Int)) = false := by simp; omega
                have HDN : Hid (dnF a j (swp dk j m) = swp dk j m) := (by unfold dnF; rw [if_neg (by have := HJA.out; omega)] : dnF a j (swp dk j m) = swp dk j m)
                by_cases h3 : 2 ≤ bj
                · have d7 : decide ((2 : Int) ≤ (bj : Int)) = true := by simp; omega
                  go_wp2
                  go_loopw [10] (fun vr W => ∃ (r : Nat) (dr : Array Int), vr = .int .i64 (r : Int) ∧ j < r ∧ r ≤ b ∧ dr.size = n ∧ UTo w W g dr ∧ shiftUp ltInt b r dr = shiftUp ltInt b (j + 1) (swp dk j m)) (fun vr _ => b - (intOf vr).toNat)
                  case atStart => exact ⟨j + 1, _, by go_num, by omega, by omega, HSZ.out, HU3.out, rfl⟩
                  case round =>
                    obtain ⟨r3, dr, rfl, hr3, hr3b, hsr, hR3, hE3⟩ := hrel
                    have HR3 := Lib.hid hR3
                    have HE3 := Lib.hid hE3
                    have HSR := Lib.hid hsr
                    clear hR3 hE3 hsr
                    obtain ⟨t3, ht3⟩ : ∃ t3, r3 = t3 + 1 := ⟨r3 - 1, by omega⟩
                    have et3 : (r3 : Int) - 1 = (t3 : Int) := by omega
                    have ht3n : t3 < n := by omega
                    have HT3 := Lib.hid ht3
                    clear ht3
                    by_cases hrb : r3 < b
                    · have d8 : decide ((r3 : Int) < (b : Int)) = true := by simpa using hrb
                      have d8n : decide (r3 < b) = true := by simpa using hrb
                      have hr3n : r3 < n := by omega
                      obtain ⟨y3, hy3, cy3, fy3⟩ := HR3.out.read HSR.out hr3n
                      obtain ⟨x3, hx3, cx3, fx3⟩ := HR3.out.read HSR.out ht3n
                      have HX3 := Lib.hid hx3
                      have HY3 := Lib.hid hy3
                      clear hx3 hy3
                      cases hl3 : ltInt y3 x3
                      · have HL3 := Lib.hid hl3
                        have HUP : Hid (upF b j (dnF a j (swp dk j (j - 1))) = dr) := (by rw [HJM.out, HDN.out]; unfold upF; rw [if_pos (by have := HBJ.out; omega), ← HE3.out]; exact shiftUp_stop b r3 dr (.inr (by rw [← HY3.out, HT3.out, Nat.add_sub_cancel, ← HX3.out]; exact hl3)) : upF b j (dnF a j (swp dk j (j - 1))) = dr)
                        clear hl3
                        go_wp2
                        go_quiet ((go_at_call 139; exact Calls.quiet_of_same (less_b HL3.out _)))
                        go_wp2
                        go_roundw
                        case rel => exact ⟨k + 1, j, _, rfl, by go_num, by omega, haj, hjb, HSR.out, (HR3.out.drewN _), by rw [← HO.out, HSS.out, partialIns_go HG.out hjne HLG.out, HUP.out]; have := HSS.out; rw [show 5 - (k + 1) = s by omega]⟩
                        case measure => simp [intOf]; omega
                      · have HL3 := Lib.hid hl3
                        have HGU : Hid (shiftUp ltInt b r3 dr = shiftUp ltInt b (r3 + 1) (swp dr r3 t3)) := (by have h := shiftUp_go b r3 dr hrb (by rw [← HY3.out, HT3.out, Nat.add_sub_cancel, ← HX3.out]; exact hl3); rw [h, HT3.out]; rfl : shiftUp ltInt b r3 dr = shiftUp ltInt b (r3 + 1) (swp dr r3 t3))
                        clear hl3
                        go_wp2
                        go_quiet ((go_at_call 139; exact Calls.quiet_of_same (less_b HL3.out _)))
                        go_wp2
                        go_region
                        go_wp2
                        go_roundw
                        case rel => exact ⟨r3 + 1, swp dr r3 t3, by go_num, by omega, by omega, by rw [size_swp]; exact HSR.out, HR3.out.swap HSR.out hr3n ht3n HX3.out HY3.out _, by rw [← HGU.out]; exact HE3.out⟩
                        case measure => simp [intOf]; omega
                    · have d8 : decide ((r3 : Int) < (b : Int)) = false := by simp; omega
                      have d8n : decide (r3 < b) = false := by simp; omega
                      have HUP : Hid (upF b j (dnF a j (swp dk j (j - 1))) = dr) := (by rw [HJM.out, HDN.out]; unfold upF; rw [if_pos (by have := HBJ.out; omega), ← HE3.out]; exact shiftUp_stop b r3 dr (.inl (by omega)) : upF b j (dnF a j (swp dk j (j - 1))) = dr)
                      go_wp2
                      go_roundw
                      case rel => exact ⟨k + 1, j, _, rfl, by go_num, by omega, haj, hjb, HSR.out, HR3.out, by rw [← HO.out, HSS.out, partialIns_go HG.out hjne HLG.out, HUP.out]; have := HSS.out; rw [show 5 - (k + 1) = s by omega]⟩
                      case measure => simp [intOf]; omega
                · have d7 : decide ((2 : Int) ≤ (bj : Int)) = false := by simp; omega
                  have HUP : Hid (upF b j (dnF a j (swp dk j (j - 1))) = (swp dk j m)) := (by rw [HJM.out, HDN.out]; unfold upF; rw [if_neg (by have := HBJ.out; omega)] : upF b j (dnF a j (swp dk j (j - 1))) = (swp dk j m))
                  go_wp2
                  go_roundw
                  case rel => exact ⟨k + 1, j, _, rfl, by go_num, by omega, haj, hjb, HSZ.out, HU3.out, by rw [← HO.out, HSS.out, partialIns_go HG.out hjne HLG.out, HUP.out]; have := HSS.out; rw [show 5 - (k + 1) = s by omega]⟩
                  case measure => simp [intOf]; omega
        · obtain rfl : j = b := by omega
          have d2 : decide ((j : Int) < (j : Int)) = false := by simp
          have d2n : decide (j < j) = false := by simp
          have HG : Hid (scanSorted ltInt dk j i = j) := (by rw [← HI.out]; exact scanSorted_stop dk j j (.inl (Nat.le_refl _)) : scanSorted ltInt dk j i = j)
          have HLL : Hid (ltInt 0 0 = false) := rfl
          go_wp2
          go_quiet ((go_at_call 139; exact Calls.quiet_of_same (less_b HLL.out _)))
          go_wp2
          go_ret
          have e : partialInsertionSort ltInt d a j = (dk, true) := by
            rw [HR.out, ← HO.out, HSS.out]
            exact partialIns_true HG.out
          rw [e]
          exact ⟨rfl, HV.out.drewN _⟩
    · obtain rfl : k = 5 := by omega
      go_wp2
      go_ret
      have e : partialInsertionSort ltInt d a b = (dk, false) := by
        rw [HR.out, ← HO.out]
        rfl
      rw [e]
      exact ⟨rfl, HU.out⟩

end Go.Proofs.YtkplffkchanipaaGreatDoor
