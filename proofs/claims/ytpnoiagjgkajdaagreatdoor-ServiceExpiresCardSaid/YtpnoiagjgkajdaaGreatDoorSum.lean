/- The checksum: seal.Sum. -/
import Derived.Test.YtpnoiagjgkajdaaGreatDoorProg
import Derived.Test.YtpnoiagjgkajdaaGreatDoorBase
import Derived.WalkLawsBesides
import Derived.Deep.QuietTactic
import Derived.BigQuiet
import Derived.Deep.RegionHeld3
import Derived.Deep.DeepCutAuto
import Derived.Lib.LaidTab
import Derived.Lib.ItoaNum
namespace Go.Proofs.YtpnoiagjgkajdaaGreatDoor
open Go.RowKit
attribute [local go_sem] size_bs

/-- The table that four steps of the register go by. -/
def tab (i : Nat) : Int := match i with
  | 0 => 0 | 1 => 498536548 | 2 => 997073096 | 3 => 651767980 | 4 => 1994146192 | 5 => 1802195444 | 6 => 1303535960 | 7 => 1342533948
  | 8 => 3988292384 | 9 => 4027552580 | 10 => 3604390888 | 11 => 3412177804 | 12 => 2607071920 | 13 => 2262029012 | 14 => 2685067896 | _ => 3183342108
/-- The variable holds the table. -/
def TabS (w : World) : Prop := ∀ i, i < 16 → w.cell? ⟨0, i, none⟩ = some (.int .u32 (tab i))
/-- There is a table of the powers of ten (nobody needs it here). -/
def TabP (w : World) : Prop := ∃ o, w.heap[1]? = some o
/-- The tables that the program goes by: the checksum's, and the powers of ten. -/
structure Tab (w : World) : Prop where
  s : TabS w
  p : TabP w
/-- None of the tables' blocks. -/
def TOff (M : List Nat) : Prop := 0 ∉ M ∧ 1 ∉ M
@[simp] theorem tOff_iff (M : List Nat) : TOff M ↔ 0 ∉ M ∧ 1 ∉ M := Iff.rfl
theorem tabP_iff (w : World) : TabP w ↔ ∃ (t : Obj) (_ : Unit), w.heap[1]? = some t := ⟨fun ⟨o, h⟩ => ⟨o, (), h⟩, fun ⟨o, _, h⟩ => ⟨o, h⟩⟩
theorem Tab.lt {w : World} (h : Tab w) : 0 < w.heap.size ∧ 1 < w.heap.size := by
  refine ⟨World.block_lt_of_cell? _ _ (h.s 0 (by omega)), ?_⟩
  obtain ⟨t, f, h1⟩ := (tabP_iff w).1 h.p
  rcases Nat.lt_or_ge 1 w.heap.size with hlt | hge
  · exact hlt
  · rw [Array.getElem?_eq_none hge] at h1; cases h1

theorem wrap_u32_bd (n : Int) : 0 ≤ IntKind.u32.wrap n ∧ IntKind.u32.wrap n ≤ 4294967295 := by rw [IntKind.wrap_u32]; omega
theorem bits_u32_bd (o : BinOp) (a b : Int) : 0 ≤ bits o .u32 a b ∧ bits o .u32 a b ≤ 4294967295 := by
  unfold bits
  exact wrap_u32_bd _
theorem and15 (x : Int) : 0 ≤ bits .and .u32 x 15 ∧ bits .and .u32 x 15 < 16 := by
  have h := bits_u32_bd .and x 15
  refine ⟨h.1, ?_⟩
  show IntKind.u32.wrap ((BitVec.ofInt 32 x &&& BitVec.ofInt 32 15).toNat : Int) < 16
  have h2 : (BitVec.ofInt 32 x &&& BitVec.ofInt 32 15).toNat ≤ 15 := by
    rw [BitVec.toNat_and]
    exact Nat.and_le_right
  rw [IntKind.wrap_u32]
  omega
/-- Four steps of the register. -/
def nib (x : Int) : Int := bits .xor .u32 (x / 16) (tab (bits .and .u32 x 15).toNat)
/-- A byte more. -/
def crcB (r : Int) (c : UInt8) : Int := nib (nib (bits .xor .u32 r ((c.toNat : Int) % 4294967296)))
def crcR (l : List UInt8) : Int := l.foldl crcB 4294967295
theorem crcB_bd (r : Int) (c : UInt8) : 0 ≤ crcB r c ∧ crcB r c ≤ 4294967295 := by unfold crcB nib; exact bits_u32_bd _ _ _
/-- The checksum of bytes. -/
def crc (l : List UInt8) : Int := bits .xor .u32 IntKind.u32.max (crcR l)
theorem crc_bd (l : List UInt8) : 0 ≤ crc l ∧ crc l ≤ 4294967295 := bits_u32_bd _ _ _
theorem crcR_bd (l : List UInt8) : 0 ≤ crcR l ∧ crcR l ≤ 4294967295 := by
  unfold crcR
  rcases List.eq_nil_or_concat l with rfl | ⟨l, c, rfl⟩
  · simp
  · rw [List.concat_eq_append, List.foldl_append]; exact crcB_bd _ _
theorem crcR_snoc (l : List UInt8) (c : UInt8) : crcR (l ++ [c]) = crcB (crcR l) c := by simp [crcR]
theorem getElem_bs (l : List UInt8) (i : Nat) (h : i < (bs l).size) (h' : i < l.length) : (bs l)[i]'h = l[i]'h' := rfl

set_option maxHeartbeats 1000000 in
theorem sum_calls (l : List (List UInt8)) (p : Nat) (w : World) (hT : Tab w) (hp : ∀ i, (h : i < l.length) → w.cell? ⟨p, i, none⟩ = some (.string (bs l[i]))) (hl : l.length ≤ 100) (hlen : ∀ x ∈ l, x.length ≤ 4611686018427387904) :
    Calls Tryz.prog 30 #[.slice (some ⟨p, 0, none⟩) l.length l.length] w fun e w' => e = .returned (.int .u32 (crc l.flatten)) ∧ w = w' := by
  have HT := Lib.hid hT
  have HP := Lib.hid hp
  have HL := Lib.hid hlen
  clear hT hp hlen
  go_enter Tryz.func30, Tryz.ntmps30
  go_wp2
  go_loop [3, 5, 6, 9] (fun r s i k => ∃ (rr : Int) (kk : Nat), kk ≤ l.length ∧ r = .int .u32 rr ∧ rr = crcR (l.take kk).flatten ∧ k = .int .i64 kk) (fun _ _ _ k => l.length - (intOf k).toNat)
  case atStart => exact ⟨_, 0, Nat.zero_le _, rfl, rfl, rfl⟩
  case round =>
    obtain ⟨rr, k, hk, rfl, hrr, rfl⟩ := hrel
    by_cases hlt : k < l.length
    · have hc := HP.out k hlt
      have hsl : l[k].length ≤ 4611686018427387904 := HL.out _ (List.getElem_mem hlt)
      have HR : Hid (rr = crcR (l.take k).flatten) := hrr
      have HF : Hid (l.take (k + 1) = l.take k ++ [l[k]]) := by show _ = _; rw [List.take_succ_eq_append_getElem hlt]
      clear hrr
      generalize l[k] = s at *
      go_wp2
      go_loop [3, 6] (fun r i => ∃ (r2 : Int) (j : Nat), j ≤ s.length ∧ r = .int .u32 r2 ∧ r2 = crcR ((l.take k).flatten ++ s.take j) ∧ i = .int .i64 j) (fun _ i => s.length - (intOf i).toNat)
      case atStart => exact ⟨_, 0, Nat.zero_le _, rfl, by rw [HR.out]; simp, rfl⟩
      case round =>
        obtain ⟨r2, j, hj, rfl, hr2, rfl⟩ := hrel
        have HR2 : Hid (r2 = crcR ((l.take k).flatten ++ s.take j)) := hr2
        clear hr2
        by_cases hlt2 : j < s.length
        · have hsz : j < (bs s).size := by simpa using hlt2
          have b1 := and15 (bits .xor .u32 r2 (((bs s)[j].toNat : Int) % 4294967296))
          have t1 := HT.out.s (bits .and .u32 (bits .xor .u32 r2 (((bs s)[j].toNat : Int) % 4294967296)) 15).toNat (by omega)
          obtain ⟨b1a, b1b⟩ := b1
          have b2 := and15 (nib (bits .xor .u32 r2 (((bs s)[j].toNat : Int) % 4294967296)))
          have t2 := HT.out.s (bits .and .u32 (nib (bits .xor .u32 r2 (((bs s)[j].toNat : Int) % 4294967296))) 15).toNat (by omega)
          obtain ⟨b2a, b2b⟩ := b2
          unfold nib at b2a b2b t2
          go_wp2
          go_round
          case rel =>
            refine ⟨_, j + 1, by omega, rfl, ?_, by go_num⟩
            rw [List.take_succ_eq_append_getElem hlt2, ← List.append_assoc, crcR_snoc, ← HR2.out]
            rfl
          case measure => simp [intOf]; omega
        · go_wp2
          go_round
          case rel =>
            refine ⟨_, k + 1, by omega, rfl, ?_, by go_num⟩
            rw [HF.out, HR2.out, List.take_of_length_le (l := s) (by omega)]
            simp
          case measure => simp [intOf]; omega
    · go_wp2
      go_ret
      rw [List.take_of_length_le (by omega)]
      exact ⟨rfl, rfl⟩

end Go.Proofs.YtpnoiagjgkajdaaGreatDoor
