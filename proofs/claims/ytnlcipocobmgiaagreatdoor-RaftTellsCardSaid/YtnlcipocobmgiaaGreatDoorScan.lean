/- The contract of seal.Scan. -/
import Derived.Test.YtnlcipocobmgiaaGreatDoorOpen
namespace Go.Proofs.YtnlcipocobmgiaaGreatDoor
open Go.RowKit
attribute [local go_sem] size_bs bs_append be4_len List.length_append bs_extract

theorem openF_ok {s : List UInt8} (h : (openF s).2.2 = 0) : 8 ≤ (openF s).2.1 ∧ (openF s).2.1 ≤ s.length ∧ (openF s).1.length ≤ s.length := by
  unfold openF at h ⊢
  split at h
  · rename_i a b c d e f g h' r
    have hv := val4_bd a b c d
    split at h
    · simp at h
    · split at h
      · simp at h
      · split at h
        · simp only [List.length_cons]
          rename_i h1 h2 h3
          rw [if_neg h1, if_neg h2, if_pos h3]
          simp only [List.length_take]
          omega
        · simp at h
  · simp at h

/-- Scan: the contents of the frames at the beginning, and how many bytes they have. -/
def scanF : Nat → List UInt8 → List (List UInt8) × Nat
  | 0, _ => ([], 0)
  | k + 1, s => if (openF s).2.2 ≠ 0 then ([], 0) else
    ((openF s).1 :: (scanF k (s.drop (openF s).2.1.toNat)).1, (openF s).2.1.toNat + (scanF k (s.drop (openF s).2.1.toNat)).2)
def scan (s : List UInt8) : List (List UInt8) × Nat := scanF (s.length + 1) s

theorem Tryz.info9 : (Tryz.prog.info? 9).map (fun i => (i.zero, i.size, i.bytes)) = some (some (.string ⟨#[]⟩), 1, 16) := by kernel_rfl

def strs (l : List (List UInt8)) : List Value := l.map fun s => .string (bs s)

def ScanRel (s : List UInt8) (w : World) (v at_ : Value) (wr : World) : Prop :=
  ∃ (acc : List (List UInt8)) (i k : Nat), i ≤ s.length ∧ s.length - i < k ∧ acc.length * 8 ≤ i ∧ at_ = .int .i64 i ∧ wr.ownsRow w.heap.size 9 1 v acc.length (strs acc) ∧ Keep [] w wr ∧
    scan s = (acc ++ (scanF k (s.drop i)).1, i + (scanF k (s.drop i)).2)

def ScanPost (s : List UInt8) (w : World) (e : Ending) (w' : World) : Prop :=
  ∃ v, e = .returned (.tuple #[v, .int .i64 (scan s).2]) ∧ w'.ownsRow w.heap.size 9 1 v (scan s).1.length (strs (scan s).1) ∧ Keep [] w w'

set_option maxRecDepth 100000 in
set_option maxHeartbeats 1000000 in
theorem scan_calls (s : List UInt8) (w : World) (hT : Tab w) (hs : s.length ≤ 1099511627776) :
    Calls Tryz.prog 91 #[.string (bs s)] w (ScanPost s w) := by
  obtain ⟨i0, hi, hz0, hz1, hz2⟩ := info_parts Tryz.info9
  have HT := Lib.hid hT
  clear hT
  go_enter Tryz.func91, Tryz.ntmps91
  go_wp2
  go_loopw [4, 5, 6, 7, 8] (fun v a _ _ _ wr => ScanRel s w v a wr) (fun _ a _ _ _ _ => s.length - (intOf a).toNat)
  case atStart => exact ⟨[], 0, s.length + 1, Nat.zero_le _, by omega, by simp, rfl, World.ownsRow_nil _ _ _ _, Keep.refl _ _, by simp [scan]⟩
  case round =>
    obtain ⟨acc, i, k, hi1, hk1, hacc, rfl, hown, hkeep, hsc⟩ := hrel
    have HSC := Lib.hid hsc
    have HOWN := Lib.hid hown
    have HK := Lib.hid hkeep
    have O := open_calls (s.drop i) wr (HT.out.keep hkeep (by simp)) (by simp; omega)
    unfold OpenTuple at O
    clear hsc hown hkeep
    have hok := @openF_ok (s.drop i)
    obtain ⟨k, rfl⟩ : ∃ k', k = k' + 1 := ⟨k - 1, by omega⟩
    have hsf : scanF (k + 1) (s.drop i) = if (openF (s.drop i)).2.2 ≠ 0 then ([], 0) else
      ((openF (s.drop i)).1 :: (scanF k ((s.drop i).drop (openF (s.drop i)).2.1.toNat)).1, (openF (s.drop i)).2.1.toNat + (scanF k ((s.drop i).drop (openF (s.drop i)).2.1.toNat)).2) := rfl
    generalize openF (s.drop i) = r at *
    obtain ⟨c, n, er⟩ := r
    have HSF := Lib.hid hsf
    have HO := Lib.hid O
    have Hok := Lib.hid hok
    clear hsf O hok
    have hcut : List.take (s.length - i) (s.drop i) = s.drop i := List.take_of_length_le (by simp)
    by_cases h1 : er = 0
    · subst h1
      obtain ⟨hn1, hn2, hn3⟩ := Hok.out rfl
      simp only [List.length_drop] at hn1 hn2 hn3
      go_wp2_with (first
        | (go_at_call 110; refine HO.out.mono ?_; rintro e w1 ⟨rfl, hk1⟩; have HK1 := Lib.hid hk1; clear hk1)
        | (at_builtin; refine wpList_append_own _ rfl _ _ 25 rfl w.heap.size 9 i0 (.string ⟨#[]⟩) 1 16 Tryz.underlying25 hi hz0 hz1 hz2 rfl (by decide) _ _ _ rfl ((HK1.out.owns HOWN.out (by simp)).alloc _) ⟨_, 0, none⟩ 1 1 [.string (bs c)] rfl rfl ?c1 ?c2 ?c3 ?c4 ?c5 ?_))
      case c1 => exact cell_one_new _ _ _
      case c2 => simp [Value.oneCell']
      case c3 => unfold maxLen; omega
      case c4 => omega
      case c5 => have := HK.out.size; have := HK1.out.size; simp; omega
      intro v' w2 hown2 hgrow _
      have HOWN2 := Lib.hid hown2
      have HK2 : Hid (Keep [] w w2) := ((HK.out.trans HK1.out).alloc _).grown hgrow (fun g hg => .inr (HOWN.out.lt g hg).1)
      clear hown2 hgrow
      obtain ⟨n, rfl⟩ := Int.eq_ofNat_of_zero_le (show (0 : Int) ≤ n by omega)
      go_wp2
      go_roundw
      case rel =>
        refine ⟨acc ++ [c], i + n, k, by omega, by omega, by simp; omega, by go_num, by simpa [strs] using HOWN2.out, HK2.out, ?_⟩
        rw [HSC.out, HSF.out, if_neg (by simp)]
        simp [List.drop_drop, Nat.add_assoc]
      case measure => simp [intOf]; omega
    · have hb : (er != 0) = true := by simpa using h1
      have hb2 : (er == 0) = false := by simpa using h1
      go_wp2_with (go_at_call 110; refine HO.out.mono ?_; rintro e w1 ⟨rfl, hk1⟩; have HK1 := Lib.hid hk1; clear hk1)
      go_ret2
      have hfin : scan s = (acc, i) := by
        rw [HSC.out, HSF.out, if_pos (by simpa using h1)]
        simp
      refine ⟨u4, ?_, ?_, HK.out.trans HK1.out⟩
      · rw [hfin]; rfl
      · rw [hfin]; exact HK1.out.owns HOWN.out (by simp)

end Go.Proofs.YtnlcipocobmgiaaGreatDoor
