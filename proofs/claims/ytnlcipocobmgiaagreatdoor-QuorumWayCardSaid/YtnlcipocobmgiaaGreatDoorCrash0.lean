/- Plain: the names of a disk's files, in order; what a crash leaves. -/
import Derived.Test.YtnlcipocobmgiaaGreatDoorGood
namespace Go.Proofs.YtnlcipocobmgiaaGreatDoor
open Go.RowKit

/-- Names in ascending order. -/
def sorted (l : List (List UInt8)) : List (List UInt8) := l.mergeSort fun x y => decide (x ≤ y)
theorem sorted_perm (l : List (List UInt8)) : (sorted l).Perm l := List.mergeSort_perm _ _

/-- The names of a disk's files, in ascending order. -/
def Dk.all (D : Dk) : List (List UInt8) := sorted (D.files.map (·.1))
theorem Dk.all_len (D : Dk) : D.all.length = D.files.length := by
  have := (sorted_perm (D.files.map (·.1))).length_eq
  simpa [Dk.all] using this

/-- Pick. -/
def pick (l : List Int) (k n : Nat) : Nat := match l[k]? with
  | some x => (x % (n : Int)).toNat
  | none => 0
theorem pick_lt (l : List Int) (k : Nat) {n : Nat} (hn : 1 ≤ n) : pick l k n < n := by
  unfold pick
  split
  · rename_i x _
    have h1 := Int.emod_nonneg x (show (n : Int) ≠ 0 by omega)
    have h2 := Int.emod_lt_of_pos x (show (0 : Int) < (n : Int) by omega)
    omega
  · omega

/-- left. -/
def Fil.left (f : Fil) (ch : List Int) (k : Nat) : St :=
  if f.now.there = true ∧ f.sure.text.length < f.now.text.length ∧ f.sure.text.isPrefixOf f.now.text = true then
    if pick ch k (f.now.text.length - f.sure.text.length + 1) = 0 then f.sure else ⟨true, f.now.text.take (f.sure.text.length + pick ch k (f.now.text.length - f.sure.text.length + 1))⟩
  else if pick ch k 2 = 0 then f.sure else f.now

theorem Fil.Clean.left {f : Fil} (h : f.Clean) (ch : List Int) (k : Nat) : (f.left ch k).Clean := by
  unfold Fil.left
  split
  · split
    · exact h.2
    · intro h; cases h
  · split
    · exact h.2
    · exact h.1
theorem Fil.left_le (f : Fil) (ch : List Int) (k : Nat) : ((f.left ch k).text.length : Int) ≤ f.weight := by
  have h1 := f.weight_now
  have h2 := f.weight_sure
  unfold Fil.left
  split
  · split
    · exact h2
    · simp only [List.length_take]; omega
  · split
    · exact h2
    · exact h1
/-- What a crash leaves of a disk: of each file in turn. -/
def crashL (ch : List Int) : List (List UInt8) → Nat → Dk → Dk
  | [], _, D => D
  | n :: ns, k, D => if (lookF n D.files).now.there = (lookF n D.files).sure.there ∧ (lookF n D.files).now.text = (lookF n D.files).sure.text then crashL ch ns k D else crashL ch ns (k + 1) (D.put n ⟨(lookF n D.files).left ch k, (lookF n D.files).left ch k⟩).1
def Dk.crash (D : Dk) (ch : List Int) : Dk := crashL ch D.all 0 D


end Go.Proofs.YtnlcipocobmgiaaGreatDoor
