/- A plain chunk store: places, the map, Sync, add. -/
import Derived.Test.YtkplffkchanipaaGreatDoorMapN
import Derived.Test.YtkplffkchanipaaGreatDoorDisks
import Derived.Test.YtkplffkchanipaaGreatDoorChName
import Derived.Test.YtkplffkchanipaaGreatDoorGoods
namespace Go.Proofs.YtkplffkchanipaaGreatDoor
open Go.RowKit

/-- Where a chunk's record lies. -/
structure Pl where
  seg : Nat
  at_ : Nat
  size : Nat
  head : List UInt8
def Pl.cells (p : Pl) : List Value := .int .i64 (p.seg : Int) :: .int .i64 (p.at_ : Int) :: .int .i64 (p.size : Int) :: p.head.map fun c => .int .u8 (c.toNat : Int)
def Pl.val (p : Pl) : Value := .agg p.cells.toArray
/-- A plain store. -/
structure Ck where
  limit : Int
  map : List (Int × Pl)
  seg : Nat
  size : Nat
  dirty : Bool
def pairs (L : List (Int × Pl)) : List (Int × Value) := L.map fun p => (p.1, p.2.val)
def lookC (s : Int) : List (Int × Pl) → Option Pl
  | [] => none
  | p :: r => if s = p.1 then some p.2 else lookC s r
def putC (s : Int) (v : Pl) : List (Int × Pl) → List (Int × Pl)
  | [] => [(s, v)]
  | p :: r => if s = p.1 then (s, v) :: r else p :: putC s v r
def delC (s : Int) : List (Int × Pl) → List (Int × Pl)
  | [] => []
  | p :: r => if s = p.1 then r else p :: delC s r
theorem look_pairs (s : Int) : ∀ L, lookN s (pairs L) = (lookC s L).map Pl.val
  | [] => rfl
  | p :: r => by
    have ih := look_pairs s r
    simp only [pairs, List.map_cons, lookN, lookC] at *
    split <;> simp_all
theorem put_pairs (s : Int) (v : Pl) : ∀ L, putN s v.val (pairs L) = pairs (putC s v L)
  | [] => rfl
  | p :: r => by
    have ih := put_pairs s v r
    simp only [pairs, List.map_cons, putN, putC] at *
    split <;> simp_all
theorem del_pairs (s : Int) : ∀ L, delN s (pairs L) = pairs (delC s L)
  | [] => rfl
  | p :: r => by
    have ih := del_pairs s r
    simp only [pairs, List.map_cons, delN, delC] at *
    split <;> simp_all
def Ck.cells (C : Ck) (b g : Nat) : Array Value := #[.pointer (some ⟨b, 0, none⟩), .int .i64 C.limit, .map (some g), .int .i64 (C.seg : Int), .int .i64 (C.size : Int), .bool C.dirty]
variable {C : Ck} {D : Dk}
/-- The numbers of a store's map are bounded. -/
structure MapOk (L : List (Int × Pl)) : Prop where
  head : ∀ p ∈ L, p.2.head.length = 8
  key : ∀ p ∈ L, 0 ≤ p.1 ∧ p.1 < 18446744073709551616
  nodup : (L.map (·.1)).Nodup
  pl : ∀ p ∈ L, 1 ≤ p.2.seg ∧ p.2.seg < 100 ∧ p.2.at_ ≤ 1000000000000 ∧ p.2.size ≤ 1000000000000
/-- The numbers of a store are bounded. -/
structure Ck.Ok (C : Ck) : Prop where
  map : MapOk C.map
  lim : 1 ≤ C.limit ∧ C.limit < 9223372036854775808
theorem look_mem (x : Int) : ∀ (L : List (Int × Pl)) (p : Pl), lookC x L = some p → (x, p) ∈ L
  | [], _, h => by simp [lookC] at h
  | q :: r, p, h => by
    simp only [lookC] at h
    split at h
    · rename_i hq
      simp only [Option.some.injEq] at h
      subst hq
      subst h
      simp
    · exact List.mem_cons_of_mem _ (look_mem x r p h)
theorem eightL {l : List UInt8} (h : l.length = 8) : ∃ c0 c1 c2 c3 c4 c5 c6 c7, l = [c0, c1, c2, c3, c4, c5, c6, c7] := by
  match l, h with
  | [c0, c1, c2, c3, c4, c5, c6, c7], _ => exact ⟨c0, c1, c2, c3, c4, c5, c6, c7, rfl⟩
def zeroPl : Pl := ⟨0, 0, 0, [0, 0, 0, 0, 0, 0, 0, 0]⟩
/-- Sync. -/
def Ck.sync (C : Ck) (D : Dk) : Ck × Dk × Int :=
  if C.dirty = true then (if (D.sync (segName C.seg)).2 = 0 then ({ C with dirty := false }, (D.sync (segName C.seg)).1, 0) else (C, (D.sync (segName C.seg)).1, (D.sync (segName C.seg)).2)) else (C, D, 0)

/-- Is the last file full for so many bytes more? -/
def Ck.full (C : Ck) (n : Nat) : Bool := decide (0 < C.size) && decide (C.limit < (C.size : Int) + n)
/-- A frame is appended to the last file. -/
def Ck.put (C : Ck) (D : Dk) (f : List UInt8) : Ck × Dk × Pl × Int :=
  if (D.append (segName C.seg) f).2 = 0 then ({ C with dirty := true, size := C.size + f.length }, (D.append (segName C.seg) f).1, ⟨C.seg, C.size, f.length, f.take 8⟩, 0) else (C, (D.append (segName C.seg) f).1, zeroPl, (D.append (segName C.seg) f).2)
def Ck.next (C : Ck) : Ck := { C with seg := C.seg + 1, size := 0 }
def Ck.add (C : Ck) (D : Dk) (f : List UInt8) : Ck × Dk × Pl × Int :=
  if C.full f.length = true then (if (C.sync D).2.2 = 0 then (C.sync D).1.next.put (C.sync D).2.1 f else ((C.sync D).1, (C.sync D).2.1, zeroPl, (C.sync D).2.2)) else C.put D f
theorem Ck.sync_good (h : D.Good) : (C.sync D).2.1.Good := by
  unfold Ck.sync
  split
  · split <;> exact h.sync _
  · exact h
theorem Ck.sync_same : (C.sync D).1.seg = C.seg ∧ (C.sync D).1.size = C.size ∧ (C.sync D).1.limit = C.limit ∧ (C.sync D).1.map = C.map := by
  unfold Ck.sync
  split
  · split <;> exact ⟨rfl, rfl, rfl, rfl⟩
  · exact ⟨rfl, rfl, rfl, rfl⟩
theorem segName_ne (i : Nat) : segName i ≠ [] := by simp [segName]


end Go.Proofs.YtkplffkchanipaaGreatDoor
