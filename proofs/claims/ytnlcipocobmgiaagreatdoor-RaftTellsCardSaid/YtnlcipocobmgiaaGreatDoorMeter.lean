/- The contracts of package meter. -/
import Derived.Test.YtnlcipocobmgiaaGreatDoorProg
import Derived.Test.YtnlcipocobmgiaaGreatDoorBase
import Derived.WalkLawsBesides
import Derived.Deep.QuietTactic
import Derived.BigQuiet
import Derived.Deep.RegionHeld3
import Derived.Deep.DeepCutAuto
namespace Go.Proofs.YtnlcipocobmgiaaGreatDoor
open Go.RowKit

/-- What a file is, now or for sure: it is there, with its bytes. -/
structure St where
  there : Bool
  text : List UInt8
/-- A file: its current state, its durable one. -/
structure Fil where
  now : St
  sure : St
def St.none_ : St := ⟨false, []⟩
def Fil.none_ : Fil := ⟨St.none_, St.none_⟩
def Fil.val (f : Fil) : Value := .agg #[.bool f.now.there, .string (bs f.now.text), .bool f.sure.there, .string (bs f.sure.text)]
def Fil.weight (f : Fil) : Int := if f.now.text.length < f.sure.text.length then (f.sure.text.length : Int) else (f.now.text.length : Int)
/-- A disk: its room, how much is used, its luck, its files. -/
structure Dk where
  room : Int
  used : Int
  lost : Bool
  armed : Int
  files : List (List UInt8 × Fil)
def vals (l : List (List UInt8 × Fil)) : List (List UInt8 × Value) := l.map fun p => (p.1, p.2.val)
structure DiskAt (w : World) (b m : Nat) (D : Dk) : Prop where
  blk : Blk w b 108 #[.int .i64 D.room, .int .i64 D.used, .bool D.lost, .int .i64 D.armed, .map (some m)]
  map : MapIs w m (vals D.files)

theorem DiskAt.keep {M : List Nat} {w w' : World} {b m : Nat} {D : Dk} (h : DiskAt w b m D) (hk : Keep M w w') (hb : b ∉ M) (hm : m ∉ M) : DiskAt w' b m D := ⟨h.blk.keep hk hb, h.map.keep hk hm⟩

theorem DiskAt.alloc {w : World} {b m : Nat} {D : Dk} (h : DiskAt w b m D) (o : Obj) : DiskAt (w.alloc o) b m D := h.keep ((Keep.refl [] w).alloc o) (by simp) (by simp)
theorem DiskAt.drew {w : World} {b m : Nat} {D : Dk} (h : DiskAt w b m D) : DiskAt w.drew b m D := ⟨h.blk, h.map⟩
theorem DiskAt.drewN {w : World} {b m : Nat} {D : Dk} (h : DiskAt w b m D) (n : Nat) : DiskAt (w.drewN n) b m D := ⟨h.blk, h.map⟩
section
variable {w : World} {b m : Nat} {D : Dk} (h : DiskAt w b m D)
include h
theorem DiskAt.ne_ : m ≠ b := h.map.ne_ h.blk
theorem DiskAt.c0 : w.cell? ⟨b, 0, none⟩ = some (.int .i64 D.room) := h.blk.cell 0
theorem DiskAt.c1 : w.cell? ⟨b, 1, none⟩ = some (.int .i64 D.used) := h.blk.cell 1
theorem DiskAt.c2 : w.cell? ⟨b, 2, none⟩ = some (.bool D.lost) := h.blk.cell 2
theorem DiskAt.c3 : w.cell? ⟨b, 3, none⟩ = some (.int .i64 D.armed) := h.blk.cell 3
theorem DiskAt.c4 : w.cell? ⟨b, 4, none⟩ = some (.map (some m)) := h.blk.cell 4
theorem DiskAt.used_ (n : Int) : DiskAt (w.setCell ⟨b, 1, none⟩ (.int .i64 n)) b m { D with used := n } := ⟨h.blk.set_ 1 _, h.map.setCell h.ne_ _⟩
theorem DiskAt.armed_ (n : Int) : DiskAt (w.setCell ⟨b, 3, none⟩ (.int .i64 n)) b m { D with armed := n } := ⟨h.blk.set_ 3 _, h.map.setCell h.ne_ _⟩
theorem DiskAt.lost_ (x : Bool) : DiskAt (w.setCell ⟨b, 2, none⟩ (.bool x)) b m { D with lost := x } := ⟨h.blk.set_ 2 _, h.map.setCell h.ne_ _⟩
end

/-- Try: what it answers; the disk behind it. -/
def Dk.tries (D : Dk) : Dk × Int := if D.lost then (D, 14) else if 0 < D.armed then ({ D with armed := D.armed - 1 }, if D.armed = 1 then 8 else 0) else (D, 0)

set_option maxHeartbeats 400000 in
theorem luck_try_lost (b o : Nat) (w : World) (h0 : w.cell? ⟨b, o, none⟩ = some (.bool true)) :
    Calls Tryz.prog 121 #[.pointer (some ⟨b, o, none⟩)] w fun e w' => e = .returned (.int .i64 14) ∧ w = w' := by
  go_enter Tryz.func121, Tryz.ntmps121
  go_wp2
  go_ret
  exact ⟨rfl, rfl⟩

set_option maxHeartbeats 400000 in
theorem luck_try_calm (b o : Nat) (n : Int) (w : World) (h0 : w.cell? ⟨b, o, none⟩ = some (.bool false)) (h1 : w.cell? ⟨b, o + 1, none⟩ = some (.int .i64 n)) (hn : n ≤ 0) :
    Calls Tryz.prog 121 #[.pointer (some ⟨b, o, none⟩)] w fun e w' => e = .returned (.int .i64 0) ∧ w = w' := by
  go_enter Tryz.func121, Tryz.ntmps121
  go_wp2
  go_ret
  exact ⟨rfl, rfl⟩

set_option maxHeartbeats 400000 in
theorem luck_try_armed (b o : Nat) (n : Int) (w : World) (h0 : w.cell? ⟨b, o, none⟩ = some (.bool false)) (h1 : w.cell? ⟨b, o + 1, none⟩ = some (.int .i64 n)) (hf : w.frozen? ⟨b, o + 1, none⟩ = false) (hn : 1 ≤ n) (hn2 : n ≤ 9223372036854775807) :
    Calls Tryz.prog 121 #[.pointer (some ⟨b, o, none⟩)] w fun e w' => e = .returned (.int .i64 (if n = 1 then 8 else 0)) ∧ w' = w.setCell ⟨b, o + 1, none⟩ (.int .i64 (n - 1)) := by
  by_cases h : n = 1
  · subst h
    go_enter Tryz.func121, Tryz.ntmps121
    go_wp2
    go_ret
    exact ⟨rfl, rfl⟩
  · have h2 : ((n - 1 : Int) == 0) = false := by rw [beq_eq_false_iff_ne]; omega
    go_enter Tryz.func121, Tryz.ntmps121
    go_wp2
    go_ret
    exact ⟨rfl, rfl⟩

theorem try_calls {w : World} {b m : Nat} {D : Dk} (h : DiskAt w b m D) (ha : D.armed ≤ 4294967296) :
    Calls Tryz.prog 121 #[.pointer (some ⟨b, 2, none⟩)] w fun e w' => e = .returned (.int .i64 D.tries.2) ∧ DiskAt w' b m D.tries.1 ∧ Keep [b] w w' ∧ w'.heap.size = w.heap.size := by
  cases hl : D.lost with
  | true =>
    refine (luck_try_lost b 2 w (by rw [h.c2, hl])).mono ?_
    rintro e w' ⟨rfl, rfl⟩
    have ht : D.tries = (D, 14) := by simp [Dk.tries, hl]
    rw [ht]
    exact ⟨rfl, h, Keep.refl _ _, rfl⟩
  | false =>
    by_cases hz : 0 < D.armed
    · refine (luck_try_armed b 2 D.armed w (by rw [h.c2, hl]) h.c3 (h.blk.frozen 3) (by omega) (by omega)).mono ?_
      rintro e w' ⟨rfl, rfl⟩
      have ht : D.tries = ({ D with armed := D.armed - 1 }, if D.armed = 1 then 8 else 0) := by simp [Dk.tries, hl, hz]
      rw [ht]
      exact ⟨rfl, h.armed_ _, (Keep.refl _ _).setCell (.inl (by simp)) _, by simp⟩
    · refine (luck_try_calm b 2 D.armed w (by rw [h.c2, hl]) h.c3 (by omega)).mono ?_
      rintro e w' ⟨rfl, rfl⟩
      have ht : D.tries = (D, 0) := by simp [Dk.tries, hl, hz]
      rw [ht]
      exact ⟨rfl, h, Keep.refl _ _, rfl⟩

set_option maxHeartbeats 400000 in
theorem weight_calls (f : Fil) (w : World) (_h1 : f.now.text.length ≤ 4611686018427387904) (_h2 : f.sure.text.length ≤ 4611686018427387904) :
    Calls Tryz.prog 115 #[f.val] w fun e w' => e = .returned (.int .i64 f.weight) ∧ Keep [] w w' := by
  unfold Fil.val
  have s1 : (bs f.now.text).size = f.now.text.length := size_bs _
  have s2 : (bs f.sure.text).size = f.sure.text.length := size_bs _
  by_cases hlt : f.now.text.length < f.sure.text.length
  · go_enter Tryz.func115, Tryz.ntmps115
    go_wp2
    go_ret
    exact ⟨by simp [Fil.weight, hlt], (Keep.refl _ _).alloc _⟩
  · go_enter Tryz.func115, Tryz.ntmps115
    go_wp2
    go_ret
    exact ⟨by simp [Fil.weight, hlt], (Keep.refl _ _).alloc _⟩

set_option maxHeartbeats 400000 in
theorem free_calls {w : World} {b m : Nat} {D : Dk} (h : DiskAt w b m D) (h0 : 0 ≤ D.used) (h1 : D.used ≤ D.room) (h2 : D.room ≤ 4611686018427387904) :
    Calls Tryz.prog 139 #[.pointer (some ⟨b, 0, none⟩)] w fun e w' => e = .returned (.int .i64 (D.room - D.used)) ∧ ∃ n, w' = w.drewN n := by
  have c0 := h.c0
  have c1 := h.c1
  clear h
  go_enter Tryz.func139, Tryz.ntmps139
  go_wp2
  go_quiet (fail)
  go_wp2
  go_ret
  exact ⟨rfl, _, rfl⟩

set_option maxHeartbeats 400000 in
theorem used_calls {w : World} {b m : Nat} {D : Dk} (h : DiskAt w b m D) :
    Calls Tryz.prog 118 #[.pointer (some ⟨b, 0, none⟩)] w fun e w' => e = .returned (.int .i64 D.used) ∧ w = w' := by
  have c1 := h.c1
  clear h
  go_enter Tryz.func118, Tryz.ntmps118
  go_wp2
  go_ret
  exact ⟨rfl, rfl⟩

end Go.Proofs.YtnlcipocobmgiaaGreatDoor
