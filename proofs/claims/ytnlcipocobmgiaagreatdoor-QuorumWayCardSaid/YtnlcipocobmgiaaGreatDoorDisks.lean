/- The contracts of package meter. -/
import Derived.Test.YtnlcipocobmgiaaGreatDoorProg
import Derived.Test.YtnlcipocobmgiaaGreatDoorBase
import Derived.WalkLawsBesides
import Derived.Deep.QuietTactic
import Derived.BigQuiet
import Derived.Deep.RegionHeld3
import Derived.Deep.DeepCutAuto
import Derived.StillTailTactics
namespace Go.Proofs.YtnlcipocobmgiaaGreatDoor
open Go.RowKit

/-- What a file is, now or for sure: it is there, with its bytes. -/
structure St where
  there : Bool
  text : List UInt8
/-- A file: its current state, its durable one. -/
structure Fil where
  now : St
  sure : St
def St.none_ : St := ⟨false, []⟩
def Fil.none_ : Fil := ⟨St.none_, St.none_⟩
def Fil.val (f : Fil) : Value := .agg #[.bool f.now.there, .string (bs f.now.text), .bool f.sure.there, .string (bs f.sure.text)]
def Fil.weight (f : Fil) : Int := if f.now.text.length < f.sure.text.length then (f.sure.text.length : Int) else (f.now.text.length : Int)
/-- A disk: its room, how much is used, its luck, its files. -/
structure Dk where
  room : Int
  used : Int
  lost : Bool
  armed : Int
  files : List (List UInt8 × Fil)
def vals (l : List (List UInt8 × Fil)) : List (List UInt8 × Value) := l.map fun p => (p.1, p.2.val)
structure DiskAt (w : World) (b m : Nat) (D : Dk) : Prop where
  blk : Blk w b 108 #[.int .i64 D.room, .int .i64 D.used, .bool D.lost, .int .i64 D.armed, .map (some m)]
  map : MapIs w m (vals D.files)

theorem DiskAt.keep {M : List Nat} {w w' : World} {b m : Nat} {D : Dk} (h : DiskAt w b m D) (hk : Keep M w w') (hb : b ∉ M) (hm : m ∉ M) : DiskAt w' b m D := ⟨h.blk.keep hk hb, h.map.keep hk hm⟩

theorem DiskAt.alloc {w : World} {b m : Nat} {D : Dk} (h : DiskAt w b m D) (o : Obj) : DiskAt (w.alloc o) b m D := h.keep ((Keep.refl [] w).alloc o) (by simp) (by simp)
theorem DiskAt.drew {w : World} {b m : Nat} {D : Dk} (h : DiskAt w b m D) : DiskAt w.drew b m D := ⟨h.blk, h.map⟩
theorem DiskAt.drewN {w : World} {b m : Nat} {D : Dk} (h : DiskAt w b m D) (n : Nat) : DiskAt (w.drewN n) b m D := ⟨h.blk, h.map⟩
section
variable {w : World} {b m : Nat} {D : Dk} (h : DiskAt w b m D)
include h
theorem DiskAt.ne_ : m ≠ b := h.map.ne_ h.blk
theorem DiskAt.c0 : w.cell? ⟨b, 0, none⟩ = some (.int .i64 D.room) := h.blk.cell 0
theorem DiskAt.c1 : w.cell? ⟨b, 1, none⟩ = some (.int .i64 D.used) := h.blk.cell 1
theorem DiskAt.c2 : w.cell? ⟨b, 2, none⟩ = some (.bool D.lost) := h.blk.cell 2
theorem DiskAt.c3 : w.cell? ⟨b, 3, none⟩ = some (.int .i64 D.armed) := h.blk.cell 3
theorem DiskAt.c4 : w.cell? ⟨b, 4, none⟩ = some (.map (some m)) := h.blk.cell 4
theorem DiskAt.used_ (n : Int) : DiskAt (w.setCell ⟨b, 1, none⟩ (.int .i64 n)) b m { D with used := n } := ⟨h.blk.set_ 1 _, h.map.setCell h.ne_ _⟩
theorem DiskAt.armed_ (n : Int) : DiskAt (w.setCell ⟨b, 3, none⟩ (.int .i64 n)) b m { D with armed := n } := ⟨h.blk.set_ 3 _, h.map.setCell h.ne_ _⟩
theorem DiskAt.lost_ (x : Bool) : DiskAt (w.setCell ⟨b, 2, none⟩ (.bool x)) b m { D with lost := x } := ⟨h.blk.set_ 2 _, h.map.setCell h.ne_ _⟩
end

/-- Try: what it answers; the disk behind it. -/
def Dk.tries (D : Dk) : Dk × Int := if D.lost then (D, 14) else if 0 < D.armed then ({ D with armed := D.armed - 1 }, if D.armed = 1 then 8 else 0) else (D, 0)

set_option maxHeartbeats 400000 in
theorem luck_try_lost (b o : Nat) (w : World) (h0 : w.cell? ⟨b, o, none⟩ = some (.bool true)) :
    Calls Tryz.prog 121 #[.pointer (some ⟨b, o, none⟩)] w fun e w' => e = .returned (.int .i64 14) ∧ w = w' := by
  go_enter Tryz.func121, Tryz.ntmps121
  go_wp2
  go_ret
  exact ⟨rfl, rfl⟩

set_option maxHeartbeats 400000 in
theorem luck_try_calm (b o : Nat) (n : Int) (w : World) (h0 : w.cell? ⟨b, o, none⟩ = some (.bool false)) (h1 : w.cell? ⟨b, o + 1, none⟩ = some (.int .i64 n)) (hn : n ≤ 0) :
    Calls Tryz.prog 121 #[.pointer (some ⟨b, o, none⟩)] w fun e w' => e = .returned (.int .i64 0) ∧ w = w' := by
  go_enter Tryz.func121, Tryz.ntmps121
  go_wp2
  go_ret
  exact ⟨rfl, rfl⟩

set_option maxHeartbeats 400000 in
theorem luck_try_armed (b o : Nat) (n : Int) (w : World) (h0 : w.cell? ⟨b, o, none⟩ = some (.bool false)) (h1 : w.cell? ⟨b, o + 1, none⟩ = some (.int .i64 n)) (hf : w.frozen? ⟨b, o + 1, none⟩ = false) (hn : 1 ≤ n) (hn2 : n ≤ 9223372036854775807) :
    Calls Tryz.prog 121 #[.pointer (some ⟨b, o, none⟩)] w fun e w' => e = .returned (.int .i64 (if n = 1 then 8 else 0)) ∧ w' = w.setCell ⟨b, o + 1, none⟩ (.int .i64 (n - 1)) := by
  by_cases h : n = 1
  · subst h
    go_enter Tryz.func121, Tryz.ntmps121
    go_wp2
    go_ret
    exact ⟨rfl, rfl⟩
  · have h2 : ((n - 1 : Int) == 0) = false := by rw [beq_eq_false_iff_ne]; omega
    go_enter Tryz.func121, Tryz.ntmps121
    go_wp2
    go_ret
    exact ⟨rfl, rfl⟩

theorem try_calls {w : World} {b m : Nat} {D : Dk} (h : DiskAt w b m D) (ha : D.armed ≤ 4294967296) :
    Calls Tryz.prog 121 #[.pointer (some ⟨b, 2, none⟩)] w fun e w' => e = .returned (.int .i64 D.tries.2) ∧ DiskAt w' b m D.tries.1 ∧ Keep [b] w w' ∧ w'.heap.size = w.heap.size := by
  cases hl : D.lost with
  | true =>
    refine (luck_try_lost b 2 w (by rw [h.c2, hl])).mono ?_
    rintro e w' ⟨rfl, rfl⟩
    have ht : D.tries = (D, 14) := by simp [Dk.tries, hl]
    rw [ht]
    exact ⟨rfl, h, Keep.refl _ _, rfl⟩
  | false =>
    by_cases hz : 0 < D.armed
    · refine (luck_try_armed b 2 D.armed w (by rw [h.c2, hl]) h.c3 (h.blk.frozen 3) (by omega) (by omega)).mono ?_
      rintro e w' ⟨rfl, rfl⟩
      have ht : D.tries = ({ D with armed := D.armed - 1 }, if D.armed = 1 then 8 else 0) := by simp [Dk.tries, hl, hz]
      rw [ht]
      exact ⟨rfl, h.armed_ _, (Keep.refl _ _).setCell (.inl (by simp)) _, by simp⟩
    · refine (luck_try_calm b 2 D.armed w (by rw [h.c2, hl]) h.c3 (by omega)).mono ?_
      rintro e w' ⟨rfl, rfl⟩
      have ht : D.tries = (D, 0) := by simp [Dk.tries, hl, hz]
      rw [ht]
      exact ⟨rfl, h, Keep.refl _ _, rfl⟩

set_option maxHeartbeats 400000 in
theorem weight_calls (f : Fil) (w : World) (_h1 : f.now.text.length ≤ 4611686018427387904) (_h2 : f.sure.text.length ≤ 4611686018427387904) :
    Calls Tryz.prog 115 #[f.val] w fun e w' => e = .returned (.int .i64 f.weight) ∧ Keep [] w w' := by
  unfold Fil.val
  have s1 : (bs f.now.text).size = f.now.text.length := size_bs _
  have s2 : (bs f.sure.text).size = f.sure.text.length := size_bs _
  by_cases hlt : f.now.text.length < f.sure.text.length
  · go_enter Tryz.func115, Tryz.ntmps115
    go_wp2
    go_ret
    exact ⟨by simp [Fil.weight, hlt], (Keep.refl _ _).alloc _⟩
  · go_enter Tryz.func115, Tryz.ntmps115
    go_wp2
    go_ret
    exact ⟨by simp [Fil.weight, hlt], (Keep.refl _ _).alloc _⟩

set_option maxHeartbeats 400000 in
theorem free_calls {w : World} {b m : Nat} {D : Dk} (h : DiskAt w b m D) (h0 : 0 ≤ D.used) (h1 : D.used ≤ D.room) (h2 : D.room ≤ 4611686018427387904) :
    Calls Tryz.prog 139 #[.pointer (some ⟨b, 0, none⟩)] w fun e w' => e = .returned (.int .i64 (D.room - D.used)) ∧ ∃ n, w' = w.drewN n := by
  have c0 := h.c0
  have c1 := h.c1
  clear h
  go_enter Tryz.func139, Tryz.ntmps139
  go_wp2
  go_quiet (fail)
  go_wp2
  go_ret
  exact ⟨rfl, _, rfl⟩

set_option maxHeartbeats 400000 in
theorem used_calls {w : World} {b m : Nat} {D : Dk} (h : DiskAt w b m D) :
    Calls Tryz.prog 118 #[.pointer (some ⟨b, 0, none⟩)] w fun e w' => e = .returned (.int .i64 D.used) ∧ w = w' := by
  have c1 := h.c1
  clear h
  go_enter Tryz.func118, Tryz.ntmps118
  go_wp2
  go_ret
  exact ⟨rfl, rfl⟩

end Go.Proofs.YtnlcipocobmgiaaGreatDoor
/- The contracts of package platter's inner functions: Take, Give, put. -/
namespace Go.Proofs.YtnlcipocobmgiaaGreatDoor
open Go.RowKit

def lookF (s : List UInt8) : List (List UInt8 × Fil) → Fil
  | [] => Fil.none_
  | p :: l => if s = p.1 then p.2 else lookF s l
def putF (s : List UInt8) (f : Fil) : List (List UInt8 × Fil) → List (List UInt8 × Fil)
  | [] => [(s, f)]
  | p :: l => if s = p.1 then (s, f) :: l else p :: putF s f l
def delF (s : List UInt8) : List (List UInt8 × Fil) → List (List UInt8 × Fil)
  | [] => []
  | p :: l => if s = p.1 then l else p :: delF s l
def wsum : List (List UInt8 × Fil) → Int
  | [] => 0
  | p :: l => p.2.weight + wsum l
theorem look_vals (s : List UInt8) : ∀ l, (lookL s (vals l)).getD Fil.none_.val = (lookF s l).val
  | [] => rfl
  | p :: l => by
    by_cases h : s = p.1
    · simp [vals, lookL, lookF, h]
    · have := look_vals s l
      simp only [vals, lookL, lookF, List.map_cons, h, if_false] at this ⊢
      exact this
theorem put_vals (s : List UInt8) (f : Fil) : ∀ l, putL s f.val (vals l) = vals (putF s f l)
  | [] => rfl
  | p :: l => by
    by_cases h : s = p.1
    · simp [vals, putL, putF, h]
    · have := put_vals s f l
      simp only [vals, putL, putF, List.map_cons, h, if_false] at this ⊢
      rw [this]
theorem del_vals (s : List UInt8) : ∀ l, delL s (vals l) = vals (delF s l)
  | [] => rfl
  | p :: l => by
    by_cases h : s = p.1
    · simp [vals, delL, delF, h]
    · have := del_vals s l
      simp only [vals, delL, delF, List.map_cons, h, if_false] at this ⊢
      rw [this]
theorem Fil.weight_nonneg (f : Fil) : 0 ≤ f.weight := by unfold Fil.weight; split <;> omega
theorem Fil.weight_now (f : Fil) : (f.now.text.length : Int) ≤ f.weight := by unfold Fil.weight; split <;> omega
theorem Fil.weight_sure (f : Fil) : (f.sure.text.length : Int) ≤ f.weight := by unfold Fil.weight; split <;> omega
theorem wsum_nonneg : ∀ l, 0 ≤ wsum l
  | [] => Int.le_refl _
  | p :: l => by have := wsum_nonneg l; have := p.2.weight_nonneg; simp only [wsum]; omega
theorem look_le (s : List UInt8) : ∀ l, (lookF s l).weight ≤ wsum l
  | [] => by simp [lookF, wsum, Fil.weight, Fil.none_, St.none_]
  | p :: l => by
    have h1 := look_le s l
    have h2 := wsum_nonneg l
    have h3 := p.2.weight_nonneg
    simp only [lookF, wsum]
    split <;> omega
theorem put_sum (s : List UInt8) (f : Fil) : ∀ l, wsum (putF s f l) = wsum l + f.weight - (lookF s l).weight
  | [] => by simp [putF, wsum, lookF, Fil.weight, Fil.none_, St.none_]
  | p :: l => by
    have h1 := put_sum s f l
    simp only [putF, wsum, lookF]
    split <;> (try simp only [wsum]) <;> omega
theorem del_sum (s : List UInt8) : ∀ l, wsum (delF s l) = wsum l - (lookF s l).weight
  | [] => by simp [delF, wsum, lookF, Fil.weight, Fil.none_, St.none_]
  | p :: l => by
    have h1 := del_sum s l
    simp only [delF, wsum, lookF]
    split <;> (try simp only [wsum]) <;> omega

/-- What holds of every disk: its use is the sum of its files' weights, within its room. -/
structure Dk.Ok (D : Dk) : Prop where
  room : D.room ≤ 274877906944
  used : D.used = wsum D.files
  fits : D.used ≤ D.room
  armed : D.armed ≤ 4294967296
theorem Dk.Ok.nonneg {D : Dk} (h : D.Ok) : 0 ≤ D.used := by rw [h.used]; exact wsum_nonneg _
theorem Dk.Ok.weight {D : Dk} (h : D.Ok) (s : List UInt8) : (lookF s D.files).weight ≤ D.used := by rw [h.used]; exact look_le s _
theorem Dk.Ok.tries {D : Dk} (h : D.Ok) : D.tries.1.Ok := by
  obtain ⟨h1, h2, h3, h4⟩ := h
  unfold Dk.tries
  split
  · exact ⟨h1, h2, h3, h4⟩
  · split
    · exact ⟨h1, h2, h3, by show D.armed - 1 ≤ _; omega⟩
    · exact ⟨h1, h2, h3, h4⟩

def Dk.store (D : Dk) (name : List UInt8) (f : Fil) : Dk :=
  { D with used := D.used + (f.weight - (lookF name D.files).weight), files := if f.now.there || f.sure.there then putF name f D.files else delF name D.files }
/-- put: a file is f, if there is room. -/
def Dk.put (D : Dk) (name : List UInt8) (f : Fil) : Dk × Int :=
  if D.room - D.used < f.weight - (lookF name D.files).weight then (D, 7) else (D.store name f, 0)

set_option maxHeartbeats 400000 in
theorem fits_calls {w : World} {b m : Nat} {D : Dk} (h : DiskAt w b m D) (h0 : 0 ≤ D.used) (h1 : D.used ≤ D.room) (h2 : D.room ≤ 1099511627776) (n : Int) :
    Calls Tryz.prog 133 #[.pointer (some ⟨b, 0, none⟩), .int .i64 n] w fun e w' => e = .returned (.bool (decide (n ≤ D.room - D.used))) ∧ ∃ k, w' = w.drewN k := by
  go_enter Tryz.func133, Tryz.ntmps133
  go_wp2_with (go_at_call 139; refine (free_calls h h0 h1 (by omega)).mono ?_; rintro e w' ⟨rfl, k, rfl⟩)
  go_ret
  exact ⟨rfl, _, rfl⟩

set_option maxHeartbeats 400000 in
theorem take_ok {w : World} {b m : Nat} {D : Dk} (h : DiskAt w b m D) (h0 : 0 ≤ D.used) (h1 : D.used ≤ D.room) (h2 : D.room ≤ 1099511627776) (n : Int) (hn : 0 ≤ n) (hf : n ≤ D.room - D.used) :
    Calls Tryz.prog 116 #[.pointer (some ⟨b, 0, none⟩), .int .i64 n] w fun e w' => e = .returned (.int .i64 0) ∧ DiskAt w' b m { D with used := D.used + n } ∧ Keep [b] w w' := by
  have c1 := h.c1
  have f1 := h.blk.frozen 1
  have hd : decide (n ≤ D.room - D.used) = true := by simpa using hf
  have H := Lib.hid h
  clear h
  go_enter Tryz.func116, Tryz.ntmps116
  go_wp2_with (go_at_call 133; refine (fits_calls H.out h0 h1 h2 n).mono ?_; rintro e w' ⟨rfl, k, rfl⟩)
  go_ret
  exact ⟨rfl, (H.out.drewN _).used_ _, (((Keep.refl _ _).drewN _).setCell (.inl (by simp)) _)⟩

set_option maxHeartbeats 400000 in
theorem take_full {w : World} {b m : Nat} {D : Dk} (h : DiskAt w b m D) (h0 : 0 ≤ D.used) (h1 : D.used ≤ D.room) (h2 : D.room ≤ 1099511627776) (n : Int) (hn : 0 ≤ n) (hf : D.room - D.used < n) :
    Calls Tryz.prog 116 #[.pointer (some ⟨b, 0, none⟩), .int .i64 n] w fun e w' => e = .returned (.int .i64 7) ∧ DiskAt w' b m D ∧ Keep [b] w w' := by
  have hd : decide (n ≤ D.room - D.used) = false := by simp; omega
  have H := Lib.hid h
  clear h
  go_enter Tryz.func116, Tryz.ntmps116
  go_wp2_with (go_at_call 133; refine (fits_calls H.out h0 h1 h2 n).mono ?_; rintro e w' ⟨rfl, k, rfl⟩)
  go_ret
  exact ⟨rfl, H.out.drewN _, ((Keep.refl _ _).drewN _)⟩

set_option maxHeartbeats 400000 in
theorem give_ok {w : World} {b m : Nat} {D : Dk} (h : DiskAt w b m D) (n : Int) (hn : 0 ≤ n) (hf : n ≤ D.used) (hu : D.used ≤ 1099511627776) :
    Calls Tryz.prog 117 #[.pointer (some ⟨b, 0, none⟩), .int .i64 n] w fun e w' => e = .returned (.int .i64 0) ∧ DiskAt w' b m { D with used := D.used - n } ∧ Keep [b] w w' := by
  have c1 := h.c1
  have f1 := h.blk.frozen 1
  have hd : decide (n < 0) = false := by simp; omega
  have hd2 : ¬ D.used < n := by omega
  have H := Lib.hid h
  clear h
  go_enter Tryz.func117, Tryz.ntmps117
  go_wp2
  go_ret
  exact ⟨rfl, H.out.used_ _, ((Keep.refl _ _).setCell (.inl (by simp)) _)⟩


end Go.Proofs.YtnlcipocobmgiaaGreatDoor
/- The contract of platter's put. -/
namespace Go.Proofs.YtnlcipocobmgiaaGreatDoor
open Go.RowKit
theorem zero_file (w : World) : (zeroValue 138).run Tryz.prog w = .ok Fil.none_.val w := by kernel_rfl
theorem DiskAt.look {w : World} {b m : Nat} {D : Dk} (h : DiskAt w b m D) (s : List UInt8) :
    (Instr.lookup 106 (.map (some m)) (.string (bs s)) false).run Tryz.prog w = .ok (lookF s D.files).val w := by
  rw [h.map.look Tryz.underlying106 Tryz.underlying9 (zero_file w) s, look_vals]

theorem DiskAt.and_look {w : World} {b m : Nat} {D : Dk} (h : DiskAt w b m D) (s : List UInt8) :
    DiskAt w b m D ∧ (Instr.lookup 106 (.map (some m)) (.string (bs s)) false).run Tryz.prog w = .ok (lookF s D.files).val w := ⟨h, h.look s⟩
theorem weight_lit (a : Bool) (s : List UInt8) (c : Bool) (t : List UInt8) (w : World) (h1 : s.length ≤ 4611686018427387904) (h2 : t.length ≤ 4611686018427387904) :
    Calls Tryz.prog 115 #[.agg #[.bool a, .string (bs s), .bool c, .string (bs t)]] w fun e w' => e = .returned (.int .i64 (Fil.weight ⟨⟨a, s⟩, ⟨c, t⟩⟩)) ∧ Keep [] w w' :=
  weight_calls ⟨⟨a, s⟩, ⟨c, t⟩⟩ w h1 h2

theorem give_min {w : World} {b m : Nat} {D : Dk} (h : DiskAt w b m D) (g : Int) (hn : -g ≤ D.used) (h0 : 0 ≤ -g) (hu : D.used ≤ 1099511627776) :
    Calls Tryz.prog 117 #[.pointer (some ⟨b, 0, none⟩), .int .i64 (if D.used < -g then D.used else -g)] w fun e w' => e = .returned (.int .i64 0) ∧ DiskAt w' b m { D with used := D.used - -g } ∧ Keep [b] w w' := by
  rw [if_neg (by omega)]
  exact give_ok h (-g) h0 (by omega) hu
set_option maxRecDepth 100000 in
set_option maxHeartbeats 1000000 in
theorem put_calls {w : World} {b m : Nat} {D : Dk} (h : DiskAt w b m D) (hok : D.Ok) (name : List UInt8) (f : Fil) (hf1 : f.now.text.length ≤ 4398046511104) (hf2 : f.sure.text.length ≤ 4398046511104) :
    Calls Tryz.prog 96 #[.pointer (some ⟨b, 0, none⟩), .string (bs name), f.val] w fun e w' => e = .returned (.int .i64 (D.put name f).2) ∧ DiskAt w' b m (D.put name f).1 ∧ Keep [b, m] w w' := by
  have hlb := h.blk.lt
  have hw0 := hok.weight name
  have hw1 := hok.nonneg
  have hw2 := hok.fits
  have hw3 : D.room ≤ 1099511627776 := by have := hok.room; omega
  have hw4 := (lookF name D.files).weight_nonneg
  have hw5 := f.weight_nonneg
  have hw6 : f.weight ≤ 4398046511104 := by unfold Fil.weight; split <;> omega
  have hg1 := (lookF name D.files).weight_now
  have hg2 := (lookF name D.files).weight_sure
  have H := Lib.hid h
  clear h
  obtain ⟨⟨fa, fs⟩, ⟨fc, ft⟩⟩ := f
  unfold Fil.val
  simp only at *
  have HS : Hid (∀ W : World, Blk W w.heap.size 138 #[.bool fa, .string (bs fs), .bool fc, .string (bs ft)] → DiskAt W b m D → Blk W w.heap.size 138 #[.bool fa, .string (bs fs), .bool fc, .string (bs ft)] ∧ DiskAt W b m D ∧ W.cell? ⟨b, 4, none⟩ = some (.map (some m)) ∧ W.cell? ⟨w.heap.size, 0, none⟩ = some (.bool fa) ∧ W.cell? ⟨w.heap.size, 1, none⟩ = some (.string (bs fs)) ∧ W.cell? ⟨w.heap.size, 2, none⟩ = some (.bool fc) ∧ W.cell? ⟨w.heap.size, 3, none⟩ = some (.string (bs ft)) ∧ (Instr.lookup 106 (.map (some m)) (.string (bs name)) false).run Tryz.prog W = .ok (lookF name D.files).val W) := fun W hB hD => ⟨hB, hD, hD.c4, hB.cell 0, hB.cell 1, hB.cell 2, hB.cell 3, hD.look name⟩
  go_enter Tryz.func96, Tryz.ntmps96
  go_upto_region 1 with fail
  go_cut [7] (fun s7 wx => s7 = .int .i64 (Fil.weight ⟨⟨fa, fs⟩, ⟨fc, ft⟩⟩ - (lookF name D.files).weight) ∧ Keep [] (w.alloc (.cells #[.bool fa, .string (bs fs), .bool fc, .string (bs ft)] 138)) wx)
  case first =>
    go_region_held3 (fun w' => Blk w' w.heap.size 138 #[.bool fa, .string (bs fs), .bool fc, .string (bs ft)] ∧ DiskAt w' b m D ∧ w'.cell? ⟨b, 4, none⟩ = some (.map (some m)) ∧ w'.cell? ⟨w.heap.size, 0, none⟩ = some (.bool fa) ∧ w'.cell? ⟨w.heap.size, 1, none⟩ = some (.string (bs fs)) ∧ w'.cell? ⟨w.heap.size, 2, none⟩ = some (.bool fc) ∧ w'.cell? ⟨w.heap.size, 3, none⟩ = some (.string (bs ft)) ∧ (Instr.lookup 106 (.map (some m)) (.string (bs name)) false).run Tryz.prog w' = .ok (lookF name D.files).val w')
      (first
        | (exact HS.out _ (Blk.new _ _ _) (H.out.alloc _).drew)
        | (go_split_ands; refine HS.out _ ?_ ?_ <;> assumption)
        | (go_split_ands; refine HS.out _ (Blk.keep ?_ hkA ?_) (DiskAt.keep ?_ hkA ?_ ?_) <;> (first | assumption | simp))
        | (go_split_ands; refine HS.out _ (Blk.keep ?_ hkB ?_) (DiskAt.keep ?_ hkB ?_ ?_) <;> (first | assumption | simp)))
      (first
        | (go_at_call_of 115 (lookF name D.files).val; refine (weight_calls _ _ (by omega) (by omega)).mono ?_; rintro e w' ⟨rfl, hkA⟩)
        | (go_at_call 115; refine (weight_lit _ _ _ _ _ (by omega) (by omega)).mono ?_; rintro e w' ⟨rfl, hkB⟩))
    all_goals (go_wp2_with fail; go_meet; refine ⟨by rw [IntWalk.i64_in _ (by omega)], ?_⟩; first | exact ((Keep.refl _ _).drew.trans hkA).trans hkB | exact ((Keep.refl _ _).drew.trans hkB).trans hkA)
  case rest =>
    obtain ⟨rfl, hkc⟩ := hcut
    have hB : Blk wc w.heap.size 138 #[.bool fa, .string (bs fs), .bool fc, .string (bs ft)] := (Blk.new w _ _).keep hkc (by simp)
    have hD : DiskAt wc b m D := (H.out.alloc _).keep hkc (by simp) (by simp)
    have HK : Hid (Keep [] w wc) := ((Keep.refl [] w).alloc _).trans hkc
    clear hkc
    have hput : D.put name ⟨⟨fa, fs⟩, ⟨fc, ft⟩⟩ = if D.room - D.used < Fil.weight ⟨⟨fa, fs⟩, ⟨fc, ft⟩⟩ - (lookF name D.files).weight then (D, 7) else (D.store name ⟨⟨fa, fs⟩, ⟨fc, ft⟩⟩, 0) := rfl
    have hst : D.store name ⟨⟨fa, fs⟩, ⟨fc, ft⟩⟩ = { D with used := D.used + (Fil.weight ⟨⟨fa, fs⟩, ⟨fc, ft⟩⟩ - (lookF name D.files).weight), files := if fa || fc then putF name ⟨⟨fa, fs⟩, ⟨fc, ft⟩⟩ D.files else delF name D.files } := rfl
    rw [hst] at hput
    have Hput := Lib.hid hput
    clear hput hst
    have hgl : -(1099511627776 : Int) ≤ Fil.weight ⟨⟨fa, fs⟩, ⟨fc, ft⟩⟩ - (lookF name D.files).weight := by omega
    have hgh : Fil.weight ⟨⟨fa, fs⟩, ⟨fc, ft⟩⟩ - (lookF name D.files).weight ≤ 4398046511104 := by omega
    have hgu : -(Fil.weight ⟨⟨fa, fs⟩, ⟨fc, ft⟩⟩ - (lookF name D.files).weight) ≤ D.used := by omega
    generalize Fil.weight ⟨⟨fa, fs⟩, ⟨fc, ft⟩⟩ - (lookF name D.files).weight = g at *
    by_cases hfull : D.room - D.used < g
    · have hgp : 0 < g := by omega
      have HB := Lib.hid hB
      have HD := Lib.hid hD
      clear hB hD
      go_wp2_with (go_at_call 116; refine (take_full HD.out hw1 hw2 hw3 g (by omega) hfull).mono ?_; rintro e w' ⟨rfl, hD', hk'⟩)
      go_ret
      rw [Hput.out, if_pos hfull]
      exact ⟨rfl, hD', HK.out.nil_.trans (hk'.mono (by simp))⟩
    · have q : ∀ (w : World) (r : Option Nat), (binOp .eql 106 (.map r) (.map none)).run Tryz.prog w = .ok (.bool r.isNone) w := fun w r => run_eql_map_nil w _ _ _ r Tryz.underlying106
      have HB := Lib.hid hB
      have HD := Lib.hid hD
      clear hB hD
      by_cases hgp : 0 < g
      · go_upto_region 7 with (go_at_call 116; refine (take_ok HD.out hw1 hw2 hw3 g (by omega) (by omega)).mono ?_; rintro e w' ⟨rfl, hD', hk'⟩)
        have hB' := HB.out.keep hk' (by simp; omega)
        have c4 := hD'.c4
        have e0 : w'.cell? ⟨w.heap.size, 0, none⟩ = some (.bool fa) := hB'.cell 0
        have e1 : w'.cell? ⟨w.heap.size, 1, none⟩ = some (.string (bs fs)) := hB'.cell 1
        have e2 : w'.cell? ⟨w.heap.size, 2, none⟩ = some (.bool fc) := hB'.cell 2
        have e3 : w'.cell? ⟨w.heap.size, 3, none⟩ = some (.string (bs ft)) := hB'.cell 3
        have HK2 : Hid (Keep [b, m] w w') := HK.out.nil_.trans (hk'.mono (by simp))
        have HD2 := Lib.hid hD'
        clear hB' hk' hD'
        by_cases hth : fa = false ∧ fc = false
        · obtain ⟨rfl, rfl⟩ := hth
          obtain ⟨w3, hdel, hM3, hK3, -⟩ := HD2.out.map.del Tryz.underlying106 Tryz.underlying9 name
          have HM := Lib.hid hM3
          have HK3 := Lib.hid hK3
          clear hM3 hK3
          go_wp2
          go_ret
          rw [Hput.out, if_neg (by omega)]
          refine ⟨rfl, ⟨HD2.out.blk.keep HK3.out (by simpa using HD2.out.ne_.symm), ?_⟩, HK2.out.trans (HK3.out.mono (by simp))⟩
          rw [del_vals] at HM
          exact HM.out
        · obtain ⟨w3, hmu, hM3, hK3, -⟩ := HD2.out.map.drew.put Tryz.underlying106 Tryz.underlying9 name (.agg #[.bool fa, .string (bs fs), .bool fc, .string (bs ft)])
          have HM := Lib.hid hM3
          have HK3 := Lib.hid hK3
          clear hM3 hK3
          have hor : (fa || fc) = true := by cases fa <;> cases fc <;> simp at hth ⊢
          rw [hor] at Hput
          have hput2 := put_vals name ⟨⟨fa, fs⟩, ⟨fc, ft⟩⟩ D.files
          unfold Fil.val at hput2
          rw [hput2] at HM
          clear hput2 hor
          cases fa <;> cases fc
          · exact absurd ⟨rfl, rfl⟩ hth
          all_goals
            clear hth
            go_wp2
            go_region
            go_wp2
            go_ret
            rw [Hput.out, if_neg (by omega)]
            exact ⟨rfl, ⟨HD2.out.drew.blk.keep HK3.out (by simpa using HD2.out.ne_.symm), HM.out⟩, (HK2.out.drew).trans (HK3.out.mono (by simp))⟩
      · have hmin : -g ≤ D.used := hgu
        have hng : 0 ≤ -g := by omega
        have hc1 := HD.out.c1
        have hgu2 : D.used ≤ 1099511627776 := by omega
        have hwr : IntKind.i64.wrap (-g) = -g := IntWalk.i64_in _ (by omega)
        go_upto_region 6 with fail
        go_region_held3 (fun w' => w'.cell? ⟨b, 4, none⟩ = some (.map (some m)))
          (first
            | (exact hD'.c4)
            | (exact HD.out.drew.c4)
            | assumption)
          (first
            | (go_at_call 118; refine (used_calls HD.out.drew).mono ?_; rintro e w' ⟨rfl, rfl⟩)
            | (go_at_call 117; refine (give_min HD.out.drew g hmin hng hgu2).mono ?_; rintro e w' ⟨rfl, hD', hk'⟩))
        have heq : D.used - -g = D.used + g := by omega
        rw [heq] at hD'
        replace hk' := (Keep.refl _ wc).drew.trans hk'
        clear heq hwr
        have hB' := HB.out.keep hk' (by simp; omega)
        have c4 := hD'.c4
        have e0 : w'.cell? ⟨w.heap.size, 0, none⟩ = some (.bool fa) := hB'.cell 0
        have e1 : w'.cell? ⟨w.heap.size, 1, none⟩ = some (.string (bs fs)) := hB'.cell 1
        have e2 : w'.cell? ⟨w.heap.size, 2, none⟩ = some (.bool fc) := hB'.cell 2
        have e3 : w'.cell? ⟨w.heap.size, 3, none⟩ = some (.string (bs ft)) := hB'.cell 3
        have HK2 : Hid (Keep [b, m] w w') := HK.out.nil_.trans (hk'.mono (by simp))
        have HD2 := Lib.hid hD'
        clear hB' hk' hD'
        by_cases hth : fa = false ∧ fc = false
        · obtain ⟨rfl, rfl⟩ := hth
          obtain ⟨w3, hdel, hM3, hK3, -⟩ := HD2.out.map.del Tryz.underlying106 Tryz.underlying9 name
          have HM := Lib.hid hM3
          have HK3 := Lib.hid hK3
          clear hM3 hK3
          go_wp2
          go_ret
          rw [Hput.out, if_neg (by omega)]
          refine ⟨rfl, ⟨HD2.out.blk.keep HK3.out (by simpa using HD2.out.ne_.symm), ?_⟩, HK2.out.trans (HK3.out.mono (by simp))⟩
          rw [del_vals] at HM
          exact HM.out
        · obtain ⟨w3, hmu, hM3, hK3, -⟩ := HD2.out.map.drew.put Tryz.underlying106 Tryz.underlying9 name (.agg #[.bool fa, .string (bs fs), .bool fc, .string (bs ft)])
          have HM := Lib.hid hM3
          have HK3 := Lib.hid hK3
          clear hM3 hK3
          have hor : (fa || fc) = true := by cases fa <;> cases fc <;> simp at hth ⊢
          rw [hor] at Hput
          have hput2 := put_vals name ⟨⟨fa, fs⟩, ⟨fc, ft⟩⟩ D.files
          unfold Fil.val at hput2
          rw [hput2] at HM
          clear hput2 hor
          cases fa <;> cases fc
          · exact absurd ⟨rfl, rfl⟩ hth
          all_goals
            clear hth
            go_wp2
            go_region
            go_wp2
            go_ret
            rw [Hput.out, if_neg (by omega)]
            exact ⟨rfl, ⟨HD2.out.drew.blk.keep HK3.out (by simpa using HD2.out.ne_.symm), HM.out⟩, (HK2.out.drew).trans (HK3.out.mono (by simp))⟩

end Go.Proofs.YtnlcipocobmgiaaGreatDoor
/- The contracts of package platter: New, Write, Append, Sync of one file, Read. -/
namespace Go.Proofs.YtnlcipocobmgiaaGreatDoor
open Go.RowKit
attribute [local go_sem] bs_append size_bs

theorem DiskAt.look_lit {w : World} {b m : Nat} {D : Dk} (h : DiskAt w b m D) (s : List UInt8) :
    (Instr.lookup 106 (.map (some m)) (.string (bs s)) false).run Tryz.prog w = .ok (.agg #[.bool (lookF s D.files).now.there, .string (bs (lookF s D.files).now.text), .bool (lookF s D.files).sure.there, .string (bs (lookF s D.files).sure.text)]) w := h.look s
theorem put_lit {w : World} {b m : Nat} {D : Dk} (h : DiskAt w b m D) (hok : D.Ok) (name : List UInt8) (a : Bool) (s : List UInt8) (c : Bool) (t : List UInt8) (hf1 : s.length ≤ 4398046511104) (hf2 : t.length ≤ 4398046511104) :
    Calls Tryz.prog 96 #[.pointer (some ⟨b, 0, none⟩), .string (bs name), .agg #[.bool a, .string (bs s), .bool c, .string (bs t)]] w fun e w' => e = .returned (.int .i64 (D.put name ⟨⟨a, s⟩, ⟨c, t⟩⟩).2) ∧ DiskAt w' b m (D.put name ⟨⟨a, s⟩, ⟨c, t⟩⟩).1 ∧ Keep [b, m] w w' :=
  put_calls h hok name ⟨⟨a, s⟩, ⟨c, t⟩⟩ hf1 hf2

/-- Write, Append: a file's bytes become what g makes of them. -/
def Dk.change (D : Dk) (name : List UInt8) (g : List UInt8 → List UInt8) : Dk × Int :=
  if D.tries.2 ≠ 0 then D.tries else if name = [] then (D.tries.1, 1) else
    D.tries.1.put name ⟨⟨true, g (lookF name D.tries.1.files).now.text⟩, (lookF name D.tries.1.files).sure⟩

theorem isEmpty_bs {name : List UInt8} (h : name ≠ []) : (bs name).toList.isEmpty = false := by
  rw [ByteArray.toList_eq]
  show (lst (bs name)).isEmpty = false
  rw [lst_bs]
  cases name with
  | nil => exact absurd rfl h
  | cons => rfl

set_option maxHeartbeats 400000 in
theorem write1_calls (x : ByteArray) (s : ByteArray) (p : Addr) (w : World) (hp : w.cell? p = some (.string s)) :
    Calls Tryz.prog 120 #[.string x, .pointer (some p)] w fun e w' => e = .returned (.string s) ∧ w = w' := by
  go_enter Tryz.func120, Tryz.ntmps120
  go_wp2
  go_ret
  exact ⟨rfl, rfl⟩

set_option maxHeartbeats 400000 in
theorem append1_calls (x : List UInt8) (s : List UInt8) (p : Addr) (w : World) (hp : w.cell? p = some (.string (bs s))) (hl : x.length + s.length ≤ 4611686018427387904) :
    Calls Tryz.prog 126 #[.string (bs x), .pointer (some p)] w fun e w' => e = .returned (.string (bs (x ++ s))) ∧ w = w' := by
  have hb1 : ¬ (9223372036854775807 < x.length + s.length) := by omega
  go_enter Tryz.func126, Tryz.ntmps126
  go_wp2
  go_ret
  exact ⟨rfl, rfl⟩


set_option maxRecDepth 100000 in
set_option maxHeartbeats 1000000 in
theorem change_write {w : World} {b m p : Nat} {D : Dk} (h : DiskAt w b m D) (hok : D.Ok) (name : List UInt8) (hn : name ≠ []) (s : List UInt8) (hs : s.length ≤ 549755813888) (hp : Blk w p 9 #[.string (bs s)]) :
    Calls Tryz.prog 119 #[.pointer (some ⟨b, 0, none⟩), .string (bs name), .func (.func 120) #[] #[.pointer (some ⟨p, 0, none⟩)]] w fun e w' => e = .returned (.int .i64 (D.change name (fun _ => s)).2) ∧ DiskAt w' b m (D.change name (fun _ => s)).1 ∧ Keep [b, m] w w' := by
  have hpb : p ≠ b := hp.ne_ h.blk (by decide)
  have hpm : m ≠ p := h.map.ne_ hp
  have hch : D.change name (fun _ => s) = if D.tries.2 ≠ 0 then D.tries else D.tries.1.put name ⟨⟨true, (fun _ => s) (lookF name D.tries.1.files).now.text⟩, (lookF name D.tries.1.files).sure⟩ := by simp [Dk.change, hn]
  have Hch := Lib.hid hch
  clear hch
  have hne := isEmpty_bs hn
  have hok1 := hok.tries
  have T := try_calls h hok.armed
  have HP := Lib.hid hp
  clear h hok hn hp
  generalize D.tries = r at *
  obtain ⟨D1, e1⟩ := r
  simp only at T hok1
  have HT := Lib.hid T
  clear T
  by_cases he : e1 = 0
  · subst he
    have hw0 := hok1.weight name
    have hw2 := hok1.fits
    have hw3 := hok1.room
    have hw4 := (lookF name D1.files).weight_now
    have hw5 := (lookF name D1.files).weight_sure
    go_enter Tryz.func119, Tryz.ntmps119
    go_wp2_with (go_at_call 121; refine HT.out.mono ?_; rintro e w1 ⟨rfl, hD, hk, hsz⟩; have HD := Lib.hid hD; have HK := Lib.hid hk; have HZ := Lib.hid hsz; have hlk := hD.look_lit name; have hc4 := hD.c4; have hp1 : w1.cell? ⟨p, 0, none⟩ = some (.string (bs s)) := (HP.out.keep hk (by simpa using hpb)).cell 0; clear hD hk hsz)
    go_wp2_with (first | (go_at_call 120; refine (write1_calls _ (bs s) ⟨p, 0, none⟩ _ (cell_alloc hp1 _)).mono ?_; rintro e w' ⟨rfl, rfl⟩) | (go_at_call 96; refine (put_lit (HD.out.alloc _) hok1 name true _ _ _ (by omega) (by omega)).mono ?_; rintro e w2 ⟨rfl, hD2, hK2⟩))
    go_ret
    rw [Hch.out, if_neg (by simp)]
    exact ⟨rfl, hD2, (HK.out.mono (by simp)).trans (((Keep.refl [b, m] w1).alloc _).trans hK2)⟩
  · have hb : (e1 != 0) = true := by simpa using he
    have hb2 : (e1 == 0) = false := by simpa using he
    go_enter Tryz.func119, Tryz.ntmps119
    go_wp2_with (go_at_call 121; refine HT.out.mono ?_; rintro e w1 ⟨rfl, hD, hk, hsz⟩; have HD := Lib.hid hD; have HK := Lib.hid hk; clear hD hk hsz)
    go_ret
    rw [Hch.out, if_pos he]
    exact ⟨rfl, HD.out, HK.out.mono (by simp)⟩
set_option maxRecDepth 100000 in
set_option maxHeartbeats 1000000 in
theorem change_append {w : World} {b m p : Nat} {D : Dk} (h : DiskAt w b m D) (hok : D.Ok) (name : List UInt8) (hn : name ≠ []) (s : List UInt8) (hs : s.length ≤ 549755813888) (hp : Blk w p 9 #[.string (bs s)]) :
    Calls Tryz.prog 119 #[.pointer (some ⟨b, 0, none⟩), .string (bs name), .func (.func 126) #[] #[.pointer (some ⟨p, 0, none⟩)]] w fun e w' => e = .returned (.int .i64 (D.change name (fun x => x ++ s)).2) ∧ DiskAt w' b m (D.change name (fun x => x ++ s)).1 ∧ Keep [b, m] w w' := by
  have hpb : p ≠ b := hp.ne_ h.blk (by decide)
  have hpm : m ≠ p := h.map.ne_ hp
  have hch : D.change name (fun x => x ++ s) = if D.tries.2 ≠ 0 then D.tries else D.tries.1.put name ⟨⟨true, (fun x => x ++ s) (lookF name D.tries.1.files).now.text⟩, (lookF name D.tries.1.files).sure⟩ := by simp [Dk.change, hn]
  have Hch := Lib.hid hch
  clear hch
  have hne := isEmpty_bs hn
  have hok1 := hok.tries
  have T := try_calls h hok.armed
  have HP := Lib.hid hp
  clear h hok hn hp
  generalize D.tries = r at *
  obtain ⟨D1, e1⟩ := r
  simp only at T hok1
  have HT := Lib.hid T
  clear T
  by_cases he : e1 = 0
  · subst he
    have hw0 := hok1.weight name
    have hw2 := hok1.fits
    have hw3 := hok1.room
    have hw4 := (lookF name D1.files).weight_now
    have hw5 := (lookF name D1.files).weight_sure
    go_enter Tryz.func119, Tryz.ntmps119
    go_wp2_with (go_at_call 121; refine HT.out.mono ?_; rintro e w1 ⟨rfl, hD, hk, hsz⟩; have HD := Lib.hid hD; have HK := Lib.hid hk; have HZ := Lib.hid hsz; have hlk := hD.look_lit name; have hc4 := hD.c4; have hp1 : w1.cell? ⟨p, 0, none⟩ = some (.string (bs s)) := (HP.out.keep hk (by simpa using hpb)).cell 0; clear hD hk hsz)
    go_wp2_with (first | (go_at_call 126; refine (append1_calls _ s ⟨p, 0, none⟩ _ (cell_alloc hp1 _) (by omega)).mono ?_; rintro e w' ⟨rfl, rfl⟩) | (go_at_call 96; refine (put_lit (HD.out.alloc _) hok1 name true _ _ _ (by simp; omega) (by omega)).mono ?_; rintro e w2 ⟨rfl, hD2, hK2⟩))
    go_ret
    rw [Hch.out, if_neg (by simp)]
    exact ⟨rfl, hD2, (HK.out.mono (by simp)).trans (((Keep.refl [b, m] w1).alloc _).trans hK2)⟩
  · have hb : (e1 != 0) = true := by simpa using he
    have hb2 : (e1 == 0) = false := by simpa using he
    go_enter Tryz.func119, Tryz.ntmps119
    go_wp2_with (go_at_call 121; refine HT.out.mono ?_; rintro e w1 ⟨rfl, hD, hk, hsz⟩; have HD := Lib.hid hD; have HK := Lib.hid hk; clear hD hk hsz)
    go_ret
    rw [Hch.out, if_pos he]
    exact ⟨rfl, HD.out, HK.out.mono (by simp)⟩

/-- Write. -/
def Dk.write (D : Dk) (name s : List UInt8) : Dk × Int := D.change name (fun _ => s)
/-- Append. -/
def Dk.append (D : Dk) (name s : List UInt8) : Dk × Int := D.change name (fun x => x ++ s)

set_option maxHeartbeats 400000 in
theorem write_calls {w : World} {b m : Nat} {D : Dk} (h : DiskAt w b m D) (hok : D.Ok) (name : List UInt8) (hn : name ≠ []) (s : List UInt8) (hs : s.length ≤ 549755813888) :
    Calls Tryz.prog 97 #[.pointer (some ⟨b, 0, none⟩), .string (bs name), .string (bs s)] w fun e w' => e = .returned (.int .i64 (D.write name s).2) ∧ DiskAt w' b m (D.write name s).1 ∧ Keep [b, m] w w' := by
  have H := Lib.hid h
  clear h
  go_enter Tryz.func97, Tryz.ntmps97
  go_wp2_with (go_at_call 119; refine (change_write (H.out.alloc _) hok name hn s hs (Blk.new _ _ _)).mono ?_; rintro e w' ⟨rfl, hD', hk'⟩)
  go_ret
  exact ⟨rfl, hD', ((Keep.refl _ _).alloc _).trans hk'⟩
set_option maxHeartbeats 400000 in
theorem append_calls {w : World} {b m : Nat} {D : Dk} (h : DiskAt w b m D) (hok : D.Ok) (name : List UInt8) (hn : name ≠ []) (s : List UInt8) (hs : s.length ≤ 549755813888) :
    Calls Tryz.prog 104 #[.pointer (some ⟨b, 0, none⟩), .string (bs name), .string (bs s)] w fun e w' => e = .returned (.int .i64 (D.append name s).2) ∧ DiskAt w' b m (D.append name s).1 ∧ Keep [b, m] w w' := by
  have H := Lib.hid h
  clear h
  go_enter Tryz.func104, Tryz.ntmps104
  go_wp2_with (go_at_call 119; refine (change_append (H.out.alloc _) hok name hn s hs (Blk.new _ _ _)).mono ?_; rintro e w' ⟨rfl, hD', hk'⟩)
  go_ret
  exact ⟨rfl, hD', ((Keep.refl _ _).alloc _).trans hk'⟩

/-- Sync of one file. -/
def Dk.sync (D : Dk) (name : List UInt8) : Dk × Int :=
  if D.tries.2 ≠ 0 then D.tries else ((D.tries.1.put name ⟨(lookF name D.tries.1.files).now, (lookF name D.tries.1.files).now⟩).1, 0)

set_option maxRecDepth 100000 in
set_option maxHeartbeats 1000000 in
theorem sync_calls {w : World} {b m p : Nat} {D : Dk} (h : DiskAt w b m D) (hok : D.Ok) (name : List UInt8) (hp : Blk w p 9 #[.string (bs name)]) :
    Calls Tryz.prog 98 #[.pointer (some ⟨b, 0, none⟩), .slice (some ⟨p, 0, none⟩) 1 1] w fun e w' => e = .returned (.int .i64 (D.sync name).2) ∧ DiskAt w' b m (D.sync name).1 ∧ Keep [b, m] w w' := by
  have hpb : p ≠ b := hp.ne_ h.blk (by decide)
  have hpm : m ≠ p := h.map.ne_ hp
  have hch : D.sync name = if D.tries.2 ≠ 0 then D.tries else ((D.tries.1.put name ⟨(lookF name D.tries.1.files).now, (lookF name D.tries.1.files).now⟩).1, 0) := rfl
  have Hch := Lib.hid hch
  clear hch
  have hok1 := hok.tries
  have T := try_calls h hok.armed
  have HP := Lib.hid hp
  clear h hok hp
  generalize D.tries = r at *
  obtain ⟨D1, e1⟩ := r
  simp only at T hok1
  have HT := Lib.hid T
  clear T
  by_cases he : e1 = 0
  · subst he
    have hw0 := hok1.weight name
    have hw2 := hok1.fits
    have hw3 := hok1.room
    have hw4 := (lookF name D1.files).weight_now
    have hw5 := (lookF name D1.files).weight_sure
    go_enter Tryz.func98, Tryz.ntmps98
    go_wp2_with (go_at_call 121; refine HT.out.mono ?_; rintro e w1 ⟨rfl, hD, hk, hsz⟩; have HD := Lib.hid hD; have HK := Lib.hid hk; have HZ := Lib.hid hsz; have hlk := hD.look_lit name; have hc4 := hD.c4; have hp1 : w1.cell? ⟨p, 0, none⟩ = some (.string (bs name)) := (HP.out.keep hk (by simpa using hpb)).cell 0; clear hD hk hsz)
    refine wp_loop_rounds 2 ?_
    rw [rounds_succ]
    go_wp2_with (go_at_call 96; refine (put_lit (HD.out.alloc _) hok1 name _ _ _ _ (by omega) (by omega)).mono ?_; rintro e w2 ⟨rfl, hD2, hK2⟩; have HD2 := Lib.hid hD2; have HK2 := Lib.hid hK2; clear hD2 hK2)
    rw [rounds_succ]
    go_wp2
    go_ret
    rw [Hch.out, if_neg (by simp)]
    exact ⟨rfl, HD2.out, (HK.out.mono (by simp)).trans (((Keep.refl [b, m] w1).alloc _).trans HK2.out)⟩
  · have hb : (e1 != 0) = true := by simpa using he
    have hb2 : (e1 == 0) = false := by simpa using he
    go_enter Tryz.func98, Tryz.ntmps98
    go_wp2_with (go_at_call 121; refine HT.out.mono ?_; rintro e w1 ⟨rfl, hD, hk, hsz⟩; have HD := Lib.hid hD; have HK := Lib.hid hk; clear hD hk hsz)
    go_ret
    rw [Hch.out, if_pos he]
    exact ⟨rfl, HD.out, HK.out.mono (by simp)⟩

/-- Read: the file's current contents, and the error. -/
def Dk.read (D : Dk) (name : List UInt8) : List UInt8 × Int :=
  if D.tries.2 ≠ 0 then ([], D.tries.2) else if (lookF name D.tries.1.files).now.there then ((lookF name D.tries.1.files).now.text, 0) else ([], 5)

set_option maxRecDepth 100000 in
set_option maxHeartbeats 1000000 in
theorem read_calls {w : World} {b m : Nat} {D : Dk} (h : DiskAt w b m D) (hok : D.Ok) (name : List UInt8) :
    Calls Tryz.prog 109 #[.pointer (some ⟨b, 0, none⟩), .string (bs name)] w fun e w' => e = .returned (.tuple #[.string (bs (D.read name).1), .int .i64 (D.read name).2]) ∧ DiskAt w' b m D.tries.1 ∧ Keep [b, m] w w' := by
  have hch : D.read name = if D.tries.2 ≠ 0 then ([], D.tries.2) else if (lookF name D.tries.1.files).now.there then ((lookF name D.tries.1.files).now.text, 0) else ([], 5) := rfl
  have Hch := Lib.hid hch
  clear hch
  have T := try_calls h hok.armed
  clear h hok
  generalize D.tries = r at *
  obtain ⟨D1, e1⟩ := r
  simp only at T
  have HT := Lib.hid T
  clear T
  by_cases he : e1 = 0
  · subst he
    by_cases hth : (lookF name D1.files).now.there = true
    all_goals
      go_enter Tryz.func109, Tryz.ntmps109
      go_wp2_with (go_at_call 121; refine HT.out.mono ?_; rintro e w1 ⟨rfl, hD, hk, hsz⟩; have HD := Lib.hid hD; have HK := Lib.hid hk; have HZ := Lib.hid hsz; have hlk := hD.look_lit name; have hc4 := hD.c4; clear hD hk hsz)
      go_ret2
      rw [Hch.out, if_neg (by simp)]
      first | rw [if_pos hth] | rw [if_neg (by simpa using hth)]
      exact ⟨rfl, HD.out.alloc _, (HK.out.mono (by simp)).alloc _⟩
  · have hb : (e1 != 0) = true := by simpa using he
    have hb2 : (e1 == 0) = false := by simpa using he
    go_enter Tryz.func109, Tryz.ntmps109
    go_wp2_with (go_at_call 121; refine HT.out.mono ?_; rintro e w1 ⟨rfl, hD, hk, hsz⟩; have HD := Lib.hid hD; have HK := Lib.hid hk; clear hD hk hsz)
    go_ret2
    rw [Hch.out, if_pos he]
    exact ⟨rfl, HD.out, HK.out.mono (by simp)⟩

end Go.Proofs.YtnlcipocobmgiaaGreatDoor
