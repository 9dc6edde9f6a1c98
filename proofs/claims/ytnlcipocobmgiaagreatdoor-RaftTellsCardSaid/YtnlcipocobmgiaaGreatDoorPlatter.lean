/- The contracts of package platter's inner functions: Take, Give, put. -/
import Derived.Test.YtnlcipocobmgiaaGreatDoorMeter
namespace Go.Proofs.YtnlcipocobmgiaaGreatDoor
open Go.RowKit

def lookF (s : List UInt8) : List (List UInt8 × Fil) → Fil
  | [] => Fil.none_
  | p :: l => if s = p.1 then p.2 else lookF s l
def putF (s : List UInt8) (f : Fil) : List (List UInt8 × Fil) → List (List UInt8 × Fil)
  | [] => [(s, f)]
  | p :: l => if s = p.1 then (s, f) :: l else p :: putF s f l
def delF (s : List UInt8) : List (List UInt8 × Fil) → List (List UInt8 × Fil)
  | [] => []
  | p :: l => if s = p.1 then l else p :: delF s l
def wsum : List (List UInt8 × Fil) → Int
  | [] => 0
  | p :: l => p.2.weight + wsum l
theorem look_vals (s : List UInt8) : ∀ l, (lookL s (vals l)).getD Fil.none_.val = (lookF s l).val
  | [] => rfl
  | p :: l => by
    by_cases h : s = p.1
    · simp [vals, lookL, lookF, h]
    · have := look_vals s l
      simp only [vals, lookL, lookF, List.map_cons, h, if_false] at this ⊢
      exact this
theorem put_vals (s : List UInt8) (f : Fil) : ∀ l, putL s f.val (vals l) = vals (putF s f l)
  | [] => rfl
  | p :: l => by
    by_cases h : s = p.1
    · simp [vals, putL, putF, h]
    · have := put_vals s f l
      simp only [vals, putL, putF, List.map_cons, h, if_false] at this ⊢
      rw [this]
theorem del_vals (s : List UInt8) : ∀ l, delL s (vals l) = vals (delF s l)
  | [] => rfl
  | p :: l => by
    by_cases h : s = p.1
    · simp [vals, delL, delF, h]
    · have := del_vals s l
      simp only [vals, delL, delF, List.map_cons, h, if_false] at this ⊢
      rw [this]
theorem Fil.weight_nonneg (f : Fil) : 0 ≤ f.weight := by unfold Fil.weight; split <;> omega
theorem Fil.weight_now (f : Fil) : (f.now.text.length : Int) ≤ f.weight := by unfold Fil.weight; split <;> omega
theorem Fil.weight_sure (f : Fil) : (f.sure.text.length : Int) ≤ f.weight := by unfold Fil.weight; split <;> omega
theorem wsum_nonneg : ∀ l, 0 ≤ wsum l
  | [] => Int.le_refl _
  | p :: l => by have := wsum_nonneg l; have := p.2.weight_nonneg; simp only [wsum]; omega
theorem look_le (s : List UInt8) : ∀ l, (lookF s l).weight ≤ wsum l
  | [] => by simp [lookF, wsum, Fil.weight, Fil.none_, St.none_]
  | p :: l => by
    have h1 := look_le s l
    have h2 := wsum_nonneg l
    have h3 := p.2.weight_nonneg
    simp only [lookF, wsum]
    split <;> omega
theorem put_sum (s : List UInt8) (f : Fil) : ∀ l, wsum (putF s f l) = wsum l + f.weight - (lookF s l).weight
  | [] => by simp [putF, wsum, lookF, Fil.weight, Fil.none_, St.none_]
  | p :: l => by
    have h1 := put_sum s f l
    simp only [putF, wsum, lookF]
    split <;> (try simp only [wsum]) <;> omega
theorem del_sum (s : List UInt8) : ∀ l, wsum (delF s l) = wsum l - (lookF s l).weight
  | [] => by simp [delF, wsum, lookF, Fil.weight, Fil.none_, St.none_]
  | p :: l => by
    have h1 := del_sum s l
    simp only [delF, wsum, lookF]
    split <;> (try simp only [wsum]) <;> omega

/-- What holds of every disk: its use is the sum of its files' weights, within its room. -/
structure Dk.Ok (D : Dk) : Prop where
  room : D.room ≤ 274877906944
  used : D.used = wsum D.files
  fits : D.used ≤ D.room
  armed : D.armed ≤ 4294967296
theorem Dk.Ok.nonneg {D : Dk} (h : D.Ok) : 0 ≤ D.used := by rw [h.used]; exact wsum_nonneg _
theorem Dk.Ok.weight {D : Dk} (h : D.Ok) (s : List UInt8) : (lookF s D.files).weight ≤ D.used := by rw [h.used]; exact look_le s _
theorem Dk.Ok.tries {D : Dk} (h : D.Ok) : D.tries.1.Ok := by
  obtain ⟨h1, h2, h3, h4⟩ := h
  unfold Dk.tries
  split
  · exact ⟨h1, h2, h3, h4⟩
  · split
    · exact ⟨h1, h2, h3, by show D.armed - 1 ≤ _; omega⟩
    · exact ⟨h1, h2, h3, h4⟩

def Dk.store (D : Dk) (name : List UInt8) (f : Fil) : Dk :=
  { D with used := D.used + (f.weight - (lookF name D.files).weight), files := if f.now.there || f.sure.there then putF name f D.files else delF name D.files }
/-- put: a file is f, if there is room. -/
def Dk.put (D : Dk) (name : List UInt8) (f : Fil) : Dk × Int :=
  if D.room - D.used < f.weight - (lookF name D.files).weight then (D, 7) else (D.store name f, 0)

set_option maxHeartbeats 400000 in
theorem fits_calls {w : World} {b m : Nat} {D : Dk} (h : DiskAt w b m D) (h0 : 0 ≤ D.used) (h1 : D.used ≤ D.room) (h2 : D.room ≤ 1099511627776) (n : Int) :
    Calls Tryz.prog 133 #[.pointer (some ⟨b, 0, none⟩), .int .i64 n] w fun e w' => e = .returned (.bool (decide (n ≤ D.room - D.used))) ∧ ∃ k, w' = w.drewN k := by
  go_enter Tryz.func133, Tryz.ntmps133
  go_wp2_with (go_at_call 139; refine (free_calls h h0 h1 (by omega)).mono ?_; rintro e w' ⟨rfl, k, rfl⟩)
  go_ret
  exact ⟨rfl, _, rfl⟩

set_option maxHeartbeats 400000 in
theorem take_ok {w : World} {b m : Nat} {D : Dk} (h : DiskAt w b m D) (h0 : 0 ≤ D.used) (h1 : D.used ≤ D.room) (h2 : D.room ≤ 1099511627776) (n : Int) (hn : 0 ≤ n) (hf : n ≤ D.room - D.used) :
    Calls Tryz.prog 116 #[.pointer (some ⟨b, 0, none⟩), .int .i64 n] w fun e w' => e = .returned (.int .i64 0) ∧ DiskAt w' b m { D with used := D.used + n } ∧ Keep [b] w w' := by
  have c1 := h.c1
  have f1 := h.blk.frozen 1
  have hd : decide (n ≤ D.room - D.used) = true := by simpa using hf
  have H := Lib.hid h
  clear h
  go_enter Tryz.func116, Tryz.ntmps116
  go_wp2_with (go_at_call 133; refine (fits_calls H.out h0 h1 h2 n).mono ?_; rintro e w' ⟨rfl, k, rfl⟩)
  go_ret
  exact ⟨rfl, (H.out.drewN _).used_ _, (((Keep.refl _ _).drewN _).setCell (.inl (by simp)) _)⟩

set_option maxHeartbeats 400000 in
theorem take_full {w : World} {b m : Nat} {D : Dk} (h : DiskAt w b m D) (h0 : 0 ≤ D.used) (h1 : D.used ≤ D.room) (h2 : D.room ≤ 1099511627776) (n : Int) (hn : 0 ≤ n) (hf : D.room - D.used < n) :
    Calls Tryz.prog 116 #[.pointer (some ⟨b, 0, none⟩), .int .i64 n] w fun e w' => e = .returned (.int .i64 7) ∧ DiskAt w' b m D ∧ Keep [b] w w' := by
  have hd : decide (n ≤ D.room - D.used) = false := by simp; omega
  have H := Lib.hid h
  clear h
  go_enter Tryz.func116, Tryz.ntmps116
  go_wp2_with (go_at_call 133; refine (fits_calls H.out h0 h1 h2 n).mono ?_; rintro e w' ⟨rfl, k, rfl⟩)
  go_ret
  exact ⟨rfl, H.out.drewN _, ((Keep.refl _ _).drewN _)⟩

set_option maxHeartbeats 400000 in
theorem give_ok {w : World} {b m : Nat} {D : Dk} (h : DiskAt w b m D) (n : Int) (hn : 0 ≤ n) (hf : n ≤ D.used) (hu : D.used ≤ 1099511627776) :
    Calls Tryz.prog 117 #[.pointer (some ⟨b, 0, none⟩), .int .i64 n] w fun e w' => e = .returned (.int .i64 0) ∧ DiskAt w' b m { D with used := D.used - n } ∧ Keep [b] w w' := by
  have c1 := h.c1
  have f1 := h.blk.frozen 1
  have hd : decide (n < 0) = false := by simp; omega
  have hd2 : ¬ D.used < n := by omega
  have H := Lib.hid h
  clear h
  go_enter Tryz.func117, Tryz.ntmps117
  go_wp2
  go_ret
  exact ⟨rfl, H.out.used_ _, ((Keep.refl _ _).setCell (.inl (by simp)) _)⟩


end Go.Proofs.YtnlcipocobmgiaaGreatDoor
