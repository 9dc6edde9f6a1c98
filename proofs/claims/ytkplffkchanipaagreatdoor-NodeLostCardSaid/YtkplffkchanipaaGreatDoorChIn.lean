/- A chunk store among a law's own blocks. -/
import Derived.Test.YtkplffkchanipaaGreatDoorStoresD
import Derived.Test.YtkplffkchanipaaGreatDoorStoresB
import Derived.Test.YtkplffkchanipaaGreatDoorSpoils
import Derived.Test.YtkplffkchanipaaGreatDoorNewCut
namespace Go.Proofs.YtkplffkchanipaaGreatDoor
open Go.RowKit
attribute [local go_sem] size_bs bs_append ba_self
variable {w w' w0 : World} {s b m g : Nat} {C C' : Ck} {D D' : Dk} {X : List (Nat × List UInt8)}

/-- A store over its disk, among the blocks that are new since w0. -/
structure ChIn (w0 w : World) (s b m g : Nat) (C : Ck) (D : Dk) (X : List (Nat × List UInt8)) : Prop where
  at_ : StoreAt w s b m g C D
  inv : Inv C D X
  lo : w0.heap.size ≤ s ∧ w0.heap.size ≤ b ∧ w0.heap.size ≤ m ∧ w0.heap.size ≤ g
  keep : Keep [] w0 w
theorem ChIn.grow (h : ChIn w0 w s b m g C D X) (hk : Keep [] w w') : ChIn w0 w' s b m g C D X := ⟨h.at_.grow hk, h.inv, h.lo, h.keep.trans hk⟩
theorem ChIn.sub (h : ChIn w0 w s b m g C D X) : ∀ x ∈ [s, b, m, g], x ∈ ([] : List Nat) ∨ w0.heap.size ≤ x := fun x hx => by
  have := h.lo
  simp only [List.mem_cons, List.not_mem_nil, or_false] at hx
  rcases hx with rfl | rfl | rfl | rfl
  · exact .inr this.1
  · exact .inr this.2.1
  · exact .inr this.2.2.1
  · exact .inr this.2.2.2
theorem ChIn.same (h : ChIn w0 w s b m g C D X) (hS : StoreAt w' s b m g C D) (hk : Keep [s, b, m, g] w w') : ChIn w0 w' s b m g C D X := ⟨hS, h.inv, h.lo, h.keep.trans' hk h.sub⟩
theorem ChIn.still (h : ChIn w0 w s b m g C D X) : D.Still := h.inv.dk.still
theorem ChIn.put (h : ChIn w0 w s b m g C D X) (hs : C.seg + 1 < 100) (i : Nat) (hi : i < 18446744073709551616) (d : List UInt8) (hd : d.length ≤ 4000) :
    Calls Tryz.prog 16 #[.pointer (some ⟨s, 0, none⟩), .int .u64 (i : Int), .string (bs d)] w fun e w' => ∃ C' D' x X', e = .returned (.int .i64 x) ∧ ChIn w0 w' s b m g C' D' X' ∧ Keep [s, b, m, g] w w' ∧ C'.seg ≤ C.seg + 1 ∧ C'.limit = C.limit ∧ D'.room = D.room ∧
      (∀ P : Nat → List UInt8 → Prop, D.Recd P → P i d → D'.Recd P) ∧
      ((x = 6 ∧ X' = X ∧ (lookX i X).isSome = true ∧ D'.used ≤ D.used) ∨ (x = 7 ∧ X' = X ∧ lookX i X = none ∧ D.room < D.used + (d.length + 50) ∧ D'.used ≤ D.used) ∨ (x = 0 ∧ X' = putX (i, d) X ∧ lookX i X = none ∧ D'.used ≤ D.used + (d.length + 50))) := by
  have hI := h.inv
  refine (sput_calls h.at_ hI.dk.ok hI.dk.still.good hI.dk.seg hs (by have := hI.dk.size_le; omega) i hi d hd).mono ?_
  rintro e w' ⟨rfl, h2, h3⟩
  obtain ⟨C', D', x, a1, a2, a3, a4, a5, a6⟩ := hI.putK hs hi hd
  have hP := fun (P : Nat → List UInt8 → Prop) (hr : D.Recd P) (hp : P i d) => hI.recd_put hs hr hi hd hp
  rw [a1] at h2 hP ⊢
  simp only at h2 hP ⊢
  rcases a6 with ⟨rfl, b1, rfl, rfl⟩ | ⟨rfl, b1, b2, b3, b4⟩ | ⟨rfl, b1, b2, b3⟩
  · exact ⟨C', D', 6, X, rfl, ⟨h2, hI, h.lo, h.keep.trans' h3 h.sub⟩, h3, a3, a4, a5, hP, .inl ⟨rfl, rfl, b1, Int.le_refl _⟩⟩
  · exact ⟨C', D', 7, X, rfl, ⟨h2, b2, h.lo, h.keep.trans' h3 h.sub⟩, h3, a3, a4, a5, hP, .inr (.inl ⟨rfl, rfl, b1, b3, b4⟩)⟩
  · exact ⟨C', D', 0, _, rfl, ⟨h2, b2, h.lo, h.keep.trans' h3 h.sub⟩, h3, a3, a4, a5, hP, .inr (.inr ⟨rfl, rfl, b1, b3⟩)⟩
theorem ChIn.drop (h : ChIn w0 w s b m g C D X) (hs : C.seg + 1 < 100) (i : Nat) (hi : i < 18446744073709551616) :
    Calls Tryz.prog 55 #[.pointer (some ⟨s, 0, none⟩), .int .u64 (i : Int)] w fun e w' => ∃ C' D' x X', e = .returned (.int .i64 x) ∧ ChIn w0 w' s b m g C' D' X' ∧ Keep [s, b, m, g] w w' ∧ C'.seg ≤ C.seg + 1 ∧ C'.limit = C.limit ∧ D'.room = D.room ∧
      (∀ P : Nat → List UInt8 → Prop, D.Recd P → D'.Recd P) ∧
      ((x = 5 ∧ X' = X ∧ lookX i X = none ∧ D'.used ≤ D.used) ∨ (x = 7 ∧ X' = X ∧ (lookX i X).isSome = true ∧ D.room < D.used + 50 ∧ D'.used ≤ D.used) ∨ (x = 0 ∧ X' = dropX i X ∧ (lookX i X).isSome = true ∧ D'.used ≤ D.used + 50)) := by
  have hI := h.inv
  refine (sdrop_calls h.at_ hI.dk.ok hI.dk.still.good hI.dk.seg hs (by have := hI.dk.size_le; omega) i hi).mono ?_
  rintro e w' ⟨rfl, h2, h3⟩
  obtain ⟨C', D', x, a1, a2, a3, a4, a5, a6⟩ := hI.dropK hs hi
  have hP := fun (P : Nat → List UInt8 → Prop) (hr : D.Recd P) => hI.recd_drop hs hr hi
  rw [a1] at h2 hP ⊢
  simp only at h2 hP ⊢
  rcases a6 with ⟨rfl, b1, rfl, rfl⟩ | ⟨rfl, b1, b2, b3, b4⟩ | ⟨rfl, b1, b2, b3⟩
  · exact ⟨C', D', 5, X, rfl, ⟨h2, hI, h.lo, h.keep.trans' h3 h.sub⟩, h3, a3, a4, a5, hP, .inl ⟨rfl, rfl, b1, Int.le_refl _⟩⟩
  · exact ⟨C', D', 7, X, rfl, ⟨h2, b2, h.lo, h.keep.trans' h3 h.sub⟩, h3, a3, a4, a5, hP, .inr (.inl ⟨rfl, rfl, b1, b3, b4⟩)⟩
  · exact ⟨C', D', 0, _, rfl, ⟨h2, b2, h.lo, h.keep.trans' h3 h.sub⟩, h3, a3, a4, a5, hP, .inr (.inr ⟨rfl, rfl, b1, b3⟩)⟩
theorem ChIn.sync (h : ChIn w0 w s b m g C D X) (hs : C.seg < 100) :
    Calls Tryz.prog 21 #[.pointer (some ⟨s, 0, none⟩)] w fun e w' => ∃ D', e = .returned (.int .i64 0) ∧ ChIn w0 w' s b m g { C with dirty := false } D' X ∧ Keep [s, b, m, g] w w' ∧ D'.room = D.room ∧ D'.used ≤ D.used ∧ D'.Safe ∧ ∀ P : Nat → List UInt8 → Prop, D.Recd P → D'.Recd P := by
  have hI := h.inv
  refine (ssync_calls h.at_ hI.dk.still.good.ok hI.dk.seg hs).mono ?_
  rintro e w' ⟨rfl, h2, h3⟩
  obtain ⟨D', a1, a2, a3, a4, a5⟩ := hI.sync
  have hP := fun (P : Nat → List UInt8 → Prop) (hr : D.Recd P) => hI.dk.recd_sync hr
  rw [a1] at h2 hP ⊢
  simp only at h2 hP ⊢
  have h4 : Keep [s, b, m, g] w w' := h3.mono (by simp)
  exact ⟨D', by first | trivial | rfl, ⟨h2, a2, h.lo, h.keep.trans' h4 h.sub⟩, h4, a3, a4, a5, hP⟩
theorem start_still {room : Int} (h0 : 0 ≤ room) (h1 : room ≤ 274877906944) : (⟨room, 0, false, 0, []⟩ : Dk).Still := ⟨⟨⟨h1, rfl, h0, (show (0 : Int) ≤ 4294967296 by decide)⟩, by intro p hp; cases hp⟩, rfl, rfl⟩
theorem start_names (room : Int) : (⟨room, 0, false, 0, []⟩ : Dk).Names segNames := ⟨by simp, by simp⟩
theorem start_segs (room : Int) : (⟨room, 0, false, 0, []⟩ : Dk).segs = [] := by
  unfold Dk.segs
  rw [List.filter_eq_nil_iff]
  intro i _
  simp [Dk.now, lookF, Fil.none_, St.none_]
theorem start_replay (room : Int) : ∀ k, (⟨room, 0, false, 0, []⟩ : Dk).replay k = []
  | 0 => rfl
  | k + 1 => by
    rw [Dk.replay_succ, if_neg (by simp [Dk.now, lookF, Fil.none_, St.none_]), start_replay room k]
/-- Open over a disk whose files are safe. -/
theorem open_in {k : Nat} (hk : Keep [] w0 w) (hd : DiskAt w b m D) (hb : w0.heap.size ≤ b) (hm : w0.heap.size ≤ m) (hT : Tab w) (hD : D.Still) (hN : D.Names segNames) (hS : D.Safe) (hk1 : 1 ≤ k) (hk2 : k < 100) (hs : ∀ i ∈ D.segs, i < k) (lim : Int) (hl : lim < 9223372036854775808) :
    Calls Tryz.prog 14 #[.pointer (some ⟨b, 0, none⟩), .int .i64 lim] w fun e w' => ∃ s g, e = .returned (.tuple #[.pointer (some ⟨s, 0, none⟩), .int .i64 0]) ∧ ChIn w0 w' s b m g (D.opens lim) D (D.replay 100) ∧ Keep [b, m] w w' ∧ (D.opens lim).seg ≤ k ∧ w.heap.size ≤ s ∧ w.heap.size ≤ g := by
  refine (copen_calls hd hT hD hN (by have := hN.files_len; omega) lim).mono ?_
  rintro e w' ⟨s, g, rfl, h1, h2, h3, h4⟩
  obtain ⟨a1, a2, a3, a4⟩ := Dk.opened hD hN hS hk1 hk2 hs lim hl
  have := hk.size
  exact ⟨s, g, rfl, ⟨h1, a1, ⟨by omega, hb, hm, by omega⟩, hk.trans' h4 (by simp; omega)⟩, h4, a2, h2, h3⟩
theorem putX_len (p : Nat × List UInt8) (X : List (Nat × List UInt8)) : (putX p X).length ≤ X.length + 1 := by
  have h : ∀ l, (insX p l).length = l.length + 1 := fun l => by
    induction l with
    | nil => rfl
    | cons q r ih =>
      unfold insX
      split
      · rfl
      · simp [ih]
  unfold putX
  rw [h]
  have := List.length_filter_le (fun q : Nat × List UInt8 => decide (q.1 ≠ p.1)) X
  unfold dropX
  omega
theorem fit_put {X : List (Nat × List UInt8)} (h : FitX X) {i : Nat} {d : List UInt8} (hi : i < 18446744073709551616) (hd : d.length ≤ 4000) : FitX (putX (i, d) X) := fun q hq => by
  unfold putX at hq
  rcases ins_mem.1 hq with rfl | hq
  · exact ⟨hi, hd⟩
  · exact h q (drop_mem.1 hq).1
theorem fit_drop {X : List (Nat × List UInt8)} (h : FitX X) (i : Nat) : FitX (dropX i X) := fun q hq => h q (drop_mem.1 hq).1
theorem allP_put {P : Nat → List UInt8 → Prop} {X : List (Nat × List UInt8)} (h : AllP P X) {i : Nat} {d : List UInt8} (hp : P i d) : AllP P (putX (i, d) X) := fun j e hj => by
  rw [look_putX] at hj
  split at hj
  · rename_i hji
    simp only at hji
    simp only [Option.some.injEq] at hj
    rw [hji, ← hj]
    exact hp
  · exact h j e hj
theorem allP_drop {P : Nat → List UInt8 → Prop} {X : List (Nat × List UInt8)} (h : AllP P X) (i : Nat) : AllP P (dropX i X) := fun j e hj => by
  rw [look_dropX] at hj
  split at hj
  · cases hj
  · exact h j e hj

end Go.Proofs.YtkplffkchanipaaGreatDoor
