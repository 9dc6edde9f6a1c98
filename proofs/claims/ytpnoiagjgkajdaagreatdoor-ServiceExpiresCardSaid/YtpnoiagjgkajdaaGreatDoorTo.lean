/- What a call may change: the blocks of a part of memory, and new ones. -/
import Derived.Test.YtpnoiagjgkajdaaGreatDoorBase
namespace Go.Proofs.YtpnoiagjgkajdaaGreatDoor
open Go.RowKit

/-- A call changes blocks of f alone, and makes new ones; the part's blocks are f' behind it. -/
structure To (f f' : List Nat) (w w' : World) : Prop where
  keep : Keep f w w'
  new : ∀ k ∈ f', k ∈ f ∨ w.heap.size ≤ k
def Dis (f g : List Nat) : Prop := ∀ k ∈ f, k ∉ g
/-- The blocks of a part lie in memory. -/
def Lies (w : World) (f : List Nat) : Prop := ∀ k ∈ f, k < w.heap.size
section
variable {f f' f'' g g' M : List Nat} {w w' w'' : World}
theorem Dis.symm (h : Dis f g) : Dis g f := fun k hk hf => h k hf hk
theorem Dis.sub (h : Dis f g) (hs : ∀ k ∈ f', k ∈ f) : Dis f' g := fun k hk => h k (hs k hk)
theorem Dis.nil : Dis [] g := fun _ h => (by cases h)
theorem Dis.app : Dis (f ++ f') g ↔ Dis f g ∧ Dis f' g := ⟨fun h => ⟨fun k hk => h k (List.mem_append_left _ hk), fun k hk => h k (List.mem_append_right _ hk)⟩, fun h k hk => (List.mem_append.1 hk).elim (h.1 k) (h.2 k)⟩
theorem Lies.grow (h : Lies w f) (hs : w.heap.size ≤ w'.heap.size) : Lies w' f := fun k hk => Nat.lt_of_lt_of_le (h k hk) hs
theorem Lies.app : Lies w (f ++ g) ↔ Lies w f ∧ Lies w g := ⟨fun h => ⟨fun k hk => h k (List.mem_append_left _ hk), fun k hk => h k (List.mem_append_right _ hk)⟩, fun h k hk => (List.mem_append.1 hk).elim (h.1 k) (h.2 k)⟩
theorem Lies.sub (h : Lies w f) (hs : ∀ k ∈ g, k ∈ f) : Lies w g := fun k hk => h k (hs k hk)
theorem To.refl (f : List Nat) (w : World) : To f f w w := ⟨Keep.refl _ _, fun _ h => .inl h⟩
theorem To.of_keep (hk : Keep [] w w') : To f f w w' := ⟨hk.nil_, fun _ h => .inl h⟩
theorem To.trans (h : To f f' w w') (k : To f' f'' w' w'') : To f f'' w w'' :=
  ⟨h.keep.trans' k.keep h.new, fun x hx => (k.new x hx).elim (h.new x) fun h1 => .inr (Nat.le_trans h.keep.size h1)⟩
theorem To.size (h : To f f' w w') : w.heap.size ≤ w'.heap.size := h.keep.size
/-- Another part lies apart behind it, too. -/
theorem To.dis (h : To f f' w w') (hd : Dis f g) (hg : Lies w g) : Dis f' g := fun k hk hkg => (h.new k hk).elim (fun h1 => hd k h1 hkg) fun h1 => by have := hg k hkg; omega
theorem To.wide (h : To f f' w w') (hs : ∀ k ∈ f, k ∈ g) (hs' : ∀ k ∈ g', k ∈ f' ∨ k ∈ g) : To g g' w w' :=
  ⟨h.keep.mono fun k hk => .inl (hs k hk), fun k hk => (hs' k hk).elim (fun h1 => (h.new k h1).imp_left (hs k)) .inl⟩
theorem To.app_left (h : To f f' w w') : To (f ++ g) (f' ++ g) w w' := h.wide (fun _ hk => List.mem_append_left _ hk) fun _ hk => (List.mem_append.1 hk).imp_right (List.mem_append_right _)
theorem To.app_right (h : To f f' w w') : To (g ++ f) (g ++ f') w w' := h.wide (fun _ hk => List.mem_append_right _ hk) fun _ hk => (List.mem_append.1 hk).symm.imp_right (List.mem_append_left _)
theorem To.pre (hk : Keep [] w w') (h : To f f' w' w'') : To f f' w w'' := (To.of_keep hk).trans h
theorem To.post (h : To f f' w w') (hk : Keep [] w' w'') : To f f' w w'' := h.trans (To.of_keep hk)
end

end Go.Proofs.YtpnoiagjgkajdaaGreatDoor
