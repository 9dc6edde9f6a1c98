/- Words for an encoder that a call makes for itself; frames. -/
import Derived.Test.YtpnoiagjgkajdaaGreatDoorBuilder
import Derived.Test.YtpnoiagjgkajdaaGreatDoorSeal
namespace Go.Proofs.YtpnoiagjgkajdaaGreatDoor
open Go.RowKit
attribute [local go_sem] size_bs bs_append

theorem Blk.here (w : World) (t : TypeId) (cs : Array Value) (k : Nat) (hk : k = w.heap.size) : Blk (w.alloc (.cells cs t)) k t cs := by subst hk; exact Blk.new _ _ _
theorem below_keep {B : Nat} {w wr w3 : World} (h : Below B w wr) (hB : B ≤ wr.heap.size) (hk : Keep [] wr w3) : Below B w w3 := h.trans (hk.below hB (by simp))
theorem Tab.below_ {w w' : World} (h : Tab w) (hb : Below w.heap.size w w') : Tab w' := h.below (fun k hk => hb.block k hk) h.lt.1 h.lt.2
def OthersE (w w' : World) : Prop := ∀ g t cs, Blk w g t cs → t ≠ 230 → t ≠ 5 → Blk w' g t cs
theorem EncTo.others {b : Nat} {v v' : Value} {L : List UInt8} {w w' : World} (h : EncTo b v v' w w') (hE : EncAt w b v L) : OthersE w w' := fun g t cs hg h1 h2 => by
  refine hg.keep h.keep ?_
  simp only [List.mem_cons, Option.mem_toList, not_or]
  exact ⟨hg.ne_ hE.blk h1, fun e => own_blk_ne hE.own hg (fun e' => h2 e'.symm) e⟩
structure EncNew (wr w : World) (b : Nat) (L : List UInt8) : Prop where
  keep : Keep [] wr w
  new : wr.heap.size ≤ b
  enc : ∃ v, EncAt w b v L ∧ ∀ g, v.ownBlock = some g → wr.heap.size ≤ g
theorem EncNew.start {wr w : World} {b : Nat} (hk : Keep [] wr w) (hb : wr.heap.size ≤ b) (h : Blk w b 230 #[.slice none 0 0]) : EncNew wr w b [] :=
  ⟨hk, hb, .slice none 0 0, ⟨h, World.ownsRow_nil _ _ _ _⟩, fun g hg => by simp [Value.ownBlock] at hg⟩
theorem EncNew.alloc {wr w : World} {b : Nat} {L : List UInt8} (h : EncNew wr w b L) (o : Obj) : EncNew wr (w.alloc o) b L := by
  obtain ⟨h1, h2, v, h3, h4⟩ := h
  exact ⟨h1.alloc o, h2, v, h3.alloc o, h4⟩
theorem EncNew.step {wr w w' : World} {b : Nat} {L L' : List UInt8} (h : EncNew wr w b L) (hs : ∀ v, EncAt w b v L → ∃ v', EncAt w' b v' L' ∧ EncTo b v v' w w') : EncNew wr w' b L' ∧ OthersE w w' := by
  obtain ⟨h1, h2, v, h3, h4⟩ := h
  obtain ⟨v', h5, h6⟩ := hs v h3
  refine ⟨⟨h1.trans' h6.keep (fun x hx => ?_), h2, v', h5, fun g hg => ?_⟩, h6.others h3⟩
  · simp only [List.mem_cons, Option.mem_toList] at hx
    rcases hx with rfl | hx
    · exact .inr h2
    · exact .inr (h4 x hx)
  · rcases h6.at_ g hg with h7 | h7
    · exact h4 g h7
    · exact Nat.le_trans h1.size h7
theorem EncAt.val_eq {w : World} {b : Nat} {v v' : Value} {L L' : List UInt8} (h : EncAt w b v L) (h' : EncAt w b v' L') : v = v' := by
  have h1 := h.blk
  have h2 := h'.blk
  unfold Blk at h1 h2
  rw [h1] at h2
  simpa using h2
theorem EncNew.step_one {wr w w' : World} {b : Nat} {v v' : Value} {L L' : List UInt8} (h : EncNew wr w b L) (hv : EncAt w b v L) (h5 : EncAt w' b v' L') (h6 : EncTo b v v' w w') : EncNew wr w' b L' ∧ OthersE w w' :=
  h.step fun u hu => by
    have := hu.val_eq hv
    subst this
    exact ⟨v', h5, h6⟩
theorem s_new {wr w : World} {b p : Nat} {L : List UInt8} (s : List UInt8) (hs : s.length ≤ 549755813888) (hL : L.length ≤ 274877906944) (h : EncNew wr w b L) (hp : Blk w p 9 #[.string (bs s)]) :
    Calls Tryz.prog 111 #[.pointer (some ⟨b, 0, none⟩), .slice (some ⟨p, 0, none⟩) 1 1] w fun e w' => e = .returned (.pointer (some ⟨b, 0, none⟩)) ∧ EncNew wr w' b (L ++ encS s) ∧ OthersE w w' := by
  obtain ⟨v, hv, _⟩ := h.enc
  refine (s_calls s hs L hL b p v w hv hp).mono ?_
  rintro e w' ⟨rfl, v', h5, h6⟩
  exact ⟨rfl, h.step_one hv h5 h6⟩
theorem bytes_new {wr w : World} {b : Nat} {L : List UInt8} (h : EncNew wr w b L) :
    Calls Tryz.prog 114 #[.pointer (some ⟨b, 0, none⟩)] w fun e w' => e = .returned (.string (bs L)) ∧ w = w' := by
  obtain ⟨v, hv, _⟩ := h.enc
  exact bytes_calls L b v w hv
theorem frame_len (s : List UInt8) : (frame s).length = s.length + 8 := by
  simp only [frame, List.length_append, be4_len]
  omega

end Go.Proofs.YtpnoiagjgkajdaaGreatDoor
