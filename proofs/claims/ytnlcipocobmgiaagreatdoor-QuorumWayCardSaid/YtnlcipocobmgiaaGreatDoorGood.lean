/- Disks in order, and the sum's table beside them. -/
import Derived.Test.YtnlcipocobmgiaaGreatDoorSeals
import Derived.Test.YtnlcipocobmgiaaGreatDoorDisks
namespace Go.Proofs.YtnlcipocobmgiaaGreatDoor
open Go.RowKit

/-- A state of a file that isn't there has no bytes. -/
def St.Clean (s : St) : Prop := s.there = false → s.text = []
def Fil.Clean (f : Fil) : Prop := f.now.Clean ∧ f.sure.Clean
def AllClean (l : List (List UInt8 × Fil)) : Prop := ∀ p ∈ l, p.2.Clean
theorem clean_none : Fil.none_.Clean := ⟨fun _ => rfl, fun _ => rfl⟩
theorem AllClean.look {l : List (List UInt8 × Fil)} (h : AllClean l) (s : List UInt8) : (lookF s l).Clean := by
  induction l with
  | nil => exact clean_none
  | cons p l ih =>
    simp only [lookF]
    split
    · exact h p (by simp)
    · exact ih fun q hq => h q (by simp [hq])
theorem AllClean.put {l : List (List UInt8 × Fil)} (h : AllClean l) (s : List UInt8) {f : Fil} (hf : f.Clean) : AllClean (putF s f l) := by
  induction l with
  | nil =>
    intro p hp
    simp only [putF, List.mem_cons, List.not_mem_nil, or_false] at hp
    subst hp
    exact hf
  | cons p l ih =>
    have ih' := ih fun q hq => h q (by simp [hq])
    intro q hq
    simp only [putF] at hq
    split at hq
    · simp only [List.mem_cons] at hq
      rcases hq with rfl | hq
      · exact hf
      · exact h q (by simp [hq])
    · simp only [List.mem_cons] at hq
      rcases hq with rfl | hq
      · exact h q (by simp)
      · exact ih' q hq
theorem AllClean.del {l : List (List UInt8 × Fil)} (h : AllClean l) (s : List UInt8) : AllClean (delF s l) := by
  induction l with
  | nil => exact h
  | cons p l ih =>
    have ih' := ih fun q hq => h q (by simp [hq])
    intro q hq
    simp only [delF] at hq
    split at hq
    · exact h q (by simp [hq])
    · simp only [List.mem_cons] at hq
      rcases hq with rfl | hq
      · exact h q (by simp)
      · exact ih' q hq
/-- A disk in order. -/
structure Dk.Good (D : Dk) : Prop where
  ok : D.Ok
  clean : AllClean D.files
theorem Dk.Good.tries {D : Dk} (h : D.Good) : D.tries.1.Good := by
  refine ⟨h.ok.tries, ?_⟩
  have := h.clean
  unfold Dk.tries
  split
  · exact this
  · split <;> exact this
theorem Dk.Good.put {D : Dk} (h : D.Good) (name : List UInt8) {f : Fil} (hf : f.Clean) : (D.put name f).1.Good := by
  unfold Dk.put
  split
  · exact h
  · rename_i hfull
    refine ⟨⟨h.ok.room, ?_, ?_, h.ok.armed⟩, ?_⟩
    · simp only [Dk.store]
      split
      · rw [put_sum, h.ok.used]; omega
      · rename_i hth
        have h1 : f.now.there = false := by revert hth; cases f.now.there <;> simp
        have h2 : f.sure.there = false := by revert hth; cases f.sure.there <;> simp
        have h3 : f.weight = 0 := by simp [Fil.weight, hf.1 h1, hf.2 h2]
        rw [del_sum, h.ok.used]; omega
    · simp only [Dk.store]; omega
    · simp only [Dk.store]
      split
      · exact h.clean.put name hf
      · exact h.clean.del name
theorem Dk.Good.change {D : Dk} (h : D.Good) (name : List UInt8) (g : List UInt8 → List UInt8) : (D.change name g).1.Good := by
  unfold Dk.change
  split
  · exact h.tries
  · split
    · exact h.tries
    · exact h.tries.put name ⟨fun e => by simp at e, (h.tries.clean.look name).2⟩
theorem Dk.Good.sync {D : Dk} (h : D.Good) (name : List UInt8) : (D.sync name).1.Good := by
  unfold Dk.sync
  split
  · exact h.tries
  · exact h.tries.put name ⟨(h.tries.clean.look name).1, (h.tries.clean.look name).1⟩

/-- save: a file has these bytes, for sure. -/
def Dk.save (D : Dk) (name s : List UInt8) : Dk × Int := if (D.write name s).2 ≠ 0 then D.write name s else (D.write name s).1.sync name
theorem Dk.Good.save {D : Dk} (h : D.Good) (name s : List UInt8) : (D.save name s).1.Good := by
  unfold Dk.save
  split
  · exact h.change _ _
  · exact (h.change _ _).sync _

theorem Tab.ne_blk {w : World} {b : Nat} {t : TypeId} {cs : Array Value} (h : Tab w) (hb : Blk w b t cs) (hc : cs[0]? ≠ some (.int .u32 0)) : 0 ≠ b := by
  rintro rfl
  have h0 := h 0 (by omega)
  rw [hb.cell] at h0
  exact hc h0
theorem Tab.ne_map {w : World} {m : Nat} {L : List (List UInt8 × Value)} (h : Tab w) (hm : MapIs w m L) : 0 ≠ m := by
  rintro rfl
  obtain ⟨es, c, hm, _⟩ := hm
  have h0 := h 0 (by omega)
  simp [World.cell?, hm] at h0
theorem Tab.disk {w w' : World} {b m : Nat} {D : Dk} (h : Tab w) (hD : DiskAt w b m D) (hk : Keep [b, m] w w') : Tab w' :=
  h.keep hk (by simp only [List.mem_cons, List.not_mem_nil, or_false, not_or]; exact ⟨h.ne_blk hD.blk (by simp), h.ne_map hD.map⟩)

end Go.Proofs.YtnlcipocobmgiaaGreatDoor
