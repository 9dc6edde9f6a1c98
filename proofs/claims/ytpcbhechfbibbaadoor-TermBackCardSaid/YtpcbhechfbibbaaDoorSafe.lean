/- Plain laws of disks: which names they hold; disks whose files are all safe; a crash of such. -/
import Derived.Test.YtpcbhechfbibbaaDoorCrash2
import Derived.Test.YtpcbhechfbibbaaDoorPlainDisk
namespace Go.Proofs.YtpcbhechfbibbaaDoor
open Go.RowKit

theorem nodup_le {α : Type} [DecidableEq α] : ∀ (l m : List α), l.Nodup → (∀ x ∈ l, x ∈ m) → l.length ≤ m.length
  | [], _, _, _ => Nat.zero_le _
  | x :: l, m, hn, hm => by
    have hx := hm x (by simp)
    have h1 := nodup_le l (m.erase x) (List.nodup_cons.1 hn).2 (fun y hy => by
      have hne : y ≠ x := by rintro rfl; exact (List.nodup_cons.1 hn).1 hy
      exact (List.mem_erase_of_ne hne).2 (hm y (by simp [hy])))
    rw [List.length_erase_of_mem hx] at h1
    have := List.length_pos_of_mem hx
    simp only [List.length_cons]
    omega
theorem putF_names (s : List UInt8) (f : Fil) : ∀ l : List (List UInt8 × Fil), (putF s f l).map (·.1) = if s ∈ l.map (·.1) then l.map (·.1) else l.map (·.1) ++ [s]
  | [] => by simp [putF]
  | p :: l => by
    have ih := putF_names s f l
    by_cases h : s = p.1
    · simp [putF, h]
    · simp only [putF, if_neg h, List.map_cons, List.mem_cons, ih]
      by_cases h2 : s ∈ l.map (·.1)
      · simp [h2]
      · simp [h2, h]
theorem delF_sub (s : List UInt8) : ∀ l : List (List UInt8 × Fil), (delF s l).Sublist l
  | [] => List.Sublist.refl _
  | p :: l => by
    by_cases h : s = p.1
    · simp only [delF, if_pos h]; exact List.sublist_cons_self _ _
    · simp only [delF, if_neg h]; exact (delF_sub s l).cons_cons _

/-- The files' names are among these, each once. -/
structure Dk.Names (D : Dk) (ns : List (List UInt8)) : Prop where
  nodup : (D.files.map (·.1)).Nodup
  mem : ∀ x ∈ D.files.map (·.1), x ∈ ns
theorem Dk.Names.tries {D : Dk} {ns : List (List UInt8)} (h : D.Names ns) : D.tries.1.Names ns := by
  unfold Dk.tries
  split
  · exact h
  · split
    · exact ⟨h.nodup, h.mem⟩
    · exact h
theorem Dk.Names.put {D : Dk} {ns : List (List UInt8)} (h : D.Names ns) {name : List UInt8} (hn : name ∈ ns) (f : Fil) : (D.put name f).1.Names ns := by
  unfold Dk.put
  split
  · exact h
  · unfold Dk.store
    simp only
    split
    · refine ⟨?_, ?_⟩
      · simp only [putF_names]
        split
        · exact h.nodup
        · rename_i hx
          exact List.nodup_append.2 ⟨h.nodup, by simp, by
            intro a ha b hb
            simp only [List.mem_singleton] at hb
            subst hb
            rintro rfl
            exact hx ha⟩
      · simp only [putF_names]
        intro x hx
        split at hx
        · exact h.mem x hx
        · rcases List.mem_append.1 hx with hx | hx
          · exact h.mem x hx
          · simp only [List.mem_singleton] at hx
            subst hx
            exact hn
    · have hs := (delF_sub name D.files).map (·.1)
      exact ⟨h.nodup.sublist hs, fun x hx => h.mem x (hs.subset hx)⟩
theorem Dk.Names.change {D : Dk} {ns : List (List UInt8)} (h : D.Names ns) {name : List UInt8} (hn : name ∈ ns) (g : List UInt8 → List UInt8) : (D.change name g).1.Names ns := by
  unfold Dk.change
  split
  · exact h.tries
  · split
    · exact h.tries
    · exact h.tries.put hn _
theorem Dk.Names.sync {D : Dk} {ns : List (List UInt8)} (h : D.Names ns) {name : List UInt8} (hn : name ∈ ns) : (D.sync name).1.Names ns := by
  unfold Dk.sync
  split
  · exact h.tries
  · exact h.tries.put hn _
theorem Dk.Names.save {D : Dk} {ns : List (List UInt8)} (h : D.Names ns) {name : List UInt8} (hn : name ∈ ns) (s : List UInt8) : (D.save name s).1.Names ns := by
  unfold Dk.save
  split
  · exact h.change hn _
  · exact Dk.Names.sync (h.change hn _) hn
theorem Dk.Names.crashL {ns : List (List UInt8)} (ch : List Int) : ∀ (l : List (List UInt8)) (k : Nat) {D : Dk}, D.Names ns → (∀ x ∈ l, x ∈ ns) → (crashL ch l k D).Names ns
  | [], _, _, h, _ => h
  | n :: l, k, D, h, hl => by
    unfold YtpcbhechfbibbaaDoor.crashL
    split
    · exact Dk.Names.crashL ch l k h (fun x hx => hl x (by simp [hx]))
    · exact Dk.Names.crashL ch l (k + 1) (h.put (hl n (by simp)) _) (fun x hx => hl x (by simp [hx]))
theorem Dk.Names.crash {D : Dk} {ns : List (List UInt8)} (h : D.Names ns) (ch : List Int) : (D.crash ch).Names ns :=
  Dk.Names.crashL ch _ 0 h (fun x hx => h.mem x ((sorted_perm _).mem_iff.1 hx))
theorem Dk.Names.len {D : Dk} {ns : List (List UInt8)} (h : D.Names ns) : D.files.length ≤ ns.length := by
  have := nodup_le _ ns h.nodup h.mem
  simpa using this
theorem Dk.Names.lens {D : Dk} {ns : List (List UInt8)} (h : D.Names ns) {k : Nat} (hk : ∀ x ∈ ns, x.length ≤ k) : ∀ p ∈ D.files, p.1.length ≤ k := fun _ hp => hk _ (h.mem _ (List.mem_map_of_mem hp))
theorem Dk.Good.crashL {ch : List Int} : ∀ (l : List (List UInt8)) (k : Nat) {D : Dk}, D.Good → (crashL ch l k D).Good
  | [], _, _, h => h
  | n :: l, k, D, h => by
    unfold YtpcbhechfbibbaaDoor.crashL
    split
    · exact Dk.Good.crashL l k h
    · have hcl := (h.clean.look n).left ch k
      exact Dk.Good.crashL l (k + 1) (h.put n ⟨hcl, hcl⟩)
theorem Dk.Good.crash {D : Dk} (h : D.Good) (ch : List Int) : (D.crash ch).Good := Dk.Good.crashL _ 0 h

/-- All files are safe. -/
def Dk.Safe (D : Dk) : Prop := ∀ n, (lookF n D.files).now = (lookF n D.files).sure
theorem Dk.Safe.crashL {D : Dk} (h : D.Safe) (ch : List Int) : ∀ (l : List (List UInt8)) (k : Nat), crashL ch l k D = D
  | [], _ => rfl
  | n :: l, k => by
    unfold YtpcbhechfbibbaaDoor.crashL
    rw [if_pos ⟨by rw [h n], by rw [h n]⟩]
    exact h.crashL ch l k
theorem Dk.Safe.crash {D : Dk} (h : D.Safe) (ch : List Int) : D.crash ch = D := h.crashL ch _ 0
theorem Dk.Safe.of_look {D D' : Dk} {name : List UInt8} {f : St} (h : D.Safe) (h1 : lookF name D'.files = ⟨f, f⟩) (h2 : ∀ n, n ≠ name → lookF n D'.files = lookF n D.files) : D'.Safe := fun n => by
  by_cases hn : n = name
  · subst hn; rw [h1]
  · rw [h2 n hn]; exact h n

end Go.Proofs.YtpcbhechfbibbaaDoor
