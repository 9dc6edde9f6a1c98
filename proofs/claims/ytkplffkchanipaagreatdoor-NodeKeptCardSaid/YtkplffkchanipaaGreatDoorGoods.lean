/- Disks in order, and the sum's table beside them. -/
import Derived.Test.YtkplffkchanipaaGreatDoorSeals
import Derived.Test.YtkplffkchanipaaGreatDoorDisks
namespace Go.Proofs.YtkplffkchanipaaGreatDoor
open Go.RowKit

/-- A state of a file that isn't there has no bytes. -/
def St.Clean (s : St) : Prop := s.there = false → s.text = []
def Fil.Clean (f : Fil) : Prop := f.now.Clean ∧ f.sure.Clean
def AllClean (l : List (List UInt8 × Fil)) : Prop := ∀ p ∈ l, p.2.Clean
theorem clean_none : Fil.none_.Clean := ⟨fun _ => rfl, fun _ => rfl⟩
theorem AllClean.look {l : List (List UInt8 × Fil)} (h : AllClean l) (s : List UInt8) : (lookF s l).Clean := by
  induction l with
  | nil => exact clean_none
  | cons p l ih =>
    simp only [lookF]
    split
    · exact h p (by simp)
    · exact ih fun q hq => h q (by simp [hq])
theorem AllClean.put {l : List (List UInt8 × Fil)} (h : AllClean l) (s : List UInt8) {f : Fil} (hf : f.Clean) : AllClean (putF s f l) := by
  induction l with
  | nil =>
    intro p hp
    simp only [putF, List.mem_cons, List.not_mem_nil, or_false] at hp
    subst hp
    exact hf
  | cons p l ih =>
    have ih' := ih fun q hq => h q (by simp [hq])
    intro q hq
    simp only [putF] at hq
    split at hq
    · simp only [List.mem_cons] at hq
      rcases hq with rfl | hq
      · exact hf
      · exact h q (by simp [hq])
    · simp only [List.mem_cons] at hq
      rcases hq with rfl | hq
      · exact h q (by simp)
      · exact ih' q hq
theorem AllClean.del {l : List (List UInt8 × Fil)} (h : AllClean l) (s : List UInt8) : AllClean (delF s l) := by
  induction l with
  | nil => exact h
  | cons p l ih =>
    have ih' := ih fun q hq => h q (by simp [hq])
    intro q hq
    simp only [delF] at hq
    split at hq
    · exact h q (by simp [hq])
    · simp only [List.mem_cons] at hq
      rcases hq with rfl | hq
      · exact h q (by simp)
      · exact ih' q hq
/-- A disk in order. -/
structure Dk.Good (D : Dk) : Prop where
  ok : D.Ok
  clean : AllClean D.files
theorem Dk.Good.tries {D : Dk} (h : D.Good) : D.tries.1.Good := by
  refine ⟨h.ok.tries, ?_⟩
  have := h.clean
  unfold Dk.tries
  split
  · exact this
  · split <;> exact this
theorem Dk.Good.put {D : Dk} (h : D.Good) (name : List UInt8) {f : Fil} (hf : f.Clean) : (D.put name f).1.Good := by
  unfold Dk.put
  split
  · exact h
  · rename_i hfull
    refine ⟨⟨h.ok.room, ?_, ?_, h.ok.armed⟩, ?_⟩
    · simp only [Dk.store]
      split
      · rw [put_sum, h.ok.used]; omega
      · rename_i hth
        have h1 : f.now.there = false := by revert hth; cases f.now.there <;> simp
        have h2 : f.sure.there = false := by revert hth; cases f.sure.there <;> simp
        have h3 : f.weight = 0 := by simp [Fil.weight, hf.1 h1, hf.2 h2]
        rw [del_sum, h.ok.used]; omega
    · simp only [Dk.store]; omega
    · simp only [Dk.store]
      split
      · exact h.clean.put name hf
      · exact h.clean.del name
theorem Dk.Good.change {D : Dk} (h : D.Good) (name : List UInt8) (g : List UInt8 → List UInt8) : (D.change name g).1.Good := by
  unfold Dk.change
  split
  · exact h.tries
  · split
    · exact h.tries
    · exact h.tries.put name ⟨fun e => by simp at e, (h.tries.clean.look name).2⟩
theorem Dk.Good.sync {D : Dk} (h : D.Good) (name : List UInt8) : (D.sync name).1.Good := by
  unfold Dk.sync
  split
  · exact h.tries
  · exact h.tries.put name ⟨(h.tries.clean.look name).1, (h.tries.clean.look name).1⟩

/-- save: a file has these bytes, for sure. -/
def Dk.save (D : Dk) (name s : List UInt8) : Dk × Int := if (D.write name s).2 ≠ 0 then D.write name s else (D.write name s).1.sync name
theorem Dk.Good.save {D : Dk} (h : D.Good) (name s : List UInt8) : (D.save name s).1.Good := by
  unfold Dk.save
  split
  · exact h.change _ _
  · exact (h.change _ _).sync _

theorem Tab.ne_blk {w : World} {b : Nat} {t : TypeId} {cs : Array Value} (h : Tab w) (hb : Blk w b t cs) (hc : cs[0]? ≠ some (.int .u32 0)) : 0 ≠ b := by
  rintro rfl
  have h0 := h 0 (by omega)
  rw [hb.cell] at h0
  exact hc h0
theorem Tab.ne_map {w : World} {m : Nat} {L : List (List UInt8 × Value)} (h : Tab w) (hm : MapIs w m L) : 0 ≠ m := by
  rintro rfl
  obtain ⟨es, c, hm, _⟩ := hm
  have h0 := h 0 (by omega)
  simp [World.cell?, hm] at h0
theorem Tab.disk {w w' : World} {b m : Nat} {D : Dk} (h : Tab w) (hD : DiskAt w b m D) (hk : Keep [b, m] w w') : Tab w' :=
  h.keep hk (by simp only [List.mem_cons, List.not_mem_nil, or_false, not_or]; exact ⟨h.ne_blk hD.blk (by simp), h.ne_map hD.map⟩)

end Go.Proofs.YtkplffkchanipaaGreatDoor
/- Plain: the names of a disk's files, in order; what a crash leaves. -/
namespace Go.Proofs.YtkplffkchanipaaGreatDoor
open Go.RowKit

/-- Names in ascending order. -/
def sorted (l : List (List UInt8)) : List (List UInt8) := l.mergeSort fun x y => decide (x ≤ y)
theorem sorted_perm (l : List (List UInt8)) : (sorted l).Perm l := List.mergeSort_perm _ _

/-- The names of a disk's files, in ascending order. -/
def Dk.all (D : Dk) : List (List UInt8) := sorted (D.files.map (·.1))
theorem Dk.all_len (D : Dk) : D.all.length = D.files.length := by
  have := (sorted_perm (D.files.map (·.1))).length_eq
  simpa [Dk.all] using this

/-- Pick. -/
def pick (l : List Int) (k n : Nat) : Nat := match l[k]? with
  | some x => (x % (n : Int)).toNat
  | none => 0
theorem pick_lt (l : List Int) (k : Nat) {n : Nat} (hn : 1 ≤ n) : pick l k n < n := by
  unfold pick
  split
  · rename_i x _
    have h1 := Int.emod_nonneg x (show (n : Int) ≠ 0 by omega)
    have h2 := Int.emod_lt_of_pos x (show (0 : Int) < (n : Int) by omega)
    omega
  · omega

/-- left. -/
def Fil.left (f : Fil) (ch : List Int) (k : Nat) : St :=
  if f.now.there = true ∧ f.sure.text.length < f.now.text.length ∧ f.sure.text.isPrefixOf f.now.text = true then
    if pick ch k (f.now.text.length - f.sure.text.length + 1) = 0 then f.sure else ⟨true, f.now.text.take (f.sure.text.length + pick ch k (f.now.text.length - f.sure.text.length + 1))⟩
  else if pick ch k 2 = 0 then f.sure else f.now

theorem Fil.Clean.left {f : Fil} (h : f.Clean) (ch : List Int) (k : Nat) : (f.left ch k).Clean := by
  unfold Fil.left
  split
  · split
    · exact h.2
    · intro h; cases h
  · split
    · exact h.2
    · exact h.1
theorem Fil.left_le (f : Fil) (ch : List Int) (k : Nat) : ((f.left ch k).text.length : Int) ≤ f.weight := by
  have h1 := f.weight_now
  have h2 := f.weight_sure
  unfold Fil.left
  split
  · split
    · exact h2
    · simp only [List.length_take]; omega
  · split
    · exact h2
    · exact h1
/-- What a crash leaves of a disk: of each file in turn. -/
def crashL (ch : List Int) : List (List UInt8) → Nat → Dk → Dk
  | [], _, D => D
  | n :: ns, k, D => if (lookF n D.files).now.there = (lookF n D.files).sure.there ∧ (lookF n D.files).now.text = (lookF n D.files).sure.text then crashL ch ns k D else crashL ch ns (k + 1) (D.put n ⟨(lookF n D.files).left ch k, (lookF n D.files).left ch k⟩).1
def Dk.crash (D : Dk) (ch : List Int) : Dk := crashL ch D.all 0 D


end Go.Proofs.YtkplffkchanipaaGreatDoor
/- Plain laws of a disk that doesn't fail. -/
namespace Go.Proofs.YtkplffkchanipaaGreatDoor
open Go.RowKit

theorem look_put (n m : List UInt8) (f : Fil) : ∀ l, lookF n (putF m f l) = if n = m then f else lookF n l
  | [] => by simp only [putF, lookF]
  | p :: l => by
    have ih := look_put n m f l
    by_cases hm : m = p.1
    · simp only [putF, if_pos hm, lookF]
      by_cases hn : n = m
      · simp [hn]
      · have : ¬ n = p.1 := fun h => hn (h.trans hm.symm)
        simp [hn, this]
    · simp only [putF, if_neg hm, lookF, ih]
      by_cases hn : n = p.1
      · have : ¬ n = m := fun h => hm (h.symm.trans hn)
        simp [hn]
        intro h
        exact absurd h.symm hm
      · simp [hn]

/-- A disk in order that doesn't fail, with so much space left. -/
structure Dk.Calm (D : Dk) (left : Nat) : Prop where
  good : D.Good
  lost : D.lost = false
  armed : D.armed = 0
  left : D.used + (left : Int) ≤ D.room
theorem Dk.Calm.tries {D : Dk} {k : Nat} (h : D.Calm k) : D.tries = (D, 0) := by
  unfold Dk.tries
  rw [h.lost, h.armed]
  simp
theorem Dk.Calm.mono {D : Dk} {k j : Nat} (h : D.Calm k) (hj : j ≤ k) : D.Calm j := ⟨h.good, h.lost, h.armed, by have := h.left; omega⟩
theorem Dk.Calm.put {D : Dk} {k j : Nat} (h : D.Calm k) (name : List UInt8) {f : Fil} (hc : f.Clean) (hf : f.weight ≤ (lookF name D.files).weight + j) (hj : j ≤ k) (hth : (f.now.there || f.sure.there) = true) :
    ∃ D', D.put name f = (D', 0) ∧ D'.Calm (k - j) ∧ lookF name D'.files = f ∧ ∀ n, n ≠ name → lookF n D'.files = lookF n D.files := by
  have hg := h.good.put name hc
  have h1 := h.left
  have hp : D.put name f = (D.store name f, 0) := by
    unfold Dk.put
    rw [if_neg (by omega)]
  rw [hp] at hg
  refine ⟨_, hp, ⟨hg, h.lost, h.armed, ?_⟩, ?_, fun n hn => ?_⟩
  · simp only [Dk.store]; omega
  · simp only [Dk.store, hth, if_true, look_put]
  · simp only [Dk.store, hth, if_true, look_put, if_neg hn]
theorem Dk.Calm.change {D : Dk} {k j : Nat} (h : D.Calm k) (name : List UInt8) (hn : name ≠ []) (g : List UInt8 → List UInt8) (hg : (g (lookF name D.files).now.text).length ≤ (lookF name D.files).now.text.length + j) (hj : j ≤ k) :
    ∃ D', D.change name g = (D', 0) ∧ D'.Calm (k - j) ∧ lookF name D'.files = ⟨⟨true, g (lookF name D.files).now.text⟩, (lookF name D.files).sure⟩ ∧ ∀ n, n ≠ name → lookF n D'.files = lookF n D.files := by
  have hc := h.good.clean.look name
  have hch : D.change name g = D.put name ⟨⟨true, g (lookF name D.files).now.text⟩, (lookF name D.files).sure⟩ := by
    unfold Dk.change
    rw [h.tries]
    simp [hn]
  rw [hch]
  refine h.put name ⟨fun e => by simp at e, hc.2⟩ ?_ hj (by simp)
  have h1 := (lookF name D.files).weight_now
  have h2 := (lookF name D.files).weight_sure
  generalize hw : (lookF name D.files).weight = W at *
  simp only [Fil.weight]
  split <;> omega
theorem Dk.Calm.sync {D : Dk} {k : Nat} (h : D.Calm k) (name : List UInt8) (hth : (lookF name D.files).now.there = true) :
    ∃ D', D.sync name = (D', 0) ∧ D'.Calm k ∧ lookF name D'.files = ⟨(lookF name D.files).now, (lookF name D.files).now⟩ ∧ ∀ n, n ≠ name → lookF n D'.files = lookF n D.files := by
  have hc := h.good.clean.look name
  obtain ⟨D', h1, h2, h3, h4⟩ := h.put (j := 0) name (f := ⟨(lookF name D.files).now, (lookF name D.files).now⟩) ⟨hc.1, hc.1⟩ (by
    have h1 := (lookF name D.files).weight_now
    simp only [Fil.weight] at h1 ⊢
    split <;> omega) (Nat.zero_le _) (by simp [hth])
  refine ⟨D', ?_, by simpa using h2, h3, h4⟩
  unfold Dk.sync
  rw [h.tries]
  simp [h1]
theorem Dk.Calm.save {D : Dk} {k : Nat} (h : D.Calm k) (name : List UInt8) (hn : name ≠ []) (s : List UInt8) (hs : s.length ≤ k) :
    ∃ D', D.save name s = (D', 0) ∧ D'.Calm (k - s.length) ∧ lookF name D'.files = ⟨⟨true, s⟩, ⟨true, s⟩⟩ ∧ ∀ n, n ≠ name → lookF n D'.files = lookF n D.files := by
  obtain ⟨D1, h1, h2, h3, h4⟩ := h.change name hn (fun _ => s) (j := s.length) (by simp) hs
  obtain ⟨D2, g1, g2, g3, g4⟩ := h2.sync name (by rw [h3])
  refine ⟨D2, ?_, g2, by rw [g3, h3], fun n hn => by rw [g4 n hn, h4 n hn]⟩
  have hw : D.write name s = (D1, 0) := h1
  unfold Dk.save
  rw [hw, if_neg (by simp)]
  exact g1

end Go.Proofs.YtkplffkchanipaaGreatDoor
/- Plain laws of disks: which names they hold; disks whose files are all safe; a crash of such. -/
namespace Go.Proofs.YtkplffkchanipaaGreatDoor
open Go.RowKit

theorem nodup_le {α : Type} [DecidableEq α] : ∀ (l m : List α), l.Nodup → (∀ x ∈ l, x ∈ m) → l.length ≤ m.length
  | [], _, _, _ => Nat.zero_le _
  | x :: l, m, hn, hm => by
    have hx := hm x (by simp)
    have h1 := nodup_le l (m.erase x) (List.nodup_cons.1 hn).2 (fun y hy => by
      have hne : y ≠ x := by rintro rfl; exact (List.nodup_cons.1 hn).1 hy
      exact (List.mem_erase_of_ne hne).2 (hm y (by simp [hy])))
    rw [List.length_erase_of_mem hx] at h1
    have := List.length_pos_of_mem hx
    simp only [List.length_cons]
    omega
theorem putF_names (s : List UInt8) (f : Fil) : ∀ l : List (List UInt8 × Fil), (putF s f l).map (·.1) = if s ∈ l.map (·.1) then l.map (·.1) else l.map (·.1) ++ [s]
  | [] => by simp [putF]
  | p :: l => by
    have ih := putF_names s f l
    by_cases h : s = p.1
    · simp [putF, h]
    · simp only [putF, if_neg h, List.map_cons, List.mem_cons, ih]
      by_cases h2 : s ∈ l.map (·.1)
      · simp [h2]
      · simp [h2, h]
theorem delF_sub (s : List UInt8) : ∀ l : List (List UInt8 × Fil), (delF s l).Sublist l
  | [] => List.Sublist.refl _
  | p :: l => by
    by_cases h : s = p.1
    · simp only [delF, if_pos h]; exact List.sublist_cons_self _ _
    · simp only [delF, if_neg h]; exact (delF_sub s l).cons_cons _

/-- The files' names are among these, each once. -/
structure Dk.Names (D : Dk) (ns : List (List UInt8)) : Prop where
  nodup : (D.files.map (·.1)).Nodup
  mem : ∀ x ∈ D.files.map (·.1), x ∈ ns
theorem Dk.Names.tries {D : Dk} {ns : List (List UInt8)} (h : D.Names ns) : D.tries.1.Names ns := by
  unfold Dk.tries
  split
  · exact h
  · split
    · exact ⟨h.nodup, h.mem⟩
    · exact h
theorem Dk.Names.put {D : Dk} {ns : List (List UInt8)} (h : D.Names ns) {name : List UInt8} (hn : name ∈ ns) (f : Fil) : (D.put name f).1.Names ns := by
  unfold Dk.put
  split
  · exact h
  · unfold Dk.store
    simp only
    split
    · refine ⟨?_, ?_⟩
      · simp only [putF_names]
        split
        · exact h.nodup
        · rename_i hx
          exact List.nodup_append.2 ⟨h.nodup, by simp, by
            intro a ha b hb
            simp only [List.mem_singleton] at hb
            subst hb
            rintro rfl
            exact hx ha⟩
      · simp only [putF_names]
        intro x hx
        split at hx
        · exact h.mem x hx
        · rcases List.mem_append.1 hx with hx | hx
          · exact h.mem x hx
          · simp only [List.mem_singleton] at hx
            subst hx
            exact hn
    · have hs := (delF_sub name D.files).map (·.1)
      exact ⟨h.nodup.sublist hs, fun x hx => h.mem x (hs.subset hx)⟩
theorem Dk.Names.change {D : Dk} {ns : List (List UInt8)} (h : D.Names ns) {name : List UInt8} (hn : name ∈ ns) (g : List UInt8 → List UInt8) : (D.change name g).1.Names ns := by
  unfold Dk.change
  split
  · exact h.tries
  · split
    · exact h.tries
    · exact h.tries.put hn _
theorem Dk.Names.sync {D : Dk} {ns : List (List UInt8)} (h : D.Names ns) {name : List UInt8} (hn : name ∈ ns) : (D.sync name).1.Names ns := by
  unfold Dk.sync
  split
  · exact h.tries
  · exact h.tries.put hn _
theorem Dk.Names.save {D : Dk} {ns : List (List UInt8)} (h : D.Names ns) {name : List UInt8} (hn : name ∈ ns) (s : List UInt8) : (D.save name s).1.Names ns := by
  unfold Dk.save
  split
  · exact h.change hn _
  · exact Dk.Names.sync (h.change hn _) hn
theorem Dk.Names.crashL {ns : List (List UInt8)} (ch : List Int) : ∀ (l : List (List UInt8)) (k : Nat) {D : Dk}, D.Names ns → (∀ x ∈ l, x ∈ ns) → (crashL ch l k D).Names ns
  | [], _, _, h, _ => h
  | n :: l, k, D, h, hl => by
    unfold YtkplffkchanipaaGreatDoor.crashL
    split
    · exact Dk.Names.crashL ch l k h (fun x hx => hl x (by simp [hx]))
    · exact Dk.Names.crashL ch l (k + 1) (h.put (hl n (by simp)) _) (fun x hx => hl x (by simp [hx]))
theorem Dk.Names.crash {D : Dk} {ns : List (List UInt8)} (h : D.Names ns) (ch : List Int) : (D.crash ch).Names ns :=
  Dk.Names.crashL ch _ 0 h (fun x hx => h.mem x ((sorted_perm _).mem_iff.1 hx))
theorem Dk.Names.len {D : Dk} {ns : List (List UInt8)} (h : D.Names ns) : D.files.length ≤ ns.length := by
  have := nodup_le _ ns h.nodup h.mem
  simpa using this
theorem Dk.Names.lens {D : Dk} {ns : List (List UInt8)} (h : D.Names ns) {k : Nat} (hk : ∀ x ∈ ns, x.length ≤ k) : ∀ p ∈ D.files, p.1.length ≤ k := fun _ hp => hk _ (h.mem _ (List.mem_map_of_mem hp))
theorem Dk.Good.crashL {ch : List Int} : ∀ (l : List (List UInt8)) (k : Nat) {D : Dk}, D.Good → (crashL ch l k D).Good
  | [], _, _, h => h
  | n :: l, k, D, h => by
    unfold YtkplffkchanipaaGreatDoor.crashL
    split
    · exact Dk.Good.crashL l k h
    · have hcl := (h.clean.look n).left ch k
      exact Dk.Good.crashL l (k + 1) (h.put n ⟨hcl, hcl⟩)
theorem Dk.Good.crash {D : Dk} (h : D.Good) (ch : List Int) : (D.crash ch).Good := Dk.Good.crashL _ 0 h

/-- All files are safe. -/
def Dk.Safe (D : Dk) : Prop := ∀ n, (lookF n D.files).now = (lookF n D.files).sure
theorem Dk.Safe.crashL {D : Dk} (h : D.Safe) (ch : List Int) : ∀ (l : List (List UInt8)) (k : Nat), crashL ch l k D = D
  | [], _ => rfl
  | n :: l, k => by
    unfold YtkplffkchanipaaGreatDoor.crashL
    rw [if_pos ⟨by rw [h n], by rw [h n]⟩]
    exact h.crashL ch l k
theorem Dk.Safe.crash {D : Dk} (h : D.Safe) (ch : List Int) : D.crash ch = D := h.crashL ch _ 0
theorem Dk.Safe.of_look {D D' : Dk} {name : List UInt8} {f : St} (h : D.Safe) (h1 : lookF name D'.files = ⟨f, f⟩) (h2 : ∀ n, n ≠ name → lookF n D'.files = lookF n D.files) : D'.Safe := fun n => by
  by_cases hn : n = name
  · subst hn; rw [h1]
  · rw [h2 n hn]; exact h n

end Go.Proofs.YtkplffkchanipaaGreatDoor
