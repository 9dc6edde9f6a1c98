/- Plain laws of a disk that doesn't fail: what was saved is loaded. -/
import Derived.Test.YtnlcipocobmgiaaGreatDoorPlain
namespace Go.Proofs.YtnlcipocobmgiaaGreatDoor
open Go.RowKit

theorem look_put (n m : List UInt8) (f : Fil) : ∀ l, lookF n (putF m f l) = if n = m then f else lookF n l
  | [] => by simp only [putF, lookF]
  | p :: l => by
    have ih := look_put n m f l
    by_cases hm : m = p.1
    · simp only [putF, if_pos hm, lookF]
      by_cases hn : n = m
      · simp [hn]
      · have : ¬ n = p.1 := fun h => hn (h.trans hm.symm)
        simp [hn, this]
    · simp only [putF, if_neg hm, lookF, ih]
      by_cases hn : n = p.1
      · have : ¬ n = m := fun h => hm (h.symm.trans hn)
        simp [hn]
        intro h
        exact absurd h.symm hm
      · simp [hn]

/-- A disk in order that doesn't fail, with so much space left. -/
structure Dk.Calm (D : Dk) (left : Nat) : Prop where
  good : D.Good
  lost : D.lost = false
  armed : D.armed = 0
  left : D.used + (left : Int) ≤ D.room
theorem Dk.Calm.tries {D : Dk} {k : Nat} (h : D.Calm k) : D.tries = (D, 0) := by
  unfold Dk.tries
  rw [h.lost, h.armed]
  simp
theorem Dk.Calm.mono {D : Dk} {k j : Nat} (h : D.Calm k) (hj : j ≤ k) : D.Calm j := ⟨h.good, h.lost, h.armed, by have := h.left; omega⟩
theorem Dk.Calm.put {D : Dk} {k j : Nat} (h : D.Calm k) (name : List UInt8) {f : Fil} (hc : f.Clean) (hf : f.weight ≤ (lookF name D.files).weight + j) (hj : j ≤ k) (hth : (f.now.there || f.sure.there) = true) :
    ∃ D', D.put name f = (D', 0) ∧ D'.Calm (k - j) ∧ lookF name D'.files = f ∧ ∀ n, n ≠ name → lookF n D'.files = lookF n D.files := by
  have hg := h.good.put name hc
  have h1 := h.left
  have hp : D.put name f = (D.store name f, 0) := by
    unfold Dk.put
    rw [if_neg (by omega)]
  rw [hp] at hg
  refine ⟨_, hp, ⟨hg, h.lost, h.armed, ?_⟩, ?_, fun n hn => ?_⟩
  · simp only [Dk.store]; omega
  · simp only [Dk.store, hth, if_true, look_put]
  · simp only [Dk.store, hth, if_true, look_put, if_neg hn]
theorem Dk.Calm.change {D : Dk} {k j : Nat} (h : D.Calm k) (name : List UInt8) (hn : name ≠ []) (g : List UInt8 → List UInt8) (hg : (g (lookF name D.files).now.text).length ≤ (lookF name D.files).now.text.length + j) (hj : j ≤ k) :
    ∃ D', D.change name g = (D', 0) ∧ D'.Calm (k - j) ∧ lookF name D'.files = ⟨⟨true, g (lookF name D.files).now.text⟩, (lookF name D.files).sure⟩ ∧ ∀ n, n ≠ name → lookF n D'.files = lookF n D.files := by
  have hc := h.good.clean.look name
  have hch : D.change name g = D.put name ⟨⟨true, g (lookF name D.files).now.text⟩, (lookF name D.files).sure⟩ := by
    unfold Dk.change
    rw [h.tries]
    simp [hn]
  rw [hch]
  refine h.put name ⟨fun e => by simp at e, hc.2⟩ ?_ hj (by simp)
  have h1 := (lookF name D.files).weight_now
  have h2 := (lookF name D.files).weight_sure
  generalize hw : (lookF name D.files).weight = W at *
  simp only [Fil.weight]
  split <;> omega
theorem Dk.Calm.sync {D : Dk} {k : Nat} (h : D.Calm k) (name : List UInt8) (hth : (lookF name D.files).now.there = true) :
    ∃ D', D.sync name = (D', 0) ∧ D'.Calm k ∧ lookF name D'.files = ⟨(lookF name D.files).now, (lookF name D.files).now⟩ ∧ ∀ n, n ≠ name → lookF n D'.files = lookF n D.files := by
  have hc := h.good.clean.look name
  obtain ⟨D', h1, h2, h3, h4⟩ := h.put (j := 0) name (f := ⟨(lookF name D.files).now, (lookF name D.files).now⟩) ⟨hc.1, hc.1⟩ (by
    have h1 := (lookF name D.files).weight_now
    simp only [Fil.weight] at h1 ⊢
    split <;> omega) (Nat.zero_le _) (by simp [hth])
  refine ⟨D', ?_, by simpa using h2, h3, h4⟩
  unfold Dk.sync
  rw [h.tries]
  simp [h1]
theorem Dk.Calm.save {D : Dk} {k : Nat} (h : D.Calm k) (name : List UInt8) (hn : name ≠ []) (s : List UInt8) (hs : s.length ≤ k) :
    ∃ D', D.save name s = (D', 0) ∧ D'.Calm (k - s.length) ∧ lookF name D'.files = ⟨⟨true, s⟩, ⟨true, s⟩⟩ ∧ ∀ n, n ≠ name → lookF n D'.files = lookF n D.files := by
  obtain ⟨D1, h1, h2, h3, h4⟩ := h.change name hn (fun _ => s) (j := s.length) (by simp) hs
  obtain ⟨D2, g1, g2, g3, g4⟩ := h2.sync name (by rw [h3])
  refine ⟨D2, ?_, g2, by rw [g3, h3], fun n hn => by rw [g4 n hn, h4 n hn]⟩
  have hw : D.write name s = (D1, 0) := h1
  unfold Dk.save
  rw [hw, if_neg (by simp)]
  exact g1
theorem Dk.Calm.appendLog {D : Dk} {k : Nat} (h : D.Calm k) (l : List En) (hs : (frs l).length ≤ k) :
    ∃ D', D.appendLog l = (D', 0) ∧ D'.Calm (k - (frs l).length) ∧ lookF nLog D'.files = ⟨⟨true, (lookF nLog D.files).now.text ++ frs l⟩, ⟨true, (lookF nLog D.files).now.text ++ frs l⟩⟩ ∧ ∀ n, n ≠ nLog → lookF n D'.files = lookF n D.files := by
  obtain ⟨D1, h1, h2, h3, h4⟩ := h.change nLog (by decide) (fun x => x ++ frs l) (j := (frs l).length) (by simp) hs
  obtain ⟨D2, g1, g2, g3, g4⟩ := h2.sync nLog (by rw [h3])
  refine ⟨D2, ?_, g2, by rw [g3, h3], fun n hn => by rw [g4 n hn, h4 n hn]⟩
  have hw : D.append nLog (frs l) = (D1, 0) := h1
  unfold Dk.appendLog
  rw [hw, if_neg (by simp)]
  exact g1
theorem Dk.Calm.saveTerm {D : Dk} {k : Nat} (h : D.Calm k) (t v : Nat) (hs : (frame (encU t ++ encU v)).length ≤ k) :
    ∃ D', D.saveTerm t v = (D', 0) ∧ D'.Calm (k - (frame (encU t ++ encU v)).length) ∧ lookF nTerm D'.files = ⟨⟨true, frame (encU t ++ encU v)⟩, ⟨true, frame (encU t ++ encU v)⟩⟩ ∧ ∀ n, n ≠ nTerm → lookF n D'.files = lookF n D.files :=
  h.save nTerm (by decide) _ hs
theorem Dk.Calm.saveSnap {D : Dk} {k : Nat} (h : D.Calm k) (b t : Nat) (s : List UInt8) (l : List En) (hs : (frame (encU b ++ (encU t ++ encS s))).length + (frs l).length ≤ k) :
    ∃ D', D.saveSnap b t s l = (D', 0) ∧ D'.Calm (k - ((frame (encU b ++ (encU t ++ encS s))).length + (frs l).length)) ∧ lookF nSnap D'.files = ⟨⟨true, frame (encU b ++ (encU t ++ encS s))⟩, ⟨true, frame (encU b ++ (encU t ++ encS s))⟩⟩ ∧
      lookF nLog D'.files = ⟨⟨true, frs l⟩, ⟨true, frs l⟩⟩ ∧ lookF nTerm D'.files = lookF nTerm D.files := by
  obtain ⟨D1, h1, h2, h3, h4⟩ := h.save nSnap (by decide) (frame (encU b ++ (encU t ++ encS s))) (by omega)
  obtain ⟨D2, g1, g2, g3, g4⟩ := h2.save nLog (by decide) (frs l) (by omega)
  refine ⟨D2, ?_, g2.mono (by omega), by rw [g4 nSnap (by decide), h3], g3, by rw [g4 nTerm (by decide), h4 nTerm (by decide)]⟩
  unfold Dk.saveSnap
  rw [h1, if_neg (by simp)]
  exact g1

/-- What is read of a disk that doesn't fail. -/
theorem Dk.Calm.readT {D : Dk} {k : Nat} (h : D.Calm k) (name : List UInt8) : D.readT name = ((lookF name D.files).now.text, 0) := by
  unfold Dk.readT Dk.read
  rw [h.tries]
  have hc := (h.good.clean.look name).1
  cases ht : (lookF name D.files).now.there
  · simp [hc ht]
  · simp
theorem Dk.Calm.onlyT {D : Dk} {k : Nat} (h : D.Calm k) (name s : List UInt8) (hl : (lookF name D.files).now.text = frame s) (hs : s.length ≤ 1048576) : D.onlyT name = (s, true, 0) := by
  unfold Dk.onlyT
  rw [h.readT, hl, OnlyF_frame s hs]
  simp
theorem Dk.Calm.onlyT_none {D : Dk} {k : Nat} (h : D.Calm k) (name : List UInt8) (hl : (lookF name D.files).now.text.length < 8) : D.onlyT name = ([], false, 0) := by
  unfold Dk.onlyT
  rw [h.readT, OnlyF_short hl]
  simp
theorem Dk.Calm.loadTerm {D : Dk} {k : Nat} (h : D.Calm k) (t v : Nat) (ht : t ≤ 1099511627776) (hv : v ≤ 5) (hl : (lookF nTerm D.files).now.text = frame (encU t ++ encU v)) : D.loadTerm = (t, v, 0) := by
  have h1 := encU_len t (by omega)
  have h2 := encU_len v (by omega)
  unfold Dk.loadTerm
  rw [h.onlyT nTerm _ hl (by rw [List.length_append]; omega)]
  simp [decTerm_enc ht hv]
theorem Dk.Calm.loadTerm_none {D : Dk} {k : Nat} (h : D.Calm k) (hl : (lookF nTerm D.files).now.text.length < 8) : D.loadTerm = (0, 0, 0) := by
  unfold Dk.loadTerm
  rw [h.onlyT_none nTerm hl]
  simp
theorem Dk.Calm.loadSnap {D : Dk} {k : Nat} (h : D.Calm k) (b t : Nat) (s : List UInt8) (hb : b ≤ 1099511627776) (ht : t ≤ 1099511627776) (hs : s.length ≤ 1000000) (hl : (lookF nSnap D.files).now.text = frame (encU b ++ (encU t ++ encS s))) : D.loadSnap = (b, t, s, 0) := by
  have h1 := encU_len t (by omega)
  have h2 := encU_len b (by omega)
  have h3 := encU_len s.length (by omega)
  unfold Dk.loadSnap
  rw [h.onlyT nSnap _ hl (by simp only [encS, List.length_append]; omega)]
  simp [decSnap_enc hb ht hs]
theorem Dk.Calm.loadSnap_none {D : Dk} {k : Nat} (h : D.Calm k) (hl : (lookF nSnap D.files).now.text.length < 8) : D.loadSnap = (0, 0, [], 0) := by
  unfold Dk.loadSnap
  rw [h.onlyT_none nSnap hl]
  simp
theorem Dk.Calm.loadLog {D : Dk} {k : Nat} (h : D.Calm k) (l : List En) (base : Nat) (hf : ∀ e ∈ l, e.Fit) (hl : (lookF nLog D.files).now.text = frs l) : D.loadLog base = (D, behind l base, 0) := by
  have hs := scan_frs l [] openF_nil hf
  rw [List.append_nil] at hs
  have hd : D.logDisk = (D, 0) := by
    unfold Dk.logDisk
    rw [h.readT, hl, hs, h.tries]
    simp
  unfold Dk.loadLog
  rw [hd, h.readT, hl, hs, logF_enc l base hf]
  simp
/-- Load of a disk that doesn't fail: its three files. -/
theorem Dk.Calm.load {D : Dk} {k : Nat} (h : D.Calm k) {t v b bt : Nat} {s : List UInt8} {l : List En} (h1 : D.loadTerm = (t, v, 0)) (h2 : D.loadSnap = (b, bt, s, 0)) (hf : ∀ e ∈ l, e.Fit) (hl : (lookF nLog D.files).now.text = frs l) :
    D.load = (D, ⟨t, v, b, bt, s, behind l b⟩, 0) := by
  have hL := h.loadLog l b hf hl
  unfold Dk.load
  rw [h.tries]
  simp only [h.tries, h1, h2, hL]
  simp

end Go.Proofs.YtnlcipocobmgiaaGreatDoor
