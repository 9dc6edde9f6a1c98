/- Plain laws: what a disk holds of a state, and what each call that keeps something makes of it. -/
import Derived.Test.YtnlcipocobmgiaaGreatDoorLast
namespace Go.Proofs.YtnlcipocobmgiaaGreatDoor
open Go.RowKit

/-- A state that Load takes, its entries in order. -/
structure Ts.Fit (s : Ts) : Prop where
  term : s.term ≤ 1000000
  vote : s.vote ≤ 5
  base : s.base ≤ 1000000
  baseTerm : s.baseTerm ≤ 1000000
  snap : s.snap.length ≤ 1000
  many : s.log.length ≤ 1000
  ents : ∀ e ∈ s.log, e.Fit ∧ e.term ≤ s.term ∧ e.cmd.length ≤ 1000
  seq : ∀ i (h : i < s.log.length), s.log[i].index = s.base + i + 1

theorem behind_seq : ∀ (l : List En) (b : Nat), (∀ i (h : i < l.length), l[i].index = b + i + 1) → behind l b = l
  | [], _, _ => rfl
  | e :: l, b, h => by
    have h0 := h 0 (by simp)
    simp only [List.getElem_cons_zero, Nat.add_zero] at h0
    have ih := behind_seq l (b + 1) (fun i hi => by
      have := h (i + 1) (by simpa using hi)
      simp only [List.getElem_cons_succ] at this
      omega)
    simp only [behind]
    rw [if_pos h0, h0, ih]

/-- What the three files of a disk that doesn't fail say. -/
structure Holds (D : Dk) (k : Nat) (s : Ts) : Prop where
  calm : D.Calm k
  t : (lookF nTerm D.files).now.text = frame (encU s.term ++ encU s.vote) ∨ ((lookF nTerm D.files).now.text = [] ∧ s.term = 0 ∧ s.vote = 0)
  sn : (lookF nSnap D.files).now.text = frame (encU s.base ++ (encU s.baseTerm ++ encS s.snap)) ∨ ((lookF nSnap D.files).now.text = [] ∧ s.base = 0 ∧ s.baseTerm = 0 ∧ s.snap = [])
  lg : (lookF nLog D.files).now.text = frs s.log
theorem Holds.start (n : Nat) (hn : n ≤ 274877906944) : Holds ⟨n, 0, false, 0, []⟩ n Ts.zero :=
  ⟨⟨⟨⟨by simp only; omega, rfl, by simp only; omega, by simp⟩, fun p hp => by simp at hp⟩, rfl, rfl, by simp⟩, .inr ⟨by simp [lookF, Fil.none_, St.none_], rfl, rfl⟩, .inr ⟨by simp [lookF, Fil.none_, St.none_], rfl, rfl, rfl⟩, by simp [lookF, Fil.none_, St.none_, frs, Ts.zero]⟩
theorem Ts.fit_zero : Ts.zero.Fit := ⟨by decide, by decide, by decide, by decide, by decide, by decide, by simp [Ts.zero], by simp [Ts.zero]⟩
section
variable {D : Dk} {k : Nat} {s : Ts}
theorem Holds.good (h : Holds D k s) : D.Good := h.calm.good
theorem Holds.mono {j : Nat} (h : Holds D k s) (hj : j ≤ k) : Holds D j s := ⟨h.calm.mono hj, h.t, h.sn, h.lg⟩
theorem Holds.load (h : Holds D k s) (f : s.Fit) : D.load = (D, s, 0) := by
  have h1 : D.loadTerm = (s.term, s.vote, 0) := by
    rcases h.t with h1 | ⟨h1, h2, h3⟩
    · exact h.calm.loadTerm _ _ (by have := f.term; omega) f.vote h1
    · rw [h2, h3]; exact h.calm.loadTerm_none (by rw [h1]; simp)
  have h2 : D.loadSnap = (s.base, s.baseTerm, s.snap, 0) := by
    rcases h.sn with h1 | ⟨h1, h2, h3, h4⟩
    · exact h.calm.loadSnap _ _ _ (by have := f.base; omega) (by have := f.baseTerm; omega) (by have := f.snap; omega) h1
    · rw [h2, h3, h4]; exact h.calm.loadSnap_none (by rw [h1]; simp)
  rw [h.calm.load h1 h2 (fun e he => (f.ents e he).1) h.lg, behind_seq _ _ f.seq]
theorem Holds.saveTerm (h : Holds D k s) (t v : Nat) (ht : t ≤ 1000000) (hv : v ≤ 1000000) (hk : 40 ≤ k) : ∃ D', D.saveTerm t v = (D', 0) ∧ Holds D' (k - 40) { s with term := t, vote := v } := by
  have a1 := encU_len t (by omega)
  have a2 := encU_len v (by omega)
  obtain ⟨D', h1, c1, l1, o1⟩ := h.calm.saveTerm t v (by rw [frame_len, List.length_append]; omega)
  refine ⟨D', h1, c1.mono (by rw [frame_len, List.length_append]; omega), .inl (by rw [l1]), ?_, ?_⟩
  · have h2 := h.sn
    rw [← o1 nSnap (by decide)] at h2
    exact h2
  · rw [o1 nLog (by decide)]
    exact h.lg
theorem frs_one (e : En) (h1 : e.index ≤ 1099511627776) (h2 : e.term ≤ 1099511627776) (h3 : e.cmd.length ≤ 100000) : (frs [e]).length ≤ e.cmd.length + 50 := by
  have e1 := encU_len e.index (by omega)
  have e2 := encU_len e.term (by omega)
  have e3 := encU_len e.cmd.length (by omega)
  simp only [frs, List.flatMap_cons, List.flatMap_nil, List.append_nil, frame_len, encE, encS, List.length_append]
  omega
theorem frs_all (c : Nat) (hc : c ≤ 100000) : ∀ (l : List En), (∀ e ∈ l, e.Fit ∧ e.cmd.length ≤ c) → (frs l).length ≤ l.length * (c + 50)
  | [], _ => by simp [frs]
  | e :: l, h => by
    obtain ⟨h1, h2⟩ := h e (by simp)
    have ih := frs_all c hc l fun x hx => h x (by simp [hx])
    have h0 := frs_one e h1.index h1.term (by omega)
    have hs : frs (e :: l) = frs [e] ++ frs l := by simp [frs]
    rw [hs, List.length_append, List.length_cons, Nat.add_mul]
    omega
theorem Holds.append (h : Holds D k s) (e : En) (hf : e.Fit) (hk : e.cmd.length + 50 ≤ k) : ∃ D', D.appendLog [e] = (D', 0) ∧ Holds D' (k - (e.cmd.length + 50)) { s with log := s.log ++ [e] } := by
  have a1 := frs_one e hf.index hf.term hf.cmd
  obtain ⟨D', h1, c1, l1, o1⟩ := h.calm.appendLog [e] (by omega)
  refine ⟨D', h1, c1.mono (by omega), ?_, ?_, ?_⟩
  · have h2 := h.t
    rw [← o1 nTerm (by decide)] at h2
    exact h2
  · have h2 := h.sn
    rw [← o1 nSnap (by decide)] at h2
    exact h2
  · rw [l1]
    show (lookF nLog D.files).now.text ++ frs [e] = frs (s.log ++ [e])
    rw [h.lg]
    simp [frs]
theorem Holds.saveSnap (h : Holds D k s) (b t : Nat) (sn : List UInt8) (l : List En) (hb : b ≤ 1000000) (ht : t ≤ 1000000) (hs : sn.length ≤ 1000) (hl : ∀ e ∈ l, e.Fit ∧ e.cmd.length ≤ 1000) (hk : sn.length + 50 + l.length * 1050 ≤ k) :
    ∃ D', D.saveSnap b t sn l = (D', 0) ∧ Holds D' (k - (sn.length + 50 + l.length * 1050)) { s with base := b, baseTerm := t, snap := sn, log := l } := by
  have a1 := encU_len b (by omega)
  have a2 := encU_len t (by omega)
  have a3 := encU_len sn.length (by omega)
  have a4 := frs_all 1000 (by decide) l hl
  have a5 : (frame (encU b ++ (encU t ++ encS sn))).length ≤ sn.length + 50 := by
    rw [frame_len]
    simp only [encS, List.length_append]
    omega
  obtain ⟨D', h1, c1, l1, l2, o1⟩ := h.calm.saveSnap b t sn l (by omega)
  refine ⟨D', h1, c1.mono (by omega), ?_, .inl (by rw [l1]), by rw [l2]⟩
  have h2 := h.t
  rw [← o1] at h2
  exact h2
theorem Ts.Fit.last (f : s.Fit) : s.last.1 = s.base + s.log.length := by
  unfold Ts.last
  cases hl : s.log.getLast? with
  | none =>
    have : s.log = [] := by simpa using hl
    simp [this]
  | some e =>
    have hne : s.log ≠ [] := by rintro h; simp [h] at hl
    have hp := List.length_pos_iff.2 hne
    rw [List.getLast?_eq_getElem?, List.getElem?_eq_getElem (by omega)] at hl
    injection hl with hl
    have := f.seq (s.log.length - 1) (by omega)
    rw [hl] at this
    show e.index = _
    omega
end

end Go.Proofs.YtnlcipocobmgiaaGreatDoor
