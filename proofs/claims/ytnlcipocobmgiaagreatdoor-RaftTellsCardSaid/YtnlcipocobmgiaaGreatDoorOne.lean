/- Plain laws: a node that leads alone. -/
import Derived.Test.YtnlcipocobmgiaaGreatDoorRaftPlain
import Derived.Test.YtnlcipocobmgiaaGreatDoorRaft6
import Derived.Test.YtnlcipocobmgiaaGreatDoorRaft10
import Derived.Test.YtnlcipocobmgiaaGreatDoorHolds
namespace Go.Proofs.YtnlcipocobmgiaaGreatDoor
open Go.RowKit

theorem Ts.Fit.add {s : Ts} (f : s.Fit) (cmd : List UInt8) (hc : cmd.length ≤ 1000) (hm : s.log.length < 1000) : ({ s with log := s.log ++ [⟨s.last.1 + 1, s.term, cmd⟩] } : Ts).Fit := by
  have h1 := f.term
  have h2 := f.base
  refine ⟨f.term, f.vote, f.base, f.baseTerm, f.snap, by simp only [List.length_append, List.length_cons, List.length_nil]; omega, ?_, ?_⟩
  · intro e he
    rcases List.mem_append.1 he with he | he
    · exact f.ents e he
    · simp only [List.mem_cons, List.not_mem_nil, or_false] at he
      subst he
      refine ⟨⟨?_, ?_, ?_⟩, Nat.le_refl _, hc⟩
      · show s.last.1 + 1 ≤ _
        rw [f.last]
        omega
      · show s.term ≤ _
        omega
      · show cmd.length ≤ _
        omega
  · intro i hi
    simp only [List.length_append, List.length_cons, List.length_nil] at hi
    by_cases h : i < s.log.length
    · simp only [List.getElem_append_left h]
      exact f.seq i h
    · have : i = s.log.length := by omega
      subst this
      simp only [List.getElem_append_right (Nat.le_refl _), Nat.sub_self, List.getElem_cons_zero]
      rw [f.last]
theorem Ts.Fit.turn {s : Ts} (f : s.Fit) (v : Nat) (hv : v ≤ 5) (ht : s.term < 1000000) : ({ s with term := s.term + 1, vote := v } : Ts).Fit :=
  ⟨by show s.term + 1 ≤ _; omega, hv, f.base, f.baseTerm, f.snap, f.many, fun e he => ⟨(f.ents e he).1, Nat.le_succ_of_le (f.ents e he).2.1, (f.ents e he).2.2⟩, f.seq⟩

/-- A node that leads alone; commit may lag behind. -/
structure Alone (N : Rn) : Prop where
  id : N.id = 0
  n : N.n = 1
  role : N.role = 2
  br : N.broken = 0
  mt : N.mt.length = 1
  nx : N.nx.length = 1
  out : N.out = []
  sm : N.Sm
  fit : N.st.Fit
  cm : N.commit ≤ N.st.base + N.st.log.length
theorem others_one : others 1 0 = [] := by decide
theorem Alone.more {N : Rn} (h : Alone N) (cmd : List UInt8) (hc : cmd.length ≤ 1000) (hm : N.st.log.length < 1000) :
    Alone (N.appended cmd) ∧ (N.appended cmd).commit = N.st.base + N.st.log.length + 1 ∧ (N.appended cmd).st = { N.st with log := N.st.log ++ [⟨N.st.last.1 + 1, N.st.term, cmd⟩] } ∧ (N.appended cmd).applied = N.applied := by
  have hl := h.fit.last
  have hb := h.fit.base
  have hcm := h.cm
  obtain ⟨a, ha⟩ : ∃ a, N.mt = [a] := List.length_eq_one_iff.1 h.mt
  have hmt : (N.put1 cmd).mt = [N.st.last.1 + 1] := by simp [Rn.put1, ha, h.id, Rn.newEn]
  have hco : (N.appended cmd).commit = N.st.base + N.st.log.length + 1 := by
    show (N.put1 cmd).sendAll.adv (N.st.log ++ [N.newEn cmd]).reverse = _
    rw [List.reverse_append]
    simp only [List.reverse_cons, List.reverse_nil, List.nil_append, List.cons_append]
    have e1 : (N.put1 cmd).sendAll.mt = [N.st.last.1 + 1] := hmt
    have e2 : (N.put1 cmd).sendAll.commit = N.commit := rfl
    have e3 : (N.put1 cmd).sendAll.st.term = N.st.term := rfl
    have e4 : (N.put1 cmd).sendAll.n = 1 := h.n
    simp only [Rn.adv, e1, e2, e3, e4, Rn.newEn]
    rw [if_neg (by omega), if_pos (by simp [cnt])]
    omega
  refine ⟨⟨h.id, h.n, h.role, h.br, ?_, h.nx, ?_, ?_, ?_, ?_⟩, hco, rfl, rfl⟩
  · show (N.put1 cmd).mt.length = 1
    rw [hmt]; rfl
  · show N.out ++ (others N.n N.id).map (N.put1 cmd).lack = []
    rw [h.out, h.n, h.id, others_one]; rfl
  · have hs := (h.sm.put1 cmd (by omega) (by omega) (by omega)).sendAll (by show N.out.length ≤ _; rw [h.out]; simp)
    exact ⟨hs.n, hs.id, hs.term, hs.base, hs.baseTerm, hs.snap, hs.log, hs.ents, by rw [hco]; omega, hs.applied, hs.timer, hs.out, hs.mt, hs.nx, hs.votes, hs.nxs, hs.mts⟩
  · exact h.fit.add cmd hc hm
  · rw [hco]
    show _ ≤ N.st.base + (N.st.log ++ [N.newEn cmd]).length
    simp
    omega

/-- .. before it has stood. -/
structure Before (N : Rn) : Prop where
  id : N.id = 0
  n : N.n = 1
  br : N.broken = 0
  out : N.out = []
  sm : N.Sm
  fit : N.st.Fit
  cm : N.commit = N.st.base
  room : N.st.term < 1000000
theorem Rn.Sm.of_fit {id n : Nat} {s : Ts} (f : s.Fit) (hn : n ≤ 5) (hid : id < n) : (Rn.opened id n s).Sm := by
  have h1 := f.term
  have h2 := f.base
  have h3 := f.baseTerm
  have h4 := f.snap
  have h5 := f.many
  refine ⟨hn, hid, by show s.term ≤ _; omega, by show s.base ≤ _; omega, by show s.baseTerm ≤ _; omega, by show s.snap.length ≤ _; omega, by show s.log.length ≤ _; omega, ?_, by show s.base ≤ _; omega, by show s.base ≤ _; omega, by show 0 ≤ _; omega, by show 0 ≤ _; omega, .inr rfl, .inr rfl, .inr rfl, (by intro x hx; cases hx), (by intro x hx; cases hx)⟩
  intro e he
  have := f.ents e he
  exact ⟨by have := this.1.index; omega, by omega, by omega⟩
theorem Before.opened {s : Ts} (f : s.Fit) (ht : s.term < 1000000) : Before (Rn.opened 0 1 s) :=
  ⟨rfl, rfl, rfl, rfl, .of_fit f (by decide) (by decide), f, rfl, ht⟩
theorem Before.wait {N : Rn} (h : Before N) (k : Nat) (hk : k ≤ 1000) : Before { N with timer := k } :=
  ⟨h.id, h.n, h.br, h.out, ⟨h.sm.n, h.sm.id, h.sm.term, h.sm.base, h.sm.baseTerm, h.sm.snap, h.sm.log, h.sm.ents, h.sm.commit, h.sm.applied, by show k ≤ _; omega, h.sm.out, h.sm.mt, h.sm.nx, h.sm.votes, h.sm.nxs, h.sm.mts⟩, h.fit, h.cm, h.room⟩
/-- The only node wins its own vote. -/
theorem Before.won {N : Rn} (h : Before N) (hm : N.st.log.length < 1000) :
    Alone (N.stands.asked N.n).won ∧ (N.stands.asked N.n).won.commit = N.st.base + N.st.log.length + 1 ∧ (N.stands.asked N.n).won.st = { N.st with term := N.st.term + 1, vote := 1, log := N.st.log ++ [⟨N.st.last.1 + 1, N.st.term + 1, []⟩] } ∧ (N.stands.asked N.n).won.applied = N.applied := by
  have hr := h.room
  have hb := h.fit.base
  have hl := h.fit.last
  have hA : Alone (N.stands.asked N.n).lead := by
    refine ⟨h.id, h.n, rfl, h.br, ?_, ?_, ?_, ?_, ?_, ?_⟩
    · show (List.replicate N.n 0).length = 1
      rw [h.n]; rfl
    · show (List.replicate N.n _).length = 1
      rw [h.n]; rfl
    · show N.out ++ (others N.n N.id).map _ = []
      rw [h.out, h.n, h.id, others_one]; rfl
    · have hs := (h.sm.stands (by omega)).asked (k := N.n) h.sm.n (by show N.out.length ≤ _; rw [h.out]; simp)
      refine ⟨hs.n, hs.id, hs.term, hs.base, hs.baseTerm, hs.snap, hs.log, hs.ents, hs.commit, hs.applied, hs.timer, hs.out, .inl (by simp [Rn.lead]), .inl (by simp [Rn.lead]), .inr rfl, ?_, ?_⟩
      · intro x hx
        have : x = N.st.last.1 + 1 := (List.mem_replicate.1 hx).2
        have := h.fit.many
        omega
      · intro x hx
        have : x = 0 := (List.mem_replicate.1 hx).2
        omega
    · have : N.st.vote ≤ 5 := h.fit.vote
      have hf := h.fit.turn (N.id + 1) (by rw [h.id]; decide) hr
      exact hf
    · show N.commit ≤ _
      rw [h.cm]
      exact Nat.le_add_right _ _
  obtain ⟨h1, h2, h3, h4⟩ := hA.more [] (by simp) hm
  refine ⟨h1, h2, ?_, h4⟩
  have e : (N.stands.asked N.n).won.st = { (N.stands.asked N.n).lead.st with log := (N.stands.asked N.n).lead.st.log ++ [⟨(N.stands.asked N.n).lead.st.last.1 + 1, (N.stands.asked N.n).lead.st.term, []⟩] } := h3
  rw [e]
  show ({ N.st with term := N.st.term + 1, vote := N.id + 1, log := _ } : Ts) = _
  rw [h.id]
  rfl

end Go.Proofs.YtnlcipocobmgiaaGreatDoor
