/- A node that was just opened, alone: its ticks, what is proposed to it, what it hands out, what it keeps of that. -/
import Derived.Test.YtnlcipocobmgiaaGreatDoorOne
import Derived.Test.YtnlcipocobmgiaaGreatDoorRaftKeep
namespace Go.Proofs.YtnlcipocobmgiaaGreatDoor
open Go.RowKit

section
variable {w : World} {V : Nv} {N : Rn} {D : Dk} {s : Ts} {k : Nat}
theorem tick_early (h : NodeAt w V { Rn.opened 0 1 s with timer := k } D) (f : s.Fit) (ht : s.term < 1000000) (hk : k < 3) :
    Calls Tryz.prog 11 #[.pointer (some ⟨V.r, 0, none⟩)] w fun e w' => e = .returned (.tuple #[]) ∧ NodeAt w' V { Rn.opened 0 1 s with timer := k + 1 } D ∧ NodeTo V V w w' :=
  tick_wait h ((Before.opened f ht).wait k (by omega)).sm rfl (by show (0 : Nat) ≠ 2; decide) (by show k + 1 < 4 + 2 * 0; omega)
/-- What the fourth tick makes of it. -/
def Led (V : Nv) (s : Ts) (k : Nat) (w w' : World) : Prop := ∃ V' N' D', NodeAt w' V' N' D' ∧ NodeTo V V' w w' ∧ Alone N' ∧ N'.commit = s.base + s.log.length + 1 ∧ N'.st = { s with term := s.term + 1, vote := 1, log := s.log ++ [⟨s.last.1 + 1, s.term + 1, []⟩] } ∧ N'.applied = s.base ∧ Holds D' (k - 100) N'.st
theorem tick_late (h : NodeAt w V { Rn.opened 0 1 s with timer := 3 } D) (f : s.Fit) (ht : s.term < 1000000) (hm : s.log.length < 1000) (hD : Holds D k s) (hk : 200 ≤ k) :
    Calls Tryz.prog 11 #[.pointer (some ⟨V.r, 0, none⟩)] w fun e w' => e = .returned (.tuple #[]) ∧ Led V s k w w' := by
  have hlast := f.last
  have hbase := f.base
  obtain ⟨D1, h1, H1⟩ := hD.saveTerm (s.term + 1) 1 (by omega) (by decide) (by omega)
  obtain ⟨D2, h2, H2⟩ := H1.append ⟨s.last.1 + 1, s.term + 1, []⟩ ⟨by show s.last.1 + 1 ≤ _; omega, by show s.term + 1 ≤ _; omega, by simp⟩ (by simp; omega)
  have hB3 := (Before.opened f ht).wait 3 (by decide)
  have hB4 := (Before.opened f ht).wait 4 (by decide)
  obtain ⟨a1, a2, a3, a4⟩ := hB4.won hm
  refine tick_elect h hB3.sm rfl (by show (0 : Nat) ≠ 2; decide) (by show 4 + 2 * 0 ≤ 3 + 1; decide) (fun w' => Led V s k w w') (fun W hW hT => ?_)
  refine (elect_one (N := { Rn.opened 0 1 s with timer := 4 }) hW hD.good hB4.sm (by show 0 ≤ _; omega) h1 H1.good rfl (by show s.term < _; omega) (by show s.last.1 < _; have := f.many; omega) (by show s.log.length < _; omega) h2).mono ?_
  rintro e w' ⟨rfl, V', h3, h4⟩
  refine ⟨rfl, V', _, D2, h3, hT.trans h4, a1, a2, a3, a4, ?_⟩
  rw [a3]
  exact H2.mono (by simp; omega)
/-- A command more. -/
theorem propose_one (h : NodeAt w V N D) (hN : Alone N) (hD : Holds D k N.st) (cmd : List UInt8) (hc : cmd.length ≤ 1000) (hm : N.st.log.length < 1000) (hk : cmd.length + 50 ≤ k) :
    Calls Tryz.prog 12 #[.pointer (some ⟨V.r, 0, none⟩), .string (bs cmd)] w fun e w' => e = .returned (.tuple #[.int .i64 ((N.st.last.1 + 1 : Nat) : Int), .int .i64 (N.st.term : Int), .int .i64 0]) ∧ ∃ V' N' D', NodeAt w' V' N' D' ∧ NodeTo V V' w w' ∧ Alone N' ∧ N'.commit = N.st.base + N.st.log.length + 1 ∧ N'.st = { N.st with log := N.st.log ++ [⟨N.st.last.1 + 1, N.st.term, cmd⟩] } ∧ N'.applied = N.applied ∧ Holds D' (k - (cmd.length + 50)) N'.st := by
  have hlast := hN.fit.last
  have hbase := hN.fit.base
  have hterm := hN.fit.term
  obtain ⟨D2, h2, H2⟩ := hD.append ⟨N.st.last.1 + 1, N.st.term, cmd⟩ ⟨by show N.st.last.1 + 1 ≤ _; omega, by show N.st.term ≤ _; omega, by show cmd.length ≤ _; omega⟩ hk
  obtain ⟨a1, a2, a3, a4⟩ := hN.more cmd hc hm
  refine (propose_calls h hD.good hN.sm hN.br hN.role (by rw [hN.mt, hN.n]) (by rw [hN.nx, hN.n]) (by rw [hN.out]; simp) cmd (by omega) (by omega) (by omega) h2).mono ?_
  rintro e w' ⟨rfl, V', h3, h4⟩
  exact ⟨rfl, V', _, D2, h3, h4, a1, a2, a3, a4, by rw [a3]; exact H2⟩

theorem handed_all (ha : N.applied = N.st.base) (hc : N.commit = N.st.base + N.st.log.length) : N.handed = N.st.log := by
  unfold Rn.handed Ts.from_ Ts.at
  rw [ha, hc, if_neg (by omega), if_neg (by omega)]
  have h1 : N.st.base + 1 - N.st.base - 1 = 0 := by omega
  have h2 : N.st.base + N.st.log.length - N.st.base = N.st.log.length := by omega
  simp only [h1, h2, List.drop_zero, List.take_length]
theorem fresh_all (f : N.st.Fit) (ha : N.applied = N.st.base) (hc : N.commit = N.st.base + N.st.log.length) : N.fresh = { N with applied := N.st.base + N.st.log.length } := by
  unfold Rn.fresh
  rw [handed_all ha hc]
  cases hl : N.st.log.getLast? with
  | none =>
    have : N.st.log = [] := by simpa using hl
    simp [this, ha]
  | some e =>
    have := f.last
    unfold Ts.last at this
    rw [hl] at this
    simp only at this ⊢
    rw [this]
theorem fresh_one (h : NodeAt w V N D) (hN : Alone N) (ha : N.applied = N.st.base) (hc : N.commit = N.st.base + N.st.log.length) :
    Calls Tryz.prog 13 #[.pointer (some ⟨V.r, 0, none⟩)] w fun e w' => ∃ A c, e = .returned (.tuple #[.string (bs []), .bool false, .slice A N.st.log.length c]) ∧ w'.ownsRow w.heap.size 62 3 (.slice A N.st.log.length c) N.st.log.length (entsV N.st.log) ∧ NodeAt w' V { N with applied := N.st.base + N.st.log.length } D ∧ NodeTo V V w w' := by
  have := fresh_calls h hN.sm (by omega) (by omega)
  rw [handed_all ha hc, fresh_all hN.fit ha hc] at this
  exact this
theorem Alone.handed (hN : Alone N) : Alone { N with applied := N.st.base + N.st.log.length } := by
  have h1 := hN.fit.base
  have h2 := hN.fit.many
  have hs := hN.sm
  exact ⟨hN.id, hN.n, hN.role, hN.br, hN.mt, hN.nx, hN.out, ⟨hs.n, hs.id, hs.term, hs.base, hs.baseTerm, hs.snap, hs.log, hs.ents, hs.commit, (by show N.st.base + N.st.log.length ≤ _; omega), hs.timer, hs.out, hs.mt, hs.nx, hs.votes, hs.nxs, hs.mts⟩, hN.fit, hN.cm⟩
theorem Ts.Fit.cut (f : s.Fit) (t : Nat) (ht : t ≤ s.term) (snap : List UInt8) (hs : snap.length ≤ 1000) (hb : s.base + s.log.length ≤ 1000000) : ({ s with base := s.base + s.log.length, baseTerm := t, snap := snap, log := [] } : Ts).Fit :=
  ⟨f.term, f.vote, hb, Nat.le_trans ht f.term, hs, by simp, by simp, by simp⟩
/-- What was handed out goes into a snapshot. -/
theorem compact_one (h : NodeAt w V N D) (hN : Alone N) (hD : Holds D k N.st) (ha : N.applied = N.st.base + N.st.log.length) (hl : 0 < N.st.log.length) (hb : N.st.base + N.st.log.length ≤ 1000000) (snap : List UInt8) (hs : snap.length ≤ 1000) (hk : 2000 ≤ k) :
    Calls Tryz.prog 16 #[.pointer (some ⟨V.r, 0, none⟩), .string (bs snap)] w fun e w' => e = .returned (.int .i64 0) ∧ ∃ V' N' D', NodeAt w' V' N' D' ∧ NodeTo V V' w w' ∧ N'.broken = 0 ∧ N'.applied = N.st.base + N.st.log.length ∧ N'.st.base = N.st.base + N.st.log.length ∧ N'.st.snap = snap ∧ N'.st.log = [] ∧ N'.st.term = N.st.term ∧ N'.Sm ∧ N'.st.Fit ∧ Holds D' (k - 2000) N'.st := by
  have hs0 := hN.sm
  have hat : N.st.termAt N.applied = some (N.st.log[N.st.log.length - 1]'(by omega)).term := by
    unfold Ts.termAt Ts.at
    rw [ha, if_neg (by omega), if_neg (by omega), if_neg (by omega)]
    have : N.st.base + N.st.log.length - N.st.base - 1 = N.st.log.length - 1 := by omega
    simp only [this]
    rw [List.getElem?_eq_getElem (by omega)]
    rfl
  have hte := hN.fit.ents _ (List.getElem_mem (show N.st.log.length - 1 < N.st.log.length by omega))
  have hfr : N.st.from_ (N.applied + 1) N.st.log.length = [] := by
    unfold Ts.from_ Ts.at
    rw [ha, if_neg (by omega), if_neg (by omega)]
    have : N.st.base + N.st.log.length + 1 - N.st.base - 1 = N.st.log.length := by omega
    simp [this]
  generalize (N.st.log[N.st.log.length - 1]'(by omega)).term = t at *
  have hterm := hN.fit.term
  obtain ⟨D2, h2, H2⟩ := hD.saveSnap (N.st.base + N.st.log.length) t snap [] hb (by omega) hs (by simp) (by simp; omega)
  have := compact_calls h hD.good hN.sm hN.br (by omega) hat (by omega) snap (by omega) (by rw [hfr]; exact ⟨by simp, by simp⟩) (D' := D2) (by rw [hfr, ha]; exact h2)
  rw [hfr, ha] at this
  refine this.mono ?_
  rintro e w' ⟨rfl, V', h3, h4⟩
  refine ⟨rfl, V', _, D2, h3, h4, hN.br, ha, rfl, rfl, rfl, rfl, ?_, hN.fit.cut t hte.2.1 snap hs hb, H2.mono (by simp; omega)⟩
  exact ⟨hs0.n, hs0.id, hs0.term, (by show N.st.base + N.st.log.length ≤ _; omega), (by show t ≤ _; omega), (by show snap.length ≤ _; omega), (by show 0 ≤ _; omega), (by intro e he; cases he), hs0.commit, hs0.applied, hs0.timer, hs0.out, hs0.mt, hs0.nx, hs0.votes, hs0.nxs, hs0.mts⟩
end

end Go.Proofs.YtnlcipocobmgiaaGreatDoor
/- A node alone, as a law walks with it: opened, ticking, leading. -/
namespace Go.Proofs.YtnlcipocobmgiaaGreatDoor
open Go.RowKit

/-- Opened, and so many ticks ago; all its blocks but the disk's are new since w. -/
structure EarlyAt (w W : World) (r b m : Nat) (s : Ts) (j k : Nat) : Prop where
  ex : ∃ V D, V.r = r ∧ V.b = b ∧ V.m = m ∧ NodeAt W V { Rn.opened 0 1 s with timer := j } D ∧ (∀ x ∈ V.fp, x = b ∨ x = m ∨ w.heap.size ≤ x) ∧ Holds D k s
  keep : Keep [b, m] w W
structure LoneAt (w W : World) (r b m : Nat) (s : Ts) (ap k : Nat) : Prop where
  ex : ∃ V N D, V.r = r ∧ V.b = b ∧ V.m = m ∧ NodeAt W V N D ∧ (∀ x ∈ V.fp, x = b ∨ x = m ∨ w.heap.size ≤ x) ∧ Alone N ∧ N.commit = s.base + s.log.length ∧ N.st = s ∧ N.applied = ap ∧ Holds D k s
  keep : Keep [b, m] w W
section
variable {w W : World} {r b m ap k j : Nat} {s : Ts}
theorem keep_to {V V' : Nv} {w W W' : World} (hk : Keep [b, m] w W) (hf : ∀ x ∈ V.fp, x = b ∨ x = m ∨ w.heap.size ≤ x) (ht : NodeTo V V' W W') : Keep [b, m] w W' ∧ ∀ x ∈ V'.fp, x = b ∨ x = m ∨ w.heap.size ≤ x :=
  ⟨hk.trans' ht.keep (fun x hx => by
    rcases hf x hx with h | h | h
    · exact .inl (by simp [h])
    · exact .inl (by simp [h])
    · exact .inr h), fun x hx => by
    rcases ht.fp x hx with h | h
    · exact hf x h
    · exact .inr (.inr (Nat.le_trans hk.size h))⟩
theorem LoneAt.less {i : Nat} (h : LoneAt w W r b m s ap k) (hi : i ≤ k) : LoneAt w W r b m s ap i := by
  obtain ⟨⟨V, N, D, h1, h2, h3, h4, h5, h6, h7, h8, h9, h10⟩, h11⟩ := h
  exact ⟨⟨V, N, D, h1, h2, h3, h4, h5, h6, h7, h8, h9, h10.mono hi⟩, h11⟩
theorem EarlyAt.grow {W' : World} (h : EarlyAt w W r b m s j k) (hk : Keep [] W W') : EarlyAt w W' r b m s j k := by
  obtain ⟨⟨V, D, h1, h2, h3, h4, h5, h6⟩, h7⟩ := h
  exact ⟨⟨V, D, h1, h2, h3, h4.grow hk, h5, h6⟩, h7.trans hk.nil_⟩
theorem LoneAt.grow {W' : World} (h : LoneAt w W r b m s ap k) (hk : Keep [] W W') : LoneAt w W' r b m s ap k := by
  obtain ⟨⟨V, N, D, h1, h2, h3, h4, h5, h6⟩, h7⟩ := h
  exact ⟨⟨V, N, D, h1, h2, h3, h4.grow hk, h5, h6⟩, h7.trans hk.nil_⟩
theorem open_one {D : Dk} (hD : DiskAt w b m D) (hT : Tab w) (hH : Holds D k s) (f : s.Fit) :
    Calls Tryz.prog 10 #[.pointer (some ⟨b, 0, none⟩), .int .i64 0, .int .i64 1] w fun e w' => ∃ r, e = .returned (.tuple #[.pointer (some ⟨r, 0, none⟩), .int .i64 0]) ∧ EarlyAt w w' r b m s 0 k := by
  refine (ropen_calls hD hH.good hT 0 1 (by decide) (by decide) (hH.load f)).mono ?_
  rintro e w' ⟨V, rfl, h1, h2, h3, h4, h5, h6⟩
  exact ⟨V.r, rfl, ⟨V, D, rfl, h2, h3, h1, h5, hH⟩, h6⟩
theorem early_tick (h : EarlyAt w W r b m s j k) (f : s.Fit) (ht : s.term < 1000000) (hj : j < 3) :
    Calls Tryz.prog 11 #[.pointer (some ⟨r, 0, none⟩)] W fun e w' => e = .returned (.tuple #[]) ∧ EarlyAt w w' r b m s (j + 1) k := by
  obtain ⟨⟨V, D, rfl, h2, h3, h4, h5, h6⟩, h7⟩ := h
  refine (tick_early h4 f ht hj).mono ?_
  rintro e w' ⟨rfl, g1, g2⟩
  obtain ⟨g3, g4⟩ := keep_to h7 h5 g2
  exact ⟨rfl, ⟨V, D, rfl, h2, h3, g1, g4, h6⟩, g3⟩
def Ts.led (s : Ts) : Ts := { s with term := s.term + 1, vote := 1, log := s.log ++ [⟨s.last.1 + 1, s.term + 1, []⟩] }
theorem early_late (h : EarlyAt w W r b m s 3 k) (f : s.Fit) (ht : s.term < 1000000) (hm : s.log.length < 1000) (hk : 200 ≤ k) :
    Calls Tryz.prog 11 #[.pointer (some ⟨r, 0, none⟩)] W fun e w' => e = .returned (.tuple #[]) ∧ LoneAt w w' r b m s.led s.base (k - 100) := by
  obtain ⟨⟨V, D, rfl, h2, h3, h4, h5, h6⟩, h7⟩ := h
  refine (tick_late h4 f ht hm h6 hk).mono ?_
  rintro e w' ⟨rfl, V', N', D', g1, g2, g3, g4, g5, g6, g7⟩
  obtain ⟨g8, g9⟩ := keep_to h7 h5 g2
  refine ⟨rfl, ⟨V', N', D', g2.r, g2.b.trans h2, g2.m.trans h3, g1, g9, g3, ?_, g5, g6, by unfold Ts.led; rw [← g5]; exact g7⟩, g8⟩
  rw [g4]
  simp [Ts.led]
  omega
def Ts.more (s : Ts) (cmd : List UInt8) : Ts := { s with log := s.log ++ [⟨s.last.1 + 1, s.term, cmd⟩] }
theorem lone_propose (h : LoneAt w W r b m s ap k) (cmd : List UInt8) (hc : cmd.length ≤ 1000) (hm : s.log.length < 1000) (hk : cmd.length + 50 ≤ k) :
    Calls Tryz.prog 12 #[.pointer (some ⟨r, 0, none⟩), .string (bs cmd)] W fun e w' => e = .returned (.tuple #[.int .i64 ((s.last.1 + 1 : Nat) : Int), .int .i64 (s.term : Int), .int .i64 0]) ∧ LoneAt w w' r b m (s.more cmd) ap (k - (cmd.length + 50)) := by
  obtain ⟨⟨V, N, D, rfl, h2, h3, h4, h5, h6, h7, rfl, h9, h10⟩, h11⟩ := h
  refine (propose_one h4 h6 h10 cmd hc hm hk).mono ?_
  rintro e w' ⟨rfl, V', N', D', g1, g2, g3, g4, g5, g6, g7⟩
  obtain ⟨g8, g9⟩ := keep_to h11 h5 g2
  refine ⟨rfl, ⟨V', N', D', g2.r, g2.b.trans h2, g2.m.trans h3, g1, g9, g3, ?_, g5, by rw [g6, h9], by unfold Ts.more; rw [← g5]; exact g7⟩, g8⟩
  rw [g4]
  simp [Ts.more]
  omega
theorem lone_fresh (h : LoneAt w W r b m s s.base k) :
    Calls Tryz.prog 13 #[.pointer (some ⟨r, 0, none⟩)] W fun e w' => ∃ A c, e = .returned (.tuple #[.string (bs []), .bool false, .slice A s.log.length c]) ∧ w'.ownsRow W.heap.size 62 3 (.slice A s.log.length c) s.log.length (entsV s.log) ∧ LoneAt w w' r b m s (s.base + s.log.length) k := by
  obtain ⟨⟨V, N, D, rfl, h2, h3, h4, h5, h6, h7, rfl, h9, h10⟩, h11⟩ := h
  refine (fresh_one h4 h6 h9 h7).mono ?_
  rintro e w' ⟨A, c, rfl, g1, g2, g3⟩
  obtain ⟨g8, g9⟩ := keep_to h11 h5 g3
  exact ⟨A, c, rfl, g1, ⟨V, _, D, rfl, h2, h3, g2, g9, h6.handed, h7, rfl, rfl, h10⟩, g8⟩
theorem early_role (h : EarlyAt w W r b m s j k) : Calls Tryz.prog 39 #[.pointer (some ⟨r, 0, none⟩)] W fun e w' => e = .returned (.int .i64 0) ∧ W = w' := by
  obtain ⟨⟨V, D, rfl, -, -, h4, -, -⟩, -⟩ := h
  exact role_calls h4
theorem lone_role (h : LoneAt w W r b m s ap k) : Calls Tryz.prog 39 #[.pointer (some ⟨r, 0, none⟩)] W fun e w' => e = .returned (.int .i64 2) ∧ W = w' := by
  obtain ⟨⟨V, N, D, rfl, -, -, h4, -, h6, -⟩, -⟩ := h
  have := role_calls h4
  rw [h6.role] at this
  exact this
theorem lone_term (h : LoneAt w W r b m s ap k) : Calls Tryz.prog 23 #[.pointer (some ⟨r, 0, none⟩)] W fun e w' => e = .returned (.int .i64 (s.term : Int)) ∧ W = w' := by
  obtain ⟨⟨V, N, D, rfl, -, -, h4, -, -, -, rfl, -⟩, -⟩ := h
  exact term_calls h4
theorem lone_commit (h : LoneAt w W r b m s ap k) : Calls Tryz.prog 25 #[.pointer (some ⟨r, 0, none⟩)] W fun e w' => e = .returned (.int .i64 ((s.base + s.log.length : Nat) : Int)) ∧ W = w' := by
  obtain ⟨⟨V, N, D, rfl, -, -, h4, -, -, h7, -⟩, -⟩ := h
  have := commit_calls h4
  rw [h7] at this
  exact this
theorem lone_applied (h : LoneAt w W r b m s ap k) : Calls Tryz.prog 15 #[.pointer (some ⟨r, 0, none⟩)] W fun e w' => e = .returned (.int .i64 (ap : Int)) ∧ W = w' := by
  obtain ⟨⟨V, N, D, rfl, -, -, h4, -, -, -, -, rfl, -⟩, -⟩ := h
  exact applied_calls h4
theorem lone_last (h : LoneAt w W r b m s ap k) : Calls Tryz.prog 14 #[.pointer (some ⟨r, 0, none⟩)] W fun e w' => e = .returned (.int .i64 ((s.base + s.log.length : Nat) : Int)) ∧ ∃ n, w' = W.drewN n := by
  obtain ⟨⟨V, N, D, rfl, -, -, h4, -, h6, -, rfl, -⟩, -⟩ := h
  have := nlast_calls h4 (by have := h6.fit.many; omega)
  rw [h6.fit.last] at this
  exact this
theorem LoneAt.fit (h : LoneAt w W r b m s ap k) : s.Fit := by
  obtain ⟨⟨V, N, D, -, -, -, -, -, h6, -, rfl, -⟩, -⟩ := h
  exact h6.fit

/-- Behind a snapshot of all; s: what it keeps. -/
structure CutAt (w W : World) (r b m : Nat) (s : Ts) (k : Nat) : Prop where
  ex : ∃ V N D, V.r = r ∧ V.b = b ∧ V.m = m ∧ NodeAt W V N D ∧ (∀ x ∈ V.fp, x = b ∨ x = m ∨ w.heap.size ≤ x) ∧ N.broken = 0 ∧ N.applied = s.base ∧ N.st = s ∧ N.Sm ∧ Holds D k s
  fit : s.Fit
  keep : Keep [b, m] w W
theorem CutAt.grow {W' : World} (h : CutAt w W r b m s k) (hk : Keep [] W W') : CutAt w W' r b m s k := by
  obtain ⟨⟨V, N, D, h1, h2, h3, h4, h5⟩, h6, h7⟩ := h
  exact ⟨⟨V, N, D, h1, h2, h3, h4.grow hk, h5⟩, h6, h7.trans hk.nil_⟩
theorem lone_compact (h : LoneAt w W r b m s (s.base + s.log.length) k) (hl : 0 < s.log.length) (hb : s.base + s.log.length ≤ 1000000) (snap : List UInt8) (hs : snap.length ≤ 1000) (hk : 2000 ≤ k) :
    Calls Tryz.prog 16 #[.pointer (some ⟨r, 0, none⟩), .string (bs snap)] W fun e w' => e = .returned (.int .i64 0) ∧ ∃ s', s'.base = s.base + s.log.length ∧ s'.snap = snap ∧ s'.log = [] ∧ s'.term = s.term ∧ CutAt w w' r b m s' (k - 2000) := by
  obtain ⟨⟨V, N, D, rfl, h2, h3, h4, h5, h6, h7, rfl, h9, h10⟩, h11⟩ := h
  refine (compact_one h4 h6 h10 h9 hl hb snap hs hk).mono ?_
  rintro e w' ⟨rfl, V', N', D', g1, g2, g3, g4, g5, g6, g7, g8, g9, g10, g11⟩
  obtain ⟨g12, g13⟩ := keep_to h11 h5 g2
  exact ⟨rfl, N'.st, g5, g6, g7, g8, ⟨V', N', D', g2.r, g2.b.trans h2, g2.m.trans h3, g1, g13, g3, by rw [g4, g5], rfl, g9, g11⟩, g10, g12⟩
theorem cut_compact (h : CutAt w W r b m s k) (snap : List UInt8) (hs : snap.length ≤ 1000) :
    Calls Tryz.prog 16 #[.pointer (some ⟨r, 0, none⟩), .string (bs snap)] W fun e w' => e = .returned (.int .i64 5) ∧ CutAt w w' r b m s k := by
  obtain ⟨⟨V, N, D, rfl, h2, h3, h4, h5, h6, h7, rfl, h9, h10⟩, h11, h12⟩ := h
  refine (compact_none h4 h9 h6 (by omega) snap (by omega)).mono ?_
  rintro e w' ⟨rfl, g1, g2⟩
  obtain ⟨g8, g9⟩ := keep_to h12 h5 g2
  exact ⟨rfl, ⟨V, N, D, rfl, h2, h3, g1, g9, h6, h7, rfl, h9, h10⟩, h11, g8⟩
/-- Opened anew, by another node over the same disk. -/
theorem cut_open (h : CutAt w W r b m s k) :
    Calls Tryz.prog 10 #[.pointer (some ⟨b, 0, none⟩), .int .i64 0, .int .i64 1] W fun e w' => ∃ q, e = .returned (.tuple #[.pointer (some ⟨q, 0, none⟩), .int .i64 0]) ∧ EarlyAt w w' q b m s 0 k ∧ CutAt w w' r b m s k := by
  obtain ⟨⟨V, N, D, rfl, rfl, rfl, h4, h5, h6, h7, rfl, h9, h10⟩, h11, h12⟩ := h
  refine (ropen_calls h4.rest.disk h10.good h4.rest.tab 0 1 (by decide) (by decide) (h10.load h11)).mono ?_
  rintro e w' ⟨U, rfl, g1, g2, g3, g4, g5, g6⟩
  have hsz := h12.size
  have hkw := h12.trans g6
  refine ⟨U.r, rfl, ⟨⟨U, D, rfl, g2, g3, g1, fun x hx => ?_, h10⟩, hkw⟩, ⟨V, N, D, rfl, rfl, rfl, h4.setDisk g6 ?_, h5, h6, h7, rfl, h9, h10⟩, h11, hkw⟩
  · rcases g5 x hx with h | h | h
    · exact .inl h
    · exact .inr (.inl h)
    · exact .inr (.inr (Nat.le_trans hsz h))
  · have := g1.rest.disk
    rw [g2, g3] at this
    exact this
/-- .. and what is kept, loaded. -/
theorem cut_load (h : CutAt w W r b m s k) {q : Nat} (hq : EarlyAt w W q b m s 0 k) :
    Calls Tryz.prog 17 #[.pointer (some ⟨b, 0, none⟩)] W fun e w' => ∃ A c, e = .returned (.tuple #[s.agg (.slice A s.log.length c), .int .i64 0]) ∧ EntsAt w' (.slice A s.log.length c) s.log ∧ EarlyAt w w' q b m s 0 k ∧ CutAt w w' r b m s k := by
  obtain ⟨⟨V, N, D, rfl, rfl, rfl, h4, h5, h6, h7, rfl, h9, h10⟩, h11, h12⟩ := h
  obtain ⟨⟨U, E, rfl, u2, u3, u4, u5, u6⟩, u7⟩ := hq
  have := load_calls h4.rest.disk h10.good h4.rest.tab
  unfold LoadPost at this
  rw [h10.load h11] at this
  refine this.mono ?_
  rintro e w' ⟨lg, rfl, g1, g2, g3⟩
  obtain ⟨A, c, rfl⟩ := own_slice g1
  have hkw := h12.trans g3
  refine ⟨A, c, rfl, own_ents g1, ⟨⟨U, D, rfl, u2, u3, u4.setDisk (by rw [u2, u3]; exact g3) (by rw [u2, u3]; exact g2), u5, h10⟩, hkw⟩, ⟨V, N, D, rfl, rfl, rfl, h4.setDisk g3 g2, h5, h6, h7, rfl, h9, h10⟩, h11, hkw⟩
theorem cut_state (h : CutAt w W r b m s k) : Calls Tryz.prog 20 #[.pointer (some ⟨r, 0, none⟩)] W fun e w' => ∃ A c, e = .returned (s.agg (.slice A s.log.length c)) ∧ EntsAt w' (.slice A s.log.length c) s.log ∧ Keep [] W w' := by
  obtain ⟨⟨V, N, D, rfl, h2, h3, h4, h5, h6, h7, rfl, h9, h10⟩, h11, h12⟩ := h
  refine (state_calls h4 (by have := h11.many; omega)).mono ?_
  rintro e w' ⟨A, c, rfl, g1, g2⟩
  exact ⟨A, c, rfl, own_ents g1, g2⟩
theorem early_state (h : EarlyAt w W r b m s j k) (f : s.Fit) : Calls Tryz.prog 20 #[.pointer (some ⟨r, 0, none⟩)] W fun e w' => ∃ A c, e = .returned (s.agg (.slice A s.log.length c)) ∧ EntsAt w' (.slice A s.log.length c) s.log ∧ Keep [] W w' := by
  obtain ⟨⟨V, D, rfl, h2, h3, h4, h5, h6⟩, h7⟩ := h
  refine (state_calls h4 (by show s.log.length ≤ _; have := f.many; omega)).mono ?_
  rintro e w' ⟨A, c, rfl, g1, g2⟩
  exact ⟨A, c, rfl, own_ents g1, g2⟩
theorem early_last (h : EarlyAt w W r b m s j k) (f : s.Fit) : Calls Tryz.prog 14 #[.pointer (some ⟨r, 0, none⟩)] W fun e w' => e = .returned (.int .i64 ((s.base + s.log.length : Nat) : Int)) ∧ ∃ n, w' = W.drewN n := by
  obtain ⟨⟨V, D, rfl, h2, h3, h4, h5, h6⟩, h7⟩ := h
  have := nlast_calls h4 (by show s.log.length ≤ _; have := f.many; omega)
  rw [show ({ Rn.opened 0 1 s with timer := j } : Rn).st = s from rfl, f.last] at this
  exact this
end

end Go.Proofs.YtnlcipocobmgiaaGreatDoor
