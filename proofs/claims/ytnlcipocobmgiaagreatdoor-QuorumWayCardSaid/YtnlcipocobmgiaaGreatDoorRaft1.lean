/- The contracts of raft.Node's small methods. -/
import Derived.Test.YtnlcipocobmgiaaGreatDoorRaftW
import Derived.Maps.AppendAt
namespace Go.Proofs.YtnlcipocobmgiaaGreatDoor
open Go.RowKit
attribute [local go_sem] size_bs bs_append bs_extract

theorem stored_ok (r : Nat) (w : World) :
    Calls Tryz.prog 81 #[.pointer (some ⟨r, 0, none⟩), .int .i64 0] w fun e w' => e = .returned (.bool true) ∧ w = w' := by
  go_enter Tryz.func81, Tryz.ntmps81
  go_wp2
  go_ret
  exact ⟨rfl, rfl⟩

/-- The three arrays are dropped. -/
def Nv.drop3 (V : Nv) : Nv := { V with vo := none, ma := none, ne := none }
theorem Nv.drop3_fp {V : Nv} {x : Nat} (h : x ∈ V.drop3.fp) : x ∈ V.fp := by
  rcases Nv.mem.1 h with h | h | h | h | h | h | h | h
  · exact Nv.mem.2 (.inl h)
  · exact Nv.mem.2 (.inr (.inl h))
  · exact Nv.mem.2 (.inr (.inr (.inl h)))
  · exact Nv.mem.2 (.inr (.inr (.inr (.inl h))))
  · cases h
  · cases h
  · cases h
  · exact Nv.mem.2 (.inr (.inr (.inr (.inr (.inr (.inr (.inr h)))))))

section
variable {w : World} {V : Nv} {N : Rn} {D : Dk}
theorem follow_end {w' : World} (h : NodeAt w V N D) (hk : Keep [V.r] w w') {l : Int} (hB : Blk w' V.r 81 (nodeCells V.drop3 (N.follow l))) : NodeAt w' V.drop3 (N.follow l) D ∧ NodeTo V V.drop3 w w' := by
  have R := h.rest_keep hk
  exact ⟨⟨hB, R.disk, R.log, ArrAt.nil _ _, ArrAt.nil _ _, ArrAt.nil _ _, (fun g e => by cases e), R.ou, R.outs, fun p hp => ⟨(R.es p hp).1, fun k e => ⟨((R.es p hp).2 k e).1, fun hx => ((R.es p hp).2 k e).2 (Nv.drop3_fp hx)⟩⟩, R.tab, fun hx => R.tn (Nv.drop3_fp hx)⟩, (NodeTo.setR V hk).keep, fun x hx => .inl (Nv.drop3_fp hx), fun _ h => .inl h, rfl, rfl, rfl⟩
theorem setR_end {w0 w' : World} {N' : Rn} {U : Nv} (h : NodeAt w V N D) (ht : NodeTo U V w0 w) (hk : Keep [V.r] w w') (hB : Blk w' V.r 81 (nodeCells V N')) (h1 : N'.st.log = N.st.log) (h2 : N'.votes = N.votes) (h3 : N'.mt = N.mt) (h4 : N'.nx = N.nx) (h5 : N'.out = N.out) : NodeAt w' V N' D ∧ NodeTo U V w0 w' :=
  ⟨h.setR hk hB h1 h2 h3 h4 h5, ht.trans (NodeTo.setR V hk)⟩
set_option maxRecDepth 100000 in
set_option maxHeartbeats 1000000 in
theorem follow_calls (h : NodeAt w V N D) (l : Int) :
    Calls Tryz.prog 54 #[.pointer (some ⟨V.r, 0, none⟩), .int .i64 l] w fun e w' => e = .returned (.tuple #[]) ∧ NodeAt w' V.drop3 (N.follow l) D ∧ NodeTo V V.drop3 w w' := by
  have H := Lib.hid h
  have hf : ∀ i, w.frozen? ⟨V.r, i, none⟩ = false := fun i => h.blk.frozen i
  have c9 : w.cell? ⟨V.r, 9, none⟩ = some (.int .i64 (N.role : Int)) := h.blk.cell 9
  have c10 : w.cell? ⟨V.r, 10, none⟩ = some (.int .i64 N.leader) := h.blk.cell 10
  have c14 : w.cell? ⟨V.r, 14, none⟩ = some (arrV V.vo N.votes.length) := h.blk.cell 14
  have c15 : w.cell? ⟨V.r, 15, none⟩ = some (arrV V.ma N.mt.length) := h.blk.cell 15
  have c16 : w.cell? ⟨V.r, 16, none⟩ = some (arrV V.ne N.nx.length) := h.blk.cell 16
  clear h
  go_enter Tryz.func54, Tryz.ntmps54
  go_wp2
  go_end0
  exact ⟨rfl, follow_end H.out (by repeat (first | exact Keep.refl _ _ | refine Keep.drew ?_ | refine Keep.drewN ?_ _ | refine Keep.alloc ?_ _ | refine Keep.setCell ?_ (.inl (by simp)) _)) (((((H.out.blk.set_ 9 _).set_ 10 _).set_ 14 _).set_ 15 _).set_ 16 _)⟩

set_option maxRecDepth 100000 in
set_option maxHeartbeats 1000000 in
theorem keepTerm_calls (h : NodeAt w V N D) (hg : D.Good) (t v : Nat) (ht : t ≤ 4611686018427387904) (hv : v ≤ 4611686018427387904) {D' : Dk} (hd : D.saveTerm t v = (D', 0)) :
    Calls Tryz.prog 53 #[.pointer (some ⟨V.r, 0, none⟩), .int .i64 (t : Int), .int .i64 (v : Int)] w fun e w' => e = .returned (.bool true) ∧ NodeAt w' V (N.keepTerm t v) D' ∧ NodeTo V V w w' := by
  have T : ∀ W, NodeAt W V N D → Calls Tryz.prog 40 #[.pointer (some ⟨V.b, 0, none⟩), .int .i64 (t : Int), .int .i64 (v : Int)] W fun e w' => e = .returned (.int .i64 0) ∧ NodeAt w' V N D' ∧ NodeTo V V W w' := fun W hW => by
    have := saveTerm_calls hW.rest.disk hg hW.rest.tab t v ht hv
    rw [hd] at this
    refine this.mono ?_
    rintro e w' ⟨rfl, h1, h2⟩
    exact ⟨rfl, hW.setDisk h2 h1, NodeTo.setDisk V h2⟩
  have HT := Lib.hid T
  have H := Lib.hid h
  have c0 : w.cell? ⟨V.r, 0, none⟩ = some (.pointer (some ⟨V.b, 0, none⟩)) := h.blk.cell 0
  clear h T hd
  go_enter Tryz.func53, Tryz.ntmps53
  go_wp2_with (first
    | (go_at_call 40; refine (HT.out _ H.out).mono ?_; rintro e w1 ⟨rfl, h1, hk1⟩; have c3 : w1.cell? ⟨V.r, 3, none⟩ = some (.int .i64 (N.st.term : Int)) := h1.blk.cell 3; have c4 : w1.cell? ⟨V.r, 4, none⟩ = some (.int .i64 (N.st.vote : Int)) := h1.blk.cell 4; have hf : ∀ i, w1.frozen? ⟨V.r, i, none⟩ = false := fun i => h1.blk.frozen i; have H1 := Lib.hid h1; have HK1 := Lib.hid hk1; clear h1 hk1 c0)
    | (go_at_call 81; refine (stored_ok _ _).mono ?_; rintro e w1 ⟨rfl, rfl⟩))
  go_ret
  exact ⟨rfl, setR_end H1.out HK1.out (by repeat (first | exact Keep.refl _ _ | refine Keep.drew ?_ | refine Keep.drewN ?_ _ | refine Keep.alloc ?_ _ | refine Keep.setCell ?_ (.inl (by simp)) _)) ((H1.out.blk.set_ 3 _).set_ 4 _) rfl rfl rfl rfl rfl⟩

theorem nlast_calls (h : NodeAt w V N D) (hn : N.st.log.length ≤ 4611686018427387904) :
    Calls Tryz.prog 14 #[.pointer (some ⟨V.r, 0, none⟩)] w fun e w' => e = .returned (.int .i64 (N.st.last.1 : Int)) ∧ ∃ k, w' = w.drewN k := by
  have HL := Lib.hid (lastO_calls N.st V.lg h.sto hn)
  clear h
  go_enter Tryz.func14, Tryz.ntmps14
  go_wp2_with (go_at_call 46; refine HL.out.mono ?_; rintro e w1 ⟨rfl, n1, rfl⟩)
  go_ret
  exact ⟨rfl, _, rfl⟩

/-- A number that it is asked for. -/
theorem role_calls (h : NodeAt w V N D) :
    Calls Tryz.prog 39 #[.pointer (some ⟨V.r, 0, none⟩)] w fun e w' => e = .returned (.int .i64 (N.role : Int)) ∧ w = w' := by
  have c : w.cell? ⟨V.r, 9, none⟩ = some (.int .i64 (N.role : Int)) := h.blk.cell 9
  clear h
  go_enter Tryz.func39, Tryz.ntmps39
  go_wp2
  go_ret
  exact ⟨rfl, rfl⟩
/-- A number that it is asked for. -/
theorem term_calls (h : NodeAt w V N D) :
    Calls Tryz.prog 23 #[.pointer (some ⟨V.r, 0, none⟩)] w fun e w' => e = .returned (.int .i64 (N.st.term : Int)) ∧ w = w' := by
  have c : w.cell? ⟨V.r, 3, none⟩ = some (.int .i64 (N.st.term : Int)) := h.blk.cell 3
  clear h
  go_enter Tryz.func23, Tryz.ntmps23
  go_wp2
  go_ret
  exact ⟨rfl, rfl⟩
/-- A number that it is asked for. -/
theorem commit_calls (h : NodeAt w V N D) :
    Calls Tryz.prog 25 #[.pointer (some ⟨V.r, 0, none⟩)] w fun e w' => e = .returned (.int .i64 (N.commit : Int)) ∧ w = w' := by
  have c : w.cell? ⟨V.r, 11, none⟩ = some (.int .i64 (N.commit : Int)) := h.blk.cell 11
  clear h
  go_enter Tryz.func25, Tryz.ntmps25
  go_wp2
  go_ret
  exact ⟨rfl, rfl⟩
/-- A number that it is asked for. -/
theorem applied_calls (h : NodeAt w V N D) :
    Calls Tryz.prog 15 #[.pointer (some ⟨V.r, 0, none⟩)] w fun e w' => e = .returned (.int .i64 (N.applied : Int)) ∧ w = w' := by
  have c : w.cell? ⟨V.r, 12, none⟩ = some (.int .i64 (N.applied : Int)) := h.blk.cell 12
  clear h
  go_enter Tryz.func15, Tryz.ntmps15
  go_wp2
  go_ret
  exact ⟨rfl, rfl⟩
/-- A number that it is asked for. -/
theorem broken_calls (h : NodeAt w V N D) :
    Calls Tryz.prog 93 #[.pointer (some ⟨V.r, 0, none⟩)] w fun e w' => e = .returned (.int .i64 N.broken) ∧ w = w' := by
  have c : w.cell? ⟨V.r, 18, none⟩ = some (.int .i64 N.broken) := h.blk.cell 18
  clear h
  go_enter Tryz.func93, Tryz.ntmps93
  go_wp2
  go_ret
  exact ⟨rfl, rfl⟩

/-- The messages are taken. -/
def Nv.taken (V : Nv) : Nv := { V with ou := .slice none 0 0, outs := [] }
theorem Nv.taken_fp {V : Nv} {x : Nat} (h : x ∈ V.taken.fp) : x ∈ V.fp := by
  rcases Nv.mem.1 h with h | h | h | h | h | h | h | h
  · exact Nv.mem.2 (.inl h)
  · exact Nv.mem.2 (.inr (.inl h))
  · exact Nv.mem.2 (.inr (.inr (.inl h)))
  · exact Nv.mem.2 (.inr (.inr (.inr (.inl h))))
  · exact Nv.mem.2 (.inr (.inr (.inr (.inr (.inl h)))))
  · exact Nv.mem.2 (.inr (.inr (.inr (.inr (.inr (.inl h))))))
  · exact Nv.mem.2 (.inr (.inr (.inr (.inr (.inr (.inr (.inl h)))))))
  · cases h
theorem Nv.taken_ou {V : Nv} (h : NodeAt w V N D) {k : Nat} (hk : V.ou.ownBlock = some k) : k ∉ V.taken.fp := by
  intro hx
  have ho := h.rest.ou
  have ne : ∀ {t : TypeId} {cs : Array Value} {g : Nat}, Blk w g t cs → 56 ≠ t → k ≠ g := fun hb ht e => own_blk_ne ho hb ht (e ▸ hk)
  rcases Nv.mem.1 hx with h1 | h1 | h1 | h1 | h1 | h1 | h1 | h1
  · exact ne h.blk (by decide) h1
  · exact ne h.rest.disk.blk (by decide) h1
  · change k = V.m at h1
    subst h1
    rcases ho.2 with ⟨e, _⟩ | ⟨g', cap, cur, e, _, hh, _⟩
    · rw [e] at hk; cases hk
    · rw [e] at hk
      have : g' = V.m := by simpa [Value.ownBlock] using hk
      subst this
      obtain ⟨es, c, h3, _⟩ := h.rest.disk.map
      rw [h3] at hh
      cases hh
  · change V.lg.ownBlock = some k at h1
    rcases h.rest.log.2 with ⟨e, _⟩ | ⟨g', cap, cur, e, _, hh, _⟩
    · rw [e] at h1; cases h1
    · rw [e] at h1
      have : g' = k := by simpa [Value.ownBlock] using h1
      subst this
      exact ne (t := 62) hh (by decide) rfl
  · have := h.rest.vo; change V.vo = some k at h1; rw [h1] at this; exact ne this (by decide) rfl
  · have := h.rest.ma; change V.ma = some k at h1; rw [h1] at this; exact ne this (by decide) rfl
  · have := h.rest.ne; change V.ne = some k at h1; rw [h1] at this; exact ne this (by decide) rfl
  · cases h1
/-- Messages in hand: a slice, its rows, their entries. -/
structure MsgsAt (w : World) (v : Value) (outs : List (Mg × Value)) : Prop where
  own : w.ownsRow 0 56 10 v outs.length (msgsV outs)
  es : ∀ p ∈ outs, EntsAt w p.2 p.1.ents
theorem take_end {w' : World} (h : NodeAt w V N D) (hk : Keep [V.r] w w') (hB : Blk w' V.r 81 (nodeCells V.taken { N with out := [] })) : MsgsAt w' V.ou V.outs ∧ NodeAt w' V.taken { N with out := [] } D ∧ NodeTo V V.taken w w' := by
  have R := h.rest_keep hk
  exact ⟨⟨R.ou, fun p hp => (R.es p hp).1⟩, ⟨hB, R.disk, R.log, R.vo, R.ma, R.ne, R.dis, World.ownsRow_nil _ _ _ _, rfl, (fun p hp => by cases hp), R.tab, fun hx => R.tn (Nv.taken_fp hx)⟩, (NodeTo.setR V hk).keep, fun x hx => .inl (Nv.taken_fp hx), (fun p hp => by cases hp), rfl, rfl, rfl⟩
set_option maxRecDepth 100000 in
theorem take_calls (h : NodeAt w V N D) :
    Calls Tryz.prog 26 #[.pointer (some ⟨V.r, 0, none⟩)] w fun e w' => e = .returned V.ou ∧ MsgsAt w' V.ou V.outs ∧ NodeAt w' V.taken { N with out := [] } D ∧ NodeTo V V.taken w w' := by
  have H := Lib.hid h
  have hf : ∀ i, w.frozen? ⟨V.r, i, none⟩ = false := fun i => h.blk.frozen i
  have c17 : w.cell? ⟨V.r, 17, none⟩ = some V.ou := h.blk.cell 17
  obtain ⟨A, c, hou⟩ := own_slice h.rest.ou
  rw [hou] at c17
  have HOU := Lib.hid hou
  clear h hou
  go_enter Tryz.func26, Tryz.ntmps26
  go_wp2
  go_ret
  exact ⟨(by rw [HOU.out]; rfl), take_end H.out (by repeat (first | exact Keep.refl _ _ | refine Keep.drew ?_ | refine Keep.drewN ?_ _ | refine Keep.alloc ?_ _ | refine Keep.setCell ?_ (.inl (by simp)) _)) (H.out.blk.set_ 17 _)⟩
end

end Go.Proofs.YtnlcipocobmgiaaGreatDoor
