/- The contracts of raft.Open, (*raft.Node).keepSnap. -/
import Derived.Test.YtnlcipocobmgiaaGreatDoorRaftB
import Derived.Test.YtnlcipocobmgiaaGreatDoorTermAll
namespace Go.Proofs.YtnlcipocobmgiaaGreatDoor
open Go.RowKit
attribute [local go_sem] size_bs bs_append bs_extract

/-- A node that was just opened. -/
def Rn.opened (id n : Nat) (s : Ts) : Rn := ⟨id, n, s, 0, -1, s.base, s.base, 0, [], [], [], [], 0⟩

theorem opened_at {w w1 : World} {b m : Nat} {D D' : Dk} {s : Ts} {A : Option Addr} {c : Nat} (h : DiskAt w b m D) (hT : Tab w) (hO : w1.ownsRow w.heap.size 62 3 (.slice A s.log.length c) s.log.length (entsV s.log)) (hD : DiskAt w1 b m D') (hk : Keep [b, m] w w1) (id n : Nat) :
    NodeAt ((w1.alloc (.cells #[.int .i64 (s.term : Int), .int .i64 (s.vote : Int), .int .i64 (s.base : Int), .int .i64 (s.baseTerm : Int), .string (bs s.snap), .slice A s.log.length c] 46)).alloc (.cells #[.pointer (some ⟨b, 0, none⟩), .int .i64 (id : Int), .int .i64 (n : Int), .int .i64 (s.term : Int), .int .i64 (s.vote : Int), .int .i64 (s.base : Int), .int .i64 (s.baseTerm : Int), .string (bs s.snap), .slice A s.log.length c, .int .i64 0, .int .i64 (-1), .int .i64 (s.base : Int), .int .i64 (s.base : Int), .int .i64 0, .slice none 0 0, .slice none 0 0, .slice none 0 0, .slice none 0 0, .int .i64 0] 81)) ⟨w1.heap.size + 1, b, m, .slice A s.log.length c, none, none, none, .slice none 0 0, []⟩ (Rn.opened id n s) D' ∧ b = b ∧ m = m ∧ ([] : List (Mg × Value)) = [] ∧ (∀ x ∈ (⟨w1.heap.size + 1, b, m, .slice A s.log.length c, none, none, none, .slice none 0 0, []⟩ : Nv).fp, x = b ∨ x = m ∨ w.heap.size ≤ x) ∧ Keep [b, m] w ((w1.alloc (.cells #[.int .i64 (s.term : Int), .int .i64 (s.vote : Int), .int .i64 (s.base : Int), .int .i64 (s.baseTerm : Int), .string (bs s.snap), .slice A s.log.length c] 46)).alloc (.cells #[.pointer (some ⟨b, 0, none⟩), .int .i64 (id : Int), .int .i64 (n : Int), .int .i64 (s.term : Int), .int .i64 (s.vote : Int), .int .i64 (s.base : Int), .int .i64 (s.baseTerm : Int), .string (bs s.snap), .slice A s.log.length c, .int .i64 0, .int .i64 (-1), .int .i64 (s.base : Int), .int .i64 (s.base : Int), .int .i64 0, .slice none 0 0, .slice none 0 0, .slice none 0 0, .slice none 0 0, .int .i64 0] 81)) := by
  have hk2 : Keep [] w1 ((w1.alloc (.cells #[.int .i64 (s.term : Int), .int .i64 (s.vote : Int), .int .i64 (s.base : Int), .int .i64 (s.baseTerm : Int), .string (bs s.snap), .slice A s.log.length c] 46)).alloc (.cells #[.pointer (some ⟨b, 0, none⟩), .int .i64 (id : Int), .int .i64 (n : Int), .int .i64 (s.term : Int), .int .i64 (s.vote : Int), .int .i64 (s.base : Int), .int .i64 (s.baseTerm : Int), .string (bs s.snap), .slice A s.log.length c, .int .i64 0, .int .i64 (-1), .int .i64 (s.base : Int), .int .i64 (s.base : Int), .int .i64 0, .slice none 0 0, .slice none 0 0, .slice none 0 0, .slice none 0 0, .int .i64 0] 81)) := ((Keep.refl [] w1).alloc _).alloc _
  have hfp : ∀ x ∈ (⟨w1.heap.size + 1, b, m, .slice A s.log.length c, none, none, none, .slice none 0 0, []⟩ : Nv).fp, x = b ∨ x = m ∨ w.heap.size ≤ x := by
    intro x hx
    have := hk.size
    rcases Nv.mem.1 hx with h | h | h | h | h | h | h | h
    · change x = w1.heap.size + 1 at h; right; right; omega
    · exact .inl h
    · exact .inr (.inl h)
    · exact .inr (.inr (hO.lt x h).1)
    · cases h
    · cases h
    · cases h
    · cases h
  have hTab : Tab w1 := hT.disk h hk
  have hg0 := World.block_lt_of_cell? _ _ (hT 0 (by omega))
  refine ⟨⟨Blk.here _ _ _ _ (by simp), hD.keep hk2 (by simp) (by simp), own_base0 (hk2.owns hO (by simp)), ArrAt.nil _ _, ArrAt.nil _ _, ArrAt.nil _ _, (fun g e => by cases e), World.ownsRow_nil _ _ _ _, rfl, (fun p hp => by cases hp), hTab.keep hk2 (by simp), fun hx => ?_⟩, rfl, rfl, rfl, hfp, hk.trans' hk2 (by simp)⟩
  rcases hfp _ hx with h1 | h1 | h1
  · exact hT.ne_blk h.blk (by simp) h1
  · exact hT.ne_map h.map h1
  · simp at hg0; omega
set_option maxRecDepth 100000 in
set_option maxHeartbeats 2000000 in
theorem ropen_calls {w : World} {b m : Nat} {D D' : Dk} {s : Ts} (h : DiskAt w b m D) (hg : D.Good) (hT : Tab w) (id n : Nat) (hn : n ≤ 5) (hid : id < n) (hl : D.load = (D', s, 0)) :
    Calls Tryz.prog 10 #[.pointer (some ⟨b, 0, none⟩), .int .i64 (id : Int), .int .i64 (n : Int)] w fun e w' => ∃ V, e = .returned (.tuple #[.pointer (some ⟨V.r, 0, none⟩), .int .i64 0]) ∧ NodeAt w' V (Rn.opened id n s) D' ∧ V.b = b ∧ V.m = m ∧ V.outs = [] ∧ (∀ x ∈ V.fp, x = b ∨ x = m ∨ w.heap.size ≤ x) ∧ Keep [b, m] w w' := by
  have T1 : Calls Tryz.prog 17 #[.pointer (some ⟨b, 0, none⟩)] w fun e w' => ∃ A c, e = .returned (.tuple #[.agg #[.int .i64 (s.term : Int), .int .i64 (s.vote : Int), .int .i64 (s.base : Int), .int .i64 (s.baseTerm : Int), .string (bs s.snap), .slice A s.log.length c], .int .i64 0]) ∧ w'.ownsRow w.heap.size 62 3 (.slice A s.log.length c) s.log.length (entsV s.log) ∧ DiskAt w' b m D' ∧ Keep [b, m] w w' := by
    have := load_calls h hg hT
    unfold LoadPost at this
    rw [hl] at this
    refine this.mono fun e w' ⟨lg, h1, h2, h3, h4⟩ => ?_
    obtain ⟨A, c, rfl⟩ := own_slice h2
    exact ⟨A, c, h1, h2, h3, h4⟩
  have HT1 := Lib.hid T1
  have HT := Lib.hid hT
  have H := Lib.hid h
  have hbl := h.blk.lt
  have hml := h.map.lt
  have d1 : decide ((n : Int) < 1) = false := by simp; omega
  have d2 : decide ((5 : Int) < (n : Int)) = false := by simp; omega
  have d3 : decide ((id : Int) < 0) = false := by simp
  have d4 : decide ((n : Int) ≤ (id : Int)) = false := by simp; omega
  clear T1 hT h hl
  go_enter Tryz.func10, Tryz.ntmps10
  go_wp2_with (first
    | (go_at_call 17; refine HT1.out.mono ?_; rintro e w1 ⟨A, c, rfl, hO, hD1, hk1⟩; have HO := Lib.hid hO; have HD1 := Lib.hid hD1; have HK1 := Lib.hid hk1; clear hO hD1 hk1)
    | fail)
  go_ret2
  exact ⟨⟨w1.heap.size + 1, b, m, .slice A s.log.length c, none, none, none, .slice none 0 0, []⟩, rfl, opened_at H.out HT.out HO.out HD1.out HK1.out _ _⟩

end Go.Proofs.YtnlcipocobmgiaaGreatDoor
