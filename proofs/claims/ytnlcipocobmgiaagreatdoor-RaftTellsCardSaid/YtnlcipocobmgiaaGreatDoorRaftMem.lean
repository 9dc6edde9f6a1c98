/- Words for a raft node: the plain node, where it lies in memory, what a call may change. -/
import Derived.Test.YtnlcipocobmgiaaGreatDoorStO
namespace Go.Proofs.YtnlcipocobmgiaaGreatDoor
open Go.RowKit

/-- A message. -/
structure Mg where
  kind : Int
  frm : Int
  to_ : Int
  term : Int
  index : Int
  logTerm : Int
  commit : Int
  ok : Bool
  ents : List En
  snap : List UInt8
def Mg.cells (m : Mg) (v : Value) : List Value := [.int .i64 m.kind, .int .i64 m.frm, .int .i64 m.to_, .int .i64 m.term, .int .i64 m.index, .int .i64 m.logTerm, .int .i64 m.commit, .bool m.ok, v, .string (bs m.snap)]
def msgsV (l : List (Mg × Value)) : List Value := l.flatMap fun p => p.1.cells p.2
theorem msgsV_app (a b : List (Mg × Value)) : msgsV (a ++ b) = msgsV a ++ msgsV b := by simp [msgsV]
theorem msgsV_len : ∀ l : List (Mg × Value), (msgsV l).length = l.length * 10
  | [] => rfl
  | p :: l => by
    have ih := msgsV_len l
    simp only [msgsV, List.flatMap_cons, List.length_append, List.length_cons] at ih ⊢
    rw [ih]
    simp [Mg.cells]
    omega
theorem msgsV_at (ps : List (Mg × Value)) (k : Nat) (h : k < ps.length) (i : Nat) (hi : i < 10) : (msgsV ps)[k * 10 + i]? = (ps[k].1.cells ps[k].2)[i]? := by
  induction ps generalizing k with
  | nil => simp at h
  | cons p ps ih =>
    have hl : (p.1.cells p.2).length = 10 := rfl
    cases k with
    | zero => simp only [msgsV, List.flatMap_cons, Nat.zero_mul, Nat.zero_add, List.getElem_cons_zero]; rw [List.getElem?_append_left (by omega)]
    | succ k =>
      simp only [msgsV, List.flatMap_cons, List.getElem_cons_succ]
      rw [List.getElem?_append_right (by omega), hl, show (k + 1) * 10 + i - 10 = k * 10 + i by omega]
      exact ih k (by simpa using h)

/-- A node: number, of how many, its state, its role .. -/
structure Rn where
  id : Nat
  n : Nat
  st : Ts
  role : Nat
  leader : Int
  commit : Nat
  applied : Nat
  timer : Nat
  votes : List Bool
  mt : List Nat
  nx : List Nat
  out : List Mg
  broken : Int

/-- Where it lies: its block, the disk's and its map's; the entries' slice, the three arrays, the messages' slice, the messages with the values of their entries. -/
structure Nv where
  r : Nat
  b : Nat
  m : Nat
  lg : Value
  vo : Option Nat
  ma : Option Nat
  ne : Option Nat
  ou : Value
  outs : List (Mg × Value)
def arrV (o : Option Nat) (n : Nat) : Value := match o with
  | none => .slice none 0 0
  | some g => .slice (some ⟨g, 0, none⟩) n n
def ArrAt (w : World) (t : TypeId) (o : Option Nat) (xs : List Value) : Prop := match o with
  | none => xs = []
  | some g => Blk w g t xs.toArray
def nums (l : List Nat) : List Value := l.map fun (k : Nat) => Value.int .i64 (k : Int)
def bools (l : List Bool) : List Value := l.map Value.bool
def Nv.fp (V : Nv) : List Nat := V.r :: V.b :: V.m :: (V.lg.ownBlock.toList ++ (V.vo.toList ++ (V.ma.toList ++ (V.ne.toList ++ V.ou.ownBlock.toList))))
def nodeCells (V : Nv) (N : Rn) : Array Value :=
  #[.pointer (some ⟨V.b, 0, none⟩), .int .i64 (N.id : Int), .int .i64 (N.n : Int), .int .i64 (N.st.term : Int), .int .i64 (N.st.vote : Int), .int .i64 (N.st.base : Int), .int .i64 (N.st.baseTerm : Int), .string (bs N.st.snap), V.lg,
    .int .i64 (N.role : Int), .int .i64 N.leader, .int .i64 (N.commit : Int), .int .i64 (N.applied : Int), .int .i64 (N.timer : Int), arrV V.vo N.votes.length, arrV V.ma N.mt.length, arrV V.ne N.nx.length, V.ou, .int .i64 N.broken]

/-- What lies beside the node's own block. -/
structure NRest (w : World) (V : Nv) (log : List En) (votes : List Bool) (mt nx : List Nat) (out : List Mg) (D : Dk) : Prop where
  disk : DiskAt w V.b V.m D
  log : w.ownsRow 0 62 3 V.lg log.length (entsV log)
  vo : ArrAt w 4 V.vo (bools votes)
  ma : ArrAt w 3 V.ma (nums mt)
  ne : ArrAt w 3 V.ne (nums nx)
  dis : ∀ g, V.ma = some g → V.ne ≠ some g
  ou : w.ownsRow 0 56 10 V.ou V.outs.length (msgsV V.outs)
  outs : V.outs.map Prod.fst = out
  es : ∀ p ∈ V.outs, EntsAt w p.2 p.1.ents ∧ ∀ k, p.2.ownBlock = some k → k < w.heap.size ∧ k ∉ V.fp
  tab : Tab w
  tn : 0 ∉ V.fp
structure NodeAt (w : World) (V : Nv) (N : Rn) (D : Dk) : Prop where
  blk : Blk w V.r 81 (nodeCells V N)
  rest : NRest w V N.st.log N.votes N.mt N.nx N.out D

theorem EntsAt.keepB {M : List Nat} {w w' : World} {v : Value} {l : List En} (h : EntsAt w v l) (hk : Keep M w w') (hM : ∀ k, v.ownBlock = some k → k ∉ M) : EntsAt w' v l := by
  obtain ⟨A, c, rfl, hc⟩ := h
  refine ⟨A, c, rfl, fun hne => ?_⟩
  obtain ⟨g, o, rfl, hcc⟩ := hc hne
  refine ⟨g, o, rfl, fun j u hu => ?_⟩
  have h1 := hcc j u hu
  have hlt := World.block_lt_of_cell? _ _ h1
  rw [hk.cell (p := ⟨g, o + j, none⟩) hlt (hM g rfl)]
  exact h1
theorem ArrAt.keep {M : List Nat} {w w' : World} {t : TypeId} {o : Option Nat} {xs : List Value} (h : ArrAt w t o xs) (hk : Keep M w w') (hM : ∀ g, o = some g → g ∉ M) : ArrAt w' t o xs := by
  cases o with
  | none => exact h
  | some g => exact Blk.keep h hk (hM g rfl)
theorem ArrAt.nil (w : World) (t : TypeId) : ArrAt w t none [] := rfl
theorem own_lt {w : World} {B : Nat} {e : TypeId} {size n : Nat} {v : Value} {xs : List Value} (h : w.ownsRow B e size v n xs) {k : Nat} (hk : v.ownBlock = some k) : k < w.heap.size := (h.lt k hk).2

section
variable {w w' : World} {V V' : Nv} {N N' : Rn} {D D' : Dk} {log : List En} {votes : List Bool} {mt nx : List Nat} {out : List Mg}
theorem Nv.mem {V : Nv} {x : Nat} : x ∈ V.fp ↔ x = V.r ∨ x = V.b ∨ x = V.m ∨ V.lg.ownBlock = some x ∨ V.vo = some x ∨ V.ma = some x ∨ V.ne = some x ∨ V.ou.ownBlock = some x := by
  simp [Nv.fp, Option.mem_toList]

/-- Blocks of the node's parts lie in memory. -/
theorem NodeAt.fp_lt (h : NodeAt w V N D) : ∀ x ∈ V.fp, x < w.heap.size := by
  intro x hx
  rcases Nv.mem.1 hx with rfl | rfl | rfl | hx | hx | hx | hx | hx
  · exact h.blk.lt
  · exact h.rest.disk.blk.lt
  · exact h.rest.disk.map.lt
  · exact own_lt h.rest.log hx
  · have := h.rest.vo; rw [hx] at this; exact Blk.lt this
  · have := h.rest.ma; rw [hx] at this; exact Blk.lt this
  · have := h.rest.ne; rw [hx] at this; exact Blk.lt this
  · exact own_lt h.rest.ou hx

/-- Another part of memory changes: the node doesn't. -/
theorem NodeAt.keep {M : List Nat} (h : NodeAt w V N D) (hk : Keep M w w') (hM : ∀ x ∈ M, x ∉ V.fp ∧ (∀ p ∈ V.outs, p.2.ownBlock ≠ some x) ∧ x ≠ 0) : NodeAt w' V N D := by
  have hn : ∀ x, x ∈ V.fp → x ∉ M := fun x hx hm => (hM x hm).1 hx
  have R := h.rest
  refine ⟨h.blk.keep hk (hn _ (Nv.mem.2 (.inl rfl))), R.disk.keep hk (hn _ (Nv.mem.2 (.inr (.inl rfl)))) (hn _ (Nv.mem.2 (.inr (.inr (.inl rfl))))), hk.owns R.log (fun k e => hn k (Nv.mem.2 (.inr (.inr (.inr (.inl e)))))), R.vo.keep hk (fun g e => hn g (Nv.mem.2 (.inr (.inr (.inr (.inr (.inl e))))))),
    R.ma.keep hk (fun g e => hn g (Nv.mem.2 (.inr (.inr (.inr (.inr (.inr (.inl e)))))))), R.ne.keep hk (fun g e => hn g (Nv.mem.2 (.inr (.inr (.inr (.inr (.inr (.inr (.inl e))))))))), R.dis, hk.owns R.ou (fun k e => hn k (Nv.mem.2 (.inr (.inr (.inr (.inr (.inr (.inr (.inr e))))))))), R.outs, ?_, R.tab.keep hk (fun hm => (hM _ hm).2.2 rfl), R.tn⟩
  intro p hp
  have hp2 := R.es p hp
  exact ⟨hp2.1.keepB hk (fun k e hm => (hM k hm).2.1 p hp e), fun k e => ⟨Nat.lt_of_lt_of_le (hp2.2 k e).1 hk.size, (hp2.2 k e).2⟩⟩
theorem NodeAt.grow (h : NodeAt w V N D) (hk : Keep [] w w') : NodeAt w' V N D := h.keep hk (by simp)

/-- The node's own block is none of the others. -/
theorem NodeAt.r_ne (h : NodeAt w V N D) : V.r ≠ V.b ∧ V.r ≠ V.m ∧ V.lg.ownBlock ≠ some V.r ∧ V.vo ≠ some V.r ∧ V.ma ≠ some V.r ∧ V.ne ≠ some V.r ∧ V.ou.ownBlock ≠ some V.r := by
  refine ⟨h.blk.ne_ h.rest.disk.blk (by decide), fun e => h.rest.disk.map.ne_ h.blk e.symm, own_blk_ne h.rest.log h.blk (by decide), fun e => ?_, fun e => ?_, fun e => ?_, own_blk_ne h.rest.ou h.blk (by decide)⟩
  · have := h.rest.vo; rw [e] at this; exact Blk.ne_ this h.blk (by decide) rfl
  · have := h.rest.ma; rw [e] at this; exact Blk.ne_ this h.blk (by decide) rfl
  · have := h.rest.ne; rw [e] at this; exact Blk.ne_ this h.blk (by decide) rfl

/-- The node's own block changes alone: what lies beside it stays. -/
theorem NodeAt.rest_keep (h : NodeAt w V N D) (hk : Keep [V.r] w w') : NRest w' V N.st.log N.votes N.mt N.nx N.out D := by
  obtain ⟨h1, h2, h3, h4, h5, h6, h7⟩ := h.r_ne
  have R := h.rest
  have hr : ∀ k, k ≠ V.r → k ∉ [V.r] := fun k hk => by simpa using hk
  refine ⟨R.disk.keep hk (hr _ (Ne.symm h1)) (hr _ (Ne.symm h2)), hk.owns R.log (fun k e => hr k (by rintro rfl; exact h3 e)), R.vo.keep hk (fun g e => hr g (by rintro rfl; exact h4 e)), R.ma.keep hk (fun g e => hr g (by rintro rfl; exact h5 e)), R.ne.keep hk (fun g e => hr g (by rintro rfl; exact h6 e)), R.dis, hk.owns R.ou (fun k e => hr k (by rintro rfl; exact h7 e)), R.outs, ?_, R.tab.keep hk (hr _ (fun e => R.tn (Nv.mem.2 (.inl e)))), R.tn⟩
  intro p hp
  have hp2 := R.es p hp
  exact ⟨hp2.1.keepB hk (fun k e => hr k (fun e' => (hp2.2 k e).2 (Nv.mem.2 (.inl e')))), fun k e => ⟨Nat.lt_of_lt_of_le (hp2.2 k e).1 hk.size, (hp2.2 k e).2⟩⟩
/-- .. so a change of the numbers in the node's block. -/
theorem NodeAt.setR (h : NodeAt w V N D) (hk : Keep [V.r] w w') (hB : Blk w' V.r 81 (nodeCells V N')) (h1 : N'.st.log = N.st.log) (h2 : N'.votes = N.votes) (h3 : N'.mt = N.mt) (h4 : N'.nx = N.nx) (h5 : N'.out = N.out) : NodeAt w' V N' D := by
  refine ⟨hB, ?_⟩
  rw [h1, h2, h3, h4, h5]
  exact h.rest_keep hk
/-- The disk changes. -/
theorem NodeAt.setDisk (h : NodeAt w V N D) (hk : Keep [V.b, V.m] w w') (hD : DiskAt w' V.b V.m D') : NodeAt w' V N D' := by
  obtain ⟨h1, h2, -⟩ := h.r_ne
  have R := h.rest
  have hb := R.disk.blk
  have hm := R.disk.map
  have hr : ∀ k, k ≠ V.b → k ≠ V.m → k ∉ [V.b, V.m] := fun k h1 h2 => by simp [h1, h2]
  have arr : ∀ {t : TypeId} {o : Option Nat} {xs : List Value}, t ≠ 108 → ArrAt w t o xs → ArrAt w' t o xs := by
    intro t o xs ht ha
    refine ha.keep hk (fun g e => ?_)
    subst e
    exact hr g (Blk.ne_ ha hb ht) (fun e => by subst e; exact hm.ne_ ha rfl)
  have own : ∀ {e : TypeId} {size n : Nat} {v : Value} {xs : List Value}, e ≠ 108 → w.ownsRow 0 e size v n xs → w'.ownsRow 0 e size v n xs := by
    intro e size n v xs ht ho
    refine hk.owns ho (fun k e => hr k (fun e' => own_blk_ne ho hb ht (e' ▸ e)) (fun e' => ?_))
    subst e'
    rcases ho.2 with ⟨rfl, _⟩ | ⟨g', cap, cur, rfl, _, hh, _⟩
    · simp [Value.ownBlock] at e
    · have : g' = V.m := by simpa [Value.ownBlock] using e
      subst this
      obtain ⟨es, c, h3, _⟩ := hm
      rw [h3] at hh
      cases hh
  refine ⟨h.blk.keep hk (hr _ h1 h2), hD, own (by decide) R.log, arr (by decide) R.vo, arr (by decide) R.ma, arr (by decide) R.ne, R.dis, own (by decide) R.ou, R.outs, ?_, R.tab.keep hk (hr _ (fun e => R.tn (Nv.mem.2 (.inr (.inl e)))) (fun e => R.tn (Nv.mem.2 (.inr (.inr (.inl e)))))), R.tn⟩
  intro p hp
  have hp2 := R.es p hp
  exact ⟨hp2.1.keepB hk (fun k e => hr k (fun e' => (hp2.2 k e).2 (Nv.mem.2 (.inr (.inl e')))) (fun e' => (hp2.2 k e).2 (Nv.mem.2 (.inr (.inr (.inl e')))))), fun k e => ⟨Nat.lt_of_lt_of_le (hp2.2 k e).1 hk.size, (hp2.2 k e).2⟩⟩

/-- What a call of the node's may change; what the node is made of behind it. -/
structure NodeTo (V V' : Nv) (w w' : World) : Prop where
  keep : Keep V.fp w w'
  fp : ∀ x ∈ V'.fp, x ∈ V.fp ∨ w.heap.size ≤ x
  es : ∀ p ∈ V'.outs, p ∈ V.outs ∨ ∀ k, p.2.ownBlock = some k → w.heap.size ≤ k
  r : V'.r = V.r
  b : V'.b = V.b
  m : V'.m = V.m
theorem NodeTo.refl (V : Nv) (w : World) : NodeTo V V w w := ⟨Keep.refl _ _, fun _ h => .inl h, fun _ h => .inl h, rfl, rfl, rfl⟩
theorem NodeTo.trans {a b c : World} {U : Nv} (h : NodeTo U V a b) (k : NodeTo V V' b c) : NodeTo U V' a c :=
  ⟨h.keep.trans' k.keep h.fp, fun x hx => by
    rcases k.fp x hx with h1 | h1
    · exact h.fp x h1
    · exact .inr (Nat.le_trans h.keep.size h1), fun p hp => by
    rcases k.es p hp with h1 | h1
    · exact h.es p h1
    · exact .inr (fun q hq => Nat.le_trans h.keep.size (h1 q hq)), k.r.trans h.r, k.b.trans h.b, k.m.trans h.m⟩
theorem NodeTo.of_keep {M : List Nat} (V : Nv) (hk : Keep M w w') (hM : ∀ x ∈ M, x ∈ V.fp) : NodeTo V V w w' := ⟨hk.mono (fun x hx => .inl (hM x hx)), fun _ h => .inl h, fun _ h => .inl h, rfl, rfl, rfl⟩
theorem NodeTo.setR (V : Nv) (hk : Keep [V.r] w w') : NodeTo V V w w' := .of_keep V hk (fun x hx => by simp at hx; exact Nv.mem.2 (.inl hx))
theorem NodeTo.setDisk (V : Nv) (hk : Keep [V.b, V.m] w w') : NodeTo V V w w' := .of_keep V hk (fun x hx => by
  simp at hx
  rcases hx with h | h
  · exact Nv.mem.2 (.inr (.inl h))
  · exact Nv.mem.2 (.inr (.inr (.inl h))))
theorem NodeTo.grow (V : Nv) (hk : Keep [] w w') : NodeTo V V w w' := .of_keep V hk (by simp)

/-- The state that the node keeps, as its methods see it. -/
theorem NodeAt.sto (h : NodeAt w V N D) : StO w V.r 3 N.st V.lg :=
  ⟨h.blk.cell 3, h.blk.cell 4, h.blk.cell 5, h.blk.cell 6, h.blk.cell 7, h.blk.cell 8, own_ents h.rest.log, own_room h.rest.log⟩
end

end Go.Proofs.YtnlcipocobmgiaaGreatDoor
