/- The contract of (*term.State).loadLog. -/
import Derived.Test.YtpcbhechfbibbaaDoorTermLoad
namespace Go.Proofs.YtpcbhechfbibbaaDoor
open Go.RowKit
attribute [local go_sem] size_bs bs_append bs_extract

def decEnt (s : List UInt8) : Nat × Nat × List UInt8 × Int :=
  ((Ds.i ⟨s, 0, 0⟩ 1099511627776).1, ((Ds.i ⟨s, 0, 0⟩ 1099511627776).2.i 1099511627776).1, (((Ds.i ⟨s, 0, 0⟩ 1099511627776).2.i 1099511627776).2.str 100000).1, (((Ds.i ⟨s, 0, 0⟩ 1099511627776).2.i 1099511627776).2.str 100000).2.done.err)
/-- The entries that frames say, behind a number; false: one is no entry. -/
def logF : List (List UInt8) → Nat → List En × Bool
  | [], _ => ([], true)
  | f :: fs, last =>
    if (decEnt f).2.2.2 ≠ 0 then ([], false)
    else if (decEnt f).1 = last + 1 then (⟨(decEnt f).1, (decEnt f).2.1, (decEnt f).2.2.1⟩ :: (logF fs (decEnt f).1).1, (logF fs (decEnt f).1).2)
    else logF fs last
theorem scanF_le : ∀ (k : Nat) (s : List UInt8), (scanF k s).2 ≤ s.length ∧ (scanF k s).1.length * 8 ≤ s.length ∧ ∀ x ∈ (scanF k s).1, x.length ≤ s.length
  | 0, s => by simp [scanF]
  | k + 1, s => by
    simp only [scanF]
    split
    · simp
    · rename_i h
      have h1 := openF_ok (s := s) (by simpa using h)
      have h2 := scanF_le k (s.drop (openF s).2.1.toNat)
      simp only [List.length_drop] at h2
      refine ⟨by simp only; omega, by simp only [List.length_cons]; omega, fun x hx => ?_⟩
      simp only [List.mem_cons] at hx
      rcases hx with rfl | hx
      · exact h1.2.2
      · have := h2.2.2 x hx
        omega
theorem scan_le (s : List UInt8) : (scan s).2 ≤ s.length ∧ (scan s).1.length * 8 ≤ s.length ∧ ∀ x ∈ (scan s).1, x.length ≤ s.length := scanF_le _ s

theorem Tryd.info29 : (Tryd.prog.info? 29).map (fun i => (i.zero, i.size, i.bytes)) = some (some (.agg #[.int .i64 0, .int .i64 0, .string ⟨#[]⟩]), 3, 32) := by kernel_rfl

/-- What the state's block and its entries' row are. -/
structure LogAt (w : World) (B sb : Nat) (c0 c1 c2 c3 c4 lg : Value) (acc : List En) : Prop where
  blk : Blk w sb 33 #[c0, c1, c2, c3, c4, lg]
  own : w.ownsRow B 29 3 lg acc.length (entsV acc)

theorem LogAt.ne_ {w : World} {B sb : Nat} {c0 c1 c2 c3 c4 lg : Value} {acc : List En} (h : LogAt w B sb c0 c1 c2 c3 c4 lg acc) : lg.ownBlock ≠ some sb := own_blk_ne h.own h.blk (by decide)

theorem LogAt.keep {w w' : World} {M : List Nat} {B sb : Nat} {c0 c1 c2 c3 c4 lg : Value} {acc : List En} (h : LogAt w B sb c0 c1 c2 c3 c4 lg acc) (hk : Keep M w w') (h1 : sb ∉ M) (h2 : ∀ k, lg.ownBlock = some k → k ∉ M) : LogAt w' B sb c0 c1 c2 c3 c4 lg acc :=
  ⟨h.blk.keep hk h1, hk.owns h.own h2⟩

/-- append of one entry to the state's entries. -/
theorem list_append_ent {ops : Array Oper} {rest : List Oper} {o : Oper} {a : Act} {Q : Exit → Act → World → Prop} {wr : World} {B sb : Nat} {c0 c1 c2 c3 c4 lg : Value} {acc : List En} (e : En)
    (hgd : o.guard = none) (s x : Operand) (ho : o.op = .call { callee := .builtin .append, args := #[s, x], argTypes := #[26, 26] })
    (hs : a.eval s = lg) (hx : a.eval x = .slice (some ⟨wr.heap.size, 0, none⟩) 1 1) (hE : LogAt wr B sb c0 c1 c2 c3 c4 lg acc) (hB : B ≤ wr.heap.size) (hn : acc.length ≤ 1099511627776)
    (h : ∀ g n cap w', w'.cell? ⟨sb, 5, none⟩ = some lg → w'.frozen? ⟨sb, 5, none⟩ = false → LogAt (w'.setCell ⟨sb, 5, none⟩ (.slice (some ⟨g, 0, none⟩) n cap)) B sb c0 c1 c2 c3 c4 (.slice (some ⟨g, 0, none⟩) n cap) (acc ++ [e]) →
      Keep (sb :: lg.ownBlock.toList) wr (w'.setCell ⟨sb, 5, none⟩ (.slice (some ⟨g, 0, none⟩) n cap)) → (lg.ownBlock = some g ∨ wr.heap.size ≤ g) → wpList Tryd.prog ops Q rest (a.put o.dst (.slice (some ⟨g, 0, none⟩) n cap)) w') :
    wpList Tryd.prog ops Q (o :: rest) a (wr.alloc (.cells #[.int .i64 (e.index : Int), .int .i64 (e.term : Int), .string (bs e.cmd)] 29)) := by
  obtain ⟨i0, hi, hz0, hz1, hz2⟩ := info_parts Tryd.info29
  have hlt := hE.blk.lt
  have hne := hE.ne_
  refine wpList_append_lies _ hgd s x 26 ho B 29 i0 _ 3 32 Tryd.underlying26 hi hz0 hz1 hz2 rfl (by omega) lg _ _ hs (hE.own.alloc (.cells #[.int .i64 (e.index : Int), .int .i64 (e.term : Int), .string (bs e.cmd)] 29)) ⟨wr.heap.size, 0, none⟩ 1 1 e.cells hx (by simp [En.cells]) (World.news_of_block (cs := #[.int .i64 (e.index : Int), .int .i64 (e.term : Int), .string (bs e.cmd)]) (t := 29) (fr := (0, 0)) (heap_alloc_new wr _)) (by simp [En.cells, Value.oneCell']) (by omega) (by unfold maxLen; omega) (by omega) (by simp; omega) (wr.heap.size + 1) (by simp) ?_
  intro g cap w1 hown1 hgrow hat _
  have hB1 : Blk w1 sb 33 #[c0, c1, c2, c3, c4, lg] := (hE.blk.alloc _).grown hgrow (fun e => hne e.symm)
  have hgs : g ≠ sb := by
    rintro rfl
    rcases hat with h | h
    · exact hne h
    · omega
  refine h g _ cap w1 (hB1.cell 5) (hB1.frozen 5) ⟨hB1.set_ 5 _, ?_⟩ ?_ ?_
  · have e1 : entsV (acc ++ [e]) = entsV acc ++ e.cells := by simp [entsV]
    rw [e1, List.length_append]
    exact ((Keep.refl [sb] w1).setCell (.inl (by simp)) _).owns hown1 (fun k hk => by
      simp only [Value.ownBlock, Option.some.injEq] at hk
      subst hk
      simpa using hgs)
  · exact (((Keep.refl _ _).alloc _).grown hgrow (fun k hk => by simp [hk])).setCell (.inl (by simp)) _
  · rcases hat with h | h
    · exact .inl h
    · right; omega

end Go.Proofs.YtpcbhechfbibbaaDoor
