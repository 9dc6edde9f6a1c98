/- What TermPlays has in memory; its state, plainly. -/
import Derived.Test.YtpcbhechfbibbaaDoorMayAll
import Derived.Test.YtpcbhechfbibbaaDoorPlaysLaw
import Derived.Test.YtpcbhechfbibbaaDoorEntries
import Derived.Test.YtpcbhechfbibbaaDoorSame
import Derived.Test.YtpcbhechfbibbaaDoorArrsAt
namespace Go.Proofs.YtpcbhechfbibbaaDoor
open Go.RowKit

/-- A call of TermPlays. -/
structure Ac where
  kind : Int
  n : Int
  m : Int
  s : List UInt8
  texts : List (List UInt8)
  choice : List Int
def Ac.n' (a : Ac) : Nat := (min (max a.n 0) 1000).toNat
def Ac.m' (a : Ac) : Nat := (min (max a.m 0) 5).toNat
/-- A slice value reads as calls. -/
structure ActAt (w : World) (g o : Nat) (a : Ac) (vt vc : Value) : Prop where
  c0 : w.cell? ⟨g, o, none⟩ = some (.int .i64 a.kind)
  c1 : w.cell? ⟨g, o + 1, none⟩ = some (.int .i64 a.n)
  c2 : w.cell? ⟨g, o + 2, none⟩ = some (.int .i64 a.m)
  c3 : w.cell? ⟨g, o + 3, none⟩ = some (.string (bs a.s))
  c4 : w.cell? ⟨g, o + 4, none⟩ = some vt
  c5 : w.cell? ⟨g, o + 5, none⟩ = some vc
  texts : StrsAt w vt a.texts
  choice : IntsAt w vc a.choice
  bounds : ∀ x ∈ a.choice, -9223372036854775808 ≤ x ∧ x ≤ 9223372036854775807
theorem ActAt.keep {w w' : World} {g o : Nat} {a : Ac} {vt vc : Value} (h : ActAt w g o a vt vc) (hk : Keep [] w w') : ActAt w' g o a vt vc := by
  have hc : ∀ i v, w.cell? ⟨g, i, none⟩ = some v → w'.cell? ⟨g, i, none⟩ = some v := fun i v h0 => (hk.cell (World.block_lt_of_cell? _ _ h0) (by simp)).trans h0
  exact ⟨hc _ _ h.c0, hc _ _ h.c1, hc _ _ h.c2, hc _ _ h.c3, hc _ _ h.c4, hc _ _ h.c5, h.texts.keep hk, h.choice.keep hk, h.bounds⟩
def ActsAt (w : World) (v : Value) (l : List Ac) : Prop :=
  ∃ A c, v = .slice A l.length c ∧ (l ≠ [] → ∃ g o, A = some ⟨g, o, none⟩ ∧ ∀ j (h : j < l.length), ∃ vt vc, ActAt w g (o + j * 6) l[j] vt vc)

/-- TermPlays' state, plainly. -/
structure PlOk (D : Dk) (x : Ts) (all : List Ts) (sick : Bool) (i : Nat) : Prop where
  base : D.Base (400 * i)
  small : x.base + x.log.length ≤ 4 * i
  ok : sick = false → D.Safe ∧ Says D x (4 * i) [] ∧ all = [x]
  bad : sick = true → Bad D (4 * i) (400 * i) all
theorem Dk.Base.mono {D : Dk} {u v : Nat} (h : D.Base u) (huv : u ≤ v) : D.Base v := ⟨h.good, h.names, h.lost, h.armed, by have := h.used; omega, h.room⟩
theorem Says.mono {D : Dk} {s : Ts} {n k : Nat} {g : List UInt8} (h : Says D s n g) (hnk : n ≤ k) : Says D s k g := by
  obtain ⟨E, c, h1, h2, h3, h4, h5, h6, h7, h8⟩ := h.log
  exact ⟨h.term, h.snap, E, c, h1, h2, by omega, h4, h5, h6, by omega, h8⟩
theorem Bad.more {D : Dk} {n u k v : Nat} {all : List Ts} (h : Bad D n u all) (hn : n ≤ k) (hu : u ≤ v) : Bad D k v all := fun ch => by
  obtain ⟨s, h1, h2, h3, g, h4, h5⟩ := h ch
  exact ⟨s, h1, h2, h3.mono hu, g, h4, h5.mono hn⟩
theorem PlOk.next {D : Dk} {x : Ts} {all : List Ts} {sick : Bool} {i : Nat} (h : PlOk D x all sick i) : PlOk D x all sick (i + 1) :=
  ⟨h.base.mono (by omega), by have := h.small; omega, fun e => by obtain ⟨a, b, c⟩ := h.ok e; exact ⟨a, b.mono (by omega), c⟩, fun e => (h.bad e).more (by omega) (by omega)⟩
theorem Says.small {D : Dk} {s : Ts} {n : Nat} {g : List UInt8} (h : Says D s n g) : s.base + s.log.length ≤ n := by
  obtain ⟨E, c, h1, h2, h3, h4, h5, h6, h7, h8⟩ := h.log
  rw [h8, List.length_drop]
  omega
/-- .. behind a call that succeeded; that failed. -/
theorem PlOk.ok_next {D D' : Dk} {x y : Ts} {all : List Ts} {i u n : Nat} (_h : PlOk D x all false i) (hB : D'.Base u) (hu : u ≤ 400 * (i + 1)) (hs : D'.Safe) (hy : Says D' y n []) (hn : n ≤ 4 * (i + 1)) : PlOk D' y [y] false (i + 1) :=
  ⟨hB.mono hu, by have := hy.small; omega, fun _ => ⟨hs, hy.mono hn, rfl⟩, fun e => by cases e⟩
theorem PlOk.bad_next {D D' : Dk} {x : Ts} {all all' : List Ts} {i u n : Nat} (h : PlOk D x all false i) (hB : D'.Base u) (hu : u ≤ 400 * (i + 1)) (hb : Bad D' n u all') (hn : n ≤ 4 * (i + 1)) : PlOk D' x all' true (i + 1) :=
  ⟨hB.mono hu, by have := h.small; omega, fun e => (by cases e), fun _ => hb.more hn hu⟩

theorem RowT.keep_ne {w w' : World} {ty : TypeId} {v : Value} {n : Nat} {xs : List Value} {M : List Nat} (h : RowT w ty v n xs) (hk : Keep M w w') (hM : ∀ k, v.ownBlock = some k → k ∉ M) : RowT w' ty v n xs := by
  rcases h with h | ⟨g, o, c, cs, fr, h1, h2, h3, h4⟩
  · exact .inl h
  · refine .inr ⟨g, o, c, cs, fr, h1, h2, ?_, h4⟩
    have hlt : g < w.heap.size := by
      rcases Nat.lt_or_ge g w.heap.size with hlt | hge
      · exact hlt
      · rw [Array.getElem?_eq_none hge] at h3; cases h3
    exact (hk.block g hlt (hM g (by rw [h1]; rfl))).trans h3
theorem StsT.keep_ne {w w' : World} {v : Value} {l : List Ts} {M : List Nat} (h : StsT w v l) (hk : Keep M w w') (h1 : ∀ g ∈ M, ∀ cs fr, w.heap[g]? ≠ some (.cells cs 93 fr)) (hM : ∀ k, v.ownBlock = some k → k ∉ M) : StsT w' v l := by
  obtain ⟨ps, e1, e2, e3⟩ := h
  exact ⟨ps, e1, fun p hp => (e2 p hp).keep hk h1, e3.keep_ne hk hM⟩

/-- TermPlays' memory: its disk, its x, its states. -/
structure PlMem (w wr : World) (b m xb : Nat) (D : Dk) (x : Ts) (lgx vall : Value) (all : List Ts) : Prop where
  disk : DiskAt wr b m D
  blk : Blk wr xb 51 #[.int .i64 (x.term : Int), .int .i64 (x.vote : Int), .int .i64 (x.base : Int), .int .i64 (x.baseTerm : Int), .string (bs x.snap), lgx]
  ents : EntsT wr lgx x.log
  sts : StsT wr vall all
  ne_ : ∀ k, vall.ownBlock = some k → k ≠ xb
  keep : Keep [] w wr
  tab : Tab wr
theorem PlMem.not_ty {w wr : World} {b m xb : Nat} {D : Dk} {x : Ts} {lgx vall : Value} {all : List Ts} (h : PlMem w wr b m xb D x lgx vall all) {ty : TypeId} (h1 : 68 ≠ ty) : ∀ g ∈ [b, m], ∀ cs fr, wr.heap[g]? ≠ some (.cells cs ty fr) := by
  intro g hg
  simp only [List.mem_cons, List.not_mem_nil, or_false] at hg
  rcases hg with rfl | rfl
  · exact h.disk.blk.not_ty h1
  · exact h.disk.map.not_ty
theorem PlMem.grow {w wr W : World} {b m xb : Nat} {D : Dk} {x : Ts} {lgx vall : Value} {all : List Ts} (h : PlMem w wr b m xb D x lgx vall all) (hk : Keep [] wr W) : PlMem w W b m xb D x lgx vall all :=
  ⟨h.disk.keep hk (by simp) (by simp), h.blk.keep hk (by simp), h.ents.keep hk (by simp), h.sts.keep hk (by simp) (by simp), h.ne_, h.keep.trans hk, h.tab.keep hk (by simp)⟩
theorem PlMem.disk_ {w wr W : World} {b m xb : Nat} {D D' : Dk} {x : Ts} {lgx vall : Value} {all : List Ts} (h : PlMem w wr b m xb D x lgx vall all) (hb : w.heap.size ≤ b) (hm : w.heap.size ≤ m) (hk : Keep [b, m] wr W) (hD : DiskAt W b m D') : PlMem w W b m xb D' x lgx vall all := by
  have h1 := h.blk.ne_ h.disk.blk (by decide)
  have h2 := h.disk.map.ne_ h.blk
  exact ⟨hD, h.blk.keep hk (by simp; omega), h.ents.keep hk (h.not_ty (by decide)), h.sts.keep hk (h.not_ty (by decide)) (h.not_ty (by decide)), h.ne_, h.keep.trans' hk (by simp; omega), h.tab.disk h.disk hk⟩
/-- x becomes y. -/
theorem PlMem.put {w wr W : World} {b m xb : Nat} {D : Dk} {x y : Ts} {lgx lgy vall : Value} {all : List Ts} (h : PlMem w wr b m xb D x lgx vall all) (hE : EntsT wr lgy y.log) (hx : w.heap.size ≤ xb) (hk : Keep [xb] wr W)
    (hB : Blk W xb 51 #[.int .i64 (y.term : Int), .int .i64 (y.vote : Int), .int .i64 (y.base : Int), .int .i64 (y.baseTerm : Int), .string (bs y.snap), lgy]) : PlMem w W b m xb D y lgy vall all := by
  have h1 := h.blk.ne_ h.disk.blk (by decide)
  have h2 := h.disk.map.ne_ h.blk
  have hnt : ∀ g ∈ [xb], ∀ cs fr, wr.heap[g]? ≠ some (.cells cs 93 fr) := by
    intro g hg
    simp only [List.mem_singleton] at hg
    subst hg
    exact h.blk.not_ty (by decide)
  refine ⟨h.disk.keep hk (by simp; omega) (by simp; omega), hB, hE.keep hk hnt, h.sts.keep_ne hk hnt (fun k hk' => by simpa using h.ne_ k hk'), h.ne_, h.keep.trans' hk (by simp; omega), h.tab.keep hk ?_⟩
  simp only [List.mem_singleton]
  exact h.tab.ne_blk h.blk (by simp)
/-- The states become others. -/
theorem PlMem.all_ {w wr : World} {b m xb : Nat} {D : Dk} {x : Ts} {lgx vall vall' : Value} {all all' : List Ts} (h : PlMem w wr b m xb D x lgx vall all) (hs : StsT wr vall' all') (hn : ∀ k, vall'.ownBlock = some k → k ≠ xb) : PlMem w wr b m xb D x lgx vall' all' :=
  ⟨h.disk, h.blk, h.ents, hs, hn, h.keep, h.tab⟩
theorem stsT_one {w : World} {p c : Nat} {y : Ts} {lgy : Value} (hc : 1 ≤ c) (hB : Blk w p 51 #[.int .i64 (y.term : Int), .int .i64 (y.vote : Int), .int .i64 (y.base : Int), .int .i64 (y.baseTerm : Int), .string (bs y.snap), lgy]) (hE : EntsT w lgy y.log) : StsT w (.slice (some ⟨p, 0, none⟩) 1 c) [y] := by
  refine ⟨[(y, lgy)], rfl, by simpa using hE, .inr ⟨p, 0, c, _, _, rfl, hc, hB, fun j u hu => ?_⟩⟩
  have : (#[Value.int .i64 (y.term : Int), .int .i64 (y.vote : Int), .int .i64 (y.base : Int), .int .i64 (y.baseTerm : Int), .string (bs y.snap), lgy] : Array Value).toList = stsV [(y, lgy)] := by simp [stsV, Ts.cells]
  rw [← this] at hu
  rw [Nat.zero_add]
  simpa using hu

/-- Behind a call that succeeded: x is y, y is all. -/
theorem PlMem.next {w W : World} {b m xb : Nat} {D : Dk} {x y : Ts} {lgx lgy vall : Value} {all : List Ts} (h : PlMem w W b m xb D x lgx vall all) (hE : EntsT W lgy y.log) (hx : w.heap.size ≤ xb) :
    PlMem w (((((((W.setCell ⟨xb, 0, none⟩ (.int .i64 (y.term : Int))).setCell ⟨xb, 1, none⟩ (.int .i64 (y.vote : Int))).setCell ⟨xb, 2, none⟩ (.int .i64 (y.base : Int))).setCell ⟨xb, 3, none⟩ (.int .i64 (y.baseTerm : Int))).setCell ⟨xb, 4, none⟩ (.string (bs y.snap))).setCell ⟨xb, 5, none⟩ lgy).alloc
      (.cells #[.int .i64 (y.term : Int), .int .i64 (y.vote : Int), .int .i64 (y.base : Int), .int .i64 (y.baseTerm : Int), .string (bs y.snap), lgy] 51)) b m xb D y lgy (.slice (some ⟨W.heap.size, 0, none⟩) 1 1) [y] := by
  obtain ⟨hB6, hK6⟩ := six_cells h.blk (.int .i64 (y.term : Int)) (.int .i64 (y.vote : Int)) (.int .i64 (y.base : Int)) (.int .i64 (y.baseTerm : Int)) (.string (bs y.snap)) lgy
  have h1 := (h.put hE hx hK6 hB6).grow ((Keep.refl [] _).alloc (.cells #[.int .i64 (y.term : Int), .int .i64 (y.vote : Int), .int .i64 (y.base : Int), .int .i64 (y.baseTerm : Int), .string (bs y.snap), lgy] 51))
  have hlt := h.blk.lt
  refine h1.all_ (stsT_one (Nat.le_refl _) (Blk.here _ _ _ _ (by simp)) h1.ents) (fun k hk => ?_)
  simp only [Value.ownBlock, Option.some.injEq] at hk
  omega

/-- append of states to a literal of one state, inside a region that draws its order. -/
theorem step_append_sts {ops : Array Oper} {o : Oper} {a : Act} {K : Act → World → Prop} {Q : Exit → Act → World → Prop} {E : Prop} {B : Nat} {W : World} {p n c : Nat} {A : Option Addr} {A0 : Option Addr} {n0 c0 : Nat} (x : Ts) (ps : List (Ts × Value)) (hn : n = ps.length)
    (hgd : o.guard = none) (s1 x1 : Operand) (ho : o.op = .call { callee := .builtin .append, args := #[s1, x1], argTypes := #[55, 55] })
    (hs : a.eval s1 = .slice (some ⟨p, 0, none⟩) 1 1) (hx : a.eval x1 = .slice A n c) (hW : Blk W p 51 #[.int .i64 (x.term : Int), .int .i64 (x.vote : Int), .int .i64 (x.base : Int), .int .i64 (x.baseTerm : Int), .string (bs x.snap), .slice A0 n0 c0]) (hp : B ≤ p) (e3 : RowT W 51 (.slice A n c) n (stsV ps)) (hone : ∀ u ∈ stsV ps, u.oneCell' = true) (hl : ps.length ≤ 1000000)
    (h : ∀ A' c' w', w'.ownsRow B 51 6 (.slice A' (n + 1) c') (n + 1) (stsV ((x, .slice A0 n0 c0) :: ps)) → Keep [p] W w' → K (a.put o.dst (.slice A' (n + 1) c')) w') :
    if Region.wanted o (yielded ops a.tmps) = true then Oper.wp Tryd.prog o a W K Q else E := by
  subst hn
  obtain ⟨i0, hi, hz0, hz1, hz2⟩ := info_parts Tryd.info51
  have hown : W.ownsRow B 51 6 (.slice (some ⟨p, 0, none⟩) 1 1) 1 (stsV [(x, .slice A0 n0 c0)]) := ⟨rfl, .inr ⟨p, 1, _, rfl, hp, hW, Nat.le_refl _, by decide, rfl, rfl⟩⟩
  obtain ⟨h1, h2⟩ := RowT.src (size := 6) e3 (stsV_len ps)
  have hpl := hW.lt
  refine step_append_src hgd s1 x1 ho Tryd.underlying55 hi hz0 hz1 hz2 rfl (by omega) hs hown hx h1 hone (by unfold maxLen; omega) (by omega) (by omega) h2 ?_
  intro v' w' hown' hgrow
  rw [← stsV_app, Nat.add_comm] at hown'
  obtain ⟨A', c', rfl⟩ := own_slice hown'
  exact h A' c' w' hown' ((Keep.refl _ _).grown hgrow (fun k hk => by
    simp only [Value.ownBlock, Option.some.injEq] at hk
    exact .inl (by simp [hk])))
/-- A slice of states, opened. -/
theorem StsT.open_ {w : World} {v : Value} {l : List Ts} (h : StsT w v l) : ∃ ps A n c, v = .slice A n c ∧ ps.map Prod.fst = l ∧ n = ps.length ∧ (∀ p ∈ ps, EntsT w p.2 p.1.log) ∧ RowT w 51 v n (stsV ps) ∧ ∀ u ∈ stsV ps, u.oneCell' = true := by
  obtain ⟨ps, e1, e2, e3⟩ := h
  obtain ⟨A, c, h3⟩ := RowT.slice e3
  exact ⟨ps, A, ps.length, c, h3, e1, rfl, e2, e3, stsV_one ps (fun q hq => by obtain ⟨A2, c2, h3⟩ := RowT.slice (e2 q hq); exact ⟨A2, _, c2, h3⟩)⟩
theorem step_append_st1 {ops : Array Oper} {o : Oper} {a : Act} {K : Act → World → Prop} {Q : Exit → Act → World → Prop} {E : Prop} {B : Nat} {W : World} {p n : Nat} {v : Value} {A0 : Option Addr} {n0 c0 : Nat} {y0 y1 y2 y3 : Int} {y4 : ByteArray} (ps : List (Ts × Value)) (y : Ts)
    (hgd : o.guard = none) (s1 x1 : Operand) (ho : o.op = .call { callee := .builtin .append, args := #[s1, x1], argTypes := #[55, 55] })
    (hs : a.eval s1 = v) (hx : a.eval x1 = .slice (some ⟨p, 0, none⟩) 1 1) (hown : W.ownsRow B 51 6 v n (stsV ps)) (hn : n = ps.length) (hlit : Blk W p 51 #[.int .i64 y0, .int .i64 y1, .int .i64 y2, .int .i64 y3, .string y4, .slice A0 n0 c0])
    (h0 : y0 = (y.term : Int)) (h1 : y1 = (y.vote : Int)) (h2 : y2 = (y.base : Int)) (h3 : y3 = (y.baseTerm : Int)) (h4 : y4 = bs y.snap) (hl : ps.length ≤ 1000001) (hB : B ≤ W.heap.size)
    (h : ∀ A' c' w', w'.ownsRow B 51 6 (.slice A' (ps.length + 1) c') (ps.length + 1) (stsV (ps ++ [(y, .slice A0 n0 c0)])) → Keep v.ownBlock.toList W w' → K (a.put o.dst (.slice A' (ps.length + 1) c')) w') :
    if Region.wanted o (yielded ops a.tmps) = true then Oper.wp Tryd.prog o a W K Q else E := by
  subst hn h0 h1 h2 h3 h4
  obtain ⟨i0, hi, hz0, hz1, hz2⟩ := info_parts Tryd.info51
  refine step_append_src (news := y.cells (.slice A0 n0 c0)) hgd s1 x1 ho Tryd.underlying55 hi hz0 hz1 hz2 rfl (by omega) hs hown hx (.inr ⟨_, rfl, rfl, fun j u hu => ?_⟩) (by simp [Ts.cells, Value.oneCell']) (by unfold maxLen; omega) (by omega) hB (by simp) ?_
  · rw [Go.WideShapes.add_plain, hlit.cell, Nat.zero_add]
    have : (#[Value.int .i64 (y.term : Int), .int .i64 (y.vote : Int), .int .i64 (y.base : Int), .int .i64 (y.baseTerm : Int), .string (bs y.snap), .slice A0 n0 c0] : Array Value).toList = y.cells (.slice A0 n0 c0) := rfl
    rw [← this] at hu
    simpa using hu
  · intro v' w' hown' hgrow
    obtain ⟨A', c', rfl⟩ := own_slice hown'
    have e1 : stsV (ps ++ [(y, .slice A0 n0 c0)]) = stsV ps ++ y.cells (.slice A0 n0 c0) := by simp [stsV]
    have := h A' c' w'
    rw [e1] at this
    exact this hown' ((Keep.refl _ _).grown hgrow (fun k hk => .inl (by simp [hk])))

def PlRel (w : World) (acts : List Ac) (b m xb : Nat) (vall vsick vi : Value) (wr : World) : Prop :=
  ∃ i D x lgx all sick, all.length ≤ 1000002 ∧ i ≤ acts.length ∧ i ≤ 20 ∧ vi = .int .i64 (i : Int) ∧ vsick = .bool sick ∧ PlOk D x all sick i ∧ PlMem w wr b m xb D x lgx vall all

/-- Behind a call that failed: x, what is between, y are all. -/
theorem PlMem.fail_ {w W W' : World} {b m xb : Nat} {D : Dk} {x y : Ts} {lgx lgy vall v' : Value} {all : List Ts} {ps : List (Ts × Value)} {n : Nat} (h : PlMem w W b m xb D x lgx vall all) (hE : EntsT W lgy y.log) (hp : ∀ p ∈ ps, EntsT W p.2 p.1.log) (hk : Keep [] W W') (hn : n = ps.length + 2)
    (ho : W'.ownsRow W.heap.size 51 6 v' n (stsV ((x, lgx) :: ps ++ [(y, lgy)]))) : PlMem w W' b m xb D x lgx v' (x :: ps.map Prod.fst ++ [y]) := by
  have hlt := h.blk.lt
  refine (h.grow hk).all_ ⟨(x, lgx) :: ps ++ [(y, lgy)], by simp, fun p hp' => ?_, ?_⟩ (fun k hk' => ?_)
  · simp only [List.cons_append, List.mem_cons, List.mem_append, List.not_mem_nil, or_false] at hp'
    rcases hp' with rfl | hp' | rfl
    · exact h.ents.keep hk (by simp)
    · exact (hp p hp').keep hk (by simp)
    · exact hE.keep hk (by simp)
  · have hl : ((x, lgx) :: ps ++ [(y, lgy)]).length = n := by simp [hn]
    rw [hl]
    exact RowT.of_own ho
  · have := (ho.lt k hk').1
    omega

theorem plRel_mk {w wr : World} {acts : List Ac} {b m xb i : Nat} {D : Dk} {x : Ts} {lgx vall vsick vi : Value} {all : List Ts} {sick : Bool} (h0 : all.length ≤ 1000002) (h1 : i ≤ acts.length) (h2 : i ≤ 20) (h3 : vi = .int .i64 (i : Int)) (h4 : vsick = .bool sick) (h5 : PlOk D x all sick i) (h6 : PlMem w wr b m xb D x lgx vall all) : PlRel w acts b m xb vall vsick vi wr :=
  ⟨i, D, x, lgx, all, sick, h0, h1, h2, h3, h4, h5, h6⟩

end Go.Proofs.YtpcbhechfbibbaaDoor
/- A call of TermPlays, whatever its kind: what may says, what it leaves. -/
namespace Go.Proofs.YtpcbhechfbibbaaDoor
open Go.RowKit

def mayY (kind : Int) (n m : Nat) (s : List UInt8) (ts : List (List UInt8)) (x : Ts) : Ts :=
  if kind = 1 then { x with term := n, vote := m }
  else if kind = 2 then { x with log := x.log ++ mayNew x m ts (min ts.length 4) }
  else if kind = 3 then { x with log := x.log.take n }
  else may4 x n s
def mayB (kind : Int) (m : Nat) (ts : List (List UInt8)) (x : Ts) : List Ts :=
  if kind = 1 then []
  else if kind = 2 then betw2 x m ts (min ts.length 4)
  else if kind = 3 then (List.range x.log.length).map fun i => { x with log := x.log.take i }
  else []
theorem may_calls (kind : Int) (x : Ts) (lg : Value) (n m : Nat) (s : List UInt8) (vt vc : Value) (ts : List (List UInt8)) (w : World) (hE : EntsT w lg x.log) (hv : StrsAt w vt ts) (hc : ∃ A k c, vc = .slice A k c) (hn : n ≤ 1000) (hl : x.log.length ≤ 1000000) (hb : x.base ≤ 1000000000) :
    Calls Tryd.prog 21 #[x.agg lg, actV kind n m s vt vc] w (MayPost (mayY kind n m s ts x) (mayB kind m ts x) w) := by
  have hv' : ∃ A k c, vt = .slice A k c := by
    obtain ⟨A, c, rfl, _⟩ := hv
    exact ⟨A, _, c, rfl⟩
  unfold mayY mayB
  by_cases k1 : kind = 1
  · subst k1
    exact may1_calls x lg n m s vt vc w hE hv' hc
  rw [if_neg k1, if_neg k1]
  by_cases k2 : kind = 2
  · subst k2
    exact may2_calls x lg n m s vt vc ts w hE hv hc hl hb
  rw [if_neg k2, if_neg k2]
  by_cases k3 : kind = 3
  · subst k3
    exact may3_calls x lg n m s vt vc w hE hv' hc hn hl
  rw [if_neg k3, if_neg k3]
  exact may4_calls kind k1 k2 k3 x lg n m s vt vc w hE hv' hc hn hl hb

theorem newE_fit (x : Ts) (m : Nat) (ts : List (List UInt8)) (k : Nat) (hx : x.base + x.log.length ≤ 1000) (hm : m ≤ 5) (hk : k ≤ 4) : ∀ e ∈ mayNew x m ts k, e.Fit ∧ e.cmd.length ≤ 20 := by
  intro e he
  simp only [mayNew, List.mem_map, List.mem_range] at he
  obtain ⟨i, hi, rfl⟩ := he
  have : ((ts.getD i []).take 20).length ≤ 20 := by rw [List.length_take]; omega
  exact ⟨⟨by simp only [newE]; omega, by simp only [newE]; omega, by simp only [newE]; omega⟩, this⟩
theorem newE_cons (x : Ts) (m : Nat) (ts : List (List UInt8)) (k : Nat) : Cons (x.base + x.log.length) (mayNew x m ts k) := by
  induction k with
  | zero => trivial
  | succ k ih =>
    rw [mayNew_succ]
    refine ih.app ?_
    have : (mayNew x m ts k).length = k := by simp [mayNew]
    rw [this]
    exact ⟨by simp only [newE]; omega, trivial⟩
theorem mayNew_take (x : Ts) (m : Nat) (ts : List (List UInt8)) (k j : Nat) (h : j ≤ k) : (mayNew x m ts k).take j = mayNew x m ts j := by
  unfold mayNew
  rw [← List.map_take, List.take_range, Nat.min_eq_left h]

/-- What a state that is said keeps to. -/
structure Ts.Fit (s : Ts) : Prop where
  log : ∀ e ∈ s.log, e.Fit
  base : s.base + s.log.length ≤ 100
  baseTerm : s.baseTerm ≤ 1099511627776
  snap : s.snap.length ≤ 1000000
theorem Says.fit {D : Dk} {s : Ts} {n : Nat} {g : List UInt8} (h : Says D s n g) (hn : n ≤ 100) : s.Fit := by
  have hs := h.small
  obtain ⟨E, c, h1, h2, h3, h4, h5, h6, h7, h8⟩ := h.log
  refine ⟨fun e he => (h2 e (by rw [h8] at he; exact List.mem_of_mem_drop he)).1, by omega, ?_, ?_⟩
  · rcases h.snap with ⟨_, _, h, _⟩ | ⟨_, _, h, _⟩
    · exact h
    · omega
  · rcases h.snap with ⟨_, _, _, h⟩ | ⟨_, _, _, h⟩
    · exact h
    · rw [h]; simp
theorem mayBt_le {x : Ts} (h : x.Fit) (k : Nat) : mayBt x k ≤ 1099511627776 := by
  unfold mayBt
  split
  · exact h.baseTerm
  · cases hk : x.log[k - 1]? with
    | none => simp
    | some e =>
      simp only [Option.map_some, Option.getD_some]
      exact (h.log e (List.mem_of_getElem? hk)).term

/-- What a call does to the disk. -/
def callDk (kind : Int) (D : Dk) (n m : Nat) (x y : Ts) : Dk × Int :=
  if kind = 1 then D.saveTerm n m else if kind = 2 then D.appendLog (y.log.drop x.log.length) else if kind = 3 then D.rewrite y.log else D.saveSnap y.base y.baseTerm y.snap y.log

theorem play_step {D : Dk} {x : Ts} {all : List Ts} {i : Nat} (h : PlOk D x all false i) (hi : i < 20) (kind : Int) (n m : Nat) (hn : n ≤ 1000) (hm : m ≤ 5) (s : List UInt8) (ts : List (List UInt8)) :
    ∃ D' e, callDk kind D n m x (mayY kind n m s ts x) = (D', e) ∧ ((e = 0 ∧ PlOk D' (mayY kind n m s ts x) [mayY kind n m s ts x] false (i + 1)) ∨ (e = 8 ∧ PlOk D' x (x :: mayB kind m ts x ++ [mayY kind n m s ts x]) true (i + 1))) := by
  obtain ⟨hsafe, hsays, _⟩ := h.ok rfl
  have hfit := hsays.fit (by omega)
  have hb := hfit.base
  unfold callDk mayY mayB
  by_cases k1 : kind = 1
  · subst k1
    simp only [if_true]
    obtain ⟨D', hB', ⟨he, h1, h2⟩ | ⟨he, h1⟩⟩ := play1 h.base (by omega) hsafe hsays n m hn hm
    · exact ⟨D', 0, he, .inl ⟨rfl, h.ok_next hB' (by omega) h1 h2 (by omega)⟩⟩
    · exact ⟨D', 8, he, .inr ⟨rfl, h.bad_next hB' (by omega) (h1.mono (by simp)) (by omega)⟩⟩
  simp only [if_neg k1]
  by_cases k2 : kind = 2
  · subst k2
    simp only [if_true, List.drop_left]
    obtain ⟨D', hB', ⟨he, h1, h2⟩ | ⟨he, h1⟩⟩ := play2 h.base (by omega) hsafe hsays (mayNew x m ts (min ts.length 4)) (by rw [mayNew_len]; omega) (newE_fit x m ts _ (by omega) hm (by omega)) (newE_cons x m ts _)
    · exact ⟨D', 0, he, .inl ⟨rfl, h.ok_next hB' (by omega) h1 h2 (by omega)⟩⟩
    · refine ⟨D', 8, he, .inr ⟨rfl, h.bad_next hB' (by omega) (h1.mono ?_) (by omega)⟩⟩
      intro s' hs'
      rw [mayNew_len] at hs'
      obtain ⟨j, hj, rfl⟩ := List.mem_map.1 hs'
      rw [List.mem_range] at hj
      rw [mayNew_take _ _ _ _ _ (by omega)]
      cases j with
      | zero => simp [mayNew]
      | succ j =>
        simp only [List.cons_append, List.mem_cons, List.mem_append]
        exact .inr (.inl (by unfold betw2; exact List.mem_map.2 ⟨j, List.mem_range.2 (by omega), rfl⟩))
  simp only [if_neg k2]
  by_cases k3 : kind = 3
  · subst k3
    simp only [if_true]
    obtain ⟨D', hB', ⟨he, h1, h2⟩ | ⟨he, h1⟩⟩ := play3 h.base (by omega) hsafe hsays n
    · exact ⟨D', 0, he, .inl ⟨rfl, h.ok_next hB' (by omega) h1 h2 (by omega)⟩⟩
    · refine ⟨D', 8, he, .inr ⟨rfl, h.bad_next hB' (by omega) (h1.mono ?_) (by omega)⟩⟩
      intro s' hs'
      simp only [List.mem_cons, List.not_mem_nil, or_false] at hs'
      rcases hs' with rfl | rfl <;> simp
  simp only [if_neg k3]
  have hsn : (s.take 30).length ≤ 30 := by rw [List.length_take]; omega
  obtain ⟨D', hB', ⟨he, h1, h2⟩ | ⟨he, h1⟩⟩ := play4 h.base (by omega) hsafe hsays (by omega) (min n x.log.length) (mayBt x (min n x.log.length)) (by omega) (mayBt_le hfit _) (s.take 30) hsn
  · exact ⟨D', 0, he, .inl ⟨rfl, h.ok_next hB' (by omega) h1 h2 (by omega)⟩⟩
  · exact ⟨D', 8, he, .inr ⟨rfl, h.bad_next hB' (by omega) (h1.mono (by simp [may4])) (by omega)⟩⟩

theorem mayY_fit {x : Ts} (h : x.Fit) (hb : x.base + x.log.length ≤ 80) (kind : Int) (n m : Nat) (hm : m ≤ 5) (s : List UInt8) (ts : List (List UInt8)) : (mayY kind n m s ts x).Fit := by
  unfold mayY
  by_cases k1 : kind = 1
  · rw [if_pos k1]
    exact ⟨h.log, h.base, h.baseTerm, h.snap⟩
  rw [if_neg k1]
  by_cases k2 : kind = 2
  · rw [if_pos k2]
    refine ⟨fun e he => ?_, ?_, h.baseTerm, h.snap⟩
    · rcases List.mem_append.1 he with he | he
      · exact h.log e he
      · exact (newE_fit x m ts _ (by omega) hm (by omega) e he).1
    · simp only [List.length_append, mayNew_len]
      omega
  rw [if_neg k2]
  by_cases k3 : kind = 3
  · rw [if_pos k3]
    refine ⟨fun e he => h.log e (List.mem_of_mem_take he), ?_, h.baseTerm, h.snap⟩
    simp only [List.length_take]
    omega
  rw [if_neg k3]
  refine ⟨fun e he => h.log e (List.mem_of_mem_drop he), ?_, mayBt_le h _, ?_⟩
  · simp only [may4, List.length_drop]
    omega
  · simp only [may4, List.length_take]
    omega
theorem Ts.Fit.ens {s : Ts} (h : s.Fit) (k : Nat) : EnsOk (s.log.drop k) := ⟨by rw [List.length_drop]; have := h.base; omega, fun e he => (h.log e (List.mem_of_mem_drop he)).ok⟩

end Go.Proofs.YtpcbhechfbibbaaDoor
/- TermPlays: what holds between may and the end of a call; kind 5, plainly. -/
namespace Go.Proofs.YtpcbhechfbibbaaDoor
open Go.RowKit

/-- Between may and the end of a call. -/
structure PlMid (w W : World) (b m xb yb : Nat) (D : Dk) (x y : Ts) (lgx lgy vall vb : Value) (all : List Ts) (psb : List (Ts × Value)) : Prop where
  mem : PlMem w W b m xb D x lgx vall all
  blk : Blk W yb 51 #[.int .i64 (y.term : Int), .int .i64 (y.vote : Int), .int .i64 (y.base : Int), .int .i64 (y.baseTerm : Int), .string (bs y.snap), lgy]
  ents : EntsT W lgy y.log
  pe : ∀ p ∈ psb, EntsT W p.2 p.1.log
  pr : RowT W 51 vb psb.length (stsV psb)
theorem PlMid.grow {w W W' : World} {b m xb yb : Nat} {D : Dk} {x y : Ts} {lgx lgy vall vb : Value} {all : List Ts} {psb : List (Ts × Value)} (h : PlMid w W b m xb yb D x y lgx lgy vall vb all psb) (hk : Keep [] W W') : PlMid w W' b m xb yb D x y lgx lgy vall vb all psb :=
  ⟨h.mem.grow hk, h.blk.keep hk (by simp), h.ents.keep hk (by simp), fun p hp => (h.pe p hp).keep hk (by simp), h.pr.keep hk (by simp)⟩
theorem PlMid.disk_ {w W W' : World} {b m xb yb : Nat} {D D' : Dk} {x y : Ts} {lgx lgy vall vb : Value} {all : List Ts} {psb : List (Ts × Value)} (h : PlMid w W b m xb yb D x y lgx lgy vall vb all psb) (hb : w.heap.size ≤ b) (hm : w.heap.size ≤ m) (hk : Keep [b, m] W W') (hD : DiskAt W' b m D') : PlMid w W' b m xb yb D' x y lgx lgy vall vb all psb := by
  have h1 := h.blk.ne_ h.mem.disk.blk (by decide)
  have h2 := h.mem.disk.map.ne_ h.blk
  exact ⟨h.mem.disk_ hb hm hk hD, h.blk.keep hk (by simp; omega), h.ents.keep hk (h.mem.not_ty (by decide)), fun p hp => (h.pe p hp).keep hk (h.mem.not_ty (by decide)), h.pr.keep hk (h.mem.not_ty (by decide))⟩
/-- Behind a call. -/
def PlCut (w : World) (b m xb yb i : Nat) (x y : Ts) (lgx lgy vall vb : Value) (all bl : List Ts) (psb : List (Ts × Value)) (s9 : Value) (W : World) : Prop :=
  ∃ D' e, s9 = .int .i64 e ∧ ((e = 0 ∧ PlOk D' y [y] false (i + 1)) ∨ (e = 8 ∧ PlOk D' x (x :: bl ++ [y]) true (i + 1))) ∧ PlMid w W b m xb yb D' x y lgx lgy vall vb all psb
/-- What a call needs to be told. -/
def PlStep (kind : Int) (D : Dk) (n m' i : Nat) (x y : Ts) (bl : List Ts) : Prop :=
  ∃ D' e, callDk kind D n m' x y = (D', e) ∧ ((e = 0 ∧ PlOk D' y [y] false (i + 1)) ∨ (e = 8 ∧ PlOk D' x (x :: bl ++ [y]) true (i + 1)))
theorem plCut_mk {w W W' : World} {b m xb yb i n m' : Nat} {kind : Int} {D : Dk} {x y : Ts} {lgx lgy vall vb : Value} {all bl : List Ts} {psb : List (Ts × Value)} {r : Dk × Int} (hs : PlStep kind D n m' i x y bl) (h : PlMid w W b m xb yb D x y lgx lgy vall vb all psb) (hr : callDk kind D n m' x y = r) (hb : w.heap.size ≤ b) (hm : w.heap.size ≤ m) (hk : Keep [b, m] W W') (hD : DiskAt W' b m r.1) :
    PlCut w b m xb yb i x y lgx lgy vall vb all bl psb (.int .i64 r.2) W' := by
  obtain ⟨D', e, h1, h2⟩ := hs
  rw [hr] at h1
  subst h1
  exact ⟨D', e, rfl, h2, h.disk_ hb hm hk hD⟩

theorem PlOk.bad_any {D : Dk} {x : Ts} {all : List Ts} {sick : Bool} {i : Nat} (h : PlOk D x all sick i) : Bad D (4 * i) (400 * i) all := by
  cases sick
  · obtain ⟨h1, h2, rfl⟩ := h.ok rfl
    exact bad_safe h1 h.base h2 (by simp)
  · exact h.bad rfl
theorem base_armed {D : Dk} {u : Nat} (h : D.Base u) (k : Int) (h0 : 0 ≤ k) (h1 : k ≤ 6) : ({ D with armed := k } : Dk).Base u :=
  ⟨⟨⟨h.good.ok.room, h.good.ok.used, h.good.ok.fits, by show k ≤ _; omega⟩, h.good.2⟩, ⟨h.names.1, h.names.2⟩, h.lost, ⟨h0, h1⟩, h.used, h.room⟩
theorem play5 {D : Dk} {x : Ts} {all : List Ts} {sick : Bool} {i : Nat} (h : PlOk D x all sick i) (hi : i < 20) (ch : List Int) :
    (D.crash ch).Good ∧ ({ D.crash ch with armed := 0 } : Dk).Good ∧ ∃ s D', s ∈ all ∧ ({ D.crash ch with armed := 0 } : Dk).load = (D', s, 0) ∧ s.Fit ∧ PlOk D' s [s] false (i + 1) := by
  obtain ⟨s, h1, h2, h3, g, h4, h5⟩ := h.bad_any ch
  have hB := base_armed h3 0 (by omega) (by omega)
  obtain ⟨D', e1, e2, e3, e4, e5⟩ := says_load (D := { D.crash ch with armed := 0 }) hB rfl (by omega) h2 ⟨h5.term, h5.snap, h5.log⟩ h4
  exact ⟨h3.good, hB.good, s, D', h1, e1, h5.fit (by omega), e2.mono (by omega), by have := h5.small; omega, fun _ => ⟨e4, e5.mono (by omega), rfl⟩, fun e => by cases e⟩
theorem play6 {D : Dk} {x : Ts} {all : List Ts} {i : Nat} (h : PlOk D x all false i) (k : Nat) (hk : k < 6) : PlOk { D with armed := (k : Int) + 1 } x all false (i + 1) := by
  obtain ⟨h1, h2, h3⟩ := h.ok rfl
  exact ⟨(base_armed h.base _ (by omega) (by omega)).mono (by omega), by have := h.small; omega, fun _ => ⟨h1, ⟨h2.mono (k := 4 * (i + 1)) (by omega) |>.term, h2.snap, (h2.mono (by omega)).log⟩, h3⟩, fun e => by cases e⟩

end Go.Proofs.YtpcbhechfbibbaaDoor
