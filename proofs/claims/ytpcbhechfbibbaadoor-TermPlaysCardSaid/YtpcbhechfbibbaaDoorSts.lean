/- Slices of told states; append of a slice that may be nil. -/
import Derived.Test.YtpcbhechfbibbaaDoorTold
import Derived.Maps.AppendAt
namespace Go.Proofs.YtpcbhechfbibbaaDoor
open Go.RowKit

/-- What an append takes: nothing, or cells at an address. -/
def Src (w : World) (size : Nat) (A : Option Addr) (m : Nat) (news : List Value) : Prop :=
  (A = none ∧ m = 0 ∧ news = []) ∨ ∃ ad, A = some ad ∧ news.length = m * size ∧ ∀ j u, news[j]? = some u → w.cell? (ad.add j) = some u

section
variable {P : Program} {w : World} {B : Nat} {t ty e : TypeId} {i : TypeInfo} {z : Value} {size bytes : Nat} {v : Value} {n : Nat} {xs : List Value} {A : Option Addr} {m c : Nat} {news : List Value}
theorem run_append_src (ht : P.underlying t = some (.slice e)) (hi : P.info? e = some i) (hz : i.zero = some z) (hsize : i.size = size) (hby : i.bytes = bytes) (hzs : z.cells.size = size) (hsz : 0 < size)
    (hown : w.ownsRow B e size v n xs) (hsrc : Src w size A m news) (h1 : ∀ u ∈ news, u.oneCell' = true) (h63 : n + m ≤ maxLen) (hbytes : (n + m) * bytes ≤ 140737488355328) (hB : B ≤ w.heap.size) (hc : A = none → c = 0) :
    ∃ v' w', (Builtin.append_ #[t, t] ty #[v, .slice A m c]).run P w = .ok v' w' ∧ w'.ownsRow B e size v' (n + m) (xs ++ news) ∧ w.grownBy w' v.ownBlock := by
  rcases hsrc with ⟨rfl, rfl, rfl⟩ | ⟨ad, rfl, hl, hcell⟩
  · obtain rfl := hc rfl
    refine ⟨v, w, ?_, by simpa using hown, World.grownBy.refl w _⟩
    rcases hown.2 with ⟨rfl, rfl⟩ | ⟨g, cap, cur, rfl, _, _, hle, _⟩
    · simp [Builtin.append_, run_underlying ht, sizeOf, typeInfo, hi, Builtin.lenOf, Builtin.firstCells]
    · simp [Builtin.append_, run_underlying ht, sizeOf, typeInfo, hi, Builtin.lenOf, Builtin.firstCells, hle, storeCells]
  · obtain ⟨v', w', hrun, h2, h3, _, _⟩ := run_append_own_at (P := P) w B t ty e i z size bytes ht hi hz hsize hby hzs hsz v n xs hown ad m c news hl hcell h1 h63 hbytes hB
    exact ⟨v', w', hrun, h2, h3⟩
theorem wp_append_src {o : Oper} {a : Act} {K : Act → World → Prop} {Q : Exit → Act → World → Prop} (s x : Operand) (ho : o.op = .call { callee := .builtin .append, args := #[s, x], argTypes := #[t, t] })
    (ht : P.underlying t = some (.slice e)) (hi : P.info? e = some i) (hz : i.zero = some z) (hsize : i.size = size) (hby : i.bytes = bytes) (hzs : z.cells.size = size) (hsz : 0 < size)
    (hs : a.eval s = v) (hown : w.ownsRow B e size v n xs) (hx : a.eval x = .slice A m c) (hsrc : Src w size A m news) (h1 : ∀ u ∈ news, u.oneCell' = true) (h63 : n + m ≤ maxLen) (hbytes : (n + m) * bytes ≤ 140737488355328) (hB : B ≤ w.heap.size) (hc : A = none → c = 0)
    (h : ∀ v' w', w'.ownsRow B e size v' (n + m) (xs ++ news) → w.grownBy w' v.ownBlock → K (a.put o.dst v') w') : o.wp P a w K Q := by
  obtain ⟨v', w', hrun, h2, h3⟩ := run_append_src (P := P) (ty := o.type) ht hi hz hsize hby hzs hsz hown hsrc h1 h63 hbytes hB hc
  unfold Oper.wp execOp
  simp only [ho, resolve, invoke, builtin, Sem.run_bind, Sem.run_pure, Result.andThen_ok, List.map_toArray, List.map_cons, List.map_nil, hs, hx, hrun]
  exact h v' w' h2 h3
theorem list_append_src {ops : Array Oper} {rest : List Oper} {o : Oper} {a : Act} {Q : Exit → Act → World → Prop} (hgd : o.guard = none) (s x : Operand) (ho : o.op = .call { callee := .builtin .append, args := #[s, x], argTypes := #[t, t] })
    (ht : P.underlying t = some (.slice e)) (hi : P.info? e = some i) (hz : i.zero = some z) (hsize : i.size = size) (hby : i.bytes = bytes) (hzs : z.cells.size = size) (hsz : 0 < size)
    (hs : a.eval s = v) (hown : w.ownsRow B e size v n xs) (hx : a.eval x = .slice A m c) (hsrc : Src w size A m news) (h1 : ∀ u ∈ news, u.oneCell' = true) (h63 : n + m ≤ maxLen) (hbytes : (n + m) * bytes ≤ 140737488355328) (hB : B ≤ w.heap.size) (hc : A = none → c = 0)
    (h : ∀ v' w', w'.ownsRow B e size v' (n + m) (xs ++ news) → w.grownBy w' v.ownBlock → wpList P ops Q rest (a.put o.dst v') w') : wpList P ops Q (o :: rest) a w :=
  wpList_plain hgd fun _ hK => wp_append_src s x ho ht hi hz hsize hby hzs hsz hs hown hx hsrc h1 h63 hbytes hB hc fun v' w' h2 h3 => hK _ _ (h v' w' h2 h3)
theorem step_append_src {ops : Array Oper} {o : Oper} {a : Act} {K : Act → World → Prop} {Q : Exit → Act → World → Prop} {E : Prop} (hgd : o.guard = none) (s x : Operand) (ho : o.op = .call { callee := .builtin .append, args := #[s, x], argTypes := #[t, t] })
    (ht : P.underlying t = some (.slice e)) (hi : P.info? e = some i) (hz : i.zero = some z) (hsize : i.size = size) (hby : i.bytes = bytes) (hzs : z.cells.size = size) (hsz : 0 < size)
    (hs : a.eval s = v) (hown : w.ownsRow B e size v n xs) (hx : a.eval x = .slice A m c) (hsrc : Src w size A m news) (h1 : ∀ u ∈ news, u.oneCell' = true) (h63 : n + m ≤ maxLen) (hbytes : (n + m) * bytes ≤ 140737488355328) (hB : B ≤ w.heap.size) (hc : A = none → c = 0)
    (h : ∀ v' w', w'.ownsRow B e size v' (n + m) (xs ++ news) → w.grownBy w' v.ownBlock → K (a.put o.dst v') w') :
    if Region.wanted o (yielded ops a.tmps) = true then Oper.wp P o a w K Q else E := by
  rw [if_pos (by simp [Region.wanted, hgd])]
  exact wp_append_src s x ho ht hi hz hsize hby hzs hsz hs hown hx hsrc h1 h63 hbytes hB hc h
end

/-- Cells at a place of a block of a type. -/
def RowT (w : World) (ty : TypeId) (v : Value) (n : Nat) (xs : List Value) : Prop :=
  (v = .slice none 0 0 ∧ n = 0 ∧ xs = []) ∨ ∃ g o c cs fr, v = .slice (some ⟨g, o, none⟩) n c ∧ n ≤ c ∧ w.heap[g]? = some (.cells cs ty fr) ∧ ∀ j u, xs[j]? = some u → cs[o + j]? = some u
theorem RowT.keep {w w' : World} {ty : TypeId} {v : Value} {n : Nat} {xs : List Value} {M : List Nat} (h : RowT w ty v n xs) (hk : Keep M w w') (hM : ∀ g ∈ M, ∀ cs fr, w.heap[g]? ≠ some (.cells cs ty fr)) : RowT w' ty v n xs := by
  rcases h with h | ⟨g, o, c, cs, fr, h1, h2, h3, h4⟩
  · exact .inl h
  · refine .inr ⟨g, o, c, cs, fr, h1, h2, ?_, h4⟩
    have hlt : g < w.heap.size := by
      rcases Nat.lt_or_ge g w.heap.size with hlt | hge
      · exact hlt
      · rw [Array.getElem?_eq_none hge] at h3; cases h3
    exact (hk.block g hlt (fun hg => hM g hg cs fr h3)).trans h3
theorem RowT.of_own {w : World} {B : Nat} {ty : TypeId} {size n : Nat} {v : Value} {xs : List Value} (h : w.ownsRow B ty size v n xs) : RowT w ty v n xs := by
  rcases h.2 with ⟨rfl, rfl⟩ | ⟨g, cap, cur, rfl, _, hh, h5, _, _, h6⟩
  · exact .inl ⟨rfl, rfl, List.eq_nil_of_length_eq_zero (by simpa using h.1)⟩
  · refine .inr ⟨g, 0, cap, cur, _, rfl, h5, hh, fun j u hu => ?_⟩
    rw [← h6, List.getElem?_take] at hu
    split at hu
    · simpa using hu
    · cases hu
theorem RowT.cell {w : World} {ty : TypeId} {v : Value} {n : Nat} {xs : List Value} (h : RowT w ty v n xs) (hx : xs ≠ []) : ∃ g o c, v = .slice (some ⟨g, o, none⟩) n c ∧ n ≤ c ∧ ∀ j u, xs[j]? = some u → w.cell? ⟨g, o + j, none⟩ = some u := by
  rcases h with ⟨_, _, h⟩ | ⟨g, o, c, cs, fr, h1, h2, h3, h4⟩
  · exact absurd h hx
  · exact ⟨g, o, c, h1, h2, fun j u hu => by rw [cell_of_row w g _ cs _ _ h3]; exact h4 j u hu⟩
theorem RowT.src {w : World} {ty : TypeId} {A : Option Addr} {n c size : Nat} {xs : List Value} (h : RowT w ty (.slice A n c) n xs) (hl : xs.length = n * size) : Src w size A n xs ∧ (A = none → c = 0) := by
  rcases h with ⟨h1, h2, h3⟩ | ⟨g, o, c', cs, fr, h1, h2, h3, h4⟩
  · injection h1 with a b d
    exact ⟨.inl ⟨a, h2, h3⟩, fun _ => d⟩
  · injection h1 with a b d
    refine ⟨.inr ⟨⟨g, o, none⟩, a, hl, fun j u hu => ?_⟩, fun e => by rw [a] at e; cases e⟩
    rw [Go.WideShapes.add_plain, cell_of_row w g _ cs _ _ h3]
    exact h4 j u hu

/-- A slice value reads as entries, in a block of their type. -/
def EntsT (w : World) (v : Value) (l : List En) : Prop := RowT w 93 v l.length (entsV l)
theorem EntsT.ents {w : World} {v : Value} {l : List En} (h : EntsT w v l) : EntsAt w v l := by
  rcases h with ⟨h1, h2, h3⟩ | ⟨g, o, c, cs, fr, h1, h2, h3, h4⟩
  · have : l = [] := List.length_eq_zero_iff.1 h2
    subst this
    exact ⟨none, 0, h1, fun h => absurd rfl h⟩
  · exact ⟨_, _, h1, fun _ => ⟨g, o, rfl, fun j u hu => by rw [cell_of_row w g _ cs _ _ h3]; exact h4 j u hu⟩⟩
theorem entsV_len_ : ∀ l : List En, (entsV l).length = l.length * 3
  | [] => rfl
  | e :: l => by
    have ih := entsV_len_ l
    simp only [entsV, List.flatMap_cons, List.length_append, List.length_cons] at ih ⊢
    rw [ih]
    simp [En.cells]
    omega
/-- The cells of told states, each with the value of its entries. -/
def Ts.cells (s : Ts) (lg : Value) : List Value := [.int .i64 (s.term : Int), .int .i64 (s.vote : Int), .int .i64 (s.base : Int), .int .i64 (s.baseTerm : Int), .string (bs s.snap), lg]
def stsV (ps : List (Ts × Value)) : List Value := ps.flatMap fun p => p.1.cells p.2
theorem stsV_len : ∀ ps : List (Ts × Value), (stsV ps).length = ps.length * 6
  | [] => rfl
  | p :: ps => by
    have ih := stsV_len ps
    simp only [stsV, List.flatMap_cons, List.length_append, List.length_cons] at ih ⊢
    rw [ih]
    simp [Ts.cells]
    omega
theorem stsV_app (a b : List (Ts × Value)) : stsV (a ++ b) = stsV a ++ stsV b := by simp [stsV]
theorem stsV_at (ps : List (Ts × Value)) (k : Nat) (h : k < ps.length) (i : Nat) (hi : i < 6) : (stsV ps)[k * 6 + i]? = (ps[k].1.cells ps[k].2)[i]? := by
  induction ps generalizing k with
  | nil => simp at h
  | cons p ps ih =>
    have hl : (p.1.cells p.2).length = 6 := rfl
    cases k with
    | zero => simp only [stsV, List.flatMap_cons, Nat.zero_mul, Nat.zero_add, List.getElem_cons_zero]; rw [List.getElem?_append_left (by omega)]
    | succ k =>
      simp only [stsV, List.flatMap_cons, List.getElem_cons_succ]
      rw [List.getElem?_append_right (by omega), hl, show (k + 1) * 6 + i - 6 = k * 6 + i by omega]
      exact ih k (by simpa using h)
/-- A slice value reads as told states. -/
def StsT (w : World) (v : Value) (l : List Ts) : Prop :=
  ∃ ps : List (Ts × Value), ps.map Prod.fst = l ∧ (∀ p ∈ ps, EntsT w p.2 p.1.log) ∧ RowT w 51 v ps.length (stsV ps)
theorem StsT.keep {w w' : World} {v : Value} {l : List Ts} {M : List Nat} (h : StsT w v l) (hk : Keep M w w') (h1 : ∀ g ∈ M, ∀ cs fr, w.heap[g]? ≠ some (.cells cs 93 fr)) (h2 : ∀ g ∈ M, ∀ cs fr, w.heap[g]? ≠ some (.cells cs 51 fr)) : StsT w' v l := by
  obtain ⟨ps, e1, e2, e3⟩ := h
  exact ⟨ps, e1, fun p hp => (e2 p hp).keep hk h1, e3.keep hk h2⟩
theorem Blk.not_ty {w : World} {g : Nat} {t ty : TypeId} {cs : Array Value} (h : Blk w g t cs) (hne : t ≠ ty) : ∀ cs' fr, w.heap[g]? ≠ some (.cells cs' ty fr) := fun cs' fr h' => by
  unfold Blk at h
  rw [h] at h'
  injection h' with h'
  injection h' with _ h'
  exact hne h'
theorem MapIs.not_ty {w : World} {m : Nat} {L : List (List UInt8 × Value)} {ty : TypeId} (h : MapIs w m L) : ∀ cs fr, w.heap[m]? ≠ some (.cells cs ty fr) := fun cs fr h' => by
  obtain ⟨es, c, h, _⟩ := h
  rw [h] at h'
  cases h'
theorem Tryd.info51 : (Tryd.prog.info? 51).map (fun i => (i.zero, i.size, i.bytes)) = some (some (.agg #[.int .i64 0, .int .i64 0, .int .i64 0, .int .i64 0, .string ⟨#[]⟩, .slice none 0 0]), 6, 72) := by kernel_rfl
theorem entsT_one (l : List En) : ∀ u ∈ entsV l, u.oneCell' = true := by
  intro u hu
  simp only [entsV, List.mem_flatMap, En.cells] at hu
  obtain ⟨e, _, he⟩ := hu
  simp only [List.mem_cons, List.not_mem_nil, or_false] at he
  rcases he with rfl | rfl | rfl <;> rfl
theorem RowT.slice {w : World} {ty : TypeId} {v : Value} {n : Nat} {xs : List Value} (h : RowT w ty v n xs) : ∃ A c, v = .slice A n c := by
  rcases h with ⟨h1, h2, _⟩ | ⟨g, o, c, _, _, h1, _⟩
  · exact ⟨none, 0, by rw [h2]; exact h1⟩
  · exact ⟨_, _, h1⟩
theorem stsV_one (ps : List (Ts × Value)) (h : ∀ p ∈ ps, ∃ A n c, p.2 = .slice A n c) : ∀ u ∈ stsV ps, u.oneCell' = true := by
  intro u hu
  simp only [stsV, List.mem_flatMap, Ts.cells] at hu
  obtain ⟨p, hp, he⟩ := hu
  obtain ⟨A, n, c, hv⟩ := h p hp
  simp only [List.mem_cons, List.not_mem_nil, or_false] at he
  rcases he with rfl | rfl | rfl | rfl | rfl | rfl <;> first | rfl | (rw [hv]; rfl)

end Go.Proofs.YtpcbhechfbibbaaDoor
