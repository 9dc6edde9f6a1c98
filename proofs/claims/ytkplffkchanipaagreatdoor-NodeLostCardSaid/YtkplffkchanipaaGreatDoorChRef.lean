/- Slices of chunks; the contracts of glacierref06: Drop, Put. -/
import Derived.Test.YtkplffkchanipaaGreatDoorChPlains
import Derived.Test.YtkplffkchanipaaGreatDoorProg
import Derived.WalkLawsBesides
import Derived.BigQuiet
import Derived.Maps.AppendAt
namespace Go.Proofs.YtkplffkchanipaaGreatDoor
open Go.RowKit
attribute [local go_sem] size_bs bs_append

/-- A chunk's cells. -/
def xCells (p : Nat × List UInt8) : List Value := [.int .u64 (p.1 : Int), .string (bs p.2)]
def xsV (l : List (Nat × List UInt8)) : List Value := l.flatMap xCells
theorem xsV_app (a b : List (Nat × List UInt8)) : xsV (a ++ b) = xsV a ++ xsV b := by simp [xsV]
theorem xsV_len : ∀ l : List (Nat × List UInt8), (xsV l).length = l.length * 2
  | [] => rfl
  | p :: l => by
    have ih := xsV_len l
    simp only [xsV, List.flatMap_cons, List.length_append, List.length_cons] at ih ⊢
    rw [ih]
    simp [xCells]
    omega
theorem xsV_at (l : List (Nat × List UInt8)) (k : Nat) (h : k < l.length) : (xsV l)[k * 2]? = some (.int .u64 (l[k].1 : Int)) ∧ (xsV l)[k * 2 + 1]? = some (.string (bs l[k].2)) := by
  induction l generalizing k with
  | nil => simp at h
  | cons p l ih =>
    cases k with
    | zero => simp [xsV, xCells]
    | succ k =>
      have ih' := ih k (by simpa using h)
      rw [show (k + 1) * 2 = k * 2 + 2 by omega]
      simp only [xsV, List.flatMap_cons, xCells, List.cons_append, List.nil_append, List.getElem_cons_succ, List.getElem?_cons_succ] at ih' ⊢
      exact ih'
/-- A slice value reads as chunks. -/
def ChsAt (w : World) (v : Value) (l : List (Nat × List UInt8)) : Prop :=
  ∃ A c, v = .slice A l.length c ∧ (l ≠ [] → ∃ g o, A = some ⟨g, o, none⟩ ∧ ∀ k (h : k < l.length), w.cell? ⟨g, o + k * 2, none⟩ = some (.int .u64 (l[k].1 : Int)) ∧ w.cell? ⟨g, o + k * 2 + 1, none⟩ = some (.string (bs l[k].2)))
/-- .. of a call's own: behind base. -/
structure OwnX (w : World) (base : Nat) (v : Value) (l : List (Nat × List UInt8)) : Prop where
  own : w.ownsRow base 32 2 v l.length (xsV l)
theorem OwnX.slice {w : World} {base : Nat} {v : Value} {l : List (Nat × List UInt8)} (h : OwnX w base v l) : ∃ A c, v = .slice A l.length c := by
  rcases h.own.2 with ⟨rfl, h0⟩ | ⟨g, cap, cur, rfl, _⟩
  · exact ⟨none, 0, by rw [h0]⟩
  · exact ⟨_, _, rfl⟩
theorem OwnX.keep {M : List Nat} {w w' : World} {base : Nat} {v : Value} {l : List (Nat × List UInt8)} (h : OwnX w base v l) (hk : Keep M w w') (hM : ∀ x ∈ M, x < base) : OwnX w' base v l :=
  ⟨hk.owns h.own fun k hk' hm => by have h1 := (h.own.lt k hk').1; have := hM k hm; omega⟩
theorem OwnX.mono {w : World} {base b' : Nat} {v : Value} {l : List (Nat × List UInt8)} (h : OwnX w base v l) (hb : b' ≤ base) : OwnX w b' v l := by
  obtain ⟨h1, h2⟩ := h.own
  refine ⟨h1, ?_⟩
  rcases h2 with h2 | ⟨g, cap, cur, hv, hg, r⟩
  · exact .inl h2
  · exact .inr ⟨g, cap, cur, hv, Nat.le_trans hb hg, r⟩
theorem OwnX.at_ {w : World} {base : Nat} {v : Value} {l : List (Nat × List UInt8)} (h : OwnX w base v l) : ChsAt w v l := by
  rcases h.own.2 with ⟨rfl, h0⟩ | ⟨g, cap, cur, rfl, _, hh, _, _, _, h6⟩
  · have : l = [] := List.length_eq_zero_iff.1 h0
    subst this
    exact ⟨none, 0, rfl, fun h => absurd rfl h⟩
  · refine ⟨_, _, rfl, fun _ => ⟨g, 0, rfl, fun k hk => ?_⟩⟩
    have hc : ∀ j u, (xsV l)[j]? = some u → w.cell? ⟨g, j, none⟩ = some u := fun j u hu => by
      rw [cell_of_row w g j cur _ _ hh]
      rw [← h6, List.getElem?_take] at hu
      split at hu
      · simpa using hu
      · cases hu
    obtain ⟨k0, k1⟩ := xsV_at l k hk
    rw [Nat.zero_add]
    exact ⟨hc _ _ k0, hc _ _ k1⟩
theorem ChsAt.keep {w w' : World} {v : Value} {l : List (Nat × List UInt8)} (h : ChsAt w v l) (hk : Keep [] w w') : ChsAt w' v l := by
  obtain ⟨A, c, rfl, h2⟩ := h
  refine ⟨A, c, rfl, fun hne => ?_⟩
  obtain ⟨g, o, rfl, hc⟩ := h2 hne
  refine ⟨g, o, rfl, fun j hj => ?_⟩
  obtain ⟨h0, h1⟩ := hc j hj
  exact ⟨(hk.cell (World.block_lt_of_cell? _ _ h0) (by simp)).trans h0, (hk.cell (World.block_lt_of_cell? _ _ h1) (by simp)).trans h1⟩
theorem Tryz.info32 : (Tryz.prog.info? 32).map (fun i => (i.zero, i.size, i.bytes)) = some (some (.agg #[.int .u64 0, .string ⟨#[]⟩]), 2, 24) := by kernel_rfl
theorem own_someX {w : World} {base : Nat} {A : Option Addr} {c : Nat} {l : List (Nat × List UInt8)} (h : OwnX w base (.slice A l.length c) l) (hl : 0 < l.length) : ∃ g, A = some ⟨g, 0, none⟩ := by
  rcases h.own.2 with ⟨h0, h1⟩ | ⟨g, cap, cur, hv, _⟩
  · omega
  · injection hv with hA _ _
    exact ⟨g, hA⟩
/-- append of one chunk to a row of the call's own. -/
theorem list_append_own_ch {ops : Array Oper} {rest : List Oper} {o : Oper} {a : Act} {Q : Exit → Act → World → Prop} {w0 wr : World} {v : Value} {acc : List (Nat × List UInt8)} {p : Nat} {ix : Int} (e : Nat × List UInt8) (acc' : List (Nat × List UInt8)) (hacc : acc' = acc ++ [e])
    (hgd : o.guard = none) (s x : Operand) (ho : o.op = .call { callee := .builtin .append, args := #[s, x], argTypes := #[22, 22] })
    (hs : a.eval s = v) (hx : a.eval x = .slice (some ⟨p, 0, none⟩) 1 1) (hp : p = wr.heap.size) (hE : OwnX wr w0.heap.size v acc) (hk : Keep [] w0 wr) (hn : acc.length ≤ 1099511627776) (hix : ix = (e.1 : Int))
    (h : ∀ g c w', OwnX w' w0.heap.size (.slice (some ⟨g, 0, none⟩) acc'.length c) acc' → Keep [] w0 w' → wpList Tryz.prog ops Q rest (a.put o.dst (.slice (some ⟨g, 0, none⟩) acc'.length c)) w') :
    wpList Tryz.prog ops Q (o :: rest) a (wr.alloc (.cells #[.int .u64 ix, .string (bs e.2)] 32)) := by
  subst hp hix hacc
  obtain ⟨i0, hi, hz0, hz1, hz2⟩ := info_parts Tryz.info32
  have hsz := hk.size
  refine wpList_append_own _ hgd s x 22 ho w0.heap.size 32 i0 _ 2 24 Tryz.underlying22 hi hz0 hz1 hz2 rfl (by omega) v _ _ hs (hE.own.alloc (.cells #[.int .u64 (e.1 : Int), .string (bs e.2)] 32)) ⟨wr.heap.size, 0, none⟩ 1 1 (xCells e) hx (by simp [xCells]) (World.news_of_block (cs := #[.int .u64 (e.1 : Int), .string (bs e.2)]) (t := 32) (fr := (0, 0)) (heap_alloc_new wr _)) (by simp [xCells, Value.oneCell']) (by unfold maxLen; omega) (by omega) (by simp; omega) ?_
  intro v' w1 hown1 hgrow _
  have e1 : xsV (acc ++ [e]) = xsV acc ++ xCells e := by simp [xsV]
  have e2 : (acc ++ [e]).length = acc.length + 1 := by simp
  have hO : OwnX w1 w0.heap.size v' (acc ++ [e]) := ⟨by rw [e1, e2]; exact hown1⟩
  obtain ⟨A, c, rfl⟩ := hO.slice
  obtain ⟨g, rfl⟩ := own_someX hO (by omega)
  exact h g c w1 hO ((hk.alloc _).grown hgrow (fun k hk' => .inr (hE.own.lt k hk').1))
/-- .. and where it lies then. -/
theorem list_append_ch {ops : Array Oper} {rest : List Oper} {o : Oper} {a : Act} {Q : Exit → Act → World → Prop} {wr : World} {base g c n : Nat} {acc : List (Nat × List UInt8)} {p : Nat} {ix : Int} (e : Nat × List UInt8) (acc' : List (Nat × List UInt8)) (hacc : acc' = acc ++ [e])
    (hgd : o.guard = none) (s x : Operand) (ho : o.op = .call { callee := .builtin .append, args := #[s, x], argTypes := #[22, 22] })
    (hs : a.eval s = .slice (some ⟨g, 0, none⟩) n c) (hx : a.eval x = .slice (some ⟨p, 0, none⟩) 1 1) (hp : p = wr.heap.size) (hE : OwnX wr base (.slice (some ⟨g, 0, none⟩) n c) acc) (hnl : n = acc.length) (hb : base ≤ wr.heap.size) (hn : acc.length ≤ 1099511627776) (hix : ix = (e.1 : Int))
    (h : ∀ g' c' w', OwnX w' base (.slice (some ⟨g', 0, none⟩) (n + 1) c') acc' → Keep [g] wr w' → (g' = g ∨ wr.heap.size ≤ g') → wpList Tryz.prog ops Q rest (a.put o.dst (.slice (some ⟨g', 0, none⟩) (n + 1) c')) w') :
    wpList Tryz.prog ops Q (o :: rest) a (wr.alloc (.cells #[.int .u64 ix, .string (bs e.2)] 32)) := by
  subst hp hix hacc hnl
  obtain ⟨i0, hi, hz0, hz1, hz2⟩ := info_parts Tryz.info32
  refine wpList_append_own_at _ hgd s x 22 ho base 32 i0 _ 2 24 Tryz.underlying22 hi hz0 hz1 hz2 rfl (by omega) _ _ _ hs (hE.own.alloc (.cells #[.int .u64 (e.1 : Int), .string (bs e.2)] 32)) ⟨wr.heap.size, 0, none⟩ 1 1 (xCells e) hx (by simp [xCells]) (World.news_of_block (cs := #[.int .u64 (e.1 : Int), .string (bs e.2)]) (t := 32) (fr := (0, 0)) (heap_alloc_new wr _)) (by simp [xCells, Value.oneCell']) (by unfold maxLen; omega) (by omega) (by simp; omega) ?_
  intro v' w1 hown1 hgrow _ hat
  have e1 : xsV (acc ++ [e]) = xsV acc ++ xCells e := by simp [xsV]
  have e2 : (acc ++ [e]).length = acc.length + 1 := by simp
  have hO : OwnX w1 base v' (acc ++ [e]) := ⟨by rw [e1, e2]; exact hown1⟩
  obtain ⟨A, c, rfl⟩ := hO.slice
  obtain ⟨g', rfl⟩ := own_someX hO (by omega)
  rw [e2] at hO ⊢
  refine h g' c w1 hO (((Keep.refl [g] wr).alloc _).grown hgrow (fun k hk' => by simp [Value.ownBlock] at hk'; exact .inl (by simp [hk']))) ?_
  simp [Value.ownBlock] at hat
  omega
theorem OwnX.start (w : World) (base : Nat) (hb : base ≤ w.heap.size) : OwnX (w.alloc (.cells #[] 32)) base (.slice (some ⟨w.heap.size, 0, none⟩) 0 0) [] :=
  ⟨⟨by simp [xsV], .inr ⟨w.heap.size, 0, #[], rfl, hb, heap_alloc_new _ _, Nat.le_refl _, Nat.zero_le _, rfl, by simp [xsV]⟩⟩⟩

def DropRel (l : List (Nat × List UInt8)) (i0 : Nat) (w : World) (v x : Value) (wr : World) : Prop :=
  ∃ k g c, k ≤ l.length ∧ x = .int .i64 (k : Int) ∧ v = .slice (some ⟨g, 0, none⟩) (dropX i0 (l.take k)).length c ∧ OwnX wr w.heap.size (.slice (some ⟨g, 0, none⟩) (dropX i0 (l.take k)).length c) (dropX i0 (l.take k)) ∧ Keep [] w wr
theorem drop_snoc (i : Nat) (l : List (Nat × List UInt8)) (p : Nat × List UInt8) : dropX i (l ++ [p]) = if p.1 = i then dropX i l else dropX i l ++ [p] := by
  unfold dropX
  rw [List.filter_append]
  by_cases h : p.1 = i
  · simp [h]
  · simp [h]
theorem drop_len (i : Nat) (l : List (Nat × List UInt8)) : (dropX i l).length ≤ l.length := List.length_filter_le _ _

set_option maxRecDepth 100000 in
set_option maxHeartbeats 2000000 in
theorem dropX_calls (l : List (Nat × List UInt8)) (v : Value) (i0 : Nat) (w : World) (hE : ChsAt w v l) (hn : l.length ≤ 1000000000) :
    Calls Tryz.prog 37 #[v, .int .u64 (i0 : Int)] w fun e w' => ∃ g c, e = .returned (.slice (some ⟨g, 0, none⟩) (dropX i0 l).length c) ∧ OwnX w' w.heap.size (.slice (some ⟨g, 0, none⟩) (dropX i0 l).length c) (dropX i0 l) ∧ Keep [] w w' := by
  obtain ⟨A0, c0, rfl, hcc⟩ := hE
  have HCC := Lib.hid hcc
  clear hcc
  go_enter Tryz.func37, Tryz.ntmps37
  go_wp2
  go_loopw [5, 11] (fun v x wr => DropRel l i0 w v x wr) (fun _ x _ => l.length - (intOf x).toNat)
  case atStart => exact ⟨0, _, _, Nat.zero_le _, rfl, rfl, OwnX.start _ _ (Nat.le_refl _), (Keep.refl _ _).alloc _⟩
  case round =>
    obtain ⟨k, g2, c2, hk, rfl, rfl, hown, hkeep⟩ := hrel
    have HOWN := Lib.hid hown
    have HK := Lib.hid hkeep
    clear hown
    by_cases hlt : k < l.length
    · have d1 : decide ((k : Int) < (l.length : Int)) = true := by simp; omega
      obtain ⟨g, o, rfl, hc⟩ := HCC.out (by intro h; rw [h] at hlt; simp at hlt)
      obtain ⟨q0, q1⟩ := hc k hlt
      have x0 := (hkeep.cell (World.block_lt_of_cell? _ _ q0) (by simp)).trans q0
      have x1 := (hkeep.cell (World.block_lt_of_cell? _ _ q1) (by simp)).trans q1
      have hsn : dropX i0 (l.take (k + 1)) = if l[k].1 = i0 then dropX i0 (l.take k) else dropX i0 (l.take k) ++ [l[k]] := by rw [List.take_succ_eq_append_getElem hlt, drop_snoc]
      have hdl : (dropX i0 (l.take k)).length ≤ k := by have := drop_len i0 (l.take k); rw [List.length_take] at this; omega
      clear hc q0 q1 hkeep
      generalize l[k] = ee at *
      obtain ⟨ei, ed⟩ := ee
      simp only at x0 x1 hsn
      by_cases he : ei = i0
      · have b1 : ((ei : Int) == (i0 : Int)) = true := by rw [beq_iff_eq]; omega
        have b2 : ((ei : Int) != (i0 : Int)) = false := by rw [bne_eq_false_iff_eq]; omega
        rw [if_pos he] at hsn
        have HSN := Lib.hid hsn
        clear he hsn
        go_wp2
        go_roundw
        case rel => exact ⟨k + 1, g2, c2, by omega, by go_num, by rw [HSN.out], by rw [HSN.out]; exact HOWN.out.keep ((Keep.refl [] _).alloc _) (by simp), HK.out.alloc _⟩
        case measure => simp [intOf]; omega
      · have b1 : ((ei : Int) == (i0 : Int)) = false := by rw [beq_eq_false_iff_ne]; omega
        have b2 : ((ei : Int) != (i0 : Int)) = true := by rw [bne_iff_ne]; omega
        rw [if_neg he] at hsn
        have HSN := Lib.hid hsn
        clear he hsn
        go_wp2_with (at_builtin; refine list_append_own_ch (w0 := w) (wr := wr.alloc (.cells #[.int .u64 (ei : Int), .string (bs ed)] 32)) (acc := dropX i0 (l.take k)) (ei, ed) (dropX i0 (l.take (k + 1))) HSN.out rfl (.tmp 19) (.tmp 21) rfl rfl rfl ?c0 (HOWN.out.keep ((Keep.refl [] _).alloc _) (by simp)) (HK.out.alloc _) ?c2 rfl ?_)
        case c0 => simp
        case c2 => omega
        intro g4 c4 w4 hown4 hk4
        have HOWN4 := Lib.hid hown4
        have HK4 := Lib.hid hk4
        clear hown4 hk4
        go_wp2
        go_roundw
        case rel => exact ⟨k + 1, g4, c4, by omega, by go_num, rfl, HOWN4.out, HK4.out⟩
        case measure => simp [intOf]; omega
    · obtain rfl : k = l.length := by omega
      have d1 : decide ((l.length : Int) < (l.length : Int)) = false := by simp
      clear hkeep
      go_wp2
      go_ret
      have h := HOWN.out
      rw [List.take_of_length_le (Nat.le_refl _)] at h ⊢
      exact ⟨_, _, rfl, h, HK.out⟩

/-- Put's round: done, and so far. -/
def PutSt (p : Nat × List UInt8) (L : List (Nat × List UInt8)) (k : Nat) (done : Bool) (out : List (Nat × List UInt8)) : Prop :=
  (done = true ∧ out = insX p (L.take k) ∧ ∃ x ∈ L.take k, p.1 < x.1) ∨ (done = false ∧ out = L.take k ∧ ∀ x ∈ L.take k, ¬ p.1 < x.1)
theorem PutSt.next_done {p : Nat × List UInt8} {L : List (Nat × List UInt8)} {k : Nat} {out : List (Nat × List UInt8)} (h : PutSt p L k true out) (hk : k < L.length) : PutSt p L (k + 1) true (out ++ [L[k]]) := by
  rcases h with ⟨_, h1, x, h2, h3⟩ | ⟨h0, _⟩
  · refine .inl ⟨rfl, ?_, x, ?_, h3⟩
    · rw [h1, List.take_succ_eq_append_getElem hk, ins_done h2 h3]
    · rw [List.take_succ_eq_append_getElem hk]; exact List.mem_append_left _ h2
  · cases h0
theorem PutSt.next_no {p : Nat × List UInt8} {L : List (Nat × List UInt8)} {k : Nat} {out : List (Nat × List UInt8)} (h : PutSt p L k false out) (hk : k < L.length) (hn : ¬ p.1 < L[k].1) : PutSt p L (k + 1) false (out ++ [L[k]]) := by
  rcases h with ⟨h0, _⟩ | ⟨_, h1, h2⟩
  · cases h0
  · refine .inr ⟨rfl, by rw [h1, List.take_succ_eq_append_getElem hk], fun x hx => ?_⟩
    rw [List.take_succ_eq_append_getElem hk] at hx
    rcases List.mem_append.1 hx with hx | hx
    · exact h2 x hx
    · simp only [List.mem_singleton] at hx
      subst hx
      exact hn
theorem PutSt.next_yes {p : Nat × List UInt8} {L : List (Nat × List UInt8)} {k : Nat} {out : List (Nat × List UInt8)} (h : PutSt p L k false out) (hk : k < L.length) (hn : p.1 < L[k].1) : PutSt p L (k + 1) true (out ++ [p] ++ [L[k]]) := by
  rcases h with ⟨h0, _⟩ | ⟨_, h1, h2⟩
  · cases h0
  · refine .inl ⟨rfl, ?_, L[k], by rw [List.take_succ_eq_append_getElem hk]; exact List.mem_append_right _ (by simp), hn⟩
    rw [h1, List.take_succ_eq_append_getElem hk, ins_none [L[k]] h2]
    unfold insX
    rw [if_pos hn]
    simp
theorem PutSt.end_done {p : Nat × List UInt8} {L out : List (Nat × List UInt8)} (h : PutSt p L L.length true out) : out = insX p L := by
  rcases h with ⟨_, h1, _⟩ | ⟨h0, _⟩
  · rw [h1, List.take_of_length_le (Nat.le_refl _)]
  · cases h0
theorem PutSt.end_no {p : Nat × List UInt8} {L out : List (Nat × List UInt8)} (h : PutSt p L L.length false out) : insX p L = out ++ [p] := by
  rcases h with ⟨h0, _⟩ | ⟨_, h1, h2⟩
  · cases h0
  · rw [List.take_of_length_le (Nat.le_refl _)] at h1 h2
    have := ins_none (p := p) [] h2
    rw [List.append_nil] at this
    rw [this, h1]
    rfl
theorem PutSt.len {p : Nat × List UInt8} {L out : List (Nat × List UInt8)} {k : Nat} {d : Bool} (h : PutSt p L k d out) : out.length ≤ k + 1 := by
  have hi : ∀ l : List (Nat × List UInt8), (insX p l).length = l.length + 1 := by
    intro l
    induction l with
    | nil => rfl
    | cons x l ih => unfold insX; split <;> simp [ih]
  rcases h with ⟨_, h1, _⟩ | ⟨_, h1, _⟩
  · rw [h1, hi, List.length_take]; omega
  · rw [h1, List.length_take]; omega
def PutRel (p : Nat × List UInt8) (L : List (Nat × List UInt8)) (w w1 : World) (v dn x : Value) (wr : World) : Prop :=
  ∃ k done out n g c, k ≤ L.length ∧ x = .int .i64 (k : Int) ∧ dn = .bool done ∧ PutSt p L k done out ∧ v = .slice (some ⟨g, 0, none⟩) n c ∧ n = out.length ∧ OwnX wr w.heap.size (.slice (some ⟨g, 0, none⟩) n c) out ∧ (g = w.heap.size + 1 ∨ w1.heap.size ≤ g) ∧ Keep [w.heap.size + 1] w1 wr

set_option maxRecDepth 100000 in
set_option maxHeartbeats 2000000 in
theorem putX_calls (l : List (Nat × List UInt8)) (v : Value) (i0 : Nat) (d0 : List UInt8) (w : World) (hE : ChsAt w v l) (hn : l.length ≤ 100000000) :
    Calls Tryz.prog 17 #[v, .agg #[.int .u64 (i0 : Int), .string (bs d0)]] w fun e w' => ∃ g c, e = .returned (.slice (some ⟨g, 0, none⟩) (putX (i0, d0) l).length c) ∧ OwnX w' w.heap.size (.slice (some ⟨g, 0, none⟩) (putX (i0, d0) l).length c) (putX (i0, d0) l) ∧ Keep [] w w' := by
  have T := fun (W : World) (hW : Keep [] w W) => dropX_calls l v i0 W (hE.keep hW) (by omega)
  have HT := Lib.hid T
  have hdl := drop_len i0 l
  have hput : putX (i0, d0) l = insX (i0, d0) (dropX i0 l) := rfl
  rw [hput]
  clear hE T hput
  generalize dropX i0 l = L at *
  go_enter Tryz.func17, Tryz.ntmps17
  go_wp2_with (go_at_call 37; refine (HT.out _ (((Keep.refl [] _).alloc _).alloc _)).mono ?_; rintro e w1 ⟨g0, c0, rfl, hO, hk⟩; have HO := Lib.hid hO; have HK1 := Lib.hid hk; clear hO hk)
  have hx1 : Blk w1 w.heap.size 32 #[.int .u64 (i0 : Int), .string (bs d0)] := ((Blk.new w _ _).alloc _).keep HK1.out (by simp)
  have hKw1 : Keep [] w w1 := (((Keep.refl [] _).alloc _).alloc _).trans HK1.out
  have HX1 := Lib.hid hx1
  have HKW1 := Lib.hid hKw1
  have hO1 : OwnX w1 w.heap.size (.slice (some ⟨w.heap.size + 1, 0, none⟩) 0 0) [] := by
    have := OwnX.start (w.alloc (.cells #[.int .u64 (i0 : Int), .string (bs d0)] 32)) w.heap.size (by simp)
    rw [World.size_alloc] at this
    exact this.keep HK1.out (by simp)
  have HO1 := Lib.hid hO1
  have hlw : w.heap.size + 1 < w1.heap.size := by have := HK1.out.size; simp at this; omega
  have HLW := Lib.hid hlw
  have HO2 : Hid (∀ W, Keep [w.heap.size + 1] w1 W → ChsAt W (.slice (some ⟨g0, 0, none⟩) L.length c0) L) := fun W hW => (HO.out.keep hW (by simp)).at_
  clear hx1 hKw1 hO1 hlw
  go_loopw [5, 6, 15] (fun v dn x wr => PutRel (i0, d0) L w w1 v dn x wr) (fun _ _ x _ => L.length - (intOf x).toNat)
  case atStart => exact ⟨0, false, [], 0, _, _, Nat.zero_le _, rfl, rfl, .inr ⟨rfl, by simp, by simp⟩, rfl, rfl, HO1.out, .inl rfl, Keep.refl _ _⟩
  case round =>
    obtain ⟨k, done, out, n2, g2, c2, hk, rfl, rfl, hst, rfl, hnl, hown, hgg, hkeep⟩ := hrel
    have HNL := Lib.hid hnl
    have HOWN := Lib.hid hown
    have HK := Lib.hid hkeep
    have HST := Lib.hid hst
    have HGG := Lib.hid hgg
    have hol := hst.len
    rw [← hnl] at hol
    clear hnl
    have hws : w1.heap.size ≤ wr.heap.size := hkeep.size
    have hbx := HX1.out.keep hkeep (by simp)
    have y0 : wr.cell? ⟨w.heap.size, 0, none⟩ = some (.int .u64 (i0 : Int)) := hbx.cell 0
    have y1 : wr.cell? ⟨w.heap.size, 1, none⟩ = some (.string (bs d0)) := hbx.cell 1
    have HBX := Lib.hid hbx
    have HKW : Hid (Keep [] w wr) := HKW1.out.trans' hkeep (by simp)
    clear hown hst hgg hbx
    by_cases hlt : k < L.length
    · have d1 : decide ((k : Int) < (L.length : Int)) = true := by simp; omega
      obtain ⟨A, c, hv, hcc⟩ := HO2.out wr hkeep
      injection hv with hA hz1 hc
      clear hz1
      subst hA hc
      obtain ⟨g, o, he, hc⟩ := hcc (by intro h; rw [h] at hlt; simp at hlt)
      injection he with he
      injection he with he1 he2
      subst he1 he2
      obtain ⟨x0, x1⟩ := hc k hlt
      simp only [Nat.zero_add] at x0 x1
      have hwz : w.heap.size < wr.heap.size := by have := HK.out.size; have := HLW.out; omega
      clear hc hcc hkeep
      have N1 := fun (h : done = true) => PutSt.next_done (h ▸ HST.out) hlt
      have N2 := fun (h : done = false) (h2 : ¬ i0 < L[k].1) => PutSt.next_no (h ▸ HST.out) hlt h2
      have N3 := fun (h : done = false) (h2 : i0 < L[k].1) => PutSt.next_yes (h ▸ HST.out) hlt h2
      have HN1 := Lib.hid N1
      have HN2 := Lib.hid N2
      have HN3 := Lib.hid N3
      clear N1 N2 N3
      generalize L[k] = ee at *
      obtain ⟨ei, ed⟩ := ee
      simp only at x0 x1 HN2 HN3
      cases done with
      | true =>
        go_wp2_with (at_builtin; refine list_append_ch (wr := wr.alloc (.cells #[.int .u64 (ei : Int), .string (bs ed)] 32)) (base := w.heap.size) (g := g2) (c := c2) (acc := out) (ei, ed) (out ++ [(ei, ed)]) rfl rfl (.tmp 32) (.tmp 34) rfl rfl rfl (by first | rfl | simp) (HOWN.out.keep ((Keep.refl [] _).alloc _) (by simp)) HNL.out ?c1 (by have := HNL.out; omega) rfl ?_)
        case c1 => (try simp); omega
        intro g4 c4 w4 hown4 hk4 hg4
        have HOWN4 := Lib.hid hown4
        have hK4 : Keep [w.heap.size + 1] w1 w4 := (HK.out.alloc _).trans' hk4 (by simp; have := HGG.out; omega)
        have HK4 := Lib.hid hK4
        have HG4 : Hid (g4 = w.heap.size + 1 ∨ w1.heap.size ≤ g4) := by
          have h1 := HGG.out
          have h2 := hg4
          try rw [World.size_alloc] at h2
          show _ ∨ _
          omega
        clear hown4 hk4 hg4 hK4
        go_wp2
        go_roundw
        case rel => exact ⟨k + 1, true, out ++ [(ei, ed)], n2 + 1, g4, c4, by omega, by go_num, (by first | rfl | trivial), HN1.out (by trivial), (by first | rfl | trivial), by rw [HNL.out]; simp, by first | exact HOWN4.out | simpa using HOWN4.out, HG4.out, HK4.out⟩
        case measure => simp [intOf]; omega
      | false =>
        by_cases hgt : i0 < ei
        · have b1 : decide ((i0 : Int) < (ei : Int)) = true := by simpa using hgt
          have b2 : decide (i0 < ei) = true := by simpa using hgt
          have HGT := Lib.hid hgt
          clear hgt
          have hg2 : g2 < wr.heap.size := by
            have h := (HOWN.out.own.lt g2 rfl).2
            exact h
          go_wp2_with (at_builtin; refine list_append_ch (wr := wr.alloc (.cells #[.int .u64 (ei : Int), .string (bs ed)] 32)) (base := w.heap.size) (g := g2) (c := c2) (acc := out) (i0, d0) (out ++ [(i0, d0)]) rfl rfl (.tmp 28) (.tmp 30) rfl rfl rfl (by first | rfl | simp) (HOWN.out.keep ((Keep.refl [] _).alloc _) (by simp)) HNL.out ?c1 (by have := HNL.out; omega) rfl ?_)
          case c1 => (try simp); omega
          intro g3 c3 w3 hown3 hk3 hg3
          have HOWN3 := Lib.hid hown3
          have hC : Blk w3 wr.heap.size 32 #[.int .u64 (ei : Int), .string (bs ed)] := (Blk.new wr _ _).keep hk3 (by simp; omega)
          have u0 : w3.cell? ⟨wr.heap.size, 0, none⟩ = some (.int .u64 (ei : Int)) := hC.cell 0
          have u1 : w3.cell? ⟨wr.heap.size, 1, none⟩ = some (.string (bs ed)) := hC.cell 1
          have hK3 : Keep [w.heap.size + 1] w1 w3 := (HK.out.alloc _).trans' hk3 (by simp; have := HGG.out; omega)
          have HK3 := Lib.hid hK3
          have hsz3 : w.heap.size ≤ w3.heap.size := by have := hK3.size; have := HLW.out; omega
          have HG3 : Hid (g3 = w.heap.size + 1 ∨ w1.heap.size ≤ g3) := by
            have h1 := HGG.out
            have h2 := hg3
            try rw [World.size_alloc] at h2
            show _ ∨ _
            omega
          have HNL3 : Hid (n2 + 1 = (out ++ [(i0, d0)]).length) := (by rw [HNL.out]; simp : n2 + 1 = (out ++ [(i0, d0)]).length)
          have hol3 : n2 + 1 ≤ 1000000000 := by omega
          clear hown3 hk3 hg3 hK3 hC
          go_wp2_with (at_builtin; refine list_append_ch (wr := w3) (base := w.heap.size) (g := g3) (c := c3) (acc := out ++ [(i0, d0)]) (ei, ed) (out ++ [(i0, d0)] ++ [(ei, ed)]) rfl rfl (.tmp 32) (.tmp 34) rfl rfl rfl (by first | rfl | simp) HOWN3.out HNL3.out ?c4 (by have := HNL3.out; omega) rfl ?_)
          case c4 => omega
          intro g4 c4 w4 hown4 hk4 hg4
          have HOWN4 := Lib.hid hown4
          have hK4 : Keep [w.heap.size + 1] w1 w4 := HK3.out.trans' hk4 (by simp; have := HG3.out; omega)
          have HK4 := Lib.hid hK4
          have HG4 : Hid (g4 = w.heap.size + 1 ∨ w1.heap.size ≤ g4) := by
            have h1 := HG3.out
            have h2 := HK3.out.size
            show _ ∨ _
            omega
          clear hown4 hk4 hg4 hK4
          go_wp2
          go_roundw
          case rel => exact ⟨k + 1, true, out ++ [(i0, d0)] ++ [(ei, ed)], n2 + 1 + 1, g4, c4, by omega, by go_num, (by first | rfl | trivial), HN3.out (by trivial) HGT.out, (by first | rfl | trivial), by rw [HNL.out]; simp, by first | exact HOWN4.out | simpa using HOWN4.out, HG4.out, HK4.out⟩
          case measure => simp [intOf]; omega
        · have b1 : decide ((i0 : Int) < (ei : Int)) = false := by simpa using hgt
          have b2 : decide (i0 < ei) = false := by simpa using hgt
          have HGT := Lib.hid hgt
          clear hgt
          go_wp2_with (at_builtin; refine list_append_ch (wr := wr.alloc (.cells #[.int .u64 (ei : Int), .string (bs ed)] 32)) (base := w.heap.size) (g := g2) (c := c2) (acc := out) (ei, ed) (out ++ [(ei, ed)]) rfl rfl (.tmp 32) (.tmp 34) rfl rfl rfl (by first | rfl | simp) (HOWN.out.keep ((Keep.refl [] _).alloc _) (by simp)) HNL.out ?c1 (by have := HNL.out; omega) rfl ?_)
          case c1 => (try simp); omega
          intro g4 c4 w4 hown4 hk4 hg4
          have HOWN4 := Lib.hid hown4
          have hK4 : Keep [w.heap.size + 1] w1 w4 := (HK.out.alloc _).trans' hk4 (by simp; have := HGG.out; omega)
          have HK4 := Lib.hid hK4
          have HG4 : Hid (g4 = w.heap.size + 1 ∨ w1.heap.size ≤ g4) := by
            have h1 := HGG.out
            have h2 := hg4
            try rw [World.size_alloc] at h2
            show _ ∨ _
            omega
          clear hown4 hk4 hg4 hK4
          go_wp2
          go_roundw
          case rel => exact ⟨k + 1, false, out ++ [(ei, ed)], n2 + 1, g4, c4, by omega, by go_num, (by first | rfl | trivial), HN2.out (by trivial) HGT.out, (by first | rfl | trivial), by rw [HNL.out]; simp, by first | exact HOWN4.out | simpa using HOWN4.out, HG4.out, HK4.out⟩
          case measure => simp [intOf]; omega
    · obtain rfl : k = L.length := by omega
      have d1 : decide ((L.length : Int) < (L.length : Int)) = false := by simp
      have hwz : w.heap.size < wr.heap.size := by have := HK.out.size; have := HLW.out; omega
      clear hkeep
      cases done with
      | true =>
        have HE : Hid (out = insX (i0, d0) L) := HST.out.end_done
        go_wp2
        go_ret
        have hw := HOWN.out
        rw [HNL.out] at hw
        refine ⟨g2, c2, by rw [← HE.out, ← HNL.out]; rfl, ?_, HKW.out⟩
        rw [← HE.out]
        exact hw
      | false =>
        have HE : Hid (insX (i0, d0) L = out ++ [(i0, d0)]) := HST.out.end_no
        go_wp2_with (at_builtin; refine list_append_ch (wr := wr) (base := w.heap.size) (g := g2) (c := c2) (acc := out) (i0, d0) (insX (i0, d0) L) HE.out rfl (.tmp 39) (.tmp 41) rfl rfl rfl (by first | rfl | simp) HOWN.out HNL.out ?c1 (by have := HNL.out; omega) rfl ?_)
        case c1 => omega
        intro g4 c4 w4 hown4 hk4 hg4
        have HOWN4 := Lib.hid hown4
        have HK4 : Hid (Keep [] w w4) := HKW.out.trans' hk4 (by simp; have := HGG.out; have := HLW.out; omega)
        clear hown4 hk4 hg4
        go_wp2
        go_ret
        have hl : n2 + 1 = (insX (i0, d0) L).length := by rw [HE.out, HNL.out]; simp
        have hw := HOWN4.out
        rw [hl] at hw
        exact ⟨g4, c4, by rw [← hl]; rfl, hw, HK4.out⟩

end Go.Proofs.YtkplffkchanipaaGreatDoor
