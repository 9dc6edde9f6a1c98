/- The keys of a map that has none, collected: nothing. -/
import Derived.RangeFuncNested
import Derived.RangeFuncBound
import Derived.RangeFuncCalls
import Derived.RangeFuncLeaves
import Derived.RangeFuncStops
import Derived.RangeFuncBox
import Derived.Shelf.Abstract
import Derived.Shelf.RegionOpen
import Derived.WalkKit
import Derived.OwnWalkIn
import Derived.TacticsInMore
import Derived.LoopNIn
import Derived.LoopIn
import Derived.Maps.AppendAt
import Derived.Sort.MapsRangeIn
import Derived.Sort.KeysCollected
import Derived.MapKept
import Derived.Test.YtdgjkejfmehphaaGreatDoorProg
namespace Go.Proofs.YtdgjkejfmehphaaGreatDoor
open Go.RowKit Go.Shelf Go.Maps
attribute [local go_sem] Oper.semAt_some

/-- A map without entries, as the kit's laws want it. -/
theorem owns_none {P : Program} {k : TypeId} {w : World} {m c : Nat} (h : w.heap[m]? = some (.map #[] c)) : w.ownsMap P k (fun _ => some (.nil, [])) m 0 (.map [] : DataW Unit) :=
  ⟨#[], c, h, ⟨by simp, MapKept.stamped_empty c, by simp⟩, by simp, rfl⟩
set_option maxRecDepth 100000 in
set_option maxHeartbeats 2000000 in
theorem keys1P_in (F : Fence) (n : Nat) (h10 : F.fn 117) (hro : F.round = none) (l Bm b c : Nat) (J Jx : List Value → World → Prop)
    (W : World) (hJ : AbidesFrom W.heap.size J) (hm : W.cell? ⟨Bm, 0, none⟩ = some (.map (some b))) (hb : W.heap[b]? = some (.map #[] c)) (h0 : J [] W) :
    CallsIn F n Tryz.prog 117 #[.func (.yield l) #[] #[], .pointer (some ⟨Bm, 0, none⟩)] W fun e W' => (∃ v, e = .returned v) ∧ ((∃ ss : List Value, ss = [] ∧ J ss W') ∨ (∃ pre : List Value, True ∧ Jx pre W')) := by
  have hown := owns_none (P := Tryz.prog) (k := 50) hb
  refine callsIn_of_wp Tryz.func117 rfl h10 ?_ hro
  simp only [Tryz.ntmps117, List.size_toArray, List.length_cons, List.length_nil, Nat.reduceAdd, Nat.reduceSub, Array.replicate_succ, Array.replicate_zero, List.push_toArray, List.append_toArray, List.nil_append, List.cons_append]
  gi_wp2_with (first
    | (gi_at_range; refine wpListIn_range_own _ rfl _ 169 rfl 50 172 (int_keyed Tryz.underlying50) Tryz.underlying169 _ b 0 _ rfl hown ?_; intro w0 hrg0 hg0 hs0)
    | gi_in)
  go_frame
  gi_loopw [3] (fun _ wr => ∃ (left : Lit → Bool) (cnt : Nat), wr.ranges Tryz.prog 50 (fun _ => some (.nil, [])) b W.heap.size 0 (.map [] : DataW Unit) left cnt ∧ cnt ≤ 0 ∧ J [] wr)
    (fun _ wr => wr.rangeLeft b W.heap.size)
  case atStart =>
    exact ⟨_, _, hrg0, by simp [Maps.size], hJ [] W w0 none h0 hg0 (fun r e => by cases e)⟩
  case round =>
    obtain ⟨left, cnt, hrg, hcs, hJs⟩ := hrel
    gi_wp2_with (first
      | (gi_at_next; refine wpListIn_next_ranges _ rfl _ rfl 50 (int_keyed Tryz.underlying50) (fun _ => some (.nil, [])) id id (fun key kl hk => ⟨key, rfl⟩) (fun v _ _ => ⟨v, rfl⟩) b W.heap.size 0 _ _ _ rfl hrg ?_ ?_)
      | gi_in)
    · intro hc0 hl0
      gi_wp2
      go_end0
      exact ⟨⟨_, rfl⟩, .inl ⟨[], rfl, hJs⟩⟩
    · intro x c kl yd w2 cnt2 hkey hlk hv hat hrg2 hlt
      omega
set_option maxRecDepth 100000 in
set_option maxHeartbeats 2000000 in
theorem keys1N_in (F : Fence) (n : Nat) (h10 : F.fn 230) (hro : F.round = none) (l Bm b c : Nat) (J Jx : List Value → World → Prop)
    (W : World) (hJ : AbidesFrom W.heap.size J) (hm : W.cell? ⟨Bm, 0, none⟩ = some (.map (some b))) (hb : W.heap[b]? = some (.map #[] c)) (h0 : J [] W) :
    CallsIn F n Tryz.prog 230 #[.func (.yield l) #[] #[], .pointer (some ⟨Bm, 0, none⟩)] W fun e W' => (∃ v, e = .returned v) ∧ ((∃ ss : List Value, ss = [] ∧ J ss W') ∨ (∃ pre : List Value, True ∧ Jx pre W')) := by
  have hown := owns_none (P := Tryz.prog) (k := 9) hb
  refine callsIn_of_wp Tryz.func230 rfl h10 ?_ hro
  simp only [Tryz.ntmps230, List.size_toArray, List.length_cons, List.length_nil, Nat.reduceAdd, Nat.reduceSub, Array.replicate_succ, Array.replicate_zero, List.push_toArray, List.append_toArray, List.nil_append, List.cons_append]
  gi_wp2_with (first
    | (gi_at_range; refine wpListIn_range_own _ rfl _ 270 rfl 9 50 (string_keyed Tryz.underlying9) Tryz.underlying270 _ b 0 _ rfl hown ?_; intro w0 hrg0 hg0 hs0)
    | gi_in)
  go_frame
  gi_loopw [3] (fun _ wr => ∃ (left : Lit → Bool) (cnt : Nat), wr.ranges Tryz.prog 9 (fun _ => some (.nil, [])) b W.heap.size 0 (.map [] : DataW Unit) left cnt ∧ cnt ≤ 0 ∧ J [] wr)
    (fun _ wr => wr.rangeLeft b W.heap.size)
  case atStart =>
    exact ⟨_, _, hrg0, by simp [Maps.size], hJ [] W w0 none h0 hg0 (fun r e => by cases e)⟩
  case round =>
    obtain ⟨left, cnt, hrg, hcs, hJs⟩ := hrel
    gi_wp2_with (first
      | (gi_at_next; refine wpListIn_next_ranges _ rfl _ rfl 9 (string_keyed Tryz.underlying9) (fun _ => some (.nil, [])) id id (fun key kl hk => ⟨key, rfl⟩) (fun v _ _ => ⟨v, rfl⟩) b W.heap.size 0 _ _ _ rfl hrg ?_ ?_)
      | gi_in)
    · intro hc0 hl0
      gi_wp2
      go_end0
      exact ⟨⟨_, rfl⟩, .inl ⟨[], rfl, hJs⟩⟩
    · intro x c kl yd w2 cnt2 hkey hlk hv hat hrg2 hlt
      omega
set_option maxRecDepth 100000 in
set_option maxHeartbeats 2000000 in
theorem keys1C_in (F : Fence) (n : Nat) (h10 : F.fn 114) (hro : F.round = none) (l Bm b c : Nat) (J Jx : List Value → World → Prop)
    (W : World) (hJ : AbidesFrom W.heap.size J) (hm : W.cell? ⟨Bm, 0, none⟩ = some (.map (some b))) (hb : W.heap[b]? = some (.map #[] c)) (h0 : J [] W) :
    CallsIn F n Tryz.prog 114 #[.func (.yield l) #[] #[], .pointer (some ⟨Bm, 0, none⟩)] W fun e W' => (∃ v, e = .returned v) ∧ ((∃ ss : List Value, ss = [] ∧ J ss W') ∨ (∃ pre : List Value, True ∧ Jx pre W')) := by
  have hown := owns_none (P := Tryz.prog) (k := 3) hb
  refine callsIn_of_wp Tryz.func114 rfl h10 ?_ hro
  simp only [Tryz.ntmps114, List.size_toArray, List.length_cons, List.length_nil, Nat.reduceAdd, Nat.reduceSub, Array.replicate_succ, Array.replicate_zero, List.push_toArray, List.append_toArray, List.nil_append, List.cons_append]
  gi_wp2_with (first
    | (gi_at_range; refine wpListIn_range_own _ rfl _ 64 rfl 3 83 (int_keyed Tryz.underlying3) Tryz.underlying64 _ b 0 _ rfl hown ?_; intro w0 hrg0 hg0 hs0)
    | gi_in)
  go_frame
  gi_loopw [3] (fun _ wr => ∃ (left : Lit → Bool) (cnt : Nat), wr.ranges Tryz.prog 3 (fun _ => some (.nil, [])) b W.heap.size 0 (.map [] : DataW Unit) left cnt ∧ cnt ≤ 0 ∧ J [] wr)
    (fun _ wr => wr.rangeLeft b W.heap.size)
  case atStart =>
    exact ⟨_, _, hrg0, by simp [Maps.size], hJ [] W w0 none h0 hg0 (fun r e => by cases e)⟩
  case round =>
    obtain ⟨left, cnt, hrg, hcs, hJs⟩ := hrel
    gi_wp2_with (first
      | (gi_at_next; refine wpListIn_next_ranges _ rfl _ rfl 3 (int_keyed Tryz.underlying3) (fun _ => some (.nil, [])) id id (fun key kl hk => ⟨key, rfl⟩) (fun v _ _ => ⟨v, rfl⟩) b W.heap.size 0 _ _ _ rfl hrg ?_ ?_)
      | gi_in)
    · intro hc0 hl0
      gi_wp2
      go_end0
      exact ⟨⟨_, rfl⟩, .inl ⟨[], rfl, hJs⟩⟩
    · intro x c kl yd w2 cnt2 hkey hlk hv hat hrg2 hlt
      omega
set_option maxRecDepth 100000 in
set_option maxHeartbeats 2000000 in
theorem keys1F_in (F : Fence) (n : Nat) (h10 : F.fn 314) (hro : F.round = none) (l Bm b c : Nat) (J Jx : List Value → World → Prop)
    (W : World) (hJ : AbidesFrom W.heap.size J) (hm : W.cell? ⟨Bm, 0, none⟩ = some (.map (some b))) (hb : W.heap[b]? = some (.map #[] c)) (h0 : J [] W) :
    CallsIn F n Tryz.prog 314 #[.func (.yield l) #[] #[], .pointer (some ⟨Bm, 0, none⟩)] W fun e W' => (∃ v, e = .returned v) ∧ ((∃ ss : List Value, ss = [] ∧ J ss W') ∨ (∃ pre : List Value, True ∧ Jx pre W')) := by
  have hown := owns_none (P := Tryz.prog) (k := 9) hb
  refine callsIn_of_wp Tryz.func314 rfl h10 ?_ hro
  simp only [Tryz.ntmps314, List.size_toArray, List.length_cons, List.length_nil, Nat.reduceAdd, Nat.reduceSub, Array.replicate_succ, Array.replicate_zero, List.push_toArray, List.append_toArray, List.nil_append, List.cons_append]
  gi_wp2_with (first
    | (gi_at_range; refine wpListIn_range_own _ rfl _ 162 rfl 9 348 (string_keyed Tryz.underlying9) Tryz.underlying162 _ b 0 _ rfl hown ?_; intro w0 hrg0 hg0 hs0)
    | gi_in)
  go_frame
  gi_loopw [3] (fun _ wr => ∃ (left : Lit → Bool) (cnt : Nat), wr.ranges Tryz.prog 9 (fun _ => some (.nil, [])) b W.heap.size 0 (.map [] : DataW Unit) left cnt ∧ cnt ≤ 0 ∧ J [] wr)
    (fun _ wr => wr.rangeLeft b W.heap.size)
  case atStart =>
    exact ⟨_, _, hrg0, by simp [Maps.size], hJ [] W w0 none h0 hg0 (fun r e => by cases e)⟩
  case round =>
    obtain ⟨left, cnt, hrg, hcs, hJs⟩ := hrel
    gi_wp2_with (first
      | (gi_at_next; refine wpListIn_next_ranges _ rfl _ rfl 9 (string_keyed Tryz.underlying9) (fun _ => some (.nil, [])) id id (fun key kl hk => ⟨key, rfl⟩) (fun v _ _ => ⟨v, rfl⟩) b W.heap.size 0 _ _ _ rfl hrg ?_ ?_)
      | gi_in)
    · intro hc0 hl0
      gi_wp2
      go_end0
      exact ⟨⟨_, rfl⟩, .inl ⟨[], rfl, hJs⟩⟩
    · intro x c kl yd w2 cnt2 hkey hlk hv hat hrg2 hlt
      omega
set_option maxRecDepth 100000 in
theorem keysP_stops (F : Fence) (n : Nat) (h10 : F.fn 117) (hro : F.round = none) (Bm b c : Nat) (w : World) (hm : w.cell? ⟨Bm, 0, none⟩ = some (.map (some b))) (hb : w.heap[b]? = some (.map #[] c)) :
    SeqStopsK F n Tryz.prog 117 #[.pointer (some ⟨Bm, 0, none⟩)] (fun x : Value => #[x]) KeepsWalks (fun ss => ss = []) (fun _ => True) 0 w := fun l J Jx W hW hJ _ _ h0 => by
  have hBm := World.block_lt_of_cell? _ _ hm
  have hbl : b < w.heap.size := by
    rcases Nat.lt_or_ge b w.heap.size with hlt | hge
    · exact hlt
    · rw [Array.getElem?_eq_none hge] at hb; cases hb
  exact keys1P_in F n h10 hro l Bm b c J Jx W hJ ((hW.cell (p := ⟨Bm, 0, none⟩) hBm).trans hm) ((hW.block b hbl).trans hb) h0
set_option maxRecDepth 100000 in
theorem keysN_stops (F : Fence) (n : Nat) (h10 : F.fn 230) (hro : F.round = none) (Bm b c : Nat) (w : World) (hm : w.cell? ⟨Bm, 0, none⟩ = some (.map (some b))) (hb : w.heap[b]? = some (.map #[] c)) :
    SeqStopsK F n Tryz.prog 230 #[.pointer (some ⟨Bm, 0, none⟩)] (fun x : Value => #[x]) KeepsWalks (fun ss => ss = []) (fun _ => True) 0 w := fun l J Jx W hW hJ _ _ h0 => by
  have hBm := World.block_lt_of_cell? _ _ hm
  have hbl : b < w.heap.size := by
    rcases Nat.lt_or_ge b w.heap.size with hlt | hge
    · exact hlt
    · rw [Array.getElem?_eq_none hge] at hb; cases hb
  exact keys1N_in F n h10 hro l Bm b c J Jx W hJ ((hW.cell (p := ⟨Bm, 0, none⟩) hBm).trans hm) ((hW.block b hbl).trans hb) h0
set_option maxRecDepth 100000 in
theorem keysC_stops (F : Fence) (n : Nat) (h10 : F.fn 114) (hro : F.round = none) (Bm b c : Nat) (w : World) (hm : w.cell? ⟨Bm, 0, none⟩ = some (.map (some b))) (hb : w.heap[b]? = some (.map #[] c)) :
    SeqStopsK F n Tryz.prog 114 #[.pointer (some ⟨Bm, 0, none⟩)] (fun x : Value => #[x]) KeepsWalks (fun ss => ss = []) (fun _ => True) 0 w := fun l J Jx W hW hJ _ _ h0 => by
  have hBm := World.block_lt_of_cell? _ _ hm
  have hbl : b < w.heap.size := by
    rcases Nat.lt_or_ge b w.heap.size with hlt | hge
    · exact hlt
    · rw [Array.getElem?_eq_none hge] at hb; cases hb
  exact keys1C_in F n h10 hro l Bm b c J Jx W hJ ((hW.cell (p := ⟨Bm, 0, none⟩) hBm).trans hm) ((hW.block b hbl).trans hb) h0
set_option maxRecDepth 100000 in
theorem keysF_stops (F : Fence) (n : Nat) (h10 : F.fn 314) (hro : F.round = none) (Bm b c : Nat) (w : World) (hm : w.cell? ⟨Bm, 0, none⟩ = some (.map (some b))) (hb : w.heap[b]? = some (.map #[] c)) :
    SeqStopsK F n Tryz.prog 314 #[.pointer (some ⟨Bm, 0, none⟩)] (fun x : Value => #[x]) KeepsWalks (fun ss => ss = []) (fun _ => True) 0 w := fun l J Jx W hW hJ _ _ h0 => by
  have hBm := World.block_lt_of_cell? _ _ hm
  have hbl : b < w.heap.size := by
    rcases Nat.lt_or_ge b w.heap.size with hlt | hge
    · exact hlt
    · rw [Array.getElem?_eq_none hge] at hb; cases hb
  exact keys1F_in F n h10 hro l Bm b c J Jx W hJ ((hW.cell (p := ⟨Bm, 0, none⟩) hBm).trans hm) ((hW.block b hbl).trans hb) h0
set_option maxRecDepth 100000 in
set_option maxHeartbeats 2000000 in
theorem appendU_in (F : Fence) (n : Nat) (h3 : F.fn 202) (hro : F.round = none) (hn : 3 ≤ n) (g : Nat) (lb : Array Value) (hFg : F.fn g) (eg : ∀ args w, (callFunc g args).run Tryz.prog w = .ok (.enter g args) w)
    (w : World) (hseq : SeqStopsK F (n - 1) Tryz.prog g lb (fun x : Value => #[x]) KeepsWalks (fun ss => ss = []) (fun _ => True) 0 w) :
    CallsIn F n Tryz.prog 202 #[.slice none 0 0, .func (.func g) #[] lb] w fun e W' => e = .returned (.slice none 0 0) ∧ Below w.heap.size w W' := by
  have h1 : 1 ≤ n := by omega
  refine callsIn_of_wp_marks Tryz.func202 rfl h3 ?_ hro
  simp only [Tryz.ntmps202, List.size_toArray, List.length_cons, List.length_nil, Nat.reduceAdd, Nat.reduceSub, Array.replicate_succ, Array.replicate_zero, List.push_toArray, List.append_toArray, List.nil_append, List.cons_append]
  gi_wp2
  have bO := Boxed.new w 43 (.slice none 0 0)
  have hB0 : Below w.heap.size w (w.alloc (.cells #[.slice none 0 0] 43)) := (Below.refl _ w).alloc (Nat.le_refl _) _
  refine wpIn_rangeFunc_ownG hro h1 (gf := g) (lb := lb) rfl hFg eg hseq walksK_t walksK_b hB0 (fun _ => rfl)
    (fun pre W => (∃ v, Boxed W w.heap.size 43 v ∧ W.ownsRow w.heap.size 50 1 v 0 [] ∧ v = .slice none 0 0) ∧ Below w.heap.size w W)
    (fun _ _ _ => False)
    (OwnFrom.and (Own.from (holdsRow_own w.heap.size w.heap.size 43 50 1 (fun _ : List Value => 0) (fun _ : List Value => []) (fun _ v => v = .slice none 0 0)) _) (ownFrom_below (Nat.le_refl _) (by simp)))
    (fun _ _ _ _ _ hs _ _ => hs)
    ⟨⟨_, bO, World.ownsRow_nil _ _ _ _, rfl⟩, hB0⟩
    (fun x => { tmps := #[.slice none 0 0, .func (.func g) #[] lb, .pointer (some ⟨w.heap.size, 0, none⟩), undef, .slice none 0 0, x, .func (.func g) #[] lb, x, undef, undef, undef, undef, undef], defers := [] }) ?assign ?body ?done ?stop
  case assign =>
    intro l x W K hK
    gi_wp2
    exact hK
  case body =>
    rintro l pre x W _ hlt
    omega
  case done =>
    rintro D ys W hD hS ⟨⟨v, hv, -, rfl⟩, hB⟩ hK
    have hc := hv.cell
    gi_wp2
    refine ⟨by simp, .inl ⟨_, _, rfl, run_takeDeferred hK, ?_⟩⟩
    exact ⟨_, results_tmp rfl _ _ _, rfl, hB.trans (belowK_b (w := w) (Nat.le_refl _) W D _ _ (by simp at hD; omega) hK rfl rfl)⟩
  case stop =>
    rintro D c pre W _ _ h _
    exact h.elim
theorem collectU_in (F : Fence) (n : Nat) (h3 : F.fn 115) (h4 : F.fn 202) (hro : F.round = none) (hn : 4 ≤ n) (g : Nat) (lb : Array Value) (hFg : F.fn g) (eg : ∀ args w, (callFunc g args).run Tryz.prog w = .ok (.enter g args) w)
    (w : World) (hseq : SeqStopsK F (n - 1 - 1) Tryz.prog g lb (fun x : Value => #[x]) KeepsWalks (fun ss => ss = []) (fun _ => True) 0 w) :
    CallsIn F n Tryz.prog 115 #[.func (.func g) #[] lb] w fun e W' => e = .returned (.slice none 0 0) ∧ Below w.heap.size w W' := by
  have h1 : 1 ≤ n := by omega
  refine callsIn_of_wp Tryz.func115 rfl h3 ?_ hro
  simp only [Tryz.ntmps115, List.size_toArray, List.length_cons, List.length_nil, Nat.reduceAdd, Nat.reduceSub, Array.replicate_succ, Array.replicate_zero, List.push_toArray, List.append_toArray, List.nil_append, List.cons_append]
  gi_wp2_with (gi_at_call 202; refine (appendU_in F (n - 1) h4 hro (by omega) g lb hFg eg _ hseq).mono ?_; rintro e w' ⟨rfl, hb⟩)
  go_ret
  exact ⟨rfl, hb⟩
set_option maxRecDepth 100000 in
set_option maxHeartbeats 2000000 in
theorem appendI_in (F : Fence) (n : Nat) (h3 : F.fn 201) (hro : F.round = none) (hn : 3 ≤ n) (g : Nat) (lb : Array Value) (hFg : F.fn g) (eg : ∀ args w, (callFunc g args).run Tryz.prog w = .ok (.enter g args) w)
    (w : World) (hseq : SeqStopsK F (n - 1) Tryz.prog g lb (fun x : Value => #[x]) KeepsWalks (fun ss => ss = []) (fun _ => True) 0 w) :
    CallsIn F n Tryz.prog 201 #[.slice none 0 0, .func (.func g) #[] lb] w fun e W' => e = .returned (.slice none 0 0) ∧ Below w.heap.size w W' := by
  have h1 : 1 ≤ n := by omega
  refine callsIn_of_wp_marks Tryz.func201 rfl h3 ?_ hro
  simp only [Tryz.ntmps201, List.size_toArray, List.length_cons, List.length_nil, Nat.reduceAdd, Nat.reduceSub, Array.replicate_succ, Array.replicate_zero, List.push_toArray, List.append_toArray, List.nil_append, List.cons_append]
  gi_wp2
  have bO := Boxed.new w 30 (.slice none 0 0)
  have hB0 : Below w.heap.size w (w.alloc (.cells #[.slice none 0 0] 30)) := (Below.refl _ w).alloc (Nat.le_refl _) _
  refine wpIn_rangeFunc_ownG hro h1 (gf := g) (lb := lb) rfl hFg eg hseq walksK_t walksK_b hB0 (fun _ => rfl)
    (fun pre W => (∃ v, Boxed W w.heap.size 30 v ∧ W.ownsRow w.heap.size 3 1 v 0 [] ∧ v = .slice none 0 0) ∧ Below w.heap.size w W)
    (fun _ _ _ => False)
    (OwnFrom.and (Own.from (holdsRow_own w.heap.size w.heap.size 30 3 1 (fun _ : List Value => 0) (fun _ : List Value => []) (fun _ v => v = .slice none 0 0)) _) (ownFrom_below (Nat.le_refl _) (by simp)))
    (fun _ _ _ _ _ hs _ _ => hs)
    ⟨⟨_, bO, World.ownsRow_nil _ _ _ _, rfl⟩, hB0⟩
    (fun x => { tmps := #[.slice none 0 0, .func (.func g) #[] lb, .pointer (some ⟨w.heap.size, 0, none⟩), undef, .slice none 0 0, x, .func (.func g) #[] lb, x, undef, undef, undef, undef, undef], defers := [] }) ?assign ?body ?done ?stop
  case assign =>
    intro l x W K hK
    gi_wp2
    exact hK
  case body =>
    rintro l pre x W _ hlt
    omega
  case done =>
    rintro D ys W hD hS ⟨⟨v, hv, -, rfl⟩, hB⟩ hK
    have hc := hv.cell
    gi_wp2
    refine ⟨by simp, .inl ⟨_, _, rfl, run_takeDeferred hK, ?_⟩⟩
    exact ⟨_, results_tmp rfl _ _ _, rfl, hB.trans (belowK_b (w := w) (Nat.le_refl _) W D _ _ (by simp at hD; omega) hK rfl rfl)⟩
  case stop =>
    rintro D c pre W _ _ h _
    exact h.elim
theorem collectI_in (F : Fence) (n : Nat) (h3 : F.fn 113) (h4 : F.fn 201) (hro : F.round = none) (hn : 4 ≤ n) (g : Nat) (lb : Array Value) (hFg : F.fn g) (eg : ∀ args w, (callFunc g args).run Tryz.prog w = .ok (.enter g args) w)
    (w : World) (hseq : SeqStopsK F (n - 1 - 1) Tryz.prog g lb (fun x : Value => #[x]) KeepsWalks (fun ss => ss = []) (fun _ => True) 0 w) :
    CallsIn F n Tryz.prog 113 #[.func (.func g) #[] lb] w fun e W' => e = .returned (.slice none 0 0) ∧ Below w.heap.size w W' := by
  have h1 : 1 ≤ n := by omega
  refine callsIn_of_wp Tryz.func113 rfl h3 ?_ hro
  simp only [Tryz.ntmps113, List.size_toArray, List.length_cons, List.length_nil, Nat.reduceAdd, Nat.reduceSub, Array.replicate_succ, Array.replicate_zero, List.push_toArray, List.append_toArray, List.nil_append, List.cons_append]
  gi_wp2_with (gi_at_call 201; refine (appendI_in F (n - 1) h4 hro (by omega) g lb hFg eg _ hseq).mono ?_; rintro e w' ⟨rfl, hb⟩)
  go_ret
  exact ⟨rfl, hb⟩
set_option maxRecDepth 100000 in
set_option maxHeartbeats 2000000 in
theorem appendS_in (F : Fence) (n : Nat) (h3 : F.fn 276) (hro : F.round = none) (hn : 3 ≤ n) (g : Nat) (lb : Array Value) (hFg : F.fn g) (eg : ∀ args w, (callFunc g args).run Tryz.prog w = .ok (.enter g args) w)
    (w : World) (hseq : SeqStopsK F (n - 1) Tryz.prog g lb (fun x : Value => #[x]) KeepsWalks (fun ss => ss = []) (fun _ => True) 0 w) :
    CallsIn F n Tryz.prog 276 #[.slice none 0 0, .func (.func g) #[] lb] w fun e W' => e = .returned (.slice none 0 0) ∧ Below w.heap.size w W' := by
  have h1 : 1 ≤ n := by omega
  refine callsIn_of_wp_marks Tryz.func276 rfl h3 ?_ hro
  simp only [Tryz.ntmps276, List.size_toArray, List.length_cons, List.length_nil, Nat.reduceAdd, Nat.reduceSub, Array.replicate_succ, Array.replicate_zero, List.push_toArray, List.append_toArray, List.nil_append, List.cons_append]
  gi_wp2
  have bO := Boxed.new w 51 (.slice none 0 0)
  have hB0 : Below w.heap.size w (w.alloc (.cells #[.slice none 0 0] 51)) := (Below.refl _ w).alloc (Nat.le_refl _) _
  refine wpIn_rangeFunc_ownG hro h1 (gf := g) (lb := lb) rfl hFg eg hseq walksK_t walksK_b hB0 (fun _ => rfl)
    (fun pre W => (∃ v, Boxed W w.heap.size 51 v ∧ W.ownsRow w.heap.size 9 1 v 0 [] ∧ v = .slice none 0 0) ∧ Below w.heap.size w W)
    (fun _ _ _ => False)
    (OwnFrom.and (Own.from (holdsRow_own w.heap.size w.heap.size 51 9 1 (fun _ : List Value => 0) (fun _ : List Value => []) (fun _ v => v = .slice none 0 0)) _) (ownFrom_below (Nat.le_refl _) (by simp)))
    (fun _ _ _ _ _ hs _ _ => hs)
    ⟨⟨_, bO, World.ownsRow_nil _ _ _ _, rfl⟩, hB0⟩
    (fun x => { tmps := #[.slice none 0 0, .func (.func g) #[] lb, .pointer (some ⟨w.heap.size, 0, none⟩), undef, .slice none 0 0, x, .func (.func g) #[] lb, x, undef, undef, undef, undef, undef], defers := [] }) ?assign ?body ?done ?stop
  case assign =>
    intro l x W K hK
    gi_wp2
    exact hK
  case body =>
    rintro l pre x W _ hlt
    omega
  case done =>
    rintro D ys W hD hS ⟨⟨v, hv, -, rfl⟩, hB⟩ hK
    have hc := hv.cell
    gi_wp2
    refine ⟨by simp, .inl ⟨_, _, rfl, run_takeDeferred hK, ?_⟩⟩
    exact ⟨_, results_tmp rfl _ _ _, rfl, hB.trans (belowK_b (w := w) (Nat.le_refl _) W D _ _ (by simp at hD; omega) hK rfl rfl)⟩
  case stop =>
    rintro D c pre W _ _ h _
    exact h.elim
theorem collectS_in (F : Fence) (n : Nat) (h3 : F.fn 228) (h4 : F.fn 276) (hro : F.round = none) (hn : 4 ≤ n) (g : Nat) (lb : Array Value) (hFg : F.fn g) (eg : ∀ args w, (callFunc g args).run Tryz.prog w = .ok (.enter g args) w)
    (w : World) (hseq : SeqStopsK F (n - 1 - 1) Tryz.prog g lb (fun x : Value => #[x]) KeepsWalks (fun ss => ss = []) (fun _ => True) 0 w) :
    CallsIn F n Tryz.prog 228 #[.func (.func g) #[] lb] w fun e W' => e = .returned (.slice none 0 0) ∧ Below w.heap.size w W' := by
  have h1 : 1 ≤ n := by omega
  refine callsIn_of_wp Tryz.func228 rfl h3 ?_ hro
  simp only [Tryz.ntmps228, List.size_toArray, List.length_cons, List.length_nil, Nat.reduceAdd, Nat.reduceSub, Array.replicate_succ, Array.replicate_zero, List.push_toArray, List.append_toArray, List.nil_append, List.cons_append]
  gi_wp2_with (gi_at_call 276; refine (appendS_in F (n - 1) h4 hro (by omega) g lb hFg eg _ hseq).mono ?_; rintro e w' ⟨rfl, hb⟩)
  go_ret
  exact ⟨rfl, hb⟩
/-- The keys of a map that has none. -/
theorem noKeys_calls (f g : Nat) (h : (f, g) = (115, 117) ∨ (f, g) = (228, 314) ∨ (f, g) = (228, 230) ∨ (f, g) = (113, 114))
    (w : World) (Bm b c : Nat) (hm : w.cell? ⟨Bm, 0, none⟩ = some (.map (some b))) (hb : w.heap[b]? = some (.map #[] c)) :
    Calls Tryz.prog f #[.func (.func g) #[] #[.pointer (some ⟨Bm, 0, none⟩)]] w fun e w' => e = .returned (.slice none 0 0) ∧ Below w.heap.size w w' := by
  rcases h with h | h | h | h <;> (injection h with h1 h2; subst h1 h2)
  · exact callsIn_wide.1 (collectU_in Fence.wide 4 trivial trivial rfl (Nat.le_refl _) _ _ trivial (enters_of Tryz.func117 (by kernel_rfl) rfl) w (keysP_stops Fence.wide 2 trivial rfl Bm b c w hm hb))
  · exact callsIn_wide.1 (collectS_in Fence.wide 4 trivial trivial rfl (Nat.le_refl _) _ _ trivial (enters_of Tryz.func314 (by kernel_rfl) rfl) w (keysF_stops Fence.wide 2 trivial rfl Bm b c w hm hb))
  · exact callsIn_wide.1 (collectS_in Fence.wide 4 trivial trivial rfl (Nat.le_refl _) _ _ trivial (enters_of Tryz.func230 (by kernel_rfl) rfl) w (keysN_stops Fence.wide 2 trivial rfl Bm b c w hm hb))
  · exact callsIn_wide.1 (collectI_in Fence.wide 4 trivial trivial rfl (Nat.le_refl _) _ _ trivial (enters_of Tryz.func114 (by kernel_rfl) rfl) w (keysC_stops Fence.wide 2 trivial rfl Bm b c w hm hb))
end Go.Proofs.YtdgjkejfmehphaaGreatDoor
