/- The keys of a map that has none, collected: nothing. -/
import Derived.RangeFuncNested
import Derived.RangeFuncBound
import Derived.RangeFuncCalls
import Derived.RangeFuncLeaves
import Derived.RangeFuncStops
import Derived.RangeFuncBox
import Derived.Shelf.Abstract
import Derived.Shelf.RegionOpen
import Derived.WalkKit
import Derived.OwnWalkIn
import Derived.TacticsInMore
import Derived.LoopNIn
import Derived.LoopIn
import Derived.Maps.AppendAt
import Derived.Sort.MapsRangeIn
import Derived.Sort.KeysCollected
import Derived.MapKept
import Derived.Test.YtpnoiagjgkajdaaGreatDoorProg
namespace Go.Proofs.YtpnoiagjgkajdaaGreatDoor
open Go.RowKit Go.Shelf Go.Maps
attribute [local go_sem] Oper.semAt_some

/-- A map without entries, as the kit's laws want it. -/
theorem owns_none {P : Program} {k : TypeId} {w : World} {m c : Nat} (h : w.heap[m]? = some (.map #[] c)) : w.ownsMap P k (fun _ => some (.nil, [])) m 0 (.map [] : DataW Unit) :=
  ⟨#[], c, h, ⟨by simp, MapKept.stamped_empty c, by simp⟩, by simp, rfl⟩
set_option maxRecDepth 100000 in
set_option maxHeartbeats 2000000 in
theorem keys1P_in (F : Fence) (n : Nat) (h10 : F.fn 234) (hro : F.round = none) (l Bm b c : Nat) (J Jx : List Value → World → Prop)
    (W : World) (hJ : AbidesFrom W.heap.size J) (hm : W.cell? ⟨Bm, 0, none⟩ = some (.map (some b))) (hb : W.heap[b]? = some (.map #[] c)) (h0 : J [] W) :
    CallsIn F n Tryz.prog 234 #[.func (.yield l) #[] #[], .pointer (some ⟨Bm, 0, none⟩)] W fun e W' => (∃ v, e = .returned v) ∧ ((∃ ss : List Value, ss = [] ∧ J ss W') ∨ (∃ pre : List Value, True ∧ Jx pre W')) := by
  have hown := owns_none (P := Tryz.prog) (k := 39) hb
  refine callsIn_of_wp Tryz.func234 rfl h10 ?_ hro
  simp only [Tryz.ntmps234, List.size_toArray, List.length_cons, List.length_nil, Nat.reduceAdd, Nat.reduceSub, Array.replicate_succ, Array.replicate_zero, List.push_toArray, List.append_toArray, List.nil_append, List.cons_append]
  gi_wp2_with (first
    | (gi_at_range; refine wpListIn_range_own _ rfl _ 275 rfl 39 270 (int_keyed Tryz.underlying39) Tryz.underlying275 _ b 0 _ rfl hown ?_; intro w0 hrg0 hg0 hs0)
    | gi_in)
  go_frame
  gi_loopw [3] (fun _ wr => ∃ (left : Lit → Bool) (cnt : Nat), wr.ranges Tryz.prog 39 (fun _ => some (.nil, [])) b W.heap.size 0 (.map [] : DataW Unit) left cnt ∧ cnt ≤ 0 ∧ J [] wr)
    (fun _ wr => wr.rangeLeft b W.heap.size)
  case atStart =>
    exact ⟨_, _, hrg0, by simp [Maps.size], hJ [] W w0 none h0 hg0 (fun r e => by cases e)⟩
  case round =>
    obtain ⟨left, cnt, hrg, hcs, hJs⟩ := hrel
    gi_wp2_with (first
      | (gi_at_next; refine wpListIn_next_ranges _ rfl _ rfl 39 (int_keyed Tryz.underlying39) (fun _ => some (.nil, [])) id id (fun key kl hk => ⟨key, rfl⟩) (fun v _ _ => ⟨v, rfl⟩) b W.heap.size 0 _ _ _ rfl hrg ?_ ?_)
      | gi_in)
    · intro hc0 hl0
      gi_wp2
      go_end0
      exact ⟨⟨_, rfl⟩, .inl ⟨[], rfl, hJs⟩⟩
    · intro x c kl yd w2 cnt2 hkey hlk hv hat hrg2 hlt
      omega
set_option maxRecDepth 100000 in
set_option maxHeartbeats 2000000 in
theorem keys1N_in (F : Fence) (n : Nat) (h10 : F.fn 261) (hro : F.round = none) (l Bm b c : Nat) (J Jx : List Value → World → Prop)
    (W : World) (hJ : AbidesFrom W.heap.size J) (hm : W.cell? ⟨Bm, 0, none⟩ = some (.map (some b))) (hb : W.heap[b]? = some (.map #[] c)) (h0 : J [] W) :
    CallsIn F n Tryz.prog 261 #[.func (.yield l) #[] #[], .pointer (some ⟨Bm, 0, none⟩)] W fun e W' => (∃ v, e = .returned v) ∧ ((∃ ss : List Value, ss = [] ∧ J ss W') ∨ (∃ pre : List Value, True ∧ Jx pre W')) := by
  have hown := owns_none (P := Tryz.prog) (k := 9) hb
  refine callsIn_of_wp Tryz.func261 rfl h10 ?_ hro
  simp only [Tryz.ntmps261, List.size_toArray, List.length_cons, List.length_nil, Nat.reduceAdd, Nat.reduceSub, Array.replicate_succ, Array.replicate_zero, List.push_toArray, List.append_toArray, List.nil_append, List.cons_append]
  gi_wp2_with (first
    | (gi_at_range; refine wpListIn_range_own _ rfl _ 116 rfl 9 39 (string_keyed Tryz.underlying9) Tryz.underlying116 _ b 0 _ rfl hown ?_; intro w0 hrg0 hg0 hs0)
    | gi_in)
  go_frame
  gi_loopw [3] (fun _ wr => ∃ (left : Lit → Bool) (cnt : Nat), wr.ranges Tryz.prog 9 (fun _ => some (.nil, [])) b W.heap.size 0 (.map [] : DataW Unit) left cnt ∧ cnt ≤ 0 ∧ J [] wr)
    (fun _ wr => wr.rangeLeft b W.heap.size)
  case atStart =>
    exact ⟨_, _, hrg0, by simp [Maps.size], hJ [] W w0 none h0 hg0 (fun r e => by cases e)⟩
  case round =>
    obtain ⟨left, cnt, hrg, hcs, hJs⟩ := hrel
    gi_wp2_with (first
      | (gi_at_next; refine wpListIn_next_ranges _ rfl _ rfl 9 (string_keyed Tryz.underlying9) (fun _ => some (.nil, [])) id id (fun key kl hk => ⟨key, rfl⟩) (fun v _ _ => ⟨v, rfl⟩) b W.heap.size 0 _ _ _ rfl hrg ?_ ?_)
      | gi_in)
    · intro hc0 hl0
      gi_wp2
      go_end0
      exact ⟨⟨_, rfl⟩, .inl ⟨[], rfl, hJs⟩⟩
    · intro x c kl yd w2 cnt2 hkey hlk hv hat hrg2 hlt
      omega
set_option maxRecDepth 100000 in
set_option maxHeartbeats 2000000 in
theorem keys1F_in (F : Fence) (n : Nat) (h10 : F.fn 316) (hro : F.round = none) (l Bm b c : Nat) (J Jx : List Value → World → Prop)
    (W : World) (hJ : AbidesFrom W.heap.size J) (hm : W.cell? ⟨Bm, 0, none⟩ = some (.map (some b))) (hb : W.heap[b]? = some (.map #[] c)) (h0 : J [] W) :
    CallsIn F n Tryz.prog 316 #[.func (.yield l) #[] #[], .pointer (some ⟨Bm, 0, none⟩)] W fun e W' => (∃ v, e = .returned v) ∧ ((∃ ss : List Value, ss = [] ∧ J ss W') ∨ (∃ pre : List Value, True ∧ Jx pre W')) := by
  have hown := owns_none (P := Tryz.prog) (k := 9) hb
  refine callsIn_of_wp Tryz.func316 rfl h10 ?_ hro
  simp only [Tryz.ntmps316, List.size_toArray, List.length_cons, List.length_nil, Nat.reduceAdd, Nat.reduceSub, Array.replicate_succ, Array.replicate_zero, List.push_toArray, List.append_toArray, List.nil_append, List.cons_append]
  gi_wp2_with (first
    | (gi_at_range; refine wpListIn_range_own _ rfl _ 148 rfl 9 341 (string_keyed Tryz.underlying9) Tryz.underlying148 _ b 0 _ rfl hown ?_; intro w0 hrg0 hg0 hs0)
    | gi_in)
  go_frame
  gi_loopw [3] (fun _ wr => ∃ (left : Lit → Bool) (cnt : Nat), wr.ranges Tryz.prog 9 (fun _ => some (.nil, [])) b W.heap.size 0 (.map [] : DataW Unit) left cnt ∧ cnt ≤ 0 ∧ J [] wr)
    (fun _ wr => wr.rangeLeft b W.heap.size)
  case atStart =>
    exact ⟨_, _, hrg0, by simp [Maps.size], hJ [] W w0 none h0 hg0 (fun r e => by cases e)⟩
  case round =>
    obtain ⟨left, cnt, hrg, hcs, hJs⟩ := hrel
    gi_wp2_with (first
      | (gi_at_next; refine wpListIn_next_ranges _ rfl _ rfl 9 (string_keyed Tryz.underlying9) (fun _ => some (.nil, [])) id id (fun key kl hk => ⟨key, rfl⟩) (fun v _ _ => ⟨v, rfl⟩) b W.heap.size 0 _ _ _ rfl hrg ?_ ?_)
      | gi_in)
    · intro hc0 hl0
      gi_wp2
      go_end0
      exact ⟨⟨_, rfl⟩, .inl ⟨[], rfl, hJs⟩⟩
    · intro x c kl yd w2 cnt2 hkey hlk hv hat hrg2 hlt
      omega
set_option maxRecDepth 100000 in
theorem keysP_stops (F : Fence) (n : Nat) (h10 : F.fn 234) (hro : F.round = none) (Bm b c : Nat) (w : World) (hm : w.cell? ⟨Bm, 0, none⟩ = some (.map (some b))) (hb : w.heap[b]? = some (.map #[] c)) :
    SeqStopsK F n Tryz.prog 234 #[.pointer (some ⟨Bm, 0, none⟩)] (fun x : Value => #[x]) KeepsWalks (fun ss => ss = []) (fun _ => True) 0 w := fun l J Jx W hW hJ _ _ h0 => by
  have hBm := World.block_lt_of_cell? _ _ hm
  have hbl : b < w.heap.size := by
    rcases Nat.lt_or_ge b w.heap.size with hlt | hge
    · exact hlt
    · rw [Array.getElem?_eq_none hge] at hb; cases hb
  exact keys1P_in F n h10 hro l Bm b c J Jx W hJ ((hW.cell (p := ⟨Bm, 0, none⟩) hBm).trans hm) ((hW.block b hbl).trans hb) h0
set_option maxRecDepth 100000 in
theorem keysN_stops (F : Fence) (n : Nat) (h10 : F.fn 261) (hro : F.round = none) (Bm b c : Nat) (w : World) (hm : w.cell? ⟨Bm, 0, none⟩ = some (.map (some b))) (hb : w.heap[b]? = some (.map #[] c)) :
    SeqStopsK F n Tryz.prog 261 #[.pointer (some ⟨Bm, 0, none⟩)] (fun x : Value => #[x]) KeepsWalks (fun ss => ss = []) (fun _ => True) 0 w := fun l J Jx W hW hJ _ _ h0 => by
  have hBm := World.block_lt_of_cell? _ _ hm
  have hbl : b < w.heap.size := by
    rcases Nat.lt_or_ge b w.heap.size with hlt | hge
    · exact hlt
    · rw [Array.getElem?_eq_none hge] at hb; cases hb
  exact keys1N_in F n h10 hro l Bm b c J Jx W hJ ((hW.cell (p := ⟨Bm, 0, none⟩) hBm).trans hm) ((hW.block b hbl).trans hb) h0
set_option maxRecDepth 100000 in
theorem keysF_stops (F : Fence) (n : Nat) (h10 : F.fn 316) (hro : F.round = none) (Bm b c : Nat) (w : World) (hm : w.cell? ⟨Bm, 0, none⟩ = some (.map (some b))) (hb : w.heap[b]? = some (.map #[] c)) :
    SeqStopsK F n Tryz.prog 316 #[.pointer (some ⟨Bm, 0, none⟩)] (fun x : Value => #[x]) KeepsWalks (fun ss => ss = []) (fun _ => True) 0 w := fun l J Jx W hW hJ _ _ h0 => by
  have hBm := World.block_lt_of_cell? _ _ hm
  have hbl : b < w.heap.size := by
    rcases Nat.lt_or_ge b w.heap.size with hlt | hge
    · exact hlt
    · rw [Array.getElem?_eq_none hge] at hb; cases hb
  exact keys1F_in F n h10 hro l Bm b c J Jx W hJ ((hW.cell (p := ⟨Bm, 0, none⟩) hBm).trans hm) ((hW.block b hbl).trans hb) h0
set_option maxRecDepth 100000 in
set_option maxHeartbeats 2000000 in
theorem appendU_in (F : Fence) (n : Nat) (h3 : F.fn 216) (hro : F.round = none) (hn : 3 ≤ n) (g : Nat) (lb : Array Value) (hFg : F.fn g) (eg : ∀ args w, (callFunc g args).run Tryz.prog w = .ok (.enter g args) w)
    (w : World) (hseq : SeqStopsK F (n - 1) Tryz.prog g lb (fun x : Value => #[x]) KeepsWalks (fun ss => ss = []) (fun _ => True) 0 w) :
    CallsIn F n Tryz.prog 216 #[.slice none 0 0, .func (.func g) #[] lb] w fun e W' => e = .returned (.slice none 0 0) ∧ Below w.heap.size w W' := by
  have h1 : 1 ≤ n := by omega
  refine callsIn_of_wp_marks Tryz.func216 rfl h3 ?_ hro
  simp only [Tryz.ntmps216, List.size_toArray, List.length_cons, List.length_nil, Nat.reduceAdd, Nat.reduceSub, Array.replicate_succ, Array.replicate_zero, List.push_toArray, List.append_toArray, List.nil_append, List.cons_append]
  gi_wp2
  have bO := Boxed.new w 122 (.slice none 0 0)
  have hB0 : Below w.heap.size w (w.alloc (.cells #[.slice none 0 0] 122)) := (Below.refl _ w).alloc (Nat.le_refl _) _
  refine wpIn_rangeFunc_ownG hro h1 (gf := g) (lb := lb) rfl hFg eg hseq walksK_t walksK_b hB0 (fun _ => rfl)
    (fun pre W => (∃ v, Boxed W w.heap.size 122 v ∧ W.ownsRow w.heap.size 39 1 v 0 [] ∧ v = .slice none 0 0) ∧ Below w.heap.size w W)
    (fun _ _ _ => False)
    (OwnFrom.and (Own.from (holdsRow_own w.heap.size w.heap.size 122 39 1 (fun _ : List Value => 0) (fun _ : List Value => []) (fun _ v => v = .slice none 0 0)) _) (ownFrom_below (Nat.le_refl _) (by simp)))
    (fun _ _ _ _ _ hs _ _ => hs)
    ⟨⟨_, bO, World.ownsRow_nil _ _ _ _, rfl⟩, hB0⟩
    (fun x => { tmps := #[.slice none 0 0, .func (.func g) #[] lb, .pointer (some ⟨w.heap.size, 0, none⟩), undef, .slice none 0 0, x, .func (.func g) #[] lb, x, undef, undef, undef, undef, undef], defers := [] }) ?assign ?body ?done ?stop
  case assign =>
    intro l x W K hK
    gi_wp2
    exact hK
  case body =>
    rintro l pre x W _ hlt
    omega
  case done =>
    rintro D ys W hD hS ⟨⟨v, hv, -, rfl⟩, hB⟩ hK
    have hc := hv.cell
    gi_wp2
    refine ⟨by simp, .inl ⟨_, _, rfl, run_takeDeferred hK, ?_⟩⟩
    exact ⟨_, results_tmp rfl _ _ _, rfl, hB.trans (belowK_b (w := w) (Nat.le_refl _) W D _ _ (by simp at hD; omega) hK rfl rfl)⟩
  case stop =>
    rintro D c pre W _ _ h _
    exact h.elim
theorem collectU_in (F : Fence) (n : Nat) (h3 : F.fn 134) (h4 : F.fn 216) (hro : F.round = none) (hn : 4 ≤ n) (g : Nat) (lb : Array Value) (hFg : F.fn g) (eg : ∀ args w, (callFunc g args).run Tryz.prog w = .ok (.enter g args) w)
    (w : World) (hseq : SeqStopsK F (n - 1 - 1) Tryz.prog g lb (fun x : Value => #[x]) KeepsWalks (fun ss => ss = []) (fun _ => True) 0 w) :
    CallsIn F n Tryz.prog 134 #[.func (.func g) #[] lb] w fun e W' => e = .returned (.slice none 0 0) ∧ Below w.heap.size w W' := by
  have h1 : 1 ≤ n := by omega
  refine callsIn_of_wp Tryz.func134 rfl h3 ?_ hro
  simp only [Tryz.ntmps134, List.size_toArray, List.length_cons, List.length_nil, Nat.reduceAdd, Nat.reduceSub, Array.replicate_succ, Array.replicate_zero, List.push_toArray, List.append_toArray, List.nil_append, List.cons_append]
  gi_wp2_with (gi_at_call 216; refine (appendU_in F (n - 1) h4 hro (by omega) g lb hFg eg _ hseq).mono ?_; rintro e w' ⟨rfl, hb⟩)
  go_ret
  exact ⟨rfl, hb⟩
set_option maxRecDepth 100000 in
set_option maxHeartbeats 2000000 in
theorem appendS_in (F : Fence) (n : Nat) (h3 : F.fn 302) (hro : F.round = none) (hn : 3 ≤ n) (g : Nat) (lb : Array Value) (hFg : F.fn g) (eg : ∀ args w, (callFunc g args).run Tryz.prog w = .ok (.enter g args) w)
    (w : World) (hseq : SeqStopsK F (n - 1) Tryz.prog g lb (fun x : Value => #[x]) KeepsWalks (fun ss => ss = []) (fun _ => True) 0 w) :
    CallsIn F n Tryz.prog 302 #[.slice none 0 0, .func (.func g) #[] lb] w fun e W' => e = .returned (.slice none 0 0) ∧ Below w.heap.size w W' := by
  have h1 : 1 ≤ n := by omega
  refine callsIn_of_wp_marks Tryz.func302 rfl h3 ?_ hro
  simp only [Tryz.ntmps302, List.size_toArray, List.length_cons, List.length_nil, Nat.reduceAdd, Nat.reduceSub, Array.replicate_succ, Array.replicate_zero, List.push_toArray, List.append_toArray, List.nil_append, List.cons_append]
  gi_wp2
  have bO := Boxed.new w 40 (.slice none 0 0)
  have hB0 : Below w.heap.size w (w.alloc (.cells #[.slice none 0 0] 40)) := (Below.refl _ w).alloc (Nat.le_refl _) _
  refine wpIn_rangeFunc_ownG hro h1 (gf := g) (lb := lb) rfl hFg eg hseq walksK_t walksK_b hB0 (fun _ => rfl)
    (fun pre W => (∃ v, Boxed W w.heap.size 40 v ∧ W.ownsRow w.heap.size 9 1 v 0 [] ∧ v = .slice none 0 0) ∧ Below w.heap.size w W)
    (fun _ _ _ => False)
    (OwnFrom.and (Own.from (holdsRow_own w.heap.size w.heap.size 40 9 1 (fun _ : List Value => 0) (fun _ : List Value => []) (fun _ v => v = .slice none 0 0)) _) (ownFrom_below (Nat.le_refl _) (by simp)))
    (fun _ _ _ _ _ hs _ _ => hs)
    ⟨⟨_, bO, World.ownsRow_nil _ _ _ _, rfl⟩, hB0⟩
    (fun x => { tmps := #[.slice none 0 0, .func (.func g) #[] lb, .pointer (some ⟨w.heap.size, 0, none⟩), undef, .slice none 0 0, x, .func (.func g) #[] lb, x, undef, undef, undef, undef, undef], defers := [] }) ?assign ?body ?done ?stop
  case assign =>
    intro l x W K hK
    gi_wp2
    exact hK
  case body =>
    rintro l pre x W _ hlt
    omega
  case done =>
    rintro D ys W hD hS ⟨⟨v, hv, -, rfl⟩, hB⟩ hK
    have hc := hv.cell
    gi_wp2
    refine ⟨by simp, .inl ⟨_, _, rfl, run_takeDeferred hK, ?_⟩⟩
    exact ⟨_, results_tmp rfl _ _ _, rfl, hB.trans (belowK_b (w := w) (Nat.le_refl _) W D _ _ (by simp at hD; omega) hK rfl rfl)⟩
  case stop =>
    rintro D c pre W _ _ h _
    exact h.elim
theorem collectS_in (F : Fence) (n : Nat) (h3 : F.fn 259) (h4 : F.fn 302) (hro : F.round = none) (hn : 4 ≤ n) (g : Nat) (lb : Array Value) (hFg : F.fn g) (eg : ∀ args w, (callFunc g args).run Tryz.prog w = .ok (.enter g args) w)
    (w : World) (hseq : SeqStopsK F (n - 1 - 1) Tryz.prog g lb (fun x : Value => #[x]) KeepsWalks (fun ss => ss = []) (fun _ => True) 0 w) :
    CallsIn F n Tryz.prog 259 #[.func (.func g) #[] lb] w fun e W' => e = .returned (.slice none 0 0) ∧ Below w.heap.size w W' := by
  have h1 : 1 ≤ n := by omega
  refine callsIn_of_wp Tryz.func259 rfl h3 ?_ hro
  simp only [Tryz.ntmps259, List.size_toArray, List.length_cons, List.length_nil, Nat.reduceAdd, Nat.reduceSub, Array.replicate_succ, Array.replicate_zero, List.push_toArray, List.append_toArray, List.nil_append, List.cons_append]
  gi_wp2_with (gi_at_call 302; refine (appendS_in F (n - 1) h4 hro (by omega) g lb hFg eg _ hseq).mono ?_; rintro e w' ⟨rfl, hb⟩)
  go_ret
  exact ⟨rfl, hb⟩
/-- The keys of a map that has none. -/
theorem noKeys_calls (f g : Nat) (h : (f, g) = (134, 234) ∨ (f, g) = (259, 316) ∨ (f, g) = (259, 261))
    (w : World) (Bm b c : Nat) (hm : w.cell? ⟨Bm, 0, none⟩ = some (.map (some b))) (hb : w.heap[b]? = some (.map #[] c)) :
    Calls Tryz.prog f #[.func (.func g) #[] #[.pointer (some ⟨Bm, 0, none⟩)]] w fun e w' => e = .returned (.slice none 0 0) ∧ Below w.heap.size w w' := by
  rcases h with h | h | h <;> (injection h with h1 h2; subst h1 h2)
  · exact callsIn_wide.1 (collectU_in Fence.wide 4 trivial trivial rfl (Nat.le_refl _) _ _ trivial (enters_of Tryz.func234 (by kernel_rfl) rfl) w (keysP_stops Fence.wide 2 trivial rfl Bm b c w hm hb))
  · exact callsIn_wide.1 (collectS_in Fence.wide 4 trivial trivial rfl (Nat.le_refl _) _ _ trivial (enters_of Tryz.func316 (by kernel_rfl) rfl) w (keysF_stops Fence.wide 2 trivial rfl Bm b c w hm hb))
  · exact callsIn_wide.1 (collectS_in Fence.wide 4 trivial trivial rfl (Nat.le_refl _) _ _ trivial (enters_of Tryz.func261 (by kernel_rfl) rfl) w (keysN_stops Fence.wide 2 trivial rfl Bm b c w hm hb))
end Go.Proofs.YtpnoiagjgkajdaaGreatDoor
