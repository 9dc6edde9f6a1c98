/- A map's keys that are whole numbers of 64 bits: they come, each once; they are collected. -/
import Derived.RangeFuncNested
import Derived.RangeFuncBound
import Derived.RangeFuncCalls
import Derived.RangeFuncLeaves
import Derived.RangeFuncStops
import Derived.RangeFuncBox
import Derived.Shelf.Abstract
import Derived.Shelf.RegionOpen
import Derived.WalkKit
import Derived.OwnWalkIn
import Derived.TacticsInMore
import Derived.LoopNIn
import Derived.LoopIn
import Derived.Maps.AppendAt
import Derived.Sort.MapsRangeIn
import Derived.Sort.KeysCollected
import Derived.Test.YtkplffkchanipaaGreatDoorMapN
import Derived.Test.YtkplffkchanipaaGreatDoorProg
import Derived.Test.YtkplffkchanipaaGreatDoorUSortC
import Derived.Test.YtkplffkchanipaaGreatDoorRising
namespace Go.Proofs.YtkplffkchanipaaGreatDoor
open Go.RowKit Go.Shelf Go.Maps
attribute [local go_sem] Oper.semAt_some

/-- A number of 64 bits as a value. -/
abbrev encW : Int → Value := Value.int .u64
/-- What has come: no key twice; a key has come if the map has it and it isn't still to come. -/
def CollectedW {H : Type} (D0 : DataW H) (left : Lit → Bool) (ss : List Int) : Prop := ss.Nodup ∧ ∀ x, x ∈ ss ↔ (Maps.has D0 (.int .u64 x) = true ∧ left (.int .u64 x) = false)
theorem keyOf_w {P : Program} {k : TypeId} (hk : P.underlying k = some (.int .u64)) {key : Value} {kl : Lit} (h : keyOf P k key = some kl) : ∃ x : Int, key = encW x ∧ kl = .int .u64 x := by
  cases key <;> simp [keyOf, hk, mapKey] at h
  rename_i q a
  obtain ⟨⟨rfl, -⟩, rfl⟩ := h
  exact ⟨a, rfl, rfl⟩
section
variable {H : Type} {D0 : DataW H} {left : Lit → Bool} {ss : List Int}
theorem CollectedW.start (D0 : DataW H) : CollectedW D0 (Maps.has D0) [] := ⟨List.nodup_nil, fun x => by cases Maps.has D0 (.int .u64 x) <;> simp⟩
theorem CollectedW.step (h : CollectedW D0 left ss) {x : Int} {y : DataW H} (hlk : left (.int .u64 x) = true) (hat : ∀ zd, D0.atKey (.int .u64 x) zd = y) : CollectedW D0 (fun z => left z && !z.sameKey (.int .u64 x)) (ss ++ [x]) := by
  have hhas : Maps.has D0 (.int .u64 x) = true := Maps.has_true_of_atKey hat
  have hnew : x ∉ ss := fun hx => by
    have := ((h.2 x).1 hx).2
    rw [hlk] at this
    cases this
  refine ⟨List.nodup_append.2 ⟨h.1, by simp, ?_⟩, fun y => ?_⟩
  · intro a ha b hb e
    simp at hb
    subst hb
    exact hnew (e ▸ ha)
  · by_cases hy : y = x
    · subst hy
      simp [hhas, Lit.sameKey]
    · simp [h.2 y, hy, Lit.sameKey]
end
theorem insert_permW {H : Type} (x : Lit × DataW H) : ∀ l, (DataW.insert x l).Perm (x :: l)
  | [] => List.Perm.refl _
  | y :: r => by
    unfold DataW.insert
    split
    · exact List.Perm.refl _
    · exact ((insert_permW x r).cons y).trans (List.Perm.swap x y r)
theorem foldr_permW {H : Type} : ∀ l : List (Lit × DataW H), (l.foldr DataW.insert []).Perm l
  | [] => List.Perm.refl _
  | x :: l => (insert_permW x _).trans ((foldr_permW l).cons x)
/-- A map that holds these keys, as the kit's laws want it. -/
theorem MapN.owns {P : Program} {k : TypeId} {w : World} {m : Nat} {L : List (Int × Value)} (h : MapN .u64 w m L) (hP : P.underlying k = some (.int .u64)) (hn : L.length ≤ maxLen) (hk : ∀ p ∈ L, (Lit.int .u64 p.1).wf = true) :
    ∃ D0 : DataW Unit, w.ownsMap P k (fun _ => some (.nil, [])) m L.length D0 ∧ (∀ x, Maps.has D0 (.int .u64 x) = true ↔ x ∈ L.map (·.1)) ∧ Maps.size D0 = L.length := by
  obtain ⟨es, c, hb, hes, hst⟩ := h
  have hlen : es.size = L.length := by
    have := congrArg List.length hes
    simpa using this
  have hrd : ∀ (l : List MapEntry) (M : List (Int × Value)), (∀ p ∈ M, (Lit.int .u64 p.1).wf = true) → l.map (fun e => (e.key, e.val)) = M.map (fun p => (Value.int .u64 p.1, p.2)) →
      (∀ x ∈ l, ∃ y, WideElems.rd P k (fun _ => some (DataW.nil (H := Unit), [])) x = some y) ∧ (l.map (WideElems.rg P k (fun _ => some (DataW.nil (H := Unit), [])))) = M.map (fun p => (Lit.int .u64 p.1, DataW.nil)) := by
    intro l
    induction l with
    | nil => intro M _ h; cases M with
      | nil => exact ⟨by simp, rfl⟩
      | cons => simp at h
    | cons x l ih =>
      intro M hM h
      cases M with
      | nil => simp at h
      | cons p M =>
        simp only [List.map_cons, List.cons.injEq, Prod.mk.injEq] at h
        obtain ⟨i1, i2⟩ := ih M (fun q hq => hM q (by simp [hq])) h.2
        have hp := hM p (by simp)
        have hx : WideElems.rd P k (fun _ => some (DataW.nil (H := Unit), [])) x = some (.int .u64 p.1, .nil) := by
          simp [WideElems.rd, h.1.1, keyOf, hP, mapKey, hp]
        refine ⟨fun y hy => ?_, ?_⟩
        · rcases List.mem_cons.1 hy with rfl | hy
          · exact ⟨_, hx⟩
          · exact i1 y hy
        · simp only [List.map_cons, i2, WideElems.rg_of hx]
  obtain ⟨r1, r2⟩ := hrd es.toList L hk hes
  have hper := foldr_permW (es.toList.map (WideElems.rg P k (fun _ => some (DataW.nil (H := Unit), []))))
  refine ⟨_, ⟨es, c, hb, ⟨by omega, hst, r1⟩, by omega, rfl⟩, ?_, ?_⟩
  · intro x
    rw [Maps.has_eq, List.any_eq_true]
    constructor
    · rintro ⟨p, hp, hs⟩
      have hp2 := hper.mem_iff.1 hp
      rw [r2] at hp2
      obtain ⟨q, hq, rfl⟩ := List.mem_map.1 hp2
      have hqx : q.1 = x := by simpa [Lit.sameKey] using hs
      exact List.mem_map.2 ⟨q, hq, hqx⟩
    · intro hx
      obtain ⟨q, hq, rfl⟩ := List.mem_map.1 hx
      refine ⟨(Lit.int .u64 q.1, DataW.nil), hper.mem_iff.2 ?_, by simp [Lit.sameKey]⟩
      rw [r2]
      exact List.mem_map.2 ⟨q, hq, rfl⟩
  · simp only [Maps.size, hper.length_eq, List.length_map]
    simpa using hlen

set_option maxRecDepth 100000 in
set_option maxHeartbeats 2000000 in
/-- The iterator: whatever a loop's body does, so it keeps its word. -/
theorem keys1W_in {H : Type} (F : Fence) (n : Nat) (h10 : F.fn 84) (hro : F.round = none) (hn : 1 ≤ n) (l Bm b nn : Nat) (D0 : DataW H) {R : Value → Option (DataW H × List MemPlace)} (J Jx : List Int → World → Prop)
    (hY : ∀ pre x W, J pre W → pre.length < Maps.size D0 → YieldAt F (n - 1) Tryz.prog l #[encW x] W fun e W' =>
      (e = .returned (.bool true) ∧ J (pre ++ [x]) W' ∧ KeepsWalks W W') ∨ (e = .returned (.bool false) ∧ Jx (pre ++ [x]) W'))
    (W : World) (hJ : AbidesFrom W.heap.size J) (hm : W.cell? ⟨Bm, 0, none⟩ = some (.map (some b))) (hown : W.ownsMap Tryz.prog 30 R b nn D0) (h0 : J [] W) :
    CallsIn F n Tryz.prog 84 #[.func (.yield l) #[] #[], .pointer (some ⟨Bm, 0, none⟩)] W fun e W' => (∃ v, e = .returned v) ∧
      ((∃ ss : List Int, (ss.Nodup ∧ ∀ x, x ∈ ss ↔ Maps.has D0 (.int .u64 x) = true) ∧ J ss W') ∨ (∃ pre : List Int, pre.Nodup ∧ Jx pre W')) := by
  refine callsIn_of_wp Tryz.func84 rfl h10 ?_ hro
  simp only [Tryz.ntmps84, List.size_toArray, List.length_cons, List.length_nil, Nat.reduceAdd, Nat.reduceSub, Array.replicate_succ, Array.replicate_zero, List.push_toArray, List.append_toArray, List.nil_append, List.cons_append]
  gi_wp2_with (first
    | (gi_at_range; refine wpListIn_range_own _ rfl _ 92 rfl 30 101 (int_keyed Tryz.underlying30) Tryz.underlying92 _ b nn _ rfl hown ?_; intro w0 hrg0 hg0 hs0)
    | gi_in)
  go_frame
  gi_loopw [3] (fun _ wr => ∃ (left : Lit → Bool) (cnt : Nat) (ss : List Int), wr.ranges Tryz.prog 30 R b W.heap.size nn D0 left cnt ∧ ss.length + cnt ≤ Maps.size D0 ∧ CollectedW D0 left ss ∧ J ss wr)
    (fun _ wr => wr.rangeLeft b W.heap.size)
  case atStart =>
    exact ⟨_, _, [], hrg0, by simp, CollectedW.start D0, hJ [] W w0 none h0 hg0 (fun r e => by cases e)⟩
  case round =>
    obtain ⟨left, cnt, ss, hrg, hcs, hC, hJs⟩ := hrel
    gi_wp2_with (first
      | (gi_at_next; refine wpListIn_next_ranges _ rfl _ rfl 30 (int_keyed Tryz.underlying30) R encW id (fun key kl hk => by obtain ⟨x, hx, _⟩ := keyOf_w Tryz.underlying30 hk; exact ⟨x, hx⟩) (fun v _ _ => ⟨v, rfl⟩) b W.heap.size nn _ _ _ rfl hrg ?_ ?_)
      | gi_in)
    · intro hc0 hl0
      gi_wp2
      go_end0
      exact ⟨⟨_, rfl⟩, .inl ⟨ss, ⟨hC.1, fun x => by rw [hC.2 x, hl0]; simp⟩, hJs⟩⟩
    · intro x c kl yd yp w2 cnt2 hkey hlk hv hat hrg2 hlt hg2 hs2 hen
      obtain ⟨x', ex, rfl⟩ := keyOf_w Tryz.underlying30 hkey
      obtain rfl : x = x' := by simpa [encW] using ex
      have hJ2 : J ss w2 := hJ ss wr w2 (some W.heap.size) hJs hg2 (fun r e => by cases e; exact ⟨Nat.le_refl _, hrg.iter_walk⟩)
      obtain ⟨fn, tmps, assign, body, hy, hR⟩ := hY ss x w2 hJ2 (by omega)
      clear hs2
      gi_wp2
      refine hR.mono ?_
      have hC2 := hC.step hlk hat
      rintro e W3 (⟨rfl, hJ3, hk3⟩ | ⟨rfl, hJx3⟩)
      · gi_wp2
        have hrg3 := hrg2.of_walks hk3
        go_roundw
        case rel => exact ⟨_, cnt2, ss ++ [x], hrg3, by simp; omega, hC2, hJ3⟩
        case measure => rw [hrg3.left_eq, hrg.left_eq]; exact hlt
      · gi_wp2
        refine bodyPost_ret (results_none rfl _ _ _) rfl ?_
        exact ⟨⟨_, rfl⟩, .inr ⟨ss ++ [x], hC2.1, hJx3⟩⟩

end Go.Proofs.YtkplffkchanipaaGreatDoor
/- A map's keys that are whole numbers of 64 bits, collected and sorted: slices.Sorted(maps.Keys(m)). -/
namespace Go.Proofs.YtkplffkchanipaaGreatDoor
open Go.RowKit Go.Shelf Go.Maps
attribute [local go_sem] Oper.semAt_some

theorem keysW_stops {H : Type} (F : Fence) (n : Nat) (h10 : F.fn 84) (hro : F.round = none) (hn : 1 ≤ n) (Bm b nn : Nat) (D0 : DataW H) {R : Value → Option (DataW H × List MemPlace)} (w : World) (hBm : Bm < w.heap.size)
    (hm : w.cell? ⟨Bm, 0, none⟩ = some (.map (some b))) (hown : w.ownsMap Tryz.prog 30 R b nn D0) :
    SeqStopsK F n Tryz.prog 84 #[.pointer (some ⟨Bm, 0, none⟩)] (fun x : Int => #[encW x]) KeepsWalks (fun ss => ss.Nodup ∧ ∀ x, x ∈ ss ↔ Maps.has D0 (.int .u64 x) = true) (fun pre => pre.Nodup) (Maps.size D0) w := fun l J Jx W hW hJ _ hY h0 => by
  have hown' : W.ownsMap Tryz.prog 30 R b nn D0 := by
    have hbl := hown.lt
    obtain ⟨es, clock, hb, Ft, hs, hD⟩ := hown
    exact ⟨es, clock, (hW.block b hbl).trans hb, Ft, hs, hD⟩
  exact keys1W_in F n h10 hro hn l Bm b nn D0 J Jx hY W hJ ((hW.cell (p := ⟨Bm, 0, none⟩) hBm).trans hm) hown' h0
theorem mapKeysW_calls (mb : Option Nat) (w : World) : Calls Tryz.prog 58 #[.map mb] w fun e w' => e = .returned (.func (.func 84) #[] #[.pointer (some ⟨w.heap.size, 0, none⟩)]) ∧ w' = w.alloc (.cells #[.map mb] 92) := by
  go_enter Tryz.func58, Tryz.ntmps58
  go_wp2
  go_ret
  exact ⟨rfl, rfl⟩
theorem infoW : (Tryz.prog.info? 30).map (fun i => (i.zero, i.size, i.bytes)) = some (some (.int .u64 0), 1, 8) := by kernel_rfl

set_option maxRecDepth 100000 in
set_option maxHeartbeats 2000000 in
theorem appendW_in (F : Fence) (n : Nat) (h3 : F.fn 111) (hro : F.round = none) (hn : 3 ≤ n) (g : Nat) (lb : Array Value) (hFg : F.fn g) (eg : ∀ args w, (callFunc g args).run Tryz.prog w = .ok (.enter g args) w)
    (S Sp : List Int → Prop) (N : Nat) (hN : N ≤ maxLen) (hNb : N * 8 ≤ 140737488355328) (w : World) (hseq : SeqStopsK F (n - 1) Tryz.prog g lb (fun x : Int => #[encW x]) KeepsWalks S Sp N w) :
    CallsIn F n Tryz.prog 111 #[.slice none 0 0, .func (.func g) #[] lb] w fun e W' => ∃ (v : Value) (ss : List Int), e = .returned v ∧ S ss ∧ W'.ownsRow w.heap.size 30 1 v ss.length (ss.map encW) ∧ Below w.heap.size w W' := by
  have h1 : 1 ≤ n := by omega
  obtain ⟨i0, hi, hz0, hz1, hz2⟩ := info_parts infoW
  refine callsIn_of_wp_marks Tryz.func111 rfl h3 ?_ hro
  simp only [Tryz.ntmps111, List.size_toArray, List.length_cons, List.length_nil, Nat.reduceAdd, Nat.reduceSub, Array.replicate_succ, Array.replicate_zero, List.push_toArray, List.append_toArray, List.nil_append, List.cons_append]
  gi_wp2
  have bO := Boxed.new w 50 (.slice none 0 0)
  have hB0 : Below w.heap.size w (w.alloc (.cells #[.slice none 0 0] 50)) := (Below.refl _ w).alloc (Nat.le_refl _) _
  refine wpIn_rangeFunc_ownG hro h1 (gf := g) (lb := lb) rfl hFg eg hseq walksK_t walksK_b hB0 (fun _ => rfl)
    (fun pre W => (∃ v, Boxed W w.heap.size 50 v ∧ W.ownsRow w.heap.size 30 1 v pre.length (pre.map encW) ∧ True) ∧ Below w.heap.size w W)
    (fun _ _ _ => False)
    (OwnFrom.and (Own.from (holdsRow_own w.heap.size w.heap.size 50 30 1 (fun pre : List Int => pre.length) (fun pre : List Int => pre.map encW) (fun _ _ => True)) _) (ownFrom_below (Nat.le_refl _) (by simp)))
    (fun _ _ _ _ _ hs _ _ => hs)
    ⟨⟨_, bO, World.ownsRow_nil _ _ _ _, trivial⟩, hB0⟩
    (fun x => { tmps := #[.slice none 0 0, .func (.func g) #[] lb, .pointer (some ⟨w.heap.size, 0, none⟩), undef, .slice none 0 0, .int .u64 x, .func (.func g) #[] lb, .int .u64 x, undef, undef, undef, undef, undef], defers := [] }) ?assign ?body ?done ?stop
  case assign =>
    intro l x W K hK
    gi_wp2
    exact hK
  case body =>
    rintro l pre x W ⟨⟨v, hv, hrow, -⟩, hB⟩ hlt
    have hc := hv.cell
    gi_wp2_with (gi_at_builtin; refine wpListIn_append_own _ rfl _ _ 50 rfl w.heap.size 30 i0 (.int .u64 0) 1 8 Tryz.underlying50 hi hz0 hz1 hz2 rfl (by decide) _ _ _ rfl (hrow.alloc _) ⟨W.heap.size, 0, none⟩ 1 1 [.int .u64 x] rfl rfl (cell_one_new _ _ _) (by simp [Value.oneCell']) (by omega) (by omega) (by have := hB.size; simp; omega) ?_; intro v' w1 hown' hgrow _; obtain ⟨g', cap', rfl⟩ := ownsRow_succ hown'; obtain ⟨hv1, hv2, hr2, hk2, hb2⟩ := hv.appended (by decide) hrow hB.size (Nat.le_refl _) hown' hgrow; have hc1 := hv1.cell; have hf1 := hv1.frozen)
    exact ⟨hk2.from _, hk2.walks, ⟨_, hv2, by simpa using hr2, trivial⟩, hB.trans hb2⟩
  case done =>
    rintro D ys W hD hS ⟨⟨v, hv, hrow, -⟩, hB⟩ hK
    have hc := hv.cell
    gi_wp2
    refine ⟨by simp, .inl ⟨_, _, rfl, run_takeDeferred hK, ?_⟩⟩
    exact ⟨_, results_tmp rfl _ _ _, v, ys, rfl, hS, ownsRow_putObj hrow _ hK rfl, hB.trans (belowK_b (w := w) (Nat.le_refl _) W D _ _ (by simp at hD; omega) hK rfl rfl)⟩
  case stop =>
    rintro D c pre W _ _ h _
    exact h.elim

theorem collectW_in (F : Fence) (n : Nat) (h3 : F.fn 82) (h4 : F.fn 111) (hro : F.round = none) (hn : 4 ≤ n) (g : Nat) (lb : Array Value) (hFg : F.fn g) (eg : ∀ args w, (callFunc g args).run Tryz.prog w = .ok (.enter g args) w)
    (S Sp : List Int → Prop) (N : Nat) (hN : N ≤ maxLen) (hNb : N * 8 ≤ 140737488355328) (w : World) (hseq : SeqStopsK F (n - 1 - 1) Tryz.prog g lb (fun x : Int => #[encW x]) KeepsWalks S Sp N w) :
    CallsIn F n Tryz.prog 82 #[.func (.func g) #[] lb] w fun e W' => ∃ (v : Value) (ss : List Int), e = .returned v ∧ S ss ∧ W'.ownsRow w.heap.size 30 1 v ss.length (ss.map encW) ∧ Below w.heap.size w W' := by
  have h1 : 1 ≤ n := by omega
  refine callsIn_of_wp Tryz.func82 rfl h3 ?_ hro
  simp only [Tryz.ntmps82, List.size_toArray, List.length_cons, List.length_nil, Nat.reduceAdd, Nat.reduceSub, Array.replicate_succ, Array.replicate_zero, List.push_toArray, List.append_toArray, List.nil_append, List.cons_append]
  gi_wp2_with (gi_at_call 111; refine (appendW_in F (n - 1) h4 hro (by omega) g lb hFg eg S Sp N hN hNb _ hseq).mono ?_; rintro e w' ⟨v, ss, rfl, hS, hrow, hb⟩)
  go_ret
  exact ⟨v, ss, rfl, hS, hrow, hb⟩

theorem insSort_none (v : Value) (w : World) : Calls Tryz.prog 133 #[v, .int .i64 0, .int .i64 0] w fun e w' => e = .returned (.tuple #[]) ∧ w = w' := by
  go_enter Tryz.func133, Tryz.ntmps133
  go_wp2
  go_loop [6] (fun vi => vi = .int .i64 1) (fun _ => 0)
  case atStart => rfl
  case round =>
    subst hrel
    go_wp2
    go_end0
    exact ⟨rfl, rfl⟩
theorem pdq_none (v : Value) (lim : Int) (w : World) : Calls Tryz.prog 112 #[v, .int .i64 0, .int .i64 0, .int .i64 lim] w fun e w' => e = .returned (.tuple #[]) ∧ w = w' := by
  go_enter Tryz.func112, Tryz.ntmps112
  go_wp2_with fail
  go_loop [1, 2] (fun va vb => va = .int .i64 0 ∧ vb = .int .i64 0) (fun _ _ => 0)
  case atStart => exact ⟨rfl, rfl⟩
  case round =>
    obtain ⟨rfl, rfl⟩ := hrel
    go_wp2_with (go_at_call 133; refine (insSort_none _ _).mono ?_; rintro e w2 ⟨rfl, rfl⟩)
    refine bodyPost_ret (results_none rfl _ _ _) rfl ?_
    exact ⟨rfl, rfl⟩
theorem sort_none (A : Option Addr) (c : Nat) (w : World) : Calls Tryz.prog 83 #[.slice A 0 c] w fun e w' => e = .returned (.tuple #[]) ∧ w = w' := by
  have T := Lib.hid (Tryz.bits_Len 0 w (by omega) (by omega))
  go_enter Tryz.func83, Tryz.ntmps83
  go_wp2_with (first
    | (go_at_call 113; refine T.out.mono ?_; rintro e w2 ⟨rfl, rfl⟩)
    | (go_at_call 112; refine (pdq_none _ _ _).mono ?_; rintro e w3 ⟨rfl, rfl⟩))
  go_end0
  exact ⟨rfl, rfl⟩
theorem bitLenAux_small : ∀ (f x : Nat), Lib.bitLenAux f x ≤ f
  | 0, _ => Nat.le_refl _
  | f + 1, x => by
    unfold Lib.bitLenAux
    split
    · omega
    · have := bitLenAux_small f (x / 2)
      omega
theorem sort_calls (w : World) (g n c : Nat) (d : Array Int) (hs : d.size = n) (hd : UAt w g d) (hn : n ≤ 1000000000000) :
    Calls Tryz.prog 83 #[.slice (some ⟨g, 0, none⟩) n c] w fun e w' => e = .returned (.tuple #[]) ∧ SortedTo w w' g n 0 n d := by
  have T := Lib.hid (Tryz.bits_Len (n : Int) w (by omega) (by omega))
  have hb : Lib.bitLen n ≤ 64 := bitLenAux_small 64 n
  have T2 := Lib.hid (fun lim hlim => pdq_calls g n c hn n w 0 n lim d (by omega) hs hd (by omega) (Nat.le_refl _) hlim (.inl rfl))
  clear hd hs
  go_enter Tryz.func83, Tryz.ntmps83
  go_wp2_with (first
    | (go_at_call 113; refine T.out.mono ?_; rintro e w2 ⟨rfl, rfl⟩; rw [Int.toNat_natCast])
    | (go_at_call 112; refine (T2.out _ (by omega)).mono ?_; rintro e w3 ⟨rfl, h3⟩; have H3 := Lib.hid h3; clear h3))
  go_end0
  exact ⟨rfl, H3.out⟩

/-- A slice value reads as these numbers of 64 bits. -/
def NumsAt (w : World) (v : Value) (l : List Int) : Prop := ∃ A c, v = .slice A l.length c ∧ (l ≠ [] → ∃ g, A = some ⟨g, 0, none⟩ ∧ ∀ j (hj : j < l.length), w.cell? ⟨g, j, none⟩ = some (.int .u64 l[j]))
theorem NumsAt.keep {w w' : World} {v : Value} {l : List Int} (h : NumsAt w v l) (hk : Keep [] w w') : NumsAt w' v l := by
  obtain ⟨A, c, rfl, h⟩ := h
  refine ⟨A, c, rfl, fun hne => ?_⟩
  obtain ⟨g, rfl, h2⟩ := h hne
  refine ⟨g, rfl, fun j hj => ?_⟩
  have h1 := h2 j hj
  exact (hk.cell (World.block_lt_of_cell? _ _ h1) (by simp)).trans h1

theorem owns_nums {w : World} {B : Nat} {v : Value} {l : List Int} (h : w.ownsRow B 30 1 v l.length (l.map encW)) : (v = .slice none 0 0 ∧ l = []) ∨ ∃ g c, v = .slice (some ⟨g, 0, none⟩) l.length c ∧ B ≤ g ∧ UAt w g l.toArray := by
  rcases h.2 with ⟨rfl, h0⟩ | ⟨g, cap, cur, rfl, hB, hh, _, _, _, h6⟩
  · exact .inl ⟨rfl, List.length_eq_zero_iff.1 h0⟩
  · refine .inr ⟨g, _, rfl, hB, fun j hj => ⟨?_, ?_⟩⟩
    · have hj' : j < l.length := by simpa using hj
      rw [cell_of_row w g _ cur _ _ hh]
      have h7 : (l.map encW)[j]? = some (.int .u64 l[j]) := by simp [hj', encW]
      rw [← h6, List.getElem?_take] at h7
      split at h7
      · simp only [Array.getElem?_toList] at h7
        rw [h7]
        simp [hj']
      · cases h7
    · simp [World.frozen?, hh]
theorem rising_of {n : Nat} {l : List Int} {d' : Array Int} (hn : l.length = n) (hp : Sort.PermIn 0 n l.toArray d') (hs : Sort.SortedIn Sort.ltInt 0 n d') : d'.toList = rising l := by
  subst hn
  have h := Sort.sorted_unique_holds (lt := Sort.ltInt) Sort.swo_ltInt (fun x y h1 h2 => by have := lt_false.1 h1; have := lt_false.1 h2; omega) l.toArray d' (by simpa using hp) (by simpa using hs)
  rw [h]
  unfold rising
  congr 1
  funext x y
  simp only [Sort.ltInt]
  by_cases hxy : y < x
  · simp [hxy]
  · simp [hxy]; omega
theorem nums_nil (w : World) : NumsAt w (.slice none 0 0) (rising []) := by
  have h : rising [] = [] := List.length_eq_zero_iff.1 (rising_len [])
  rw [h]
  exact ⟨none, 0, rfl, fun h => absurd rfl h⟩
theorem UAt.nums {w : World} {g c : Nat} {d : Array Int} (h : UAt w g d) : NumsAt w (.slice (some ⟨g, 0, none⟩) d.toList.length c) d.toList :=
  ⟨_, c, rfl, fun _ => ⟨g, rfl, fun j hj => by
    have hj' : j < d.size := by simpa using hj
    rw [(h j hj').1]
    simp [hj']⟩⟩

set_option maxRecDepth 100000 in
set_option maxHeartbeats 1000000 in
/-- slices.Sorted over an iterator's value: what comes, rising. -/
theorem sortedW_calls (g : Nat) (lb : Array Value) (eg : ∀ args w, (callFunc g args).run Tryz.prog w = .ok (.enter g args) w) (S Sp : List Int → Prop) (N : Nat) (hN : N ≤ 1000000000) (hS : ∀ l, S l → l.length ≤ 1000000000) (w : World) (hseq : SeqStopsK Fence.wide 2 Tryz.prog g lb (fun x : Int => #[encW x]) KeepsWalks S Sp N w) :
    Calls Tryz.prog 57 #[.func (.func g) #[] lb] w fun e w' => ∃ v l, e = .returned v ∧ S l ∧ NumsAt w' v (rising l) ∧ Keep [] w w' := by
  have T1 := Lib.hid (callsIn_wide.1 (collectW_in Fence.wide 4 trivial trivial rfl (Nat.le_refl _) g lb trivial eg S Sp N (by unfold maxLen; omega) (by omega) w hseq))
  clear hseq
  go_enter Tryz.func57, Tryz.ntmps57
  go_wp2_with fail
  go_at_call 82
  refine T1.out.mono ?_
  rintro e w1 ⟨v, l, rfl, hSl, hrow, hb⟩
  have HB := Lib.hid hb
  have HSL := Lib.hid hSl
  have hll := hS l hSl
  rcases owns_nums hrow with ⟨rfl, rfl⟩ | ⟨h, c, rfl, hB, hU⟩
  · clear hrow hb hSl T1
    go_wp2_with (go_at_call 83; refine (sort_none _ _ _).mono ?_; rintro e w2 ⟨rfl, rfl⟩)
    go_ret
    exact ⟨_, [], rfl, HSL.out, nums_nil _, Keep.of_below HB.out⟩
  · have T2 := Lib.hid (sort_calls w1 h l.length c l.toArray (by simp) hU (by omega))
    clear hrow hb hSl T1 hU
    go_wp2_with (go_at_call 83; refine T2.out.mono ?_; rintro e w2 ⟨rfl, h2⟩; have H2 := Lib.hid h2; clear h2)
    go_ret
    obtain ⟨d', hz, hp, hso, hu⟩ := H2.out
    have hr := rising_of rfl hp hso
    refine ⟨_, l, rfl, HSL.out, ?_, (Keep.of_below HB.out).trans' hu.keep (fun x hx => .inr (by simp at hx; omega))⟩
    have := hu.at_.nums (c := c)
    rw [hr, rising_len] at this
    exact this

theorem rising_perm {l l' : List Int} (h : l.Perm l') : rising l = rising l' := by
  have tr : ∀ a b c : Int, decide (a ≤ b) = true → decide (b ≤ c) = true → decide (a ≤ c) = true := fun a b c h1 h2 => by simp only [decide_eq_true_eq] at *; omega
  have tot : ∀ a b : Int, (decide (a ≤ b) || decide (b ≤ a)) = true := fun a b => by simp only [Bool.or_eq_true, decide_eq_true_eq]; omega
  refine List.Perm.eq_of_pairwise (le := fun a b => decide (a ≤ b) = true) (fun a b _ _ h1 h2 => ?_) (List.pairwise_mergeSort tr tot l) (List.pairwise_mergeSort tr tot l') (((List.mergeSort_perm l _).trans h).trans (List.mergeSort_perm l' _).symm)
  simp only [decide_eq_true_eq] at h1 h2
  omega
/-- slices.Sorted(maps.Keys(m)): the keys, rising. -/
theorem sortedKeysW_calls {w : World} {m : Nat} {L : List (Int × Value)} (h : MapN .u64 w m L) (hn : L.length ≤ 1000000000) (hk : ∀ p ∈ L, (Lit.int .u64 p.1).wf = true) (hnd : (L.map (·.1)).Nodup) :
    Calls Tryz.prog 57 #[.func (.func 84) #[] #[.pointer (some ⟨w.heap.size, 0, none⟩)]] (w.alloc (.cells #[.map (some m)] 92)) fun e w' => ∃ v, e = .returned v ∧ NumsAt w' v (rising (L.map (·.1))) ∧ Keep [] w w' := by
  obtain ⟨D0, h1, h2, h3⟩ := (h.alloc (.cells #[.map (some m)] 92)).owns Tryz.underlying30 (by unfold maxLen; omega) hk
  have hs := keysW_stops Fence.wide 2 trivial rfl (by omega) w.heap.size m L.length D0 (w.alloc (.cells #[.map (some m)] 92)) (by simp) ((Blk.new w 92 #[.map (some m)]).cell 0) h1
  have hperm : ∀ l : List Int, (l.Nodup ∧ ∀ x, x ∈ l ↔ Maps.has D0 (.int .u64 x) = true) → l.Perm (L.map (·.1)) := fun l hl =>
    (List.perm_ext_iff_of_nodup hl.1 hnd).2 fun x => (hl.2 x).trans (h2 x)
  refine (sortedW_calls _ _ (enters_of Tryz.func84 (by kernel_rfl) rfl) _ _ (Maps.size D0) (by omega) (fun l hl => by have := (hperm l hl).length_eq; simp at this; omega) _ hs).mono ?_
  rintro e w' ⟨v, l, rfl, hl, hv, hkp⟩
  rw [rising_perm (hperm l hl)] at hv
  exact ⟨v, rfl, hv, ((Keep.refl [] w).alloc _).trans hkp⟩

end Go.Proofs.YtkplffkchanipaaGreatDoor
