/- The contract of glacierlaw09.may: the kinds 1 and 4. -/
import Derived.Test.YtpcbhechfbibbaaDoorSts
import Derived.Test.YtpcbhechfbibbaaDoorArrsAt
import Derived.Test.YtpcbhechfbibbaaDoorLast
import Derived.Test.YtpcbhechfbibbaaDoorBase
import Derived.Deep.RegionHeld3
namespace Go.Proofs.YtpcbhechfbibbaaDoor
open Go.RowKit
attribute [local go_sem] size_bs bs_append bs_extract ba_self

theorem may_ret {W : World} {r : Nat} {x0 x1 x2 x3 x4 x5 vb : Value} {t : Array Value} {R : Ending → World → Prop} (h2 : t[4]? = some (.pointer (some ⟨r, 0, none⟩))) (h3 : t[5]? = some vb)
    (hB : Blk W r 51 #[x0, x1, x2, x3, x4, x5]) (hR : R (.returned (.tuple #[.agg #[x0, x1, x2, x3, x4, x5], vb])) W) : bodyPost Tryd.prog Tryd.f21 R .ret { tmps := t, defers := [] } W := by
  have k0 : W.cell? ⟨r, 0, none⟩ = some x0 := hB.cell 0
  have k1 : W.cell? ⟨r, 1, none⟩ = some x1 := hB.cell 1
  have k2 : W.cell? ⟨r, 2, none⟩ = some x2 := hB.cell 2
  have k3 : W.cell? ⟨r, 3, none⟩ = some x3 := hB.cell 3
  have k4 : W.cell? ⟨r, 4, none⟩ = some x4 := hB.cell 4
  have k5 : W.cell? ⟨r, 5, none⟩ = some x5 := hB.cell 5
  refine bodyPost_ret (v := .tuple #[.agg #[x0, x1, x2, x3, x4, x5], vb]) ?_ rfl hR
  simp [results, Tryd.results21, go_sem, h2, h3, k0, k1, k2, k3, k4, k5]

def actV (kind : Int) (n m : Nat) (s : List UInt8) (vt vc : Value) : Value := .agg #[.int .i64 kind, .int .i64 (n : Int), .int .i64 (m : Int), .string (bs s), vt, vc]

/-- What may answers: a state, and states between. -/
def MayPost (y : Ts) (l : List Ts) (w : World) (e : Ending) (w' : World) : Prop :=
  ∃ A c vb, e = .returned (.tuple #[y.agg (.slice A y.log.length c), vb]) ∧ EntsT w' (.slice A y.log.length c) y.log ∧ StsT w' vb l ∧ Keep [] w w'

theorem mayPost_mk {y : Ts} {l : List Ts} {w W : World} {e : Ending} {lg vb : Value} (he : e = .returned (.tuple #[y.agg lg, vb])) (hE : EntsT w lg y.log) (hk : Keep [] w W) (hs : StsT W vb l) : MayPost y l w e W := by
  obtain ⟨A, c, rfl⟩ := RowT.slice hE
  exact ⟨A, c, vb, he, hE.keep hk (by simp), hs, hk⟩
theorem stsT_nil (w : World) : StsT w (.slice none 0 0) [] := ⟨[], rfl, by simp, .inl ⟨rfl, rfl, rfl⟩⟩

set_option maxRecDepth 100000 in
set_option maxHeartbeats 2000000 in
theorem may1_calls (x : Ts) (lg : Value) (n m : Nat) (s : List UInt8) (vt vc : Value) (w : World) (hE : EntsT w lg x.log) (hv : ∃ A k c, vt = .slice A k c) (hc : ∃ A k c, vc = .slice A k c) :
    Calls Tryd.prog 21 #[x.agg lg, actV 1 n m s vt vc] w (MayPost { x with term := n, vote := m } [] w) := by
  obtain ⟨A, c, rfl⟩ := RowT.slice hE
  obtain ⟨At, kt, ct, rfl⟩ := hv
  obtain ⟨Ac, kc, cc, rfl⟩ := hc
  have HE := Lib.hid hE
  clear hE
  unfold Ts.agg actV
  go_enter Tryd.func21, Tryd.ntmps21
  go_wp2
  refine may_ret rfl rfl ((Blk.here _ _ _ _ (by simp)).alloc _) ?_
  exact mayPost_mk rfl HE.out (by repeat (first | exact Keep.refl _ _ | refine Keep.drew ?_ | refine Keep.drewN ?_ _ | refine Keep.alloc ?_ _)) (stsT_nil _)

/-- The term of a snapshot's last entry. -/
def mayBt (x : Ts) (k : Nat) : Nat := if k = 0 then x.baseTerm else ((x.log[k - 1]?).map En.term).getD 0
def may4 (x : Ts) (n : Nat) (s : List UInt8) : Ts := { x with base := x.base + min n x.log.length, baseTerm := mayBt x (min n x.log.length), snap := s.take 30, log := x.log.drop (min n x.log.length) }

theorem RowT.drop {w : World} {ty : TypeId} {g o n k c c' : Nat} {A : Option Addr} {xs : List Value} {size : Nat} (h : RowT w ty (.slice (some ⟨g, o, none⟩) n c) n xs) (hc : n - k ≤ c') (hA : A = some ⟨g, o + k * size, none⟩ ∨ (A = some ⟨g, o, none⟩ ∧ k * size ≤ 0) ∨ (A = some ⟨g, o, none⟩ ∧ xs.drop (k * size) = [])) : RowT w ty (.slice A (n - k) c') (n - k) (xs.drop (k * size)) := by
  rcases h with ⟨h, _⟩ | ⟨g', o', c0, cs, fr, h1, h2, h3, h4⟩
  · cases h
  · injection h1 with e1 _ _
    injection e1 with e1
    injection e1 with e1 e2 _
    subst e1 e2
    rcases hA with rfl | ⟨rfl, hz⟩ | ⟨rfl, hz⟩
    · refine .inr ⟨g, o + k * size, c', cs, fr, rfl, hc, h3, fun j u hu => ?_⟩
      rw [List.getElem?_drop] at hu
      have := h4 _ _ hu
      rw [← Nat.add_assoc] at this
      exact this
    · have hz' : k * size = 0 := by omega
      refine .inr ⟨g, o, c', cs, fr, rfl, hc, h3, fun j u hu => ?_⟩
      rw [hz', List.drop_zero] at hu
      exact h4 j u hu
    · refine .inr ⟨g, o, c', cs, fr, rfl, hc, h3, fun j u hu => ?_⟩
      rw [hz] at hu
      simp at hu
theorem entsV_drop (l : List En) (k : Nat) : (entsV l).drop (k * 3) = entsV (l.drop k) := by
  induction l generalizing k with
  | nil => simp [entsV]
  | cons e l ih =>
    cases k with
    | zero => simp
    | succ k =>
      have hl : e.cells.length = 3 := rfl
      simp only [entsV, List.flatMap_cons, List.drop_succ_cons]
      rw [List.drop_append, hl, show (k + 1) * 3 - 3 = k * 3 by omega, List.drop_of_length_le (by omega)]
      simpa [entsV] using ih k

set_option maxRecDepth 100000 in
set_option maxHeartbeats 2000000 in
theorem may4_calls (kind : Int) (k1 : kind ≠ 1) (k2 : kind ≠ 2) (k3 : kind ≠ 3) (x : Ts) (lg : Value) (n m : Nat) (s : List UInt8) (vt vc : Value) (w : World) (hE : EntsT w lg x.log) (hv : ∃ A k c, vt = .slice A k c) (hc : ∃ A k c, vc = .slice A k c) (hn : n ≤ 1000) (hl : x.log.length ≤ 1000000) (hb : x.base ≤ 1000000000) :
    Calls Tryd.prog 21 #[x.agg lg, actV kind n m s vt vc] w (MayPost (may4 x n s) [] w) := by
  obtain ⟨At, kt, ct, rfl⟩ := hv
  obtain ⟨Ac, kc, cc, rfl⟩ := hc
  have hk1 : (kind == 1) = false := by simpa using k1
  have hk2 : (kind == 2) = false := by simpa using k2
  have hk3 : (kind == 3) = false := by simpa using k3
  have HC := Lib.hid (cut_calls s 30)
  unfold Ts.agg actV
  rcases Nat.eq_zero_or_pos (min n x.log.length) with hz | hz
  · have hm4 : may4 x n s = { x with snap := s.take 30 } := by unfold may4 mayBt; simp [hz]
    have hmin : min (n : Int) (x.log.length : Int) = 0 := by omega
    rw [hm4]
    clear hm4 k1 k2 k3
    generalize s.take 30 = sn at *
    rcases id hE with ⟨rfl, h0, _⟩ | ⟨g, o, c, cs, fr, rfl, hle, _, _⟩
    · have hmin0 : min (n : Int) 0 = 0 := by omega
      have HE := Lib.hid hE
      clear hE h0 hz hmin
      go_enter Tryd.func21, Tryd.ntmps21
      go_wp2_with (go_at_call 10; refine (HC.out _).mono ?_; rintro e w2 ⟨rfl, rfl⟩)
      refine may_ret rfl rfl ((Blk.here _ _ _ _ (by simp)).alloc _) ?_
      exact mayPost_mk rfl HE.out (by repeat (first | exact Keep.refl _ _ | refine Keep.drew ?_ | refine Keep.drewN ?_ _ | refine Keep.alloc ?_ _)) (stsT_nil _)
    · have HE := Lib.hid hE
      clear hE
      go_enter Tryd.func21, Tryd.ntmps21
      go_wp2_with (go_at_call 10; refine (HC.out _).mono ?_; rintro e w2 ⟨rfl, rfl⟩)
      refine may_ret rfl rfl ((Blk.here _ _ _ _ (by simp)).alloc _) ?_
      exact mayPost_mk rfl HE.out (by repeat (first | exact Keep.refl _ _ | refine Keep.drew ?_ | refine Keep.drewN ?_ _ | refine Keep.alloc ?_ _)) (stsT_nil _)
  · obtain ⟨j, hj⟩ : ∃ j, min n x.log.length = j + 1 := ⟨min n x.log.length - 1, by omega⟩
    have hjl : j < x.log.length := by omega
    have hmin : min (n : Int) (x.log.length : Int) = (j : Int) + 1 := by omega
    have hm4 : may4 x n s = { x with base := x.base + (j + 1), baseTerm := x.log[j].term, snap := s.take 30, log := x.log.drop (j + 1) } := by
      unfold may4 mayBt
      rw [hj]
      simp [hjl]
    have hne : entsV x.log ≠ [] := by
      intro h
      have := entsV_at x.log j hjl
      rw [h] at this
      simp at this
    obtain ⟨g, o, c, rfl, hle, hcell⟩ := RowT.cell hE hne
    have q1 := hcell _ _ (entsV_at x.log j hjl).2.1
    rw [Nat.mul_comm, ← Nat.add_assoc] at q1
    have hgl := World.block_lt_of_cell? _ _ q1
    simp only at hgl
    have hgl1 : g < w.heap.size + 1 := by omega
    have hgl2 : g < w.heap.size + 1 + 1 := by omega
    have hgl3 : g < w.heap.size + 1 + 1 + 1 := by omega
    rw [hm4]
    have hE2 : ∀ A c', x.log.length - (j + 1) ≤ c' → (A = some ⟨g, o + (j + 1) * 3, none⟩ ∨ (A = some ⟨g, o, none⟩ ∧ x.log.length = j + 1)) → EntsT w (.slice A (x.log.length - (j + 1)) c') (x.log.drop (j + 1)) := fun A c' h1 h2 => by
      have := RowT.drop (A := A) (k := j + 1) (size := 3) (c' := c') hE h1 (by
        rcases h2 with h2 | ⟨h2, h3⟩
        · exact .inl h2
        · refine .inr (.inr ⟨h2, ?_⟩)
          rw [entsV_drop, List.drop_of_length_le (by omega)]
          rfl)
      rw [entsV_drop] at this
      unfold EntsT
      rw [List.length_drop]
      exact this
    have HE2 := Lib.hid hE2
    clear hE hcell hne hm4 hj hz hE2 k1 k2 k3
    generalize s.take 30 = sn at *
    generalize x.log[j].term = bt at *
    have tok : True := trivial
    by_cases hcc : c = j + 1
    · subst hcc
      have hlj : x.log.length = j + 1 := by omega
      have hE3 := HE2.out (some ⟨g, o, none⟩) 0 (by omega) (.inr ⟨rfl, hlj⟩)
      rw [hlj, Nat.sub_self] at hE3
      have HE3 := Lib.hid hE3
      clear hE3 hlj
      go_enter Tryd.func21, Tryd.ntmps21
      go_wp2_with (go_at_call 10; refine (HC.out _).mono ?_; rintro e w2 ⟨rfl, rfl⟩)
      refine may_ret rfl rfl ((Blk.here _ _ _ _ (by simp)).alloc _) ?_
      exact mayPost_mk (by simp [Ts.agg]) HE3.out (by repeat (first | exact Keep.refl _ _ | refine Keep.drew ?_ | refine Keep.drewN ?_ _ | refine Keep.alloc ?_ _)) (stsT_nil _)
    · clear tok
      go_enter Tryd.func21, Tryd.ntmps21
      go_wp2_with (go_at_call 10; refine (HC.out _).mono ?_; rintro e w2 ⟨rfl, rfl⟩)
      refine may_ret rfl rfl ((Blk.here _ _ _ _ (by simp)).alloc _) ?_
      exact mayPost_mk (by simp [Ts.agg]) (HE2.out (some ⟨g, o + (j + 1) * 3, none⟩) (c - (j + 1)) (by omega) (.inl rfl)) (by repeat (first | exact Keep.refl _ _ | refine Keep.drew ?_ | refine Keep.drewN ?_ _ | refine Keep.alloc ?_ _)) (stsT_nil _)

end Go.Proofs.YtpcbhechfbibbaaDoor
/- The contract of glacierlaw09.may: the kind 3. -/
namespace Go.Proofs.YtpcbhechfbibbaaDoor
open Go.RowKit
attribute [local go_sem] size_bs bs_append bs_extract ba_self

/-- append of one state to a row of the call's own. -/
theorem list_append_own_st {ops : Array Oper} {rest : List Oper} {o : Oper} {a : Act} {Q : Exit → Act → World → Prop} {w0 wr : World} {v : Value} {ps : List (Ts × Value)} {p : Nat} (s : Ts) (A : Option Addr) (nn cc : Nat)
    (hgd : o.guard = none) (s1 x1 : Operand) (ho : o.op = .call { callee := .builtin .append, args := #[s1, x1], argTypes := #[55, 55] })
    (hs : a.eval s1 = v) (hx : a.eval x1 = .slice (some ⟨p, 0, none⟩) 1 1) (hp : p = wr.heap.size) (hE : wr.ownsRow w0.heap.size 51 6 v ps.length (stsV ps)) (hk : Keep [] w0 wr) (hn : ps.length ≤ 1000000000)
    (h : ∀ A2 cap w', w'.ownsRow w0.heap.size 51 6 (.slice A2 (ps.length + 1) cap) (ps.length + 1) (stsV (ps ++ [(s, .slice A nn cc)])) → Keep [] w0 w' → wpList Tryd.prog ops Q rest (a.put o.dst (.slice A2 (ps.length + 1) cap)) w') :
    wpList Tryd.prog ops Q (o :: rest) a (wr.alloc (.cells #[.int .i64 (s.term : Int), .int .i64 (s.vote : Int), .int .i64 (s.base : Int), .int .i64 (s.baseTerm : Int), .string (bs s.snap), .slice A nn cc] 51)) := by
  subst hp
  obtain ⟨i0, hi, hz0, hz1, hz2⟩ := info_parts Tryd.info51
  have hsz := hk.size
  refine wpList_append_own _ hgd s1 x1 55 ho w0.heap.size 51 i0 _ 6 72 Tryd.underlying55 hi hz0 hz1 hz2 rfl (by omega) v _ _ hs (hE.alloc (.cells #[.int .i64 (s.term : Int), .int .i64 (s.vote : Int), .int .i64 (s.base : Int), .int .i64 (s.baseTerm : Int), .string (bs s.snap), .slice A nn cc] 51)) ⟨wr.heap.size, 0, none⟩ 1 1 (s.cells (.slice A nn cc)) hx (by simp [Ts.cells]) (World.news_of_block (cs := #[.int .i64 (s.term : Int), .int .i64 (s.vote : Int), .int .i64 (s.base : Int), .int .i64 (s.baseTerm : Int), .string (bs s.snap), .slice A nn cc]) (t := 51) (fr := (0, 0)) (heap_alloc_new wr _)) (by simp [Ts.cells, Value.oneCell']) (by unfold maxLen; omega) (by omega) (by simp; omega) ?_
  intro v' w1 hown1 hgrow _
  have e1 : stsV (ps ++ [(s, .slice A nn cc)]) = stsV ps ++ s.cells (.slice A nn cc) := by simp [stsV]
  obtain ⟨A2, cap, rfl⟩ := own_slice hown1
  have := h A2 cap w1
  rw [e1] at this
  exact this hown1 ((hk.alloc _).grown hgrow (fun k hk' => .inr (hE.lt k hk').1))

theorem RowT.take {w : World} {ty : TypeId} {g o n k c : Nat} {xs : List Value} {size : Nat} (h : RowT w ty (.slice (some ⟨g, o, none⟩) n c) n xs) (hk : k ≤ n) : RowT w ty (.slice (some ⟨g, o, none⟩) k c) k (xs.take (k * size)) := by
  rcases h with ⟨h, _⟩ | ⟨g', o', c0, cs, fr, h1, h2, h3, h4⟩
  · cases h
  · injection h1 with e1 e5 e6
    injection e1 with e1
    injection e1 with e1 e2 _
    subst e1 e2 e6
    refine .inr ⟨g, o, c, cs, fr, rfl, by omega, h3, fun j u hu => ?_⟩
    rw [List.getElem?_take] at hu
    split at hu
    · exact h4 j u hu
    · cases hu
theorem entsV_take (l : List En) (k : Nat) : (entsV l).take (k * 3) = entsV (l.take k) := by
  induction l generalizing k with
  | nil => simp [entsV]
  | cons e l ih =>
    cases k with
    | zero => simp [entsV]
    | succ k =>
      have hl : e.cells.length = 3 := rfl
      simp only [entsV, List.flatMap_cons, List.take_succ_cons]
      rw [List.take_append, hl, show (k + 1) * 3 - 3 = k * 3 by omega, List.take_of_length_le (by omega)]
      congr 1
      simpa [entsV] using ih k
theorem EntsT.take {w : World} {g o c : Nat} {l : List En} {n : Nat} (h : EntsT w (.slice (some ⟨g, o, none⟩) n c) l) (hn : n = l.length) {k : Nat} (hk : k ≤ l.length) : EntsT w (.slice (some ⟨g, o, none⟩) k c) (l.take k) := by
  subst hn
  have := RowT.take (size := 3) h hk
  rw [entsV_take] at this
  unfold EntsT
  rw [List.length_take, Nat.min_eq_left hk]
  exact this

/-- The states that lie between, of kind 3; each with the value of its entries. -/
def betw3 (x : Ts) (A : Option Addr) (c k : Nat) : List (Ts × Value) := (List.range k).map fun i => ({ x with log := x.log.take i }, .slice A i c)
theorem betw3_succ (x : Ts) (A : Option Addr) (c k : Nat) : betw3 x A c (k + 1) = betw3 x A c k ++ [({ x with log := x.log.take k }, .slice A k c)] := by simp [betw3, List.range_succ]
@[simp] theorem betw3_len (x : Ts) (A : Option Addr) (c k : Nat) : (betw3 x A c k).length = k := by simp [betw3]
def M3Rel (x : Ts) (A : Option Addr) (c : Nat) (W0 : World) (v y : Value) (wr : World) : Prop :=
  ∃ k A2 c2, k ≤ x.log.length ∧ y = .int .i64 (k : Int) ∧ v = .slice A2 k c2 ∧ wr.ownsRow W0.heap.size 51 6 v k (stsV (betw3 x A c k)) ∧ Keep [] W0 wr

set_option maxRecDepth 100000 in
set_option maxHeartbeats 2000000 in
theorem may3_calls (x : Ts) (lg : Value) (n m : Nat) (s : List UInt8) (vt vc : Value) (w : World) (hE : EntsT w lg x.log) (hv : ∃ A k c, vt = .slice A k c) (hc : ∃ A k c, vc = .slice A k c) (hn : n ≤ 1000) (hl : x.log.length ≤ 1000000) :
    Calls Tryd.prog 21 #[x.agg lg, actV 3 n m s vt vc] w (MayPost { x with log := x.log.take n } ((List.range x.log.length).map fun i => { x with log := x.log.take i }) w) := by
  obtain ⟨At, kt, ct, rfl⟩ := hv
  obtain ⟨Ac, kc, cc, rfl⟩ := hc
  unfold Ts.agg actV
  rcases id hE with ⟨rfl, h0, _⟩ | ⟨g, o, c, cs, fr, rfl, hle, _, _⟩
  · have hln : x.log = [] := List.length_eq_zero_iff.1 h0
    have hfin : ({ x with log := x.log.take n } : Ts) = x := by rw [hln]; obtain ⟨a1, a2, a3, a4, a5, a6⟩ := x; simp only at hln; simp [hln]
    have hmin0 : min (n : Int) 0 = 0 := by omega
    rw [hfin, h0]
    have HE := Lib.hid hE
    have HL := Lib.hid h0
    clear hE hln hfin h0
    go_enter Tryd.func21, Tryd.ntmps21
    go_wp2
    refine wp_loop_rounds 1 ?_
    rw [rounds_succ]
    go_wp2
    refine may_ret rfl rfl (((Blk.here _ _ _ _ (by simp)).alloc _).alloc _) ?_
    exact mayPost_mk rfl HE.out (by repeat (first | exact Keep.refl _ _ | refine Keep.drew ?_ | refine Keep.drewN ?_ _ | refine Keep.alloc ?_ _)) ⟨[], rfl, by simp, RowT.of_own (B := 0) (size := 6) ⟨rfl, .inr ⟨_, 0, #[], rfl, Nat.zero_le _, Blk.here _ _ _ _ (by simp), Nat.le_refl _, Nat.zero_le _, rfl, rfl⟩⟩⟩
  · obtain ⟨k, hk⟩ : ∃ k, min n x.log.length = k := ⟨_, rfl⟩
    have hkl : k ≤ x.log.length := by omega
    have hmin : min (n : Int) (x.log.length : Int) = (k : Int) := by omega
    have htk : x.log.take n = x.log.take k := by
      rw [← hk]
      rcases Nat.le_total n x.log.length with h | h
      · rw [Nat.min_eq_left h]
      · rw [Nat.min_eq_right h, List.take_of_length_le h, List.take_of_length_le (Nat.le_refl _)]
    rw [htk]
    have HE := Lib.hid hE
    clear hE htk hk
    go_enter Tryd.func21, Tryd.ntmps21
    go_wp2
    have bx : Blk ((((w.alloc (.cells #[.int .i64 (x.term : Int), .int .i64 (x.vote : Int), .int .i64 (x.base : Int), .int .i64 (x.baseTerm : Int), .string (bs x.snap), .slice (some ⟨g, o, none⟩) x.log.length c] 51)).alloc (.cells #[.int .i64 3, .int .i64 (n : Int), .int .i64 (m : Int), .string (bs s), .slice At kt ct, .slice Ac kc cc] 57)).alloc (.cells #[.int .i64 0, .int .i64 0, .int .i64 0, .int .i64 0, .string { data := #[] }, .slice none 0 0] 51)).alloc (.cells #[.int .i64 (x.term : Int), .int .i64 (x.vote : Int), .int .i64 (x.base : Int), .int .i64 (x.baseTerm : Int), .string (bs x.snap), .slice (some ⟨g, o, none⟩) k c] 51)) w.heap.size 51 #[.int .i64 (x.term : Int), .int .i64 (x.vote : Int), .int .i64 (x.base : Int), .int .i64 (x.baseTerm : Int), .string (bs x.snap), .slice (some ⟨g, o, none⟩) x.log.length c] := (((Blk.new _ _ _).alloc _).alloc _).alloc _
    have br : Blk ((((w.alloc (.cells #[.int .i64 (x.term : Int), .int .i64 (x.vote : Int), .int .i64 (x.base : Int), .int .i64 (x.baseTerm : Int), .string (bs x.snap), .slice (some ⟨g, o, none⟩) x.log.length c] 51)).alloc (.cells #[.int .i64 3, .int .i64 (n : Int), .int .i64 (m : Int), .string (bs s), .slice At kt ct, .slice Ac kc cc] 57)).alloc (.cells #[.int .i64 0, .int .i64 0, .int .i64 0, .int .i64 0, .string { data := #[] }, .slice none 0 0] 51)).alloc (.cells #[.int .i64 (x.term : Int), .int .i64 (x.vote : Int), .int .i64 (x.base : Int), .int .i64 (x.baseTerm : Int), .string (bs x.snap), .slice (some ⟨g, o, none⟩) k c] 51)) (w.heap.size + 1 + 1) 51 #[.int .i64 0, .int .i64 0, .int .i64 0, .int .i64 0, .string { data := #[] }, .slice none 0 0] := (Blk.here _ _ _ _ (by simp)).alloc _
    have by_ : Blk ((((w.alloc (.cells #[.int .i64 (x.term : Int), .int .i64 (x.vote : Int), .int .i64 (x.base : Int), .int .i64 (x.baseTerm : Int), .string (bs x.snap), .slice (some ⟨g, o, none⟩) x.log.length c] 51)).alloc (.cells #[.int .i64 3, .int .i64 (n : Int), .int .i64 (m : Int), .string (bs s), .slice At kt ct, .slice Ac kc cc] 57)).alloc (.cells #[.int .i64 0, .int .i64 0, .int .i64 0, .int .i64 0, .string { data := #[] }, .slice none 0 0] 51)).alloc (.cells #[.int .i64 (x.term : Int), .int .i64 (x.vote : Int), .int .i64 (x.base : Int), .int .i64 (x.baseTerm : Int), .string (bs x.snap), .slice (some ⟨g, o, none⟩) k c] 51)) (w.heap.size + 1 + 1 + 1) 51 #[.int .i64 (x.term : Int), .int .i64 (x.vote : Int), .int .i64 (x.base : Int), .int .i64 (x.baseTerm : Int), .string (bs x.snap), .slice (some ⟨g, o, none⟩) k c] := Blk.here _ _ _ _ (by simp)
    have kw : Keep [] w ((((w.alloc (.cells #[.int .i64 (x.term : Int), .int .i64 (x.vote : Int), .int .i64 (x.base : Int), .int .i64 (x.baseTerm : Int), .string (bs x.snap), .slice (some ⟨g, o, none⟩) x.log.length c] 51)).alloc (.cells #[.int .i64 3, .int .i64 (n : Int), .int .i64 (m : Int), .string (bs s), .slice At kt ct, .slice Ac kc cc] 57)).alloc (.cells #[.int .i64 0, .int .i64 0, .int .i64 0, .int .i64 0, .string { data := #[] }, .slice none 0 0] 51)).alloc (.cells #[.int .i64 (x.term : Int), .int .i64 (x.vote : Int), .int .i64 (x.base : Int), .int .i64 (x.baseTerm : Int), .string (bs x.snap), .slice (some ⟨g, o, none⟩) k c] 51)) := ((((Keep.refl _ _).alloc _).alloc _).alloc _).alloc _
    have sz : (((((w.alloc (.cells #[.int .i64 (x.term : Int), .int .i64 (x.vote : Int), .int .i64 (x.base : Int), .int .i64 (x.baseTerm : Int), .string (bs x.snap), .slice (some ⟨g, o, none⟩) x.log.length c] 51)).alloc (.cells #[.int .i64 3, .int .i64 (n : Int), .int .i64 (m : Int), .string (bs s), .slice At kt ct, .slice Ac kc cc] 57)).alloc (.cells #[.int .i64 0, .int .i64 0, .int .i64 0, .int .i64 0, .string { data := #[] }, .slice none 0 0] 51)).alloc (.cells #[.int .i64 (x.term : Int), .int .i64 (x.vote : Int), .int .i64 (x.base : Int), .int .i64 (x.baseTerm : Int), .string (bs x.snap), .slice (some ⟨g, o, none⟩) k c] 51))).heap.size = w.heap.size + 1 + 1 + 1 + 1 := by simp
    generalize ((((w.alloc (.cells #[.int .i64 (x.term : Int), .int .i64 (x.vote : Int), .int .i64 (x.base : Int), .int .i64 (x.baseTerm : Int), .string (bs x.snap), .slice (some ⟨g, o, none⟩) x.log.length c] 51)).alloc (.cells #[.int .i64 3, .int .i64 (n : Int), .int .i64 (m : Int), .string (bs s), .slice At kt ct, .slice Ac kc cc] 57)).alloc (.cells #[.int .i64 0, .int .i64 0, .int .i64 0, .int .i64 0, .string { data := #[] }, .slice none 0 0] 51)).alloc (.cells #[.int .i64 (x.term : Int), .int .i64 (x.vote : Int), .int .i64 (x.base : Int), .int .i64 (x.baseTerm : Int), .string (bs x.snap), .slice (some ⟨g, o, none⟩) k c] 51)) = W0 at *
    have HBX := Lib.hid bx
    have HBR := Lib.hid br
    have HBY := Lib.hid by_
    have HKW := Lib.hid kw
    have HSZ := Lib.hid sz
    clear bx br by_ kw sz
    go_loopw [12, 93] (fun v y wr => M3Rel x (some ⟨g, o, none⟩) c W0 v y wr) (fun _ y _ => x.log.length - (intOf y).toNat)
    case atStart => exact ⟨0, _, _, Nat.zero_le _, rfl, rfl, ⟨by simp [betw3, stsV], .inr ⟨_, 0, #[], rfl, by rw [HSZ.out]; exact Nat.le_refl _, Blk.here _ _ _ _ HSZ.out.symm, Nat.le_refl _, Nat.zero_le _, rfl, by simp [betw3, stsV]⟩⟩, (Keep.refl _ _).alloc _⟩
    case round =>
      obtain ⟨i, A2, c2, hi, rfl, rfl, hown, hkeep⟩ := hrel
      have hbx := HBX.out.keep hkeep (by simp)
      have HOWN := Lib.hid hown
      have HK := Lib.hid hkeep
      have hwl := hbx.lt
      by_cases hlt : i < x.log.length
      · have d1 : decide ((i : Int) < (x.log.length : Int)) = true := by simp; omega
        have x0 : wr.cell? ⟨w.heap.size, 0, none⟩ = some (.int .i64 (x.term : Int)) := hbx.cell 0
        have x1 : wr.cell? ⟨w.heap.size, 1, none⟩ = some (.int .i64 (x.vote : Int)) := hbx.cell 1
        have x2 : wr.cell? ⟨w.heap.size, 2, none⟩ = some (.int .i64 (x.base : Int)) := hbx.cell 2
        have x3 : wr.cell? ⟨w.heap.size, 3, none⟩ = some (.int .i64 (x.baseTerm : Int)) := hbx.cell 3
        have x4 : wr.cell? ⟨w.heap.size, 4, none⟩ = some (.string (bs x.snap)) := hbx.cell 4
        have x5 : wr.cell? ⟨w.heap.size, 5, none⟩ = some (.slice (some ⟨g, o, none⟩) x.log.length c) := hbx.cell 5
        have hic : i ≤ c := by omega
        clear hown hkeep hbx
        go_wp2_with (at_builtin; refine list_append_own_st (w0 := W0) (wr := wr.alloc (.cells #[.int .i64 (x.term : Int), .int .i64 (x.vote : Int), .int .i64 (x.base : Int), .int .i64 (x.baseTerm : Int), .string (bs x.snap), .slice (some ⟨g, o, none⟩) i c] 51)) (v := .slice A2 i c2) (ps := betw3 x (some ⟨g, o, none⟩) c i) { x with log := x.log.take i } (some ⟨g, o, none⟩) i c rfl (.tmp 102) (.tmp 104) rfl rfl rfl ?c0 ?c1 (HK.out.alloc _) ?c2 ?_)
        case c0 => simp
        case c1 => rw [betw3_len]; exact HOWN.out.alloc _
        case c2 => rw [betw3_len]; omega
        intro A4 c4 w4 hown4 hk4
        rw [← betw3_succ] at hown4
        have HOWN4 := Lib.hid hown4
        have HK4 := Lib.hid hk4
        clear hown4 hk4
        go_wp2
        go_roundw
        case rel => exact ⟨i + 1, A4, c4, by omega, by go_num, by simp, by simpa using HOWN4.out, HK4.out⟩
        case measure => simp [intOf]; omega
      · obtain rfl : i = x.log.length := by omega
        have d1 : decide ((x.log.length : Int) < (x.log.length : Int)) = false := by simp
        have hby := HBY.out.keep hkeep (by simp)
        have hbr := HBR.out.keep hkeep (by simp)
        have y0 : wr.cell? ⟨w.heap.size + 1 + 1 + 1, 0, none⟩ = some (.int .i64 (x.term : Int)) := hby.cell 0
        have y1 : wr.cell? ⟨w.heap.size + 1 + 1 + 1, 1, none⟩ = some (.int .i64 (x.vote : Int)) := hby.cell 1
        have y2 : wr.cell? ⟨w.heap.size + 1 + 1 + 1, 2, none⟩ = some (.int .i64 (x.base : Int)) := hby.cell 2
        have y3 : wr.cell? ⟨w.heap.size + 1 + 1 + 1, 3, none⟩ = some (.int .i64 (x.baseTerm : Int)) := hby.cell 3
        have y4 : wr.cell? ⟨w.heap.size + 1 + 1 + 1, 4, none⟩ = some (.string (bs x.snap)) := hby.cell 4
        have y5 : wr.cell? ⟨w.heap.size + 1 + 1 + 1, 5, none⟩ = some (.slice (some ⟨g, o, none⟩) k c) := hby.cell 5
        have r0 : wr.cell? ⟨w.heap.size + 1 + 1, 0, none⟩ = some (.int .i64 0) := hbr.cell 0
        have r1 : wr.cell? ⟨w.heap.size + 1 + 1, 1, none⟩ = some (.int .i64 0) := hbr.cell 1
        have r2 : wr.cell? ⟨w.heap.size + 1 + 1, 2, none⟩ = some (.int .i64 0) := hbr.cell 2
        have r3 : wr.cell? ⟨w.heap.size + 1 + 1, 3, none⟩ = some (.int .i64 0) := hbr.cell 3
        have r4 : wr.cell? ⟨w.heap.size + 1 + 1, 4, none⟩ = some (.string { data := #[] }) := hbr.cell 4
        have r5 : wr.cell? ⟨w.heap.size + 1 + 1, 5, none⟩ = some (.slice none 0 0) := hbr.cell 5
        have q0 : ∀ i, wr.frozen? ⟨w.heap.size + 1 + 1, i, none⟩ = false := fun i => hbr.frozen i
        have HR := Lib.hid hbr
        clear hown hkeep hbx hby hbr
        go_wp2
        obtain ⟨hB6, hK6⟩ := six_cells HR.out (.int .i64 (x.term : Int)) (.int .i64 (x.vote : Int)) (.int .i64 (x.base : Int)) (.int .i64 (x.baseTerm : Int)) (.string (bs x.snap)) (.slice (some ⟨g, o, none⟩) k c)
        refine may_ret rfl rfl hB6 ?_
        have hkk : Keep [] w _ := (HKW.out.trans HK.out).trans' hK6 (by simp; omega)
        refine mayPost_mk (lg := .slice (some ⟨g, o, none⟩) k c) rfl (HE.out.take rfl hkl) hkk ⟨betw3 x (some ⟨g, o, none⟩) c x.log.length, by simp [betw3], ?_, ?_⟩
        · intro p hp
          simp only [betw3, List.mem_map, List.mem_range] at hp
          obtain ⟨j, hj, rfl⟩ := hp
          exact (HE.out.take rfl (Nat.le_of_lt hj)).keep hkk (by simp)
        · rw [betw3_len]
          refine RowT.of_own (hK6.owns HOWN.out (fun k hk => ?_))
          have h1 := (HOWN.out.lt k hk).1
          rw [HSZ.out] at h1
          simp
          omega

end Go.Proofs.YtpcbhechfbibbaaDoor
/- Regions that draw their order, whose last operation stores where another one has read: a condition that holds until that operation comes up. -/
namespace Go.Proofs.YtpcbhechfbibbaaDoor
open Go Go.RowKit

section
variable {P : Program} {md : Region.Mode} {ops : Array Oper} {Q : Exit → Act → World → Prop} {S : World → Prop} {z : Nat}
/-- Whatever order is picked from here on, and S holds behind every operation till number z has come up. -/
def wpAnyK (P : Program) (md : Region.Mode) (ops : Array Oper) (Q : Exit → Act → World → Prop) (S : World → Prop) (z : Nat) : Nat → Array Bool → Act → World → Prop
  | 0, listed, a, w => Region.ready md ops listed = [] ∧ Q .normal a w
  | fuel + 1, listed, a, w =>
    (Region.ready md ops listed = [] → Q .normal a w) ∧
    ∀ i ∈ Region.ready md ops listed, wpOp P ops Q i (fun a' w' => (i ≠ z → S w') ∧ wpAnyK P md ops Q S z fuel (listed.setIfInBounds i true) a' w') a w
theorem wpAny_of_K : ∀ (fuel : Nat) (listed : Array Bool) (a : Act) (w : World), wpAnyK P md ops Q S z fuel listed a w → wpAny P md ops Q fuel listed a w
  | 0, _, _, _, h => h
  | fuel + 1, _, _, _, h => ⟨h.1, fun i hi => wpOp_mono (fun a' w' h' => wpAny_of_K fuel _ a' w' h'.2) (h.2 i hi)⟩
theorem wpAnyK_first {i : Nat} {oi oz : Oper} {v : Value} (hi : ops[i]? = some oi) (hz : ops[z]? = some oz) (hiz : i ≠ z) (hwait : oz.after.any (fun e => Region.binds md e && e.on == i) = true) (hsel : ∀ (j : Nat) (o : Oper) cs b, ops[j]? = some o → o.op ≠ .select cs b)
    (hQ : ∀ c a w, Q (.panic c) (a.put oi.dst v) w → Q (.panic c) a w) :
    ∀ (fuel : Nat) (listed : Array Bool) (a : Act) (w : World),
      (∀ j oj, ops[j]? = some oj → j ≠ i → listed.getD j true = false → (∀ e ∈ oj.after, Region.binds md e = true → e.on ≠ i) → oi.apart ops oj = true) →
      i ∈ Region.ready md ops listed → YieldsIf P ops S oi v a → S w →
      wpAnyK P md ops Q S z fuel (listed.setIfInBounds i true) (a.put oi.dst v) w → wpAnyK P md ops Q S z (fuel + 1) listed a w := by
  intro fuel
  induction fuel with
  | zero =>
    intro listed a w _ hr hy hS H
    refine ⟨fun h => (by rw [h] at hr; cases hr), fun j hj => ?_⟩
    by_cases hji : j = i
    · subst hji; exact hy.wpOp hi hS ⟨fun _ => hS, H⟩
    · have := ready_mono hj hji
      rw [H.1] at this
      cases this
  | succ fuel ih =>
    intro listed a w hfree hr hy hS H
    refine ⟨fun h => (by rw [h] at hr; cases hr), fun j hj => ?_⟩
    by_cases hji : j = i
    · subst hji; exact hy.wpOp hi hS ⟨fun _ => hS, H⟩
    · have h1 := H.2 j (ready_mono hj hji)
      obtain ⟨hjun, oj, hoj, hall⟩ := mem_ready.1 hj
      have hun : ∀ e ∈ oj.after, Region.binds md e = true → e.on ≠ i := fun e he hb heq => by
        have h1 := hall e he hb
        have h0 := (mem_ready.1 hr).1
        rw [heq] at h1
        rcases Nat.lt_or_ge i listed.size with h' | h'
        · simp [h'] at h0 h1; rw [h0] at h1; cases h1
        · simp [Array.getElem?_eq_none h'] at h1
      have hjz : j ≠ z := by
        rintro rfl
        rw [hoj] at hz
        injection hz with hz
        subst hz
        obtain ⟨e, he, hb⟩ := Array.any_eq_true'.1 hwait
        simp only [Bool.and_eq_true, beq_iff_eq] at hb
        exact hun e he hb.1 hb.2
      have h2 := wpOp_putIf hoj (hfree j oj hoj hji hjun hun) (fun cs b => hsel i oi cs b hi) (fun cs b => hsel j oj cs b hoj) hQ hy h1
      have hfree' : ∀ k ok, ops[k]? = some ok → k ≠ i → (listed.setIfInBounds j true).getD k true = false →
          (∀ e ∈ ok.after, Region.binds md e = true → e.on ≠ i) → oi.apart ops ok = true := fun k ok hk hki hun hno => by
        refine hfree k ok hk hki ?_ hno
        by_cases hjk : j = k
        · subst hjk; exact hjun
        · rw [getD_set_ne true hjk] at hun; exact hun
      refine wpOp_mono (fun a' w' h3 => ⟨h3.2.1, ih (listed.setIfInBounds j true) a' w' hfree' (ready_mono hr (Ne.symm hji)) h3.1 (h3.2.1 hjz) ?_⟩) h2
      rw [Array.setIfInBounds_comm _ _ hji]
      exact h3.2.2
/-- Number i first. -/
theorem wpAnyK_take {i : Nat} {oi oz : Oper} {v : Value} {fuel : Nat} {listed : Array Bool} {a : Act} {w : World} (hi : ops[i]? = some oi) (hz : ops[z]? = some oz) (hiz : (i != z) = true) (hwait : oz.after.any (fun e => Region.binds md e && e.on == i) = true)
    (hs : Region.noSelect ops = true) (hf : Region.free md ops listed i = true) (hr : (Region.ready md ops listed).contains i = true)
    (hQ : ∀ c a w, Q (.panic c) (a.put oi.dst v) w → Q (.panic c) a w) (hw : Region.wanted oi (yielded ops a.tmps) = true) (hy : ∀ w, S w → (execOp a.eval oi).run P w = .ok (.value v) w) (hS : S w)
    (h : wpAnyK P md ops Q S z fuel (listed.setIfInBounds i true) (a.put oi.dst v) w) : wpAnyK P md ops Q S z (fuel + 1) listed a w :=
  wpAnyK_first hi hz (by simpa using hiz) hwait (Region.noSelect_spec hs) hQ fuel listed a w (Region.free_spec hi hf) (by simpa using hr) (.inl ⟨hw, hy⟩) hS h
/-- The one that may come up. -/
theorem wpAnyK_one {k : Nat} {o : Oper} {fuel : Nat} {listed : Array Bool} {a : Act} {w : World} (hr : Region.ready md ops listed = [k]) (ho : ops[k]? = some o)
    (h : ∀ K : Act → World → Prop, Hid (∀ a' w', (k ≠ z → S w') → wpAnyK P md ops Q S z fuel (listed.setIfInBounds k true) a' w' → K a' w') → if Region.wanted o (yielded ops a.tmps) = true then Oper.wp P o a w K Q else K (a.put o.dst undef) w) :
    wpAnyK P md ops Q S z (fuel + 1) listed a w := by
  refine ⟨fun h0 => (by rw [hr] at h0; cases h0), fun i hi => ?_⟩
  rw [hr] at hi
  have hik : i = k := by simpa using hi
  subst hik
  unfold wpOp
  simp only [ho]
  have := h (fun a' w' => (i ≠ z → S w') ∧ wpAnyK P md ops Q S z fuel (listed.setIfInBounds i true) a' w') (fun a' w' h1 h2 => ⟨h1, h2⟩)
  split
  · rename_i hw
    rw [if_pos hw] at this
    exact .inl this
  · rename_i hw
    rw [if_neg hw] at this
    exact this
theorem wpAnyK_done {fuel : Nat} {listed : Array Bool} {a : Act} {w : World} (hr : Region.ready md ops listed = []) (h : Q .normal a w) : wpAnyK P md ops Q S z fuel listed a w := by
  cases fuel with
  | zero => exact ⟨hr, h⟩
  | succ => exact ⟨fun _ => h, by rw [hr]; simp⟩
theorem wp_region_K {id : Nat} {a : Act} {w : World} (hm : P.follows .mixedOrders = true) (h : wpAnyK P .any ops Q S z ops.size (Array.replicate ops.size false) a w.drew) : (Code.region id ops true).wp P Q a w :=
  wp_region_any hm (wpAny_of_K _ _ _ _ h)
end

end Go.Proofs.YtpcbhechfbibbaaDoor
/- The contract of glacierlaw09.may: the kind 2. -/
namespace Go.Proofs.YtpcbhechfbibbaaDoor
open Go.RowKit
attribute [local go_sem] size_bs bs_append bs_extract ba_self

/-- append of one state to a row of the call's own; what else it leaves alone. -/
theorem list_append_lies_st {ops : Array Oper} {rest : List Oper} {o : Oper} {a : Act} {Q : Exit → Act → World → Prop} {B : Nat} {wr : World} {v : Value} {ps : List (Ts × Value)} {p : Nat} (s : Ts) (A : Option Addr) (nn cc : Nat)
    (hgd : o.guard = none) (s1 x1 : Operand) (ho : o.op = .call { callee := .builtin .append, args := #[s1, x1], argTypes := #[55, 55] })
    (hs : a.eval s1 = v) (hx : a.eval x1 = .slice (some ⟨p, 0, none⟩) 1 1) (hp : p = wr.heap.size) (hE : wr.ownsRow B 51 6 v ps.length (stsV ps)) (hB : B ≤ wr.heap.size) (hn : ps.length ≤ 1000000000)
    (h : ∀ g cap w', w'.ownsRow B 51 6 (.slice (some ⟨g, 0, none⟩) (ps.length + 1) cap) (ps.length + 1) (stsV (ps ++ [(s, .slice A nn cc)])) → Keep v.ownBlock.toList wr w' → (v.ownBlock = some g ∨ wr.heap.size ≤ g) → wpList Tryd.prog ops Q rest (a.put o.dst (.slice (some ⟨g, 0, none⟩) (ps.length + 1) cap)) w') :
    wpList Tryd.prog ops Q (o :: rest) a (wr.alloc (.cells #[.int .i64 (s.term : Int), .int .i64 (s.vote : Int), .int .i64 (s.base : Int), .int .i64 (s.baseTerm : Int), .string (bs s.snap), .slice A nn cc] 51)) := by
  subst hp
  obtain ⟨i0, hi, hz0, hz1, hz2⟩ := info_parts Tryd.info51
  refine wpList_append_lies _ hgd s1 x1 55 ho B 51 i0 _ 6 72 Tryd.underlying55 hi hz0 hz1 hz2 rfl (by omega) v _ _ hs (hE.alloc (.cells #[.int .i64 (s.term : Int), .int .i64 (s.vote : Int), .int .i64 (s.base : Int), .int .i64 (s.baseTerm : Int), .string (bs s.snap), .slice A nn cc] 51)) ⟨wr.heap.size, 0, none⟩ 1 1 (s.cells (.slice A nn cc)) hx (by simp [Ts.cells]) (World.news_of_block (cs := #[.int .i64 (s.term : Int), .int .i64 (s.vote : Int), .int .i64 (s.base : Int), .int .i64 (s.baseTerm : Int), .string (bs s.snap), .slice A nn cc]) (t := 51) (fr := (0, 0)) (heap_alloc_new wr _)) (by simp [Ts.cells, Value.oneCell']) (by omega) (by unfold maxLen; omega) (by omega) (by simp; omega) (wr.heap.size + 1) (by simp) ?_
  intro g cap w1 hown1 hgrow hat _
  have e1 : stsV (ps ++ [(s, .slice A nn cc)]) = stsV ps ++ s.cells (.slice A nn cc) := by simp [stsV]
  have := h g cap w1
  rw [e1] at this
  refine this hown1 (((Keep.refl _ _).alloc _).grown hgrow (fun k hk' => .inl (by simp [hk']))) ?_
  rcases hat with h | h
  · exact .inl h
  · right; omega

/-- append of entries to an empty literal, inside a region that draws its order. -/
theorem step_append_copy {ops : Array Oper} {o : Oper} {a : Act} {K : Act → World → Prop} {Q : Exit → Act → World → Prop} {E : Prop} {B : Nat} {W : World} {p n c : Nat} {A : Option Addr} (l : List En) (hn : n = l.length)
    (hgd : o.guard = none) (s x : Operand) (ho : o.op = .call { callee := .builtin .append, args := #[s, x], argTypes := #[49, 49] })
    (hs : a.eval s = .slice (some ⟨p, 0, none⟩) 0 0) (hx : a.eval x = .slice A n c) (hW : Blk W p 93 #[]) (hp : B ≤ p) (hE : EntsT W (.slice A n c) l) (hl : l.length ≤ 1000000000)
    (h : ∀ A' c' w', w'.ownsRow B 93 3 (.slice A' l.length c') l.length (entsV l) → Keep [p] W w' → K (a.put o.dst (.slice A' l.length c')) w') :
    if Region.wanted o (yielded ops a.tmps) = true then Oper.wp Tryd.prog o a W K Q else E := by
  subst hn
  obtain ⟨i0, hi, hz0, hz1, hz2⟩ := info_parts Tryd.info93
  have hown : W.ownsRow B 93 3 (.slice (some ⟨p, 0, none⟩) 0 0) 0 [] := ⟨rfl, .inr ⟨p, 0, #[], rfl, hp, hW, Nat.le_refl _, Nat.zero_le _, rfl, rfl⟩⟩
  obtain ⟨h1, h2⟩ := RowT.src (size := 3) hE (entsV_len_ l)
  have hpl := hW.lt
  refine step_append_src hgd s x ho Tryd.underlying49 hi hz0 hz1 hz2 rfl (by omega) hs hown hx h1 (entsT_one l) (by unfold maxLen; omega) (by omega) (by omega) h2 ?_
  intro v' w' hown' hgrow
  rw [Nat.zero_add, List.nil_append] at hown'
  obtain ⟨A', c', rfl⟩ := own_slice hown'
  exact h A' c' w' hown' ((Keep.refl _ _).grown hgrow (fun k hk => by
    simp only [Value.ownBlock, Option.some.injEq] at hk
    exact .inl (by simp [hk])))

/-- append of one entry to a row of the call's own, inside a region that draws its order. -/
theorem step_append_one {ops : Array Oper} {o : Oper} {a : Act} {K : Act → World → Prop} {Q : Exit → Act → World → Prop} {E : Prop} {B : Nat} {W : World} {p n : Nat} {v : Value} {ix it : Int} (l : List En) (e : En)
    (hgd : o.guard = none) (s x : Operand) (ho : o.op = .call { callee := .builtin .append, args := #[s, x], argTypes := #[49, 49] })
    (hs : a.eval s = v) (hx : a.eval x = .slice (some ⟨p, 0, none⟩) 1 1) (hown : W.ownsRow B 93 3 v n (entsV l)) (hn : n = l.length) (hlit : Blk W p 93 #[.int .i64 ix, .int .i64 it, .string (bs e.cmd)]) (hix : ix = (e.index : Int)) (hit : it = (e.term : Int)) (hl : l.length ≤ 1000000000) (hB : B ≤ W.heap.size)
    (h : ∀ A' c' w', w'.ownsRow B 93 3 (.slice A' (l.length + 1) c') (l.length + 1) (entsV (l ++ [e])) → Keep v.ownBlock.toList W w' → K (a.put o.dst (.slice A' (l.length + 1) c')) w') :
    if Region.wanted o (yielded ops a.tmps) = true then Oper.wp Tryd.prog o a W K Q else E := by
  subst hn hix hit
  obtain ⟨i0, hi, hz0, hz1, hz2⟩ := info_parts Tryd.info93
  refine step_append_src (news := e.cells) hgd s x ho Tryd.underlying49 hi hz0 hz1 hz2 rfl (by omega) hs hown hx (.inr ⟨_, rfl, rfl, fun j u hu => ?_⟩) (by simp [En.cells, Value.oneCell']) (by unfold maxLen; omega) (by omega) hB (by simp) ?_
  · rw [Go.WideShapes.add_plain, hlit.cell, Nat.zero_add]
    have : (#[Value.int .i64 (e.index : Int), .int .i64 (e.term : Int), .string (bs e.cmd)] : Array Value).toList = e.cells := rfl
    rw [← this] at hu
    simpa using hu
  · intro v' w' hown' hgrow
    obtain ⟨A', c', rfl⟩ := own_slice hown'
    have e1 : entsV (l ++ [e]) = entsV l ++ e.cells := by simp [entsV]
    have := h A' c' w'
    rw [e1] at this
    exact this hown' ((Keep.refl _ _).grown hgrow (fun k hk => .inl (by simp [hk])))

/-- The entries that TermPlays appends. -/
def newE (x : Ts) (m : Nat) (ts : List (List UInt8)) (i : Nat) : En := ⟨x.base + x.log.length + 1 + i, m, (ts.getD i []).take 20⟩
def mayNew (x : Ts) (m : Nat) (ts : List (List UInt8)) (k : Nat) : List En := (List.range k).map (newE x m ts)
theorem mayNew_succ (x : Ts) (m : Nat) (ts : List (List UInt8)) (k : Nat) : mayNew x m ts (k + 1) = mayNew x m ts k ++ [newE x m ts k] := by simp [mayNew, List.range_succ]
@[simp] theorem mayNew_len (x : Ts) (m : Nat) (ts : List (List UInt8)) (k : Nat) : (mayNew x m ts k).length = k := by simp [mayNew]
def betw2 (x : Ts) (m : Nat) (ts : List (List UInt8)) (k : Nat) : List Ts := (List.range k).map fun i => { x with log := x.log ++ mayNew x m ts (i + 1) }
theorem betw2_succ (x : Ts) (m : Nat) (ts : List (List UInt8)) (k : Nat) : betw2 x m ts (k + 1) = betw2 x m ts k ++ [{ x with log := x.log ++ mayNew x m ts (k + 1) }] := by simp [betw2, List.range_succ]

structure M2Mid (x : Ts) (m : Nat) (ts : List (List UInt8)) (W0 wr : World) (k gb c2 yb : Nat) (Ay : Option Addr) (cy : Nat) (ps : List (Ts × Value)) : Prop where
  blk : Blk wr yb 51 #[.int .i64 (x.term : Int), .int .i64 (x.vote : Int), .int .i64 (x.base : Int), .int .i64 (x.baseTerm : Int), .string (bs x.snap), .slice Ay (x.log.length + k) cy]
  ents : EntsT wr (.slice Ay (x.log.length + k) cy) (x.log ++ mayNew x m ts k)
  own : wr.ownsRow W0.heap.size 51 6 (.slice (some ⟨gb, 0, none⟩) k c2) k (stsV ps)
  fst : ps.map Prod.fst = betw2 x m ts k
  all : ∀ p ∈ ps, EntsT wr p.2 p.1.log
  ne_ : gb ≠ yb
  keep : Keep [] W0 wr
theorem M2Mid.len {x : Ts} {m : Nat} {ts : List (List UInt8)} {W0 wr : World} {k gb c2 yb : Nat} {Ay : Option Addr} {cy : Nat} {ps : List (Ts × Value)} (h : M2Mid x m ts W0 wr k gb c2 yb Ay cy ps) : ps.length = k := by
  have := congrArg List.length h.fst
  simpa [betw2] using this
def M2Rel (x : Ts) (m : Nat) (ts : List (List UInt8)) (W0 : World) (yb : Nat) (v y : Value) (wr : World) : Prop :=
  ∃ k gb c2 Ay cy ps, k ≤ ts.length ∧ k ≤ 4 ∧ y = .int .i64 (k : Int) ∧ v = .slice (some ⟨gb, 0, none⟩) k c2 ∧ M2Mid x m ts W0 wr k gb c2 yb Ay cy ps

set_option maxRecDepth 100000 in
set_option maxHeartbeats 4000000 in
theorem may2_calls (x : Ts) (lg : Value) (n m : Nat) (s : List UInt8) (vt vc : Value) (ts : List (List UInt8)) (w : World) (hE : EntsT w lg x.log) (hv : StrsAt w vt ts) (hc : ∃ A k c, vc = .slice A k c) (hl : x.log.length ≤ 1000000) (hb : x.base ≤ 1000000000) :
    Calls Tryd.prog 21 #[x.agg lg, actV 2 n m s vt vc] w (MayPost { x with log := x.log ++ mayNew x m ts (min ts.length 4) } (betw2 x m ts (min ts.length 4)) w) := by
  obtain ⟨At, ct, rfl, hts⟩ := hv
  obtain ⟨Ac, kc, cc, rfl⟩ := hc
  obtain ⟨A, c, rfl⟩ := RowT.slice hE
  unfold Ts.agg actV
  have HE := Lib.hid hE
  have HTS := Lib.hid hts
  clear hE hts
  go_enter Tryd.func21, Tryd.ntmps21
  go_wp2
  have bx : Blk (((w.alloc (.cells #[.int .i64 (x.term : Int), .int .i64 (x.vote : Int), .int .i64 (x.base : Int), .int .i64 (x.baseTerm : Int), .string (bs x.snap), .slice A x.log.length c] 51)).alloc (.cells #[.int .i64 2, .int .i64 (n : Int), .int .i64 (m : Int), .string (bs s), .slice At ts.length ct, .slice Ac kc cc] 57)).alloc (.cells #[.int .i64 0, .int .i64 0, .int .i64 0, .int .i64 0, .string { data := #[] }, .slice none 0 0] 51)) w.heap.size 51 #[.int .i64 (x.term : Int), .int .i64 (x.vote : Int), .int .i64 (x.base : Int), .int .i64 (x.baseTerm : Int), .string (bs x.snap), .slice A x.log.length c] := ((Blk.new _ _ _).alloc _).alloc _
  have ba : Blk (((w.alloc (.cells #[.int .i64 (x.term : Int), .int .i64 (x.vote : Int), .int .i64 (x.base : Int), .int .i64 (x.baseTerm : Int), .string (bs x.snap), .slice A x.log.length c] 51)).alloc (.cells #[.int .i64 2, .int .i64 (n : Int), .int .i64 (m : Int), .string (bs s), .slice At ts.length ct, .slice Ac kc cc] 57)).alloc (.cells #[.int .i64 0, .int .i64 0, .int .i64 0, .int .i64 0, .string { data := #[] }, .slice none 0 0] 51)) (w.heap.size + 1) 57 #[.int .i64 2, .int .i64 (n : Int), .int .i64 (m : Int), .string (bs s), .slice At ts.length ct, .slice Ac kc cc] := (Blk.here _ _ _ _ (by simp)).alloc _
  have br : Blk (((w.alloc (.cells #[.int .i64 (x.term : Int), .int .i64 (x.vote : Int), .int .i64 (x.base : Int), .int .i64 (x.baseTerm : Int), .string (bs x.snap), .slice A x.log.length c] 51)).alloc (.cells #[.int .i64 2, .int .i64 (n : Int), .int .i64 (m : Int), .string (bs s), .slice At ts.length ct, .slice Ac kc cc] 57)).alloc (.cells #[.int .i64 0, .int .i64 0, .int .i64 0, .int .i64 0, .string { data := #[] }, .slice none 0 0] 51)) (w.heap.size + 1 + 1) 51 #[.int .i64 0, .int .i64 0, .int .i64 0, .int .i64 0, .string { data := #[] }, .slice none 0 0] := Blk.here _ _ _ _ (by simp)
  have kw : Keep [] w (((w.alloc (.cells #[.int .i64 (x.term : Int), .int .i64 (x.vote : Int), .int .i64 (x.base : Int), .int .i64 (x.baseTerm : Int), .string (bs x.snap), .slice A x.log.length c] 51)).alloc (.cells #[.int .i64 2, .int .i64 (n : Int), .int .i64 (m : Int), .string (bs s), .slice At ts.length ct, .slice Ac kc cc] 57)).alloc (.cells #[.int .i64 0, .int .i64 0, .int .i64 0, .int .i64 0, .string { data := #[] }, .slice none 0 0] 51)) := (((Keep.refl _ _).alloc _).alloc _).alloc _
  have sz : ((((w.alloc (.cells #[.int .i64 (x.term : Int), .int .i64 (x.vote : Int), .int .i64 (x.base : Int), .int .i64 (x.baseTerm : Int), .string (bs x.snap), .slice A x.log.length c] 51)).alloc (.cells #[.int .i64 2, .int .i64 (n : Int), .int .i64 (m : Int), .string (bs s), .slice At ts.length ct, .slice Ac kc cc] 57)).alloc (.cells #[.int .i64 0, .int .i64 0, .int .i64 0, .int .i64 0, .string { data := #[] }, .slice none 0 0] 51))).heap.size = w.heap.size + 1 + 1 + 1 := by simp
  generalize (((w.alloc (.cells #[.int .i64 (x.term : Int), .int .i64 (x.vote : Int), .int .i64 (x.base : Int), .int .i64 (x.baseTerm : Int), .string (bs x.snap), .slice A x.log.length c] 51)).alloc (.cells #[.int .i64 2, .int .i64 (n : Int), .int .i64 (m : Int), .string (bs s), .slice At ts.length ct, .slice Ac kc cc] 57)).alloc (.cells #[.int .i64 0, .int .i64 0, .int .i64 0, .int .i64 0, .string { data := #[] }, .slice none 0 0] 51)) = W0 at *
  have HBA := Lib.hid ba
  have HBR := Lib.hid br
  have HKW := Lib.hid kw
  have HSZ := Lib.hid sz
  clear bx ba br kw sz
  go_loopw [7, 10] (fun v y wr => M2Rel x m ts W0 (w.heap.size + 1 + 1 + 1 + 1) v y wr) (fun _ y _ => 4 - (intOf y).toNat)
  case atStart =>
    have hk0 : Keep [] W0 _ := ((Keep.refl [] W0).alloc (.cells #[] 51)).alloc (.cells #[.int .i64 (x.term : Int), .int .i64 (x.vote : Int), .int .i64 (x.base : Int), .int .i64 (x.baseTerm : Int), .string (bs x.snap), .slice A x.log.length c] 51)
    exact ⟨0, _, _, A, c, [], Nat.zero_le _, Nat.zero_le _, rfl, rfl, Blk.here _ _ _ _ (by simp [HSZ.out]), by have h9 := HE.out.keep (HKW.out.trans hk0) (by simp); simp only [mayNew, List.range_zero, List.map_nil, List.append_nil, Nat.add_zero]; exact h9, ⟨rfl, .inr ⟨_, 0, #[], rfl, by rw [HSZ.out]; exact Nat.le_refl _, (Blk.here _ _ _ _ HSZ.out.symm).alloc _, Nat.le_refl _, Nat.zero_le _, rfl, rfl⟩⟩, rfl, by simp, by omega, hk0⟩
  case round =>
    obtain ⟨k, gb, c2, Ay, cy, ps, hk1, hk2, rfl, rfl, hM⟩ := hrel
    have HM := Lib.hid hM
    have hba := HBA.out.keep hM.keep (by simp)
    have a4 : wr.cell? ⟨w.heap.size + 1, 4, none⟩ = some (.slice At ts.length ct) := hba.cell 4
    have hwl : w.heap.size + 1 + 1 + 1 + 1 < wr.heap.size := hM.blk.lt
    clear hM
    by_cases h : k < ts.length ∧ k < 4
    · obtain ⟨h1, h2⟩ := h
      have d1 : decide ((k : Int) < (ts.length : Int)) = true := by simp; omega
      have d2 : decide ((k : Int) < 4) = true := by simp; omega
      obtain ⟨gt, ot, rfl, hct⟩ := HTS.out (by intro h0; rw [h0] at h1; simp at h1)
      have t0 := hct k h1
      have hte : newE x m ts k = ⟨x.base + x.log.length + 1 + k, m, (ts[k]).take 20⟩ := by simp [newE, List.getD, h1]
      have HNE := Lib.hid hte
      have Ht0 := Lib.hid t0
      clear hct t0 hte
      generalize ts[k] = tx at *
      have hw1 : IntKind.i64.wrap ((x.base : Int) + (x.log.length : Int) + 1) = (x.base : Int) + (x.log.length : Int) + 1 := IntWalk.i64_in _ (by omega)
      have hw2 : IntKind.i64.wrap ((x.base : Int) + (x.log.length : Int) + 1 + (k : Int)) = (x.base : Int) + (x.log.length : Int) + 1 + (k : Int) := IntWalk.i64_in _ (by omega)
      have hw3 : (x.base : Int) + (x.log.length : Int) + 1 + (k : Int) = ((x.base + x.log.length + 1 + k : Nat) : Int) := by omega
      have hln : (x.log ++ mayNew x m ts k).length = x.log.length + k := by rw [List.length_append, mayNew_len]
      have HLN := Lib.hid hln
      have HW3 := Lib.hid hw3
      have hlm : (x.log ++ mayNew x m ts k).length ≤ 1000000000 := by rw [hln]; omega
      have HS : Hid (∀ W, Keep [] wr W → W.cell? ⟨w.heap.size + 1 + 1 + 1 + 1, 5, none⟩ = some (.slice Ay (x.log.length + k) cy) ∧ W.cell? ⟨w.heap.size + 1, 2, none⟩ = some (.int .i64 (m : Int)) ∧ W.cell? ⟨w.heap.size + 1, 4, none⟩ = some (.slice (some ⟨gt, ot, none⟩) ts.length ct) ∧ W.cell? ⟨gt, ot + k, none⟩ = some (.string (bs tx))) := fun W hk => by
        have h1 := HM.out.blk.keep hk (by simp)
        have h2 := hba.keep hk (by simp)
        have h3 := (HKW.out.trans HM.out.keep).trans hk
        exact ⟨h1.cell 5, h2.cell 2, h2.cell 4, (h3.cell (World.block_lt_of_cell? _ _ Ht0.out) (by simp)).trans Ht0.out⟩
      clear hln hw3
      go_upto_region 14 with fail
      refine wp_region_K (S := fun W => W.cell? ⟨w.heap.size + 1 + 1 + 1 + 1, 5, none⟩ = some (.slice Ay (x.log.length + k) cy) ∧ W.cell? ⟨w.heap.size + 1, 2, none⟩ = some (.int .i64 (m : Int)) ∧ W.cell? ⟨w.heap.size + 1, 4, none⟩ = some (.slice (some ⟨gt, ot, none⟩) ts.length ct) ∧ W.cell? ⟨gt, ot + k, none⟩ = some (.string (bs tx))) (z := 20) (by kernel_rfl) ?_
      have hHeld := HS.out wr.drew (Keep.refl _ _).drew
      refine wpAnyK_take (i := 1) (v := ?_) rfl rfl (by kernel_rfl) (by kernel_rfl) (by kernel_rfl) (by kernel_rfl) (by kernel_rfl) (fun _ _ _ h => h) (by rfl) ?_ hHeld ?_
      rotate_left
      · rintro W ⟨s1, s2, s3, s4⟩
        go_simp
        with_reducible rfl
      try simp only [Act.put]
      refine wpAnyK_take (i := 2) (v := ?_) rfl rfl (by kernel_rfl) (by kernel_rfl) (by kernel_rfl) (by kernel_rfl) (by kernel_rfl) (fun _ _ _ h => h) (by rfl) ?_ hHeld ?_
      rotate_left
      · rintro W ⟨s1, s2, s3, s4⟩
        go_simp
        with_reducible rfl
      try simp only [Act.put]
      refine wpAnyK_take (i := 4) (v := ?_) rfl rfl (by kernel_rfl) (by kernel_rfl) (by kernel_rfl) (by kernel_rfl) (by kernel_rfl) (fun _ _ _ h => h) (by rfl) ?_ hHeld ?_
      rotate_left
      · rintro W ⟨s1, s2, s3, s4⟩
        go_simp
        with_reducible rfl
      try simp only [Act.put]
      refine wpAnyK_take (i := 5) (v := ?_) rfl rfl (by kernel_rfl) (by kernel_rfl) (by kernel_rfl) (by kernel_rfl) (by kernel_rfl) (fun _ _ _ h => h) (by rfl) ?_ hHeld ?_
      rotate_left
      · rintro W ⟨s1, s2, s3, s4⟩
        go_simp
        with_reducible rfl
      try simp only [Act.put]
      refine wpAnyK_take (i := 6) (v := ?_) rfl rfl (by kernel_rfl) (by kernel_rfl) (by kernel_rfl) (by kernel_rfl) (by kernel_rfl) (fun _ _ _ h => h) (by rfl) ?_ hHeld ?_
      rotate_left
      · rintro W ⟨s1, s2, s3, s4⟩
        go_simp
        with_reducible rfl
      try simp only [Act.put]
      refine wpAnyK_take (i := 7) (v := ?_) rfl rfl (by kernel_rfl) (by kernel_rfl) (by kernel_rfl) (by kernel_rfl) (by kernel_rfl) (fun _ _ _ h => h) (by rfl) ?_ hHeld ?_
      rotate_left
      · rintro W ⟨s1, s2, s3, s4⟩
        go_simp
        with_reducible rfl
      try simp only [Act.put]
      refine wpAnyK_take (i := 8) (v := ?_) rfl rfl (by kernel_rfl) (by kernel_rfl) (by kernel_rfl) (by kernel_rfl) (by kernel_rfl) (fun _ _ _ h => h) (by rfl) ?_ hHeld ?_
      rotate_left
      · rintro W ⟨s1, s2, s3, s4⟩
        go_simp
        with_reducible rfl
      try simp only [Act.put]
      refine wpAnyK_take (i := 9) (v := ?_) rfl rfl (by kernel_rfl) (by kernel_rfl) (by kernel_rfl) (by kernel_rfl) (by kernel_rfl) (fun _ _ _ h => h) (by rfl) ?_ hHeld ?_
      rotate_left
      · rintro W ⟨s1, s2, s3, s4⟩
        go_simp
        with_reducible rfl
      try simp only [Act.put]
      refine wpAnyK_take (i := 10) (v := ?_) rfl rfl (by kernel_rfl) (by kernel_rfl) (by kernel_rfl) (by kernel_rfl) (by kernel_rfl) (fun _ _ _ h => h) (by rfl) ?_ hHeld ?_
      rotate_left
      · rintro W ⟨s1, s2, s3, s4⟩
        go_simp
        with_reducible rfl
      try simp only [Act.put]
      refine wpAnyK_take (i := 11) (v := ?_) rfl rfl (by kernel_rfl) (by kernel_rfl) (by kernel_rfl) (by kernel_rfl) (by kernel_rfl) (fun _ _ _ h => h) (by rfl) ?_ hHeld ?_
      rotate_left
      · rintro W ⟨s1, s2, s3, s4⟩
        go_simp
        with_reducible rfl
      try simp only [Act.put]
      refine wpAnyK_take (i := 12) (v := ?_) rfl rfl (by kernel_rfl) (by kernel_rfl) (by kernel_rfl) (by kernel_rfl) (by kernel_rfl) (fun _ _ _ h => h) (by rfl) ?_ hHeld ?_
      rotate_left
      · rintro W ⟨s1, s2, s3, s4⟩
        go_simp
        with_reducible rfl
      try simp only [Act.put]
      refine wpAnyK_take (i := 13) (v := ?_) rfl rfl (by kernel_rfl) (by kernel_rfl) (by kernel_rfl) (by kernel_rfl) (by kernel_rfl) (fun _ _ _ h => h) (by rfl) ?_ hHeld ?_
      rotate_left
      · rintro W ⟨s1, s2, s3, s4⟩
        go_simp
        with_reducible rfl
      try simp only [Act.put]
      refine wpAnyK_take (i := 14) (v := ?_) rfl rfl (by kernel_rfl) (by kernel_rfl) (by kernel_rfl) (by kernel_rfl) (by kernel_rfl) (fun _ _ _ h => h) (by rfl) ?_ hHeld ?_
      rotate_left
      · rintro W ⟨s1, s2, s3, s4⟩
        go_simp
        with_reducible rfl
      try simp only [Act.put]
      refine wpAnyK_one (k := 0) (by kernel_rfl) rfl (fun K hK => ?_)
      go_simp
      refine hK.out _ _ (fun _ => HS.out _ (by repeat (first | exact Keep.refl _ _ | refine Keep.drew ?_ | refine Keep.drewN ?_ _ | refine Keep.alloc ?_ _))) ?_
      clear hK K hHeld
      try simp only [Act.put]
      refine wpAnyK_one (k := 3) (by kernel_rfl) rfl (fun K hK => ?_)
      refine step_append_copy (B := wr.heap.size) (x.log ++ mayNew x m ts k) HLN.out.symm rfl (.tmp 50) (.tmp 52) rfl rfl rfl (Blk.here _ _ _ _ (by simp)) (by simp) (RowT.keep HM.out.ents (M := []) (by repeat (first | exact Keep.refl _ _ | refine Keep.drew ?_ | refine Keep.drewN ?_ _ | refine Keep.alloc ?_ _)) (by simp)) hlm ?_
      intro A5 c5 w5 hown5 hk5
      rw [HLN.out] at hown5 ⊢
      have HOWN5 := Lib.hid hown5
      have HK5 : Hid (Keep [] wr w5) := Keep.trans' (M := []) (by repeat (first | exact Keep.refl _ _ | refine Keep.drew ?_ | refine Keep.drewN ?_ _ | refine Keep.alloc ?_ _)) hk5 (by simp)
      clear hown5 hk5
      refine hK.out _ _ (fun _ => HS.out _ HK5.out) ?_
      clear hK K
      try simp only [Act.put]
      refine wpAnyK_one (k := 15) (by kernel_rfl) rfl (fun K hK => ?_)
      go_simp
      refine (cut_calls tx 20 _).mono ?_
      rintro e w5 ⟨rfl, rfl⟩
      refine hK.out _ _ (fun _ => HS.out _ HK5.out) ?_
      clear hK K
      have hHeld := HS.out _ HK5.out
      try simp only [Act.put]
      refine wpAnyK_take (i := 16) (v := ?_) rfl rfl (by kernel_rfl) (by kernel_rfl) (by kernel_rfl) (by kernel_rfl) (by kernel_rfl) (fun _ _ _ h => h) (by rfl) ?_ hHeld ?_
      rotate_left
      · rintro W ⟨s1, s2, s3, s4⟩
        go_simp
        with_reducible rfl
      try simp only [Act.put]
      refine wpAnyK_one (k := 17) (by kernel_rfl) rfl (fun K hK => ?_)
      go_simp
      refine hK.out _ _ (fun _ => HS.out _ (HK5.out.alloc _)) ?_
      clear hK K hHeld
      try simp only [Act.put]
      refine wpAnyK_one (k := 18) (by kernel_rfl) rfl (fun K hK => ?_)
      refine step_append_one (B := wr.heap.size) (x.log ++ mayNew x m ts k) ⟨x.base + x.log.length + 1 + k, m, tx.take 20⟩ rfl (.tmp 53) (.tmp 67) rfl rfl rfl (HOWN5.out.alloc _) HLN.out.symm (Blk.new _ _ _) HW3.out rfl hlm (by have := HK5.out.size; simp; omega) ?_
      intro A6 c6 w6 hown6 hk6
      rw [HLN.out] at hown6 ⊢
      have HOWN6 := Lib.hid hown6
      have HK6 : Hid (Keep [] wr w6) := Keep.trans' (M := []) (HK5.out.alloc _) hk6 (fun q hq => .inr ((HOWN5.out.lt q (Option.mem_toList.1 hq)).1))
      have hyb6 := HM.out.blk.keep HK6.out (by simp)
      have z5 : w6.cell? ⟨w.heap.size + 1 + 1 + 1 + 1, 5, none⟩ = some (.slice Ay (x.log.length + k) cy) := hyb6.cell 5
      have zf : w6.frozen? ⟨w.heap.size + 1 + 1 + 1 + 1, 5, none⟩ = false := hyb6.frozen 5
      clear hown6 hk6
      refine hK.out _ _ (fun _ => HS.out _ HK6.out) ?_
      clear hK K
      have hHeld := HS.out _ HK6.out
      try simp only [Act.put]
      refine wpAnyK_take (i := 19) (v := ?_) rfl rfl (by kernel_rfl) (by kernel_rfl) (by kernel_rfl) (by kernel_rfl) (by kernel_rfl) (fun _ _ _ h => h) (by rfl) ?_ hHeld ?_
      rotate_left
      · rintro W ⟨s1, s2, s3, s4⟩
        go_simp
        with_reducible rfl
      try simp only [Act.put]
      refine wpAnyK_one (k := 20) (by kernel_rfl) rfl (fun K hK => ?_)
      go_simp
      refine hK.out _ _ (fun h => absurd rfl h) ?_
      clear hK K hHeld
      refine wpAnyK_done (by kernel_rfl) ?_
      have hnt : ∀ g ∈ [w.heap.size + 1 + 1 + 1 + 1], ∀ cs fr, wr.heap[g]? ≠ some (.cells cs 93 fr) := by
        intro g hg
        simp only [List.mem_singleton] at hg
        subst hg
        exact HM.out.blk.not_ty (by decide)
      have hb7 := hyb6.set_ 5 (.slice A6 (x.log.length + k + 1) c6)
      have k67 : Keep [w.heap.size + 1 + 1 + 1 + 1] w6 (w6.setCell ⟨w.heap.size + 1 + 1 + 1 + 1, 5, none⟩ (.slice A6 (x.log.length + k + 1) c6)) := (Keep.refl _ _).setCell (.inl (by simp)) _
      have k7 : Keep [w.heap.size + 1 + 1 + 1 + 1] wr (w6.setCell ⟨w.heap.size + 1 + 1 + 1 + 1, 5, none⟩ (.slice A6 (x.log.length + k + 1) c6)) := (HK6.out.nil_).trans k67
      have e7 : EntsT (w6.setCell ⟨w.heap.size + 1 + 1 + 1 + 1, 5, none⟩ (.slice A6 (x.log.length + k + 1) c6)) (.slice A6 (x.log.length + (k + 1)) c6) (x.log ++ mayNew x m ts (k + 1)) := by
        have h1 := RowT.keep (RowT.of_own HOWN6.out) k67 (by
          intro g hg
          simp only [List.mem_singleton] at hg
          subst hg
          exact hyb6.not_ty (by decide))
        unfold EntsT
        rw [mayNew_succ, HNE.out, ← List.append_assoc, List.length_append, HLN.out, ← Nat.add_assoc]
        exact h1
      have o7 := k7.owns HM.out.own (fun q hq => by
        simp only [Value.ownBlock, Option.some.injEq] at hq
        subst hq
        simpa using HM.out.ne_)
      have p7 : ∀ p ∈ ps, EntsT (w6.setCell ⟨w.heap.size + 1 + 1 + 1 + 1, 5, none⟩ (.slice A6 (x.log.length + k + 1) c6)) p.2 p.1.log := fun p hp => (HM.out.all p hp).keep k7 hnt
      have kk7 : Keep [] W0 (w6.setCell ⟨w.heap.size + 1 + 1 + 1 + 1, 5, none⟩ (.slice A6 (x.log.length + k + 1) c6)) := HM.out.keep.trans' k7 (by simp [HSZ.out])
      have hpl := HM.out.len
      have hfst := HM.out.fst
      have hne7 := HM.out.ne_
      generalize w6.setCell ⟨w.heap.size + 1 + 1 + 1 + 1, 5, none⟩ (.slice A6 (x.log.length + k + 1) c6) = W7 at *
      have hw7 := hb7.lt
      have y0 : W7.cell? ⟨w.heap.size + 1 + 1 + 1 + 1, 0, none⟩ = some (.int .i64 (x.term : Int)) := hb7.cell 0
      have y1 : W7.cell? ⟨w.heap.size + 1 + 1 + 1 + 1, 1, none⟩ = some (.int .i64 (x.vote : Int)) := hb7.cell 1
      have y2 : W7.cell? ⟨w.heap.size + 1 + 1 + 1 + 1, 2, none⟩ = some (.int .i64 (x.base : Int)) := hb7.cell 2
      have y3 : W7.cell? ⟨w.heap.size + 1 + 1 + 1 + 1, 3, none⟩ = some (.int .i64 (x.baseTerm : Int)) := hb7.cell 3
      have y4 : W7.cell? ⟨w.heap.size + 1 + 1 + 1 + 1, 4, none⟩ = some (.string (bs x.snap)) := hb7.cell 4
      have y5 : W7.cell? ⟨w.heap.size + 1 + 1 + 1 + 1, 5, none⟩ = some (.slice A6 (x.log.length + k + 1) c6) := hb7.cell 5
      have HB7 : Hid (Blk W7 (w.heap.size + 1 + 1 + 1 + 1) 51 #[.int .i64 (x.term : Int), .int .i64 (x.vote : Int), .int .i64 (x.base : Int), .int .i64 (x.baseTerm : Int), .string (bs x.snap), .slice A6 (x.log.length + k + 1) c6]) := hb7
      have HE7 := Lib.hid e7
      have HO7 := Lib.hid o7
      have HP7 := Lib.hid p7
      have HKK7 := Lib.hid kk7
      have HPL := Lib.hid hpl
      have HFST := Lib.hid hfst
      have hW0 : W0.heap.size ≤ W7.heap.size := kk7.size
      clear hb7 k67 k7 e7 o7 p7 kk7 hnt hyb6 z5 zf hpl hfst HOWN5 HK5 HOWN6 HK6 HM HS hba a4 Ht0
      go_wp2_with (at_builtin; refine list_append_lies_st (B := W0.heap.size) (wr := W7) (v := .slice (some ⟨gb, 0, none⟩) k c2) (ps := ps) { x with log := x.log ++ mayNew x m ts (k + 1) } A6 (x.log.length + k + 1) c6 rfl (.tmp 70) (.tmp 72) rfl rfl rfl rfl ?c1 hW0 ?c2 ?_)
      case c1 => rw [HPL.out]; exact HO7.out
      case c2 => rw [HPL.out]; omega
      rw [HPL.out]
      intro g8 c8 w8 hown8 hk8 hat8
      have hgy : g8 ≠ w.heap.size + 1 + 1 + 1 + 1 := by
        rcases hat8 with h | h
        · simp only [Value.ownBlock, Option.some.injEq] at h; omega
        · omega
      have hown8' : w8.ownsRow W0.heap.size 51 6 (.slice (some ⟨g8, 0, none⟩) (k + 1) c8) (k + 1) (stsV (ps ++ [({ x with log := x.log ++ mayNew x m ts (k + 1) }, .slice A6 (x.log.length + (k + 1)) c6)])) := hown8
      have hnt8 : ∀ g ∈ (Value.slice (some ⟨gb, 0, none⟩) k c2).ownBlock.toList, ∀ cs fr, W7.heap[g]? ≠ some (.cells cs 93 fr) := by
        intro g hg
        have hg' := Option.mem_toList.1 hg
        rcases HO7.out.2 with ⟨h0, _⟩ | ⟨g', cap, cur, h0, _, hh, _⟩
        · cases h0
        · rw [h0] at hg'
          simp only [Value.ownBlock, Option.some.injEq] at hg'
          subst hg'
          exact Blk.not_ty (t := 51) hh (by decide)
      have hM8 : M2Mid x m ts W0 w8 (k + 1) g8 c8 (w.heap.size + 1 + 1 + 1 + 1) A6 c6 (ps ++ [({ x with log := x.log ++ mayNew x m ts (k + 1) }, .slice A6 (x.log.length + (k + 1)) c6)]) := by
        refine ⟨HB7.out.keep hk8 (fun hq => ?_), HE7.out.keep hk8 hnt8, hown8', ?_, ?_, hgy, HKK7.out.trans' hk8 (fun q hq => .inr (HO7.out.lt q (Option.mem_toList.1 hq)).1)⟩
        · have := Option.mem_toList.1 hq
          simp only [Value.ownBlock, Option.some.injEq] at this
          exact hne7 this
        · rw [List.map_append, HFST.out, betw2_succ]; rfl
        · intro p hp
          rcases List.mem_append.1 hp with hp | hp
          · exact (HP7.out p hp).keep hk8 hnt8
          · simp only [List.mem_singleton] at hp
            subst hp
            exact HE7.out.keep hk8 hnt8
      have HM8 := Lib.hid hM8
      clear hown8 hown8' hk8 hat8 hnt8 hM8
      go_wp2
      go_roundw
      case rel => exact ⟨k + 1, g8, c8, A6, c6, _, by omega, by omega, by go_num, rfl, HM8.out⟩
      case measure => simp [intOf]; omega
    · have HMIN : Hid (k = min ts.length 4) := (by omega : k = min ts.length 4)
      go_upto_region 12 with fail
      go_cut [47] from 39 to 73 (fun s wx => s = .bool false ∧ wx = wr)
      case first =>
        by_cases h1 : k < ts.length
        · have d1 : decide ((k : Int) < (ts.length : Int)) = true := by simp; omega
          have d2 : decide ((k : Int) < 4) = false := by simp; omega
          go_wp2_with fail
          go_meet
          exact ⟨rfl, rfl⟩
        · have d1 : decide ((k : Int) < (ts.length : Int)) = false := by simp; omega
          go_wp2_with fail
          go_meet
          exact ⟨rfl, rfl⟩
      case rest =>
        obtain ⟨rfl, rfl⟩ := hcut
        have hby := HM.out.blk
        have hbr := HBR.out.keep HM.out.keep (by simp)
        have y0 : wc.cell? ⟨w.heap.size + 1 + 1 + 1 + 1, 0, none⟩ = some (.int .i64 (x.term : Int)) := hby.cell 0
        have y1 : wc.cell? ⟨w.heap.size + 1 + 1 + 1 + 1, 1, none⟩ = some (.int .i64 (x.vote : Int)) := hby.cell 1
        have y2 : wc.cell? ⟨w.heap.size + 1 + 1 + 1 + 1, 2, none⟩ = some (.int .i64 (x.base : Int)) := hby.cell 2
        have y3 : wc.cell? ⟨w.heap.size + 1 + 1 + 1 + 1, 3, none⟩ = some (.int .i64 (x.baseTerm : Int)) := hby.cell 3
        have y4 : wc.cell? ⟨w.heap.size + 1 + 1 + 1 + 1, 4, none⟩ = some (.string (bs x.snap)) := hby.cell 4
        have y5 : wc.cell? ⟨w.heap.size + 1 + 1 + 1 + 1, 5, none⟩ = some (.slice Ay (x.log.length + k) cy) := hby.cell 5
        have r0 : wc.cell? ⟨w.heap.size + 1 + 1, 0, none⟩ = some (.int .i64 0) := hbr.cell 0
        have r1 : wc.cell? ⟨w.heap.size + 1 + 1, 1, none⟩ = some (.int .i64 0) := hbr.cell 1
        have r2 : wc.cell? ⟨w.heap.size + 1 + 1, 2, none⟩ = some (.int .i64 0) := hbr.cell 2
        have r3 : wc.cell? ⟨w.heap.size + 1 + 1, 3, none⟩ = some (.int .i64 0) := hbr.cell 3
        have r4 : wc.cell? ⟨w.heap.size + 1 + 1, 4, none⟩ = some (.string { data := #[] }) := hbr.cell 4
        have r5 : wc.cell? ⟨w.heap.size + 1 + 1, 5, none⟩ = some (.slice none 0 0) := hbr.cell 5
        have q0 : ∀ i, wc.frozen? ⟨w.heap.size + 1 + 1, i, none⟩ = false := fun i => hbr.frozen i
        have HR := Lib.hid hbr
        clear hby hbr
        go_wp2
        obtain ⟨hB6, hK6⟩ := six_cells HR.out (.int .i64 (x.term : Int)) (.int .i64 (x.vote : Int)) (.int .i64 (x.base : Int)) (.int .i64 (x.baseTerm : Int)) (.string (bs x.snap)) (.slice Ay (x.log.length + k) cy)
        refine may_ret rfl rfl hB6 ?_
        rw [← HMIN.out]
        have hkk : Keep [] w _ := (HKW.out.trans HM.out.keep).trans' hK6 (by simp; omega)
        have hnt : ∀ g ∈ [w.heap.size + 1 + 1], ∀ cs fr, wc.heap[g]? ≠ some (.cells cs 93 fr) := by
          intro g hg
          simp only [List.mem_singleton] at hg
          subst hg
          exact HR.out.not_ty (by decide)
        have hle := HM.out.ents.keep hK6 hnt
        refine ⟨Ay, cy, .slice (some ⟨gb, 0, none⟩) k c2, ?_, ?_, ⟨ps, HM.out.fst, fun p hp => (HM.out.all p hp).keep hK6 hnt, ?_⟩, hkk⟩
        · simp [Ts.agg]
        · simp only [List.length_append, mayNew_len]
          exact hle
        · rw [HM.out.len]
          refine RowT.of_own (hK6.owns HM.out.own (fun q hq => ?_))
          have h1 := (HM.out.own.lt q hq).1
          rw [HSZ.out] at h1
          simp
          omega

end Go.Proofs.YtpcbhechfbibbaaDoor
