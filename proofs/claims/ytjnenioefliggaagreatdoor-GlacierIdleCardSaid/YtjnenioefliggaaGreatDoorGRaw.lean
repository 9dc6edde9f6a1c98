/- Plain: the commands that came in, and those among them that are told. -/
import Derived.Test.YtjnenioefliggaaGreatDoorGoodA
import Derived.Test.YtjnenioefliggaaGreatDoorGDisk
import Derived.Test.YtjnenioefliggaaGreatDoorGSes
set_option linter.unusedVariables false
namespace Go.Proofs.YtjnenioefliggaaGreatDoor
open Go.RowKit
/-- A command as it came in. -/
structure Rc where
  K : Int
  C : Int
  S : Int
  nm : List UInt8
  B : Nat
  Z : Int
  U : Nat
  ds : List Int
  Po : Int
  V : Int
  At : Int
/-- Its cells. -/
def Rc.cells (r : Rc) (dv : Value) : List Value := [.int .i64 r.K, .int .i64 r.C, .int .i64 r.S, .string (bs r.nm), .int .u64 (r.B : Int), .int .i64 r.Z, .int .u32 (r.U : Int), dv, .int .i64 r.Po, .int .i64 r.V, .int .i64 r.At]
/-- Numbers that fit. -/
structure Rc.Fit (r : Rc) : Prop where
  blob : r.B < 18446744073709551616
  sum : r.U ≤ 4294967295
  len : r.ds.length ≤ 17592186043904
/-- A slice of numbers that is read. -/
def NumsAt (w : World) (v : Value) (l : List Int) : Prop := ∃ A cap, v = .slice A l.length cap ∧ ∀ k (hk : k < l.length), ∃ g o, A = some ⟨g, o, none⟩ ∧ w.cell? ⟨g, o + k, none⟩ = some (.int .i64 l[k]) ∧ g < w.heap.size
/-- A command lies there. -/
def RcAt (w : World) (g o : Nat) (r : Rc) (dv : Value) : Prop := (∀ i u, (r.cells dv)[i]? = some u → w.cell? ⟨g, o + i, none⟩ = some u) ∧ NumsAt w dv r.ds
/-- A slice of commands. -/
def RcsAt (w : World) (v : Value) (l : List Rc) : Prop := ∃ A cap, v = .slice A l.length cap ∧ ∀ j (hj : j < l.length), ∃ g o dv, A = some ⟨g, o, none⟩ ∧ RcAt w g (o + j * 11) l[j] dv ∧ l[j].Fit
def Rc.good (r : Rc) : Prop := GoodI r.K r.C r.S r.nm r.Z (diskF r.ds) r.Po r.V r.At
def moverI (K : Int) : Prop := K = 6 ∨ K = 7 ∨ K = 8 ∨ K = 9 ∨ K = 10 ∨ K = 14
def Rc.cm (r : Rc) : Cm := ⟨r.K.toNat, r.C.toNat, r.S.toNat, r.nm, r.B, r.Z.toNat, r.U, (diskF r.ds).map Int.toNat, r.Po.toNat, r.V.toNat, r.At.toNat⟩
open Classical in
noncomputable def Rc.val (r : Rc) : Option Cm := if moverI r.K ∧ r.good ∧ r.Fit then some r.cm else none
theorem asc_pw : ∀ (l : List Nat), (∀ k (h : k < l.length), 0 < k → l[k - 1]'(by omega) < l[k]) → l.Pairwise (· < ·) := fun l h => by
  have step : ∀ j (hj : j < l.length) i (hi : i < j), l[i]'(by omega) < l[j] := by
    intro j
    induction j with
    | zero => intro hj i hi; omega
    | succ j ih =>
      intro hj i hi
      have h1 := h (j + 1) hj (by omega)
      simp only [Nat.add_sub_cancel] at h1
      rcases Nat.lt_or_ge i j with h2 | h2
      · exact Nat.lt_trans (ih (by omega) i h2) h1
      · obtain rfl : i = j := by omega
        exact h1
  exact List.pairwise_iff_getElem.2 fun i j hi hj hij => step j hj i hij
theorem cm_ok {r : Rc} (h : r.good) (hf : r.Fit) : r.cm.Ok := by
  have h1 := h.kind
  have h2 := h.client
  have h3 := h.seq
  have h4 := h.size
  have h5 := h.pool
  have h6 := h.vol
  have h7 := h.at_
  refine ⟨by simp only [Rc.cm]; omega, by simp only [Rc.cm]; omega, by simp only [Rc.cm]; omega, h.name, hf.blob, by simp only [Rc.cm]; omega, hf.sum, ?_, ?_, by simp only [Rc.cm]; omega, by simp only [Rc.cm]; omega, by simp only [Rc.cm]; omega⟩
  · refine asc_pw _ fun k hk h0 => ?_
    simp only [Rc.cm, List.length_map] at hk
    simp only [Rc.cm, List.getElem_map]
    have a1 := h.disks k hk h0
    have a2 := h.disk k hk
    have a3 := h.disk (k - 1) (by omega)
    omega
  · intro d hd
    simp only [Rc.cm, List.mem_map] at hd
    obtain ⟨z, hz, rfl⟩ := hd
    obtain ⟨k, hk, rfl⟩ := List.getElem_of_mem hz
    have := h.disk k hk
    omega
theorem cm_cells {r : Rc} (h : r.good) (dv : Value) : r.cells dv = [.int .i64 (r.cm.kind : Int), .int .i64 (r.cm.client : Int), .int .i64 (r.cm.seq : Int), .string (bs r.cm.name), .int .u64 (r.cm.blob : Int), .int .i64 (r.cm.size : Int), .int .u32 (r.cm.sum : Int), dv, .int .i64 (r.cm.pool : Int), .int .i64 (r.cm.vol : Int), .int .i64 (r.cm.at_ : Int)] := by
  have h1 := h.kind
  have h2 := h.client
  have h3 := h.seq
  have h4 := h.size
  have h5 := h.pool
  have h6 := h.vol
  have h7 := h.at_
  have e1 : (r.K.toNat : Int) = r.K := Int.toNat_of_nonneg (by omega)
  have e2 : (r.C.toNat : Int) = r.C := Int.toNat_of_nonneg (by omega)
  have e3 : (r.S.toNat : Int) = r.S := Int.toNat_of_nonneg (by omega)
  have e4 : (r.Z.toNat : Int) = r.Z := Int.toNat_of_nonneg (by omega)
  have e5 : (r.Po.toNat : Int) = r.Po := Int.toNat_of_nonneg (by omega)
  have e6 : (r.V.toNat : Int) = r.V := Int.toNat_of_nonneg (by omega)
  have e7 : (r.At.toNat : Int) = r.At := Int.toNat_of_nonneg (by omega)
  simp only [Rc.cells, Rc.cm, e1, e2, e3, e4, e5, e6, e7]
theorem blk_cm {r : Rc} (h : r.good) (dv : Value) (w : World) : Blk (w.alloc (.cells (r.cells dv).toArray 41)) w.heap.size 41 #[.int .i64 (r.cm.kind : Int), .int .i64 (r.cm.client : Int), .int .i64 (r.cm.seq : Int), .string (bs r.cm.name), .int .u64 (r.cm.blob : Int), .int .i64 (r.cm.size : Int), .int .u32 (r.cm.sum : Int), dv, .int .i64 (r.cm.pool : Int), .int .i64 (r.cm.vol : Int), .int .i64 (r.cm.at_ : Int)] :=
  Eq.subst (motive := fun a => Blk (w.alloc (.cells (r.cells dv).toArray 41)) w.heap.size 41 a) (congrArg List.toArray (cm_cells h dv)) (Blk.new w _ _)
theorem isl_intSl {w : World} {B : Nat} {v : Value} {rs : List Int} (h : ISl B w v rs) (h0 : ∀ k (hk : k < rs.length), 0 ≤ rs[k]) : IntSl w v (rs.map Int.toNat) := by
  rcases h with ⟨rfl, rfl⟩ | ⟨g, cap, cs, rfl, hb, _, _, _, hc⟩
  · exact IntSl.nil w
  · refine .inr ⟨g, 0, cap, cs, by rw [List.length_map], hb, fun j hj => ?_⟩
    rw [List.length_map] at hj
    rw [Nat.zero_add, hc j hj, List.getElem_map, Int.toNat_of_nonneg (h0 j hj)]
theorem diskF_len (ds : List Int) : (diskF ds).length ≤ ds.length := by
  unfold diskF
  refine Nat.le_trans compact_len ?_
  rw [List.length_mergeSort]
  exact List.length_filter_le _ _
theorem ISl.far {w : World} {B : Nat} {v : Value} {rs : List Int} (h : ISl B w v rs) {p : Addr} (hp : p.block < B) (u : Value) : ISl B (w.setCell p u) v rs := by
  rcases h with h | ⟨g, cap, cs, rfl, hb, h1, h2⟩
  · exact .inl h
  · exact .inr ⟨g, cap, cs, rfl, hb.far (by omega) u, h1, h2⟩
theorem ISl.keep {w w' : World} {B : Nat} {v : Value} {rs : List Int} (h : ISl B w v rs) (hk : Keep [] w w') : ISl B w' v rs := by
  rcases h with h | ⟨g, cap, cs, rfl, hb, h1, h2⟩
  · exact .inl h
  · exact .inr ⟨g, cap, cs, rfl, hb.keep hk (by simp), h1, h2⟩
theorem ISl.own {w : World} {B : Nat} {v : Value} {rs : List Int} (h : ISl B w v rs) {q : Nat} (hq : v.ownBlock = some q) : B ≤ q := by
  rcases h with ⟨_, rfl⟩ | ⟨g, cap, cs, rfl, hb, h1, h2⟩
  · simp [Value.ownBlock] at hq
  · have : g = q := by simpa [Value.ownBlock] using hq
    omega
def dfl : Cm := ⟨6, 0, 0, [], 0, 0, 0, [], 0, 0, 0⟩
theorem dfl_ok : dfl.Ok := ⟨by decide, by decide, by decide, by decide, by decide, by decide, by decide, by simp [dfl], by simp [dfl], by decide, by decide, by decide⟩
/-- Those of the first n that are told. -/
noncomputable def told (l : List Rc) (n : Nat) : List Cm := (l.take n).filterMap Rc.val
theorem told_len (l : List Rc) (n : Nat) : (told l n).length ≤ n := Nat.le_trans (List.length_filterMap_le _ _) (by simp; omega)
theorem told_some {l : List Rc} {n : Nat} {r : Rc} {c : Cm} (hr : l[n]? = some r) (hv : r.val = some c) : told l (n + 1) = told l n ++ [c] := by
  unfold told
  rw [List.take_add_one, hr, List.filterMap_append]
  simp [hv]
theorem told_none {l : List Rc} {n : Nat} {r : Rc} (hr : l[n]? = some r) (hv : r.val = none) : told l (n + 1) = told l n := by
  unfold told
  rw [List.take_add_one, hr, List.filterMap_append]
  simp [hv]
/-- The commands in their order. -/
noncomputable def comms (l : List Rc) (j : Nat) : Cm := (told l 10).getD j dfl
theorem told_pre (l : List Rc) {n : Nat} (hn : n ≤ 10) : ∃ t, told l 10 = told l n ++ t := by
  refine ⟨((l.take 10).drop n).filterMap Rc.val, ?_⟩
  unfold told
  rw [← List.filterMap_append]
  congr 1
  rw [show l.take n = (l.take 10).take n by rw [List.take_take, Nat.min_eq_left hn], List.take_append_drop]
theorem comms_at {l : List Rc} {n : Nat} {r : Rc} {c : Cm} (hn : n < 10) (hr : l[n]? = some r) (hv : r.val = some c) : comms l (told l n).length = c := by
  obtain ⟨t, ht⟩ := told_pre l (n := n + 1) (by omega)
  rw [told_some hr hv] at ht
  unfold comms
  rw [ht, List.getD_eq_getElem?_getD]
  simp
theorem val_ok {r : Rc} {c : Cm} (h : r.val = some c) : c = r.cm ∧ moverI r.K ∧ r.good ∧ r.Fit := by
  unfold Rc.val at h
  split at h
  · rename_i h1
    injection h with h
    exact ⟨h.symm, h1⟩
  · cases h
theorem val_none {r : Rc} (h : ¬ (moverI r.K ∧ r.good ∧ r.Fit)) : r.val = none := by
  unfold Rc.val
  rw [if_neg h]
theorem val_some {r : Rc} (h1 : moverI r.K) (h2 : r.good) (h3 : r.Fit) : r.val = some r.cm := by
  unfold Rc.val
  rw [if_pos ⟨h1, h2, h3⟩]
theorem comms_ok (l : List Rc) (j : Nat) : (comms l j).Ok ∧ MoverKind (comms l j).kind := by
  unfold comms
  rw [List.getD_eq_getElem?_getD]
  cases h : (told l 10)[j]? with
  | none => exact ⟨dfl_ok, .inl rfl⟩
  | some c =>
    have hm := List.mem_of_getElem? h
    unfold told at hm
    obtain ⟨r, _, hv⟩ := List.mem_filterMap.1 hm
    obtain ⟨rfl, h1, h2, h3⟩ := val_ok hv
    refine ⟨cm_ok h2 h3, ?_⟩
    unfold moverI at h1
    show MoverKind r.K.toNat
    unfold MoverKind
    omega
end Go.Proofs.YtjnenioefliggaaGreatDoor
