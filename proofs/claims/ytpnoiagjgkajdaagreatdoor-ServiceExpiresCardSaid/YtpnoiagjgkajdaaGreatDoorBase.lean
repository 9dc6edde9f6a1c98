/- Words for memory: which blocks a call leaves alone ('Keep'), blocks known whole ('Blk'), maps keyed by strings ('MapIs'); plain lemmas on them. No program in sight. -/
import Derived.WalkKit
import Derived.WalkSpells
import Derived.Deep.Draws
import Derived.Deep.AppendLies
import Derived.Lib.Hide
namespace Go.Proofs.YtpnoiagjgkajdaaGreatDoor
open Go.RowKit

/-- Every block that there was, but those of M, is as it was. -/
structure Keep (M : List Nat) (w w' : World) : Prop where
  os : w'.os = w.os
  tape : w'.tape = w.tape
  output : w'.output = w.output
  size : w.heap.size ≤ w'.heap.size
  block : ∀ k, k < w.heap.size → k ∉ M → w'.heap[k]? = w.heap[k]?

/-- Block g is just the cells cs, none frozen. -/
def Blk (w : World) (g : Nat) (t : TypeId) (cs : Array Value) : Prop := w.heap[g]? = some (.cells cs t (0, 0))

section
variable {w w' : World} {g : Nat} {t : TypeId} {cs : Array Value}
theorem Blk.lt (h : Blk w g t cs) : g < w.heap.size := by
  rcases Nat.lt_or_ge g w.heap.size with hlt | hge
  · exact hlt
  · unfold Blk at h; rw [Array.getElem?_eq_none hge] at h; cases h
theorem Blk.cell (h : Blk w g t cs) (i : Nat) : w.cell? ⟨g, i, none⟩ = cs[i]? := cell_of_row w g i cs t (0, 0) h
theorem Blk.frozen (h : Blk w g t cs) (i : Nat) : w.frozen? ⟨g, i, none⟩ = false := by
  unfold Blk at h
  simp [World.frozen?, h]
theorem Blk.new (w : World) (t : TypeId) (cs : Array Value) : Blk (w.alloc (.cells cs t)) w.heap.size t cs := heap_alloc_new w _
theorem Blk.drew (h : Blk w g t cs) : Blk w.drew g t cs := h
theorem Blk.drewN (h : Blk w g t cs) (n : Nat) : Blk (w.drewN n) g t cs := h
theorem Blk.alloc (h : Blk w g t cs) (o : Obj) : Blk (w.alloc o) g t cs := (Below.heap_alloc w o g h.lt).trans h
theorem Blk.set_ (h : Blk w g t cs) (i : Nat) (u : Value) : Blk (w.setCell ⟨g, i, none⟩ u) g t (cs.setIfInBounds i u) := by
  unfold Blk at h ⊢
  simp [World.setCell, Array.getElem?_modify, h]
theorem Blk.far (h : Blk w g t cs) {p : Addr} (hp : g ≠ p.block) (u : Value) : Blk (w.setCell p u) g t cs := (Below.heap_setCell w p u g hp).trans h
theorem Blk.keep {M : List Nat} (h : Blk w g t cs) (hk : Keep M w w') (hg : g ∉ M) : Blk w' g t cs := (hk.block g h.lt hg).trans h
theorem Blk.grown {row : Option Nat} (h : Blk w g t cs) (hb : w.grownBy w' row) (hg : some g ≠ row) : Blk w' g t cs := (hb.block g h.lt hg).trans h
theorem Blk.ne_ {g' : Nat} {t' : TypeId} {cs' : Array Value} (h : Blk w g t cs) (h' : Blk w g' t' cs') (hne : t ≠ t') : g ≠ g' := by
  rintro rfl
  unfold Blk at h h'
  rw [h] at h'
  injection h' with h'
  injection h' with _ ht
  exact hne ht
theorem own_blk_ne {base : Nat} {e : TypeId} {size n : Nat} {v : Value} {xs : List Value} (h : w.ownsRow base e size v n xs) (hg : Blk w g t cs) (hne : e ≠ t) : v.ownBlock ≠ some g := by
  rcases h.2 with ⟨rfl, _⟩ | ⟨g', cap, cur, rfl, _, hh, _⟩
  · simp [Value.ownBlock]
  · intro he
    have : g' = g := by simpa [Value.ownBlock] using he
    subst this
    exact Blk.ne_ (t := e) hh hg hne rfl
end

namespace Keep
variable {M N : List Nat} {a b c w w' : World}
theorem refl (M : List Nat) (w : World) : Keep M w w := ⟨rfl, rfl, rfl, Nat.le_refl _, fun _ _ _ => rfl⟩
theorem trans' (h : Keep M a b) (k : Keep N b c) (hN : ∀ x ∈ N, x ∈ M ∨ a.heap.size ≤ x) : Keep M a c :=
  ⟨k.os.trans h.os, k.tape.trans h.tape, k.output.trans h.output, Nat.le_trans h.size k.size, fun i hi hm =>
    (k.block i (Nat.lt_of_lt_of_le hi h.size) (fun hx => by rcases hN i hx with h1 | h1; exact hm h1; omega)).trans (h.block i hi hm)⟩
theorem trans (h : Keep M a b) (k : Keep M b c) : Keep M a c := h.trans' k fun _ hx => .inl hx
theorem mono (h : Keep M w w') (hM : ∀ x ∈ M, x ∈ N ∨ w.heap.size ≤ x) : Keep N w w' :=
  ⟨h.os, h.tape, h.output, h.size, fun i hi hm => h.block i hi (fun hx => by rcases hM i hx with h1 | h1; exact hm h1; omega)⟩
theorem nil_ (h : Keep [] w w') : Keep M w w' := h.mono (fun _ hx => by cases hx)
theorem drew (h : Keep M a w) : Keep M a w.drew := ⟨h.os, h.tape, h.output, h.size, h.block⟩
theorem drewN (h : Keep M a w) (n : Nat) : Keep M a (w.drewN n) := ⟨h.os, h.tape, h.output, h.size, h.block⟩
theorem alloc (h : Keep M a w) (o : Obj) : Keep M a (w.alloc o) :=
  ⟨h.os, h.tape, h.output, Nat.le_trans h.size (by simp), fun i hi hm => (Below.heap_alloc w o i (Nat.lt_of_lt_of_le hi h.size)).trans (h.block i hi hm)⟩
theorem setCell (h : Keep M a w) {p : Addr} (hp : p.block ∈ M ∨ a.heap.size ≤ p.block) (u : Value) : Keep M a (w.setCell p u) :=
  ⟨h.os, h.tape, h.output, by simpa [World.setCell] using h.size, fun i hi hm => (Below.heap_setCell w p u i (by
    rintro rfl
    rcases hp with hp | hp
    · exact hm hp
    · omega)).trans (h.block i hi hm)⟩
theorem grown (h : Keep M a w) {row : Option Nat} (hg : w.grownBy w' row) (hr : ∀ k, row = some k → k ∈ M ∨ a.heap.size ≤ k) : Keep M a w' :=
  ⟨hg.os.trans h.os, hg.tape.trans h.tape, hg.output.trans h.output, Nat.le_trans h.size hg.size, fun i hi hm =>
    (hg.block i (Nat.lt_of_lt_of_le hi h.size) (fun e => by rcases hr i e.symm with h1 | h1; exact hm h1; omega)).trans (h.block i hi hm)⟩
theorem of_below (h : Below w.heap.size w w') : Keep M w w' := ⟨h.os, h.tape, h.output, h.size, fun i hi _ => h.block i hi⟩
theorem below (h : Keep M w w') {B : Nat} (hB : B ≤ w.heap.size) (hM : ∀ x ∈ M, B ≤ x) : Below B w w' :=
  ⟨h.os, h.tape, h.output, h.size, fun i hi => h.block i (by omega) (fun hx => by have := hM i hx; omega)⟩
theorem cell (h : Keep M w w') {p : Addr} (hp : p.block < w.heap.size) (hm : p.block ∉ M) : w'.cell? p = w.cell? p := World.cell?_of_block (h.block p.block hp hm)
theorem frozen (h : Keep M w w') {p : Addr} (hp : p.block < w.heap.size) (hm : p.block ∉ M) : w'.frozen? p = w.frozen? p := World.frozen?_of_block (h.block p.block hp hm)
theorem owns {base : Nat} {e : TypeId} {size n : Nat} {v : Value} {xs : List Value} (h : Keep M w w') (ho : w.ownsRow base e size v n xs) (hm : ∀ k, v.ownBlock = some k → k ∉ M) : w'.ownsRow base e size v n xs := by
  obtain ⟨h1, h2⟩ := ho
  refine ⟨h1, ?_⟩
  rcases h2 with h2 | ⟨g, cap, cur, hv, hg, hh, r⟩
  · exact Or.inl h2
  · have hlt : g < w.heap.size := by
      rcases Nat.lt_or_ge g w.heap.size with hlt | hge
      · exact hlt
      · rw [Array.getElem?_eq_none hge] at hh; cases hh
    exact Or.inr ⟨g, cap, cur, hv, hg, (h.block g hlt (hm g (by rw [hv]; rfl))).trans hh, r⟩
end Keep

theorem cell_alloc {w : World} {a : Addr} {v : Value} (h : w.cell? a = some v) (o : Obj) : (w.alloc o).cell? a = some v := (World.cell?_alloc_lt w o a (World.block_lt_of_cell? _ _ h)).trans h

/-- The bytes of a string, as a list; and back. -/
def bs (l : List UInt8) : ByteArray := ⟨l.toArray⟩
def lst (s : ByteArray) : List UInt8 := s.data.toList
@[simp] theorem lst_bs (l : List UInt8) : lst (bs l) = l := by simp [lst, bs]
@[simp] theorem bs_lst (s : ByteArray) : bs (lst s) = s := by cases s; simp [lst, bs]
theorem bs_inj {a b : List UInt8} (h : bs a = bs b) : a = b := by have := congrArg lst h; simpa using this
@[simp] theorem bs_eq (a b : List UInt8) : (bs a = bs b) = (a = b) := propext ⟨bs_inj, fun h => by rw [h]⟩
@[simp] theorem size_bs (l : List UInt8) : (bs l).size = l.length := by simp [bs, ByteArray.size]
@[simp] theorem length_lst (s : ByteArray) : (lst s).length = s.size := by cases s; rfl
theorem lst_append (a b : ByteArray) : lst (a ++ b) = lst a ++ lst b := by unfold lst; rw [ByteArray.data_append, Array.toList_append]
theorem bs_append (a b : List UInt8) : bs a ++ bs b = bs (a ++ b) := by
  have h := lst_append (bs a) (bs b)
  rw [lst_bs, lst_bs] at h
  rw [← h, bs_lst]
theorem lst_extract (s : ByteArray) (i j : Nat) : lst (s.extract i j) = ((lst s).drop i).take (j - i) := by
  simp [lst, ByteArray.data_extract, Array.toList_extract, List.extract_eq_take_drop]
theorem bs_extract (l : List UInt8) (i j : Nat) : (bs l).extract i j = bs ((l.drop i).take (j - i)) := by
  rw [← bs_lst ((bs l).extract i j), lst_extract, lst_bs]

theorem ba_self (a : ByteArray) : (a == a) = true := by
  have h : (a == a) = (a.data == a.data) := rfl
  rw [h]; simp
theorem ba_ne {a b : ByteArray} (hne : a ≠ b) : (a == b) = false := by
  have h : (a == b) = (a.data == b.data) := rfl
  rw [h, beq_eq_false_iff_ne]
  intro he
  exact hne (by cases a; cases b; simp_all)

/-- Block m is a map that holds just these keys, in this order. -/
def MapIs (w : World) (m : Nat) (L : List (List UInt8 × Value)) : Prop :=
  ∃ es clock, w.heap[m]? = some (.map es clock) ∧ es.toList.map (fun e => (e.key, e.val)) = L.map (fun p => (Value.string (bs p.1), p.2)) ∧ MapKept.Stamped es clock
def lookL (s : List UInt8) : List (List UInt8 × Value) → Option Value
  | [] => none
  | p :: L => if s = p.1 then some p.2 else lookL s L
def putL (s : List UInt8) (v : Value) : List (List UInt8 × Value) → List (List UInt8 × Value)
  | [] => [(s, v)]
  | p :: L => if s = p.1 then (s, v) :: L else p :: putL s v L
def delL (s : List UInt8) : List (List UInt8 × Value) → List (List UInt8 × Value)
  | [] => []
  | p :: L => if s = p.1 then L else p :: delL s L
theorem MapIs.lt {w : World} {m : Nat} {L : List (List UInt8 × Value)} (h : MapIs w m L) : m < w.heap.size := by
  obtain ⟨es, c, h, _⟩ := h
  rcases Nat.lt_or_ge m w.heap.size with hlt | hge
  · exact hlt
  · rw [Array.getElem?_eq_none hge] at h; cases h
theorem MapIs.ne_ {w : World} {m g : Nat} {L : List (List UInt8 × Value)} {t : TypeId} {cs : Array Value} (h : MapIs w m L) (h' : Blk w g t cs) : m ≠ g := by
  rintro rfl
  obtain ⟨es, c, h, _⟩ := h
  unfold Blk at h'
  rw [h] at h'
  cases h'
theorem MapIs.keep {w w' : World} {M : List Nat} {m : Nat} {L : List (List UInt8 × Value)} (h : MapIs w m L) (hk : Keep M w w') (hm : m ∉ M) : MapIs w' m L := by
  have hlt := h.lt
  obtain ⟨es, c, h, h2⟩ := h
  exact ⟨es, c, (hk.block m hlt hm).trans h, h2⟩
theorem MapIs.alloc {w : World} {m : Nat} {L : List (List UInt8 × Value)} (h : MapIs w m L) (o : Obj) : MapIs (w.alloc o) m L := h.keep ((Keep.refl [] w).alloc o) (by simp)
theorem MapIs.drew {w : World} {m : Nat} {L : List (List UInt8 × Value)} (h : MapIs w m L) : MapIs w.drew m L := h
theorem MapIs.drewN {w : World} {m : Nat} {L : List (List UInt8 × Value)} (h : MapIs w m L) (n : Nat) : MapIs (w.drewN n) m L := h
theorem MapIs.setCell {w : World} {m : Nat} {L : List (List UInt8 × Value)} (h : MapIs w m L) {p : Addr} (hp : m ≠ p.block) (u : Value) : MapIs (w.setCell p u) m L := by
  obtain ⟨es, c, h, h2⟩ := h
  exact ⟨es, c, (Below.heap_setCell w p u m hp).trans h, h2⟩
theorem MapIs.made (w : World) : MapIs (w.alloc (.map #[] 0)) w.heap.size [] := ⟨#[], 0, (MapKept.heap_alloc w _).1, by simp, MapKept.stamped_empty 0⟩

theorem findNow_str (s : List UInt8) : ∀ (es : List MapEntry) (L : List (List UInt8 × Value)) (i : Nat), es.map (fun e => (e.key, e.val)) = L.map (fun p => (Value.string (bs p.1), p.2)) →
    (lookL s L = none ∧ Instr.findNow .string (.string (bs s)) es i = some none) ∨ (∃ j v, lookL s L = some v ∧ Instr.findNow .string (.string (bs s)) es i = some (some (i + j, v)) ∧ (es[j]?).map (·.key) = some (.string (bs s)))
  | [], L, i, h => by
    have : L = [] := by simpa using h.symm
    subst this
    exact .inl ⟨rfl, rfl⟩
  | e :: es, L, i, h => by
    cases L with
    | nil => simp at h
    | cons p L =>
      simp only [List.map_cons, List.cons.injEq, Prod.mk.injEq] at h
      obtain ⟨⟨hk, hv⟩, ht⟩ := h
      by_cases hs : s = p.1
      · refine .inr ⟨0, p.2, by simp [lookL, hs], ?_, by simp [hk, hs]⟩
        subst hs
        simp only [Instr.findNow, Instr.sameNow, hk, hv, ba_self, Nat.add_zero]
      · have hne : (bs s == bs p.1) = false := by
          exact ba_ne (fun he => hs (bs_inj he))
        have hstep : Instr.findNow .string (.string (bs s)) (e :: es) i = Instr.findNow .string (.string (bs s)) es (i + 1) := by
          simp only [Instr.findNow, Instr.sameNow, hk, hne]
        rw [hstep]
        rcases findNow_str s es L (i + 1) ht with ⟨h1, h2⟩ | ⟨j, v, h1, h2, h3⟩
        · exact .inl ⟨by simp [lookL, hs, h1], h2⟩
        · exact .inr ⟨j + 1, v, by simp [lookL, hs, h1], by rw [h2]; simp; omega, by simpa using h3⟩

section
variable {P : Program} {w : World} {m : Nat} {L : List (List UInt8 × Value)} {t k e : TypeId}
theorem run_checkKey_str (hk : P.underlying k = some .string) (b : Bool) (v : Value) : (Instr.checkKey b 10000 k v).run P w = .ok () w := by
  have h : ∀ n, (Instr.checkKey b (n + 1) k v).run P w = .ok () w := fun n => by
    unfold Instr.checkKey
    simp [run_underlying hk]
  exact h 9999
theorem MapIs.look (h : MapIs w m L) (ht : P.underlying t = some (.map k e)) (hk : P.underlying k = some .string) {z : Value} (hz : (zeroValue e).run P w = .ok z w) (s : List UInt8) :
    (Instr.lookup t (.map (some m)) (.string (bs s)) false).run P w = .ok ((lookL s L).getD z) w := by
  obtain ⟨es, c, hb, hes, -⟩ := h
  have hc := run_checkKey_str (w := w) hk es.isEmpty (.string (bs s))
  rcases findNow_str s es.toList L 0 hes with ⟨h1, h2⟩ | ⟨j, v, h1, h2, h3⟩
  · simp [Instr.lookup, run_underlying ht, getObj, Sem.run, hb, hc, Instr.findKey, run_underlying hk, h2, hz, h1]
  · simp [Instr.lookup, run_underlying ht, getObj, Sem.run, hb, hc, Instr.findKey, run_underlying hk, h2, h1]

def setObjAt (w : World) (m : Nat) (o : Obj) : World := { w with heap := w.heap.setIfInBounds m o }
theorem setObjAt_keep (w : World) (m : Nat) (o : Obj) : Keep [m] w (setObjAt w m o) :=
  ⟨rfl, rfl, rfl, by simp [setObjAt], fun k _ hm => by
    have : m ≠ k := fun h => hm (by simp [h])
    simp [setObjAt, this]⟩
theorem setObjAt_same (w : World) (m : Nat) (o : Obj) (h : m < w.heap.size) : (setObjAt w m o).heap[m]? = some o := by
  simp [setObjAt, h]
theorem sameBits_str (s : ByteArray) : Instr.sameBits 10000 (.string s) (.string s) = true := by
  have h : ∀ n, Instr.sameBits n (.string s) (.string s) = true := fun n => by
    unfold Instr.sameBits
    exact ba_self s
  exact h 10000
theorem modify_put (s : List UInt8) (v : Value) : ∀ (es : List MapEntry) (L : List (List UInt8 × Value)) (i j : Nat) (u : Value), es.map (fun e => (e.key, e.val)) = L.map (fun p => (Value.string (bs p.1), p.2)) →
    Instr.findNow .string (.string (bs s)) es i = some (some (i + j, u)) →
    (es.modify j fun e => { e with key := .string (bs s), val := v }).map (fun e => (e.key, e.val)) = (putL s v L).map (fun p => (Value.string (bs p.1), p.2))
  | [], _, i, j, u, _, h2 => by simp [Instr.findNow] at h2
  | e :: es, L, i, j, u, h, h2 => by
    cases L with
    | nil => simp at h
    | cons p L =>
      simp only [List.map_cons, List.cons.injEq, Prod.mk.injEq] at h
      obtain ⟨⟨hk, hv⟩, ht⟩ := h
      by_cases hs : s = p.1
      · subst hs
        simp only [Instr.findNow, Instr.sameNow, hk, hv, ba_self, Option.some.injEq, Prod.mk.injEq] at h2
        have hj : j = 0 := by omega
        subst hj
        simp [putL, ht]
      · have hne : (bs s == bs p.1) = false := ba_ne (fun he => hs (bs_inj he))
        simp only [Instr.findNow, Instr.sameNow, hk, hne] at h2
        cases j with
        | zero =>
          exfalso
          rcases findNow_str s es L (i + 1) ht with ⟨_, h3⟩ | ⟨j, v, _, h3, _⟩
          · rw [h3] at h2; simp at h2
          · rw [h3] at h2; simp at h2; omega
        | succ j =>
          have := modify_put s v es L (i + 1) j u ht (by rw [h2]; simp; omega)
          simp [putL, hs, this, hk, hv]
theorem push_put (s : List UInt8) (v : Value) : ∀ L : List (List UInt8 × Value), lookL s L = none → putL s v L = L ++ [(s, v)]
  | [], _ => rfl
  | p :: L, h => by
    by_cases hs : s = p.1
    · simp [lookL, hs] at h
    · simp only [lookL, hs, if_false] at h
      simp [putL, hs, push_put s v L h]
theorem erase_del (s : List UInt8) : ∀ (es : List MapEntry) (L : List (List UInt8 × Value)) (i j : Nat) (u : Value), es.map (fun e => (e.key, e.val)) = L.map (fun p => (Value.string (bs p.1), p.2)) →
    Instr.findNow .string (.string (bs s)) es i = some (some (i + j, u)) →
    (es.eraseIdx j).map (fun e => (e.key, e.val)) = (delL s L).map (fun p => (Value.string (bs p.1), p.2))
  | [], _, i, j, u, _, h2 => by simp [Instr.findNow] at h2
  | e :: es, L, i, j, u, h, h2 => by
    cases L with
    | nil => simp at h
    | cons p L =>
      simp only [List.map_cons, List.cons.injEq, Prod.mk.injEq] at h
      obtain ⟨⟨hk, hv⟩, ht⟩ := h
      by_cases hs : s = p.1
      · subst hs
        simp only [Instr.findNow, Instr.sameNow, hk, hv, ba_self, Option.some.injEq, Prod.mk.injEq] at h2
        have hj : j = 0 := by omega
        subst hj
        simp [delL, ht]
      · have hne : (bs s == bs p.1) = false := ba_ne (fun he => hs (bs_inj he))
        simp only [Instr.findNow, Instr.sameNow, hk, hne] at h2
        cases j with
        | zero =>
          exfalso
          rcases findNow_str s es L (i + 1) ht with ⟨_, h3⟩ | ⟨j, v, _, h3, _⟩
          · rw [h3] at h2; simp at h2
          · rw [h3] at h2; simp at h2; omega
        | succ j =>
          have := erase_del s es L (i + 1) j u ht (by rw [h2]; simp; omega)
          simp [delL, hs, this, hk, hv]
theorem del_none (s : List UInt8) : ∀ L : List (List UInt8 × Value), lookL s L = none → delL s L = L
  | [], _ => rfl
  | p :: L, h => by
    by_cases hs : s = p.1
    · simp [lookL, hs] at h
    · simp only [lookL, hs, if_false] at h
      simp [delL, hs, del_none s L h]
theorem look_none_keys (s : List UInt8) : ∀ (es : List MapEntry) (L : List (List UInt8 × Value)), es.map (fun e => (e.key, e.val)) = L.map (fun p => (Value.string (bs p.1), p.2)) → lookL s L = none → ∀ x ∈ es, x.key ≠ .string (bs s)
  | [], _, _, _, x, hx => by cases hx
  | e :: es, [], h, _, _, _ => by simp at h
  | e :: es, p :: L, h, hn, x, hx => by
    simp only [List.map_cons, List.cons.injEq, Prod.mk.injEq] at h
    by_cases hs : s = p.1
    · simp [lookL, hs] at hn
    · simp only [lookL, hs, if_false] at hn
      rcases List.mem_cons.1 hx with rfl | hx
      · rw [h.1.1]
        intro he
        injection he with he
        exact hs (bs_inj he).symm
      · exact look_none_keys s es L h.2 hn x hx
theorem MapIs.put (h : MapIs w m L) (ht : P.underlying t = some (.map k e)) (hk : P.underlying k = some .string) (s : List UInt8) (v : Value) :
    ∃ w', (Instr.mapUpdate t (.map (some m)) (.string (bs s)) v).run P w = .ok () w' ∧ MapIs w' m (putL s v L) ∧ Keep [m] w w' ∧ w'.heap.size = w.heap.size := by
  have hlt := h.lt
  obtain ⟨es, c, hb, hes, hst⟩ := h
  have hc := run_checkKey_str (w := w) hk false (.string (bs s))
  rcases findNow_str s es.toList L 0 hes with ⟨h1, h2⟩ | ⟨j, u, h1, h2, h3⟩
  · refine ⟨setObjAt w m (.map (es.push { key := .string (bs s), val := v, born := c }) (c + 1)), ?_, ⟨_, _, setObjAt_same _ _ _ hlt, ?_, MapKept.stamped_push hst (look_none_keys s es.toList L hes h1)⟩, setObjAt_keep _ _ _, by simp [setObjAt]⟩
    · simp [Instr.mapUpdate, run_underlying ht, getObj, setObj, Sem.run, hb, hc, Instr.findKey, run_underlying hk, h2, setObjAt, Result.andThen]
    · rw [push_put s v L h1]; simp [hes]
  · have hm := modify_put s v es.toList L 0 j u hes (by simpa using h2)
    refine ⟨setObjAt w m (.map (es.modify j fun e => { e with key := .string (bs s), val := v }) c), ?_, ⟨_, _, setObjAt_same _ _ _ hlt, ?_, MapKept.stamped_modify hst j _ (fun _ _ => rfl) (fun e _ he => by simp only [Array.getElem?_toList, he, Option.map_some, Option.some.injEq] at h3; exact h3.symm)⟩, setObjAt_keep _ _ _, by simp [setObjAt]⟩
    · have hkey : ((es[j]?).map (·.key)).getD (.string (bs s)) = .string (bs s) := by
        simp only [Array.getElem?_toList] at h3
        rw [h3]; rfl
      simp [Instr.mapUpdate, run_underlying ht, getObj, setObj, Sem.run, hb, hc, Instr.findKey, run_underlying hk, h2, setObjAt, Result.andThen, Instr.keyThatStays, hkey, sameBits_str]
    · simpa using hm
theorem MapIs.del (h : MapIs w m L) (ht : P.underlying t = some (.map k e)) (hk : P.underlying k = some .string) (s : List UInt8) :
    ∃ w', (∀ ty, (Builtin.delete_ #[t, k] ty #[.map (some m), .string (bs s)]).run P w = .ok (.tuple #[]) w') ∧ MapIs w' m (delL s L) ∧ Keep [m] w w' ∧ w'.heap.size = w.heap.size := by
  have hlt := h.lt
  obtain ⟨es, c, hb, hes, hst⟩ := h
  have hc := run_checkKey_str (w := w) hk es.isEmpty (.string (bs s))
  rcases findNow_str s es.toList L 0 hes with ⟨h1, h2⟩ | ⟨j, u, h1, h2, h3⟩
  · refine ⟨setObjAt w m (.map es c), ?_, ⟨_, _, setObjAt_same _ _ _ hlt, ?_, hst⟩, setObjAt_keep _ _ _, by simp [setObjAt]⟩
    · intro ty
      simp [Builtin.delete_, run_underlying ht, getObj, setObj, Sem.run, hb, hc, Instr.findKey, run_underlying hk, h2, setObjAt, Result.andThen]
    · rw [del_none s L h1]; exact hes
  · have hm := erase_del s es.toList L 0 j u hes (by simpa using h2)
    refine ⟨setObjAt w m (.map (es.eraseIdxIfInBounds j) c), ?_, ⟨_, _, setObjAt_same _ _ _ hlt, ?_, MapKept.stamped_erase hst j⟩, setObjAt_keep _ _ _, by simp [setObjAt]⟩
    · intro ty
      simp [Builtin.delete_, run_underlying ht, getObj, setObj, Sem.run, hb, hc, Instr.findKey, run_underlying hk, h2, setObjAt, Result.andThen]
    · rw [← hm]
      congr 1
      unfold Array.eraseIdxIfInBounds
      split
      · simp
      · rename_i hge
        rw [List.eraseIdx_of_length_le (by simpa using hge)]
end

end Go.Proofs.YtpnoiagjgkajdaaGreatDoor
