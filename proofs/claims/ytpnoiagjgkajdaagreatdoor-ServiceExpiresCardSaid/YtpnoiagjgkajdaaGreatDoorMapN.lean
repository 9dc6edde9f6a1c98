/- Maps keyed by whole numbers of one kind, whatever their values; plain lemmas on them. No program in sight. -/
import Derived.Test.YtpnoiagjgkajdaaGreatDoorBase
namespace Go.Proofs.YtpnoiagjgkajdaaGreatDoor
open Go.RowKit
variable {q : IntKind}

/-- Block m is a map that holds just these keys, in this order. -/
def MapN (q : IntKind) (w : World) (m : Nat) (L : List (Int × Value)) : Prop :=
  ∃ es clock, w.heap[m]? = some (.map es clock) ∧ es.toList.map (fun e => (e.key, e.val)) = L.map (fun p => (Value.int q p.1, p.2)) ∧ MapKept.Stamped es clock
def lookN (s : Int) : List (Int × Value) → Option Value
  | [] => none
  | p :: L => if s = p.1 then some p.2 else lookN s L
def putN (s : Int) (v : Value) : List (Int × Value) → List (Int × Value)
  | [] => [(s, v)]
  | p :: L => if s = p.1 then (s, v) :: L else p :: putN s v L
def delN (s : Int) : List (Int × Value) → List (Int × Value)
  | [] => []
  | p :: L => if s = p.1 then L else p :: delN s L
theorem MapN.lt {w : World} {m : Nat} {L : List (Int × Value)} (h : MapN q w m L) : m < w.heap.size := by
  obtain ⟨es, c, h, _⟩ := h
  rcases Nat.lt_or_ge m w.heap.size with hlt | hge
  · exact hlt
  · rw [Array.getElem?_eq_none hge] at h; cases h
theorem MapN.ne_ {w : World} {m g : Nat} {L : List (Int × Value)} {t : TypeId} {cs : Array Value} (h : MapN q w m L) (h' : Blk w g t cs) : m ≠ g := by
  rintro rfl
  obtain ⟨es, c, h, _⟩ := h
  unfold Blk at h'
  rw [h] at h'
  cases h'
theorem MapN.keep {w w' : World} {M : List Nat} {m : Nat} {L : List (Int × Value)} (h : MapN q w m L) (hk : Keep M w w') (hm : m ∉ M) : MapN q w' m L := by
  have hlt := h.lt
  obtain ⟨es, c, h, h2⟩ := h
  exact ⟨es, c, (hk.block m hlt hm).trans h, h2⟩
theorem MapN.alloc {w : World} {m : Nat} {L : List (Int × Value)} (h : MapN q w m L) (o : Obj) : MapN q (w.alloc o) m L := h.keep ((Keep.refl [] w).alloc o) (by simp)
theorem MapN.drew {w : World} {m : Nat} {L : List (Int × Value)} (h : MapN q w m L) : MapN q w.drew m L := h
theorem MapN.drewN {w : World} {m : Nat} {L : List (Int × Value)} (h : MapN q w m L) (n : Nat) : MapN q (w.drewN n) m L := h
theorem MapN.setCell {w : World} {m : Nat} {L : List (Int × Value)} (h : MapN q w m L) {p : Addr} (hp : m ≠ p.block) (u : Value) : MapN q (w.setCell p u) m L := by
  obtain ⟨es, c, h, h2⟩ := h
  exact ⟨es, c, (Below.heap_setCell w p u m hp).trans h, h2⟩
theorem MapN.made (w : World) : MapN q (w.alloc (.map #[] 0)) w.heap.size [] := ⟨#[], 0, (MapKept.heap_alloc w _).1, by simp, MapKept.stamped_empty 0⟩

theorem findNow_n (s : Int) : ∀ (es : List MapEntry) (L : List (Int × Value)) (i : Nat), es.map (fun e => (e.key, e.val)) = L.map (fun p => (Value.int q p.1, p.2)) →
    (lookN s L = none ∧ Instr.findNow (.int q) (.int q s) es i = some none) ∨ (∃ j v, lookN s L = some v ∧ Instr.findNow (.int q) (.int q s) es i = some (some (i + j, v)) ∧ (es[j]?).map (·.key) = some (.int q s))
  | [], L, i, h => by
    have : L = [] := by simpa using h.symm
    subst this
    exact .inl ⟨rfl, rfl⟩
  | e :: es, L, i, h => by
    cases L with
    | nil => simp at h
    | cons p L =>
      simp only [List.map_cons, List.cons.injEq, Prod.mk.injEq] at h
      obtain ⟨⟨hk, hv⟩, ht⟩ := h
      by_cases hs : s = p.1
      · refine .inr ⟨0, p.2, by simp [lookN, hs], ?_, by simp [hk, hs]⟩
        subst hs
        simp only [Instr.findNow, Instr.sameNow, hk, hv, if_true, beq_self_eq_true, Nat.add_zero]
      · have hne : (s == p.1) = false := by
          exact beq_eq_false_iff_ne.2 hs
        have hstep : Instr.findNow (.int q) (.int q s) (e :: es) i = Instr.findNow (.int q) (.int q s) es (i + 1) := by
          simp only [Instr.findNow, Instr.sameNow, hk, if_true, hne]
        rw [hstep]
        rcases findNow_n s es L (i + 1) ht with ⟨h1, h2⟩ | ⟨j, v, h1, h2, h3⟩
        · exact .inl ⟨by simp [lookN, hs, h1], h2⟩
        · exact .inr ⟨j + 1, v, by simp [lookN, hs, h1], by rw [h2]; simp; omega, by simpa using h3⟩

section
variable {P : Program} {w : World} {m : Nat} {L : List (Int × Value)} {t k e : TypeId}
theorem run_checkKey_n (hk : P.underlying k = some (.int q)) (b : Bool) (v : Value) : (Instr.checkKey b 10000 k v).run P w = .ok () w := by
  have h : ∀ n, (Instr.checkKey b (n + 1) k v).run P w = .ok () w := fun n => by
    unfold Instr.checkKey
    simp [run_underlying hk]
  exact h 9999
theorem MapN.look (h : MapN q w m L) (ht : P.underlying t = some (.map k e)) (hk : P.underlying k = some (.int q)) {z : Value} (hz : (zeroValue e).run P w = .ok z w) (s : Int) :
    (Instr.lookup t (.map (some m)) (.int q s) false).run P w = .ok ((lookN s L).getD z) w := by
  obtain ⟨es, c, hb, hes, -⟩ := h
  have hc := run_checkKey_n (w := w) hk es.isEmpty (.int q s)
  rcases findNow_n s es.toList L 0 hes with ⟨h1, h2⟩ | ⟨j, v, h1, h2, h3⟩
  · simp [Instr.lookup, run_underlying ht, getObj, Sem.run, hb, hc, Instr.findKey, run_underlying hk, h2, hz, h1]
  · simp [Instr.lookup, run_underlying ht, getObj, Sem.run, hb, hc, Instr.findKey, run_underlying hk, h2, h1]

theorem sameBits_n (s : Int) : Instr.sameBits 10000 (.int q s) (.int q s) = true := by
  have h : ∀ n, Instr.sameBits n (.int q s) (.int q s) = true := fun n => by
    unfold Instr.sameBits
    simp
  exact h 10000
theorem modify_putN (s : Int) (v : Value) : ∀ (es : List MapEntry) (L : List (Int × Value)) (i j : Nat) (u : Value), es.map (fun e => (e.key, e.val)) = L.map (fun p => (Value.int q p.1, p.2)) →
    Instr.findNow (.int q) (.int q s) es i = some (some (i + j, u)) →
    (es.modify j fun e => { e with key := .int q s, val := v }).map (fun e => (e.key, e.val)) = (putN s v L).map (fun p => (Value.int q p.1, p.2))
  | [], _, i, j, u, _, h2 => by simp [Instr.findNow] at h2
  | e :: es, L, i, j, u, h, h2 => by
    cases L with
    | nil => simp at h
    | cons p L =>
      simp only [List.map_cons, List.cons.injEq, Prod.mk.injEq] at h
      obtain ⟨⟨hk, hv⟩, ht⟩ := h
      by_cases hs : s = p.1
      · subst hs
        simp only [Instr.findNow, Instr.sameNow, hk, hv, if_true, beq_self_eq_true, Option.some.injEq, Prod.mk.injEq] at h2
        have hj : j = 0 := by omega
        subst hj
        simp [putN, ht]
      · have hne : (s == p.1) = false := beq_eq_false_iff_ne.2 hs
        simp only [Instr.findNow, Instr.sameNow, hk, if_true, hne] at h2
        cases j with
        | zero =>
          exfalso
          rcases findNow_n s es L (i + 1) ht with ⟨_, h3⟩ | ⟨j, v, _, h3, _⟩
          · rw [h3] at h2; simp at h2
          · rw [h3] at h2; simp at h2; omega
        | succ j =>
          have := modify_putN s v es L (i + 1) j u ht (by rw [h2]; simp; omega)
          simp [putN, hs, this, hk, hv]
theorem push_putN (s : Int) (v : Value) : ∀ L : List (Int × Value), lookN s L = none → putN s v L = L ++ [(s, v)]
  | [], _ => rfl
  | p :: L, h => by
    by_cases hs : s = p.1
    · simp [lookN, hs] at h
    · simp only [lookN, hs, if_false] at h
      simp [putN, hs, push_putN s v L h]
theorem erase_delN (s : Int) : ∀ (es : List MapEntry) (L : List (Int × Value)) (i j : Nat) (u : Value), es.map (fun e => (e.key, e.val)) = L.map (fun p => (Value.int q p.1, p.2)) →
    Instr.findNow (.int q) (.int q s) es i = some (some (i + j, u)) →
    (es.eraseIdx j).map (fun e => (e.key, e.val)) = (delN s L).map (fun p => (Value.int q p.1, p.2))
  | [], _, i, j, u, _, h2 => by simp [Instr.findNow] at h2
  | e :: es, L, i, j, u, h, h2 => by
    cases L with
    | nil => simp at h
    | cons p L =>
      simp only [List.map_cons, List.cons.injEq, Prod.mk.injEq] at h
      obtain ⟨⟨hk, hv⟩, ht⟩ := h
      by_cases hs : s = p.1
      · subst hs
        simp only [Instr.findNow, Instr.sameNow, hk, hv, if_true, beq_self_eq_true, Option.some.injEq, Prod.mk.injEq] at h2
        have hj : j = 0 := by omega
        subst hj
        simp [delN, ht]
      · have hne : (s == p.1) = false := beq_eq_false_iff_ne.2 hs
        simp only [Instr.findNow, Instr.sameNow, hk, if_true, hne] at h2
        cases j with
        | zero =>
          exfalso
          rcases findNow_n s es L (i + 1) ht with ⟨_, h3⟩ | ⟨j, v, _, h3, _⟩
          · rw [h3] at h2; simp at h2
          · rw [h3] at h2; simp at h2; omega
        | succ j =>
          have := erase_delN s es L (i + 1) j u ht (by rw [h2]; simp; omega)
          simp [delN, hs, this, hk, hv]
theorem delN_none (s : Int) : ∀ L : List (Int × Value), lookN s L = none → delN s L = L
  | [], _ => rfl
  | p :: L, h => by
    by_cases hs : s = p.1
    · simp [lookN, hs] at h
    · simp only [lookN, hs, if_false] at h
      simp [delN, hs, delN_none s L h]
theorem lookN_none_keys (s : Int) : ∀ (es : List MapEntry) (L : List (Int × Value)), es.map (fun e => (e.key, e.val)) = L.map (fun p => (Value.int q p.1, p.2)) → lookN s L = none → ∀ x ∈ es, x.key ≠ .int q s
  | [], _, _, _, x, hx => by cases hx
  | e :: es, [], h, _, _, _ => by simp at h
  | e :: es, p :: L, h, hn, x, hx => by
    simp only [List.map_cons, List.cons.injEq, Prod.mk.injEq] at h
    by_cases hs : s = p.1
    · simp [lookN, hs] at hn
    · simp only [lookN, hs, if_false] at hn
      rcases List.mem_cons.1 hx with rfl | hx
      · rw [h.1.1]
        intro he
        injection he with _ he
        exact hs he.symm
      · exact lookN_none_keys s es L h.2 hn x hx
theorem MapN.put (h : MapN q w m L) (ht : P.underlying t = some (.map k e)) (hk : P.underlying k = some (.int q)) (s : Int) (v : Value) :
    ∃ w', (Instr.mapUpdate t (.map (some m)) (.int q s) v).run P w = .ok () w' ∧ MapN q w' m (putN s v L) ∧ Keep [m] w w' ∧ w'.heap.size = w.heap.size := by
  have hlt := h.lt
  obtain ⟨es, c, hb, hes, hst⟩ := h
  have hc := run_checkKey_n (w := w) hk false (.int q s)
  rcases findNow_n s es.toList L 0 hes with ⟨h1, h2⟩ | ⟨j, u, h1, h2, h3⟩
  · refine ⟨setObjAt w m (.map (es.push { key := .int q s, val := v, born := c }) (c + 1)), ?_, ⟨_, _, setObjAt_same _ _ _ hlt, ?_, MapKept.stamped_push hst (lookN_none_keys s es.toList L hes h1)⟩, setObjAt_keep _ _ _, by simp [setObjAt]⟩
    · simp [Instr.mapUpdate, run_underlying ht, getObj, setObj, Sem.run, hb, hc, Instr.findKey, run_underlying hk, h2, setObjAt, Result.andThen]
    · rw [push_putN s v L h1]; simp [hes]
  · have hm := modify_putN s v es.toList L 0 j u hes (by simpa using h2)
    refine ⟨setObjAt w m (.map (es.modify j fun e => { e with key := .int q s, val := v }) c), ?_, ⟨_, _, setObjAt_same _ _ _ hlt, ?_, MapKept.stamped_modify hst j _ (fun _ _ => rfl) (fun e _ he => by simp only [Array.getElem?_toList, he, Option.map_some, Option.some.injEq] at h3; exact h3.symm)⟩, setObjAt_keep _ _ _, by simp [setObjAt]⟩
    · have hkey : ((es[j]?).map (·.key)).getD (.int q s) = .int q s := by
        simp only [Array.getElem?_toList] at h3
        rw [h3]; rfl
      simp [Instr.mapUpdate, run_underlying ht, getObj, setObj, Sem.run, hb, hc, Instr.findKey, run_underlying hk, h2, setObjAt, Result.andThen, Instr.keyThatStays, hkey, sameBits_n]
    · simpa using hm
theorem MapN.del (h : MapN q w m L) (ht : P.underlying t = some (.map k e)) (hk : P.underlying k = some (.int q)) (s : Int) :
    ∃ w', (∀ ty, (Builtin.delete_ #[t, k] ty #[.map (some m), .int q s]).run P w = .ok (.tuple #[]) w') ∧ MapN q w' m (delN s L) ∧ Keep [m] w w' ∧ w'.heap.size = w.heap.size := by
  have hlt := h.lt
  obtain ⟨es, c, hb, hes, hst⟩ := h
  have hc := run_checkKey_n (w := w) hk es.isEmpty (.int q s)
  rcases findNow_n s es.toList L 0 hes with ⟨h1, h2⟩ | ⟨j, u, h1, h2, h3⟩
  · refine ⟨setObjAt w m (.map es c), ?_, ⟨_, _, setObjAt_same _ _ _ hlt, ?_, hst⟩, setObjAt_keep _ _ _, by simp [setObjAt]⟩
    · intro ty
      simp [Builtin.delete_, run_underlying ht, getObj, setObj, Sem.run, hb, hc, Instr.findKey, run_underlying hk, h2, setObjAt, Result.andThen]
    · rw [delN_none s L h1]; exact hes
  · have hm := erase_delN s es.toList L 0 j u hes (by simpa using h2)
    refine ⟨setObjAt w m (.map (es.eraseIdxIfInBounds j) c), ?_, ⟨_, _, setObjAt_same _ _ _ hlt, ?_, MapKept.stamped_erase hst j⟩, setObjAt_keep _ _ _, by simp [setObjAt]⟩
    · intro ty
      simp [Builtin.delete_, run_underlying ht, getObj, setObj, Sem.run, hb, hc, Instr.findKey, run_underlying hk, h2, setObjAt, Result.andThen]
    · rw [← hm]
      congr 1
      unfold Array.eraseIdxIfInBounds
      split
      · simp
      · rename_i hge
        rw [List.eraseIdx_of_length_le (by simpa using hge)]
theorem MapN.look2 (h : MapN q w m L) (ht : P.underlying t = some (.map k e)) (hk : P.underlying k = some (.int q)) {z : Value} (hz : (zeroValue e).run P w = .ok z w) (s : Int) :
    (Instr.lookup t (.map (some m)) (.int q s) true).run P w = .ok (.tuple #[(lookN s L).getD z, .bool (lookN s L).isSome]) w := by
  obtain ⟨es, c, hb, hes, -⟩ := h
  have hc := run_checkKey_n (w := w) hk es.isEmpty (.int q s)
  rcases findNow_n s es.toList L 0 hes with ⟨h1, h2⟩ | ⟨j, v, h1, h2, h3⟩
  · simp [Instr.lookup, run_underlying ht, getObj, Sem.run, hb, hc, Instr.findKey, run_underlying hk, h2, hz, h1]
  · simp [Instr.lookup, run_underlying ht, getObj, Sem.run, hb, hc, Instr.findKey, run_underlying hk, h2, h1]
theorem MapN.len_ (h : MapN q w m L) (ht : P.underlying t = some (.map k e)) (ty : TypeId) :
    (Builtin.len_ #[t] ty #[.map (some m)]).run P w = .ok (.int .i64 (L.length : Int)) w := by
  obtain ⟨es, c, hb, hes, -⟩ := h
  have hlen : es.size = L.length := by
    have := congrArg List.length hes
    simpa using this
  simp [Builtin.len_, run_underlying ht, getObj, Sem.run, hb, goInt, hlen]
theorem MapN.clear_ (h : MapN q w m L) (ht : P.underlying t = some (.map k e)) :
    ∃ w', (∀ ty, (Builtin.clear_ #[t] ty #[.map (some m)]).run P w = .ok (.tuple #[]) w') ∧ MapN q w' m [] ∧ Keep [m] w w' ∧ w'.heap.size = w.heap.size := by
  have hlt := h.lt
  obtain ⟨es, c, hb, hes, hst⟩ := h
  refine ⟨setObjAt w m (.map #[] c), ?_, ⟨_, _, setObjAt_same _ _ _ hlt, rfl, MapKept.stamped_empty c⟩, setObjAt_keep _ _ _, by simp [setObjAt]⟩
  intro ty
  simp [Builtin.clear_, run_underlying ht, getObj, setObj, Sem.run, hb, setObjAt, Result.andThen]
theorem lookN_putN (s x : Int) (v : Value) : ∀ L : List (Int × Value), lookN x (putN s v L) = if x = s then some v else lookN x L
  | [] => by simp [putN, lookN]
  | p :: L => by
    by_cases h : s = p.1
    · subst h
      by_cases hx : x = p.1
      · subst hx; simp [putN, lookN]
      · simp [putN, lookN, hx]
    · simp only [putN, h, if_false, lookN, lookN_putN s x v L]
      by_cases hx : x = p.1
      · subst hx
        simp [Ne.symm h]
      · simp [hx]
theorem putN_keys (s : Int) (v : Value) : ∀ L : List (Int × Value), (putN s v L).map (·.1) = if (lookN s L).isSome then L.map (·.1) else L.map (·.1) ++ [s]
  | [] => rfl
  | p :: L => by
    by_cases h : s = p.1
    · subst h; simp [putN, lookN]
    · simp only [putN, h, if_false, lookN, List.map_cons, putN_keys s v L]
      split <;> simp
theorem lookN_mem (s : Int) : ∀ L : List (Int × Value), (lookN s L).isSome = true ↔ s ∈ L.map (·.1)
  | [] => by simp [lookN]
  | p :: L => by
    by_cases h : s = p.1
    · simp [lookN, h]
    · simp [lookN, h, lookN_mem s L]
theorem delN_keys (s : Int) : ∀ L : List (Int × Value), (delN s L).map (·.1) = (L.map (·.1)).erase s
  | [] => rfl
  | p :: L => by
    by_cases h : s = p.1
    · subst h; simp [delN]
    · have h2 : (p.1 == s) = false := by simpa using Ne.symm h
      simp [delN, h, h2, delN_keys s L]
theorem lookN_delN (s x : Int) : ∀ L : List (Int × Value), (L.map (·.1)).Nodup → lookN x (delN s L) = if x = s then none else lookN x L
  | [], _ => by simp [delN, lookN]
  | p :: L, hn => by
    simp only [List.map_cons, List.nodup_cons] at hn
    by_cases h : s = p.1
    · subst h
      by_cases hx : x = p.1
      · subst hx
        have : lookN p.1 L = none := by
          have h2 := lookN_mem p.1 L
          cases hl : lookN p.1 L with
          | none => rfl
          | some v => rw [hl] at h2; exact absurd (h2.1 rfl) hn.1
        simp [delN, this]
      · simp [delN, lookN, hx]
    · simp only [delN, h, if_false, lookN, lookN_delN s x L hn.2]
      by_cases hx : x = p.1
      · subst hx
        simp [Ne.symm h]
      · simp [hx]
theorem putN_nodup (s : Int) (v : Value) (L : List (Int × Value)) (h : (L.map (·.1)).Nodup) : ((putN s v L).map (·.1)).Nodup := by
  rw [putN_keys]
  split
  · exact h
  · rename_i h2
    have h3 : s ∉ L.map (·.1) := fun hm => h2 ((lookN_mem s L).2 hm)
    rw [List.nodup_append]
    refine ⟨h, by simp, ?_⟩
    intro a ha b hb
    simp at hb
    subst hb
    rintro rfl
    exact h3 ha
theorem delN_nodup (s : Int) (L : List (Int × Value)) (h : (L.map (·.1)).Nodup) : ((delN s L).map (·.1)).Nodup := by
  rw [delN_keys]
  exact h.erase s
end

end Go.Proofs.YtpnoiagjgkajdaaGreatDoor
