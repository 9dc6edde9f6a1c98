/- Plain laws: the greatest number that more than half reach; what a leader commits. -/
import Derived.Test.YtnlcipocobmgiaaGreatDoorRaft4
import Derived.Test.YtnlcipocobmgiaaGreatDoorRaft14
import Derived.Test.YtnlcipocobmgiaaGreatDoorHolds
import Derived.Test.YtnlcipocobmgiaaGreatDoorOne
import Derived.Test.YtnlcipocobmgiaaGreatDoorRaft15
import Derived.Test.YtnlcipocobmgiaaGreatDoorRaftKeep
import Derived.Test.YtnlcipocobmgiaaGreatDoorLones
import Derived.Test.YtnlcipocobmgiaaGreatDoorKept
import Derived.Test.YtnlcipocobmgiaaGreatDoorArrsAt
import Derived.Test.YtnlcipocobmgiaaGreatDoorRaft16
namespace Go.Proofs.YtnlcipocobmgiaaGreatDoor
open Go.RowKit

/-- One step of the search for it. -/
def majStep (l : List Nat) (b x : Nat) : Nat := if l.length < 2 * cnt l x then max b x else b
def maj (l : List Nat) : Nat := l.foldl (majStep l) 0
theorem maj_take (l : List Nat) (j : Nat) (h : j < l.length) : (l.take (j + 1)).foldl (majStep l) 0 = majStep l ((l.take j).foldl (majStep l) 0) (l.getD j 0) := by
  rw [List.take_succ_eq_append_getElem h, List.foldl_append]
  simp [List.getD, h]
theorem fold_spec (l : List Nat) : ∀ (s : List Nat) (b : Nat), b ≤ s.foldl (majStep l) b ∧ (∀ x ∈ s, l.length < 2 * cnt l x → x ≤ s.foldl (majStep l) b) ∧ (s.foldl (majStep l) b = b ∨ (s.foldl (majStep l) b ∈ s ∧ l.length < 2 * cnt l (s.foldl (majStep l) b)))
  | [], b => ⟨Nat.le_refl _, by simp, .inl rfl⟩
  | x :: s, b => by
    obtain ⟨h1, h2, h3⟩ := fold_spec l s (majStep l b x)
    rw [List.foldl_cons]
    by_cases hx : l.length < 2 * cnt l x
    · have hs : majStep l b x = max b x := if_pos hx
      refine ⟨by omega, fun y hy hc => ?_, ?_⟩
      · rcases List.mem_cons.1 hy with rfl | hy
        · omega
        · exact h2 y hy hc
      · rcases h3 with h3 | ⟨h3, h4⟩
        · rcases Nat.le_total x b with h | h
          · left; omega
          · right
            have : s.foldl (majStep l) (majStep l b x) = x := by omega
            rw [this]
            exact ⟨by simp, hx⟩
        · exact .inr ⟨by simp [h3], h4⟩
    · have hs : majStep l b x = b := if_neg hx
      rw [hs] at h1 h2 h3 ⊢
      refine ⟨h1, fun y hy hc => ?_, ?_⟩
      · rcases List.mem_cons.1 hy with rfl | hy
        · exact absurd hc hx
        · exact h2 y hy hc
      · rcases h3 with h3 | ⟨h3, h4⟩
        · exact .inl h3
        · exact .inr ⟨by simp [h3], h4⟩
theorem cnt_anti (l : List Nat) {x y : Nat} (h : x ≤ y) : cnt l y ≤ cnt l x := by
  unfold cnt
  induction l with
  | nil => simp
  | cons a l ih =>
    simp only [List.filter_cons]
    by_cases h1 : y ≤ a
    · have h2 : x ≤ a := by omega
      simp [h1, h2, ih]
    · by_cases h2 : x ≤ a
      · simp [h1, h2]; omega
      · simp [h1, h2, ih]
/-- Between x and the least member from x on nobody is lost. -/
theorem cnt_up (l : List Nat) (x : Nat) (h : 0 < cnt l x) : ∃ y ∈ l, x ≤ y ∧ cnt l y = cnt l x := by
  have key : ∀ (n x : Nat), (∀ z ∈ l, z ≤ x + n) → 0 < cnt l x → ∃ y ∈ l, x ≤ y ∧ cnt l y = cnt l x := by
    intro n
    induction n with
    | zero =>
      intro x hz h
      unfold cnt at h
      obtain ⟨y, hy⟩ := List.exists_mem_of_length_pos h
      rw [List.mem_filter] at hy
      have h1 := hz y hy.1
      have h2 : x ≤ y := by simpa using hy.2
      have : y = x := by omega
      exact ⟨y, hy.1, h2, by rw [this]⟩
    | succ n ih =>
      intro x hz h
      by_cases hx : x ∈ l
      · exact ⟨x, hx, Nat.le_refl _, rfl⟩
      · have he : cnt l (x + 1) = cnt l x := by
          unfold cnt
          congr 1
          apply List.filter_congr
          intro z hzl
          have : z ≠ x := fun e => hx (e ▸ hzl)
          rw [Bool.eq_iff_iff]
          simp
          omega
        obtain ⟨y, h1, h2, h3⟩ := ih (x + 1) (fun z hzl => by have := hz z hzl; omega) (by omega)
        exact ⟨y, h1, by omega, by omega⟩
  have hb : ∃ n, ∀ z ∈ l, z ≤ n := by
    clear key h
    induction l with
    | nil => exact ⟨0, by simp⟩
    | cons a l ih =>
      obtain ⟨n, hn⟩ := ih
      refine ⟨max a n, fun z hz => ?_⟩
      rcases List.mem_cons.1 hz with rfl | hz
      · omega
      · have := hn z hz; omega
  obtain ⟨n, hn⟩ := hb
  exact key n x (fun z hz => by have := hn z hz; omega) h
/-- More than half reach x just if it isn't beyond. -/
theorem maj_iff (l : List Nat) {x : Nat} (hx : 0 < x) : l.length < 2 * cnt l x ↔ x ≤ maj l := by
  obtain ⟨-, h2, h3⟩ := fold_spec l l 0
  constructor
  · intro h
    obtain ⟨y, hy, hxy, hc⟩ := cnt_up l x (by omega)
    have := h2 y hy (by omega)
    show x ≤ l.foldl (majStep l) 0
    omega
  · intro h
    rcases h3 with h3 | ⟨-, h4⟩
    · change x ≤ l.foldl (majStep l) 0 at h
      omega
    · have := cnt_anti l h
      change l.length < 2 * cnt l (maj l) at h4
      omega
theorem maj_mem (l : List Nat) : maj l = 0 ∨ maj l ∈ l := by
  rcases (fold_spec l l 0).2.2 with h | h
  · exact .inl h
  · exact .inr h.1
theorem cnt_set (l : List Nat) (i k x : Nat) (hk : l.getD i 0 ≤ k) : cnt l x ≤ cnt (l.set i k) x := by
  unfold cnt
  induction l generalizing i with
  | nil => simp
  | cons a l ih =>
    cases i with
    | zero =>
      have hk' : a ≤ k := by simpa using hk
      simp only [List.set_cons_zero, List.filter_cons]
      by_cases h1 : x ≤ a
      · have h2 : x ≤ k := by omega
        simp [h1, h2]
      · by_cases h2 : x ≤ k
        · simp [h1, h2]
        · simp [h1, h2]
    | succ i =>
      have := ih i (by simpa using hk)
      simp only [List.set_cons_succ, List.filter_cons]
      by_cases h1 : x ≤ a
      · simp [h1]; exact this
      · simp [h1]; exact this
theorem maj_set (l : List Nat) (i k : Nat) (hk : l.getD i 0 ≤ k) : maj l ≤ maj (l.set i k) := by
  by_cases h0 : maj l = 0
  · omega
  · have h1 := (maj_iff l (x := maj l) (by omega)).2 (Nat.le_refl _)
    have h2 := cnt_set l i k (maj l) hk
    exact (maj_iff (l.set i k) (by omega)).1 (by rw [List.length_set]; omega)
/-- What is committed then. -/
def comm (base first : Nat) (l : List Nat) : Nat := if maj l < first then base else maj l

/-- The leader's search, over the first j entries. -/
theorem adv_maj (N : Rn) (first : Nat) (hn : N.mt.length = N.n) (hb : N.st.base < first) (hseq : ∀ i (h : i < N.st.log.length), N.st.log[i].index = N.st.base + i + 1)
    (hterm : ∀ i (h : i < N.st.log.length), N.st.log[i].term = N.st.term ↔ first ≤ N.st.base + i + 1) : ∀ j, j ≤ N.st.log.length → maj N.mt ≤ N.st.base + j → N.adv (N.st.log.take j).reverse = if first ≤ maj N.mt ∧ N.commit < maj N.mt then maj N.mt else N.commit
  | 0, _, h => by
    rw [if_neg (by omega)]
    rfl
  | j + 1, hj, h => by
    have hs := hseq j (by omega)
    have ht := hterm j (by omega)
    by_cases h1 : N.st.log[j].term ≠ N.st.term ∨ N.st.log[j].index ≤ N.commit
    · rw [adv_stop _ j (by omega) h1, if_neg]
      rintro ⟨h2, h3⟩
      rcases h1 with h1 | h1
      · exact h1 (ht.2 (by omega))
      · omega
    · by_cases h2 : N.n < 2 * cnt N.mt N.st.log[j].index
      · have h3 := (maj_iff N.mt (x := N.st.log[j].index) (by omega)).1 (by omega)
        rw [adv_hit _ j (by omega) h1 h2, if_pos]
        · omega
        · have h4 : N.st.log[j].term = N.st.term := Classical.byContradiction fun h => h1 (.inl h)
          have h5 : ¬ N.st.log[j].index ≤ N.commit := fun h => h1 (.inr h)
          have := ht.1 h4
          omega
      · rw [adv_take _ j (by omega) h1 h2]
        refine adv_maj N first hn hb hseq hterm j (by omega) ?_
        rcases Nat.lt_or_ge (N.st.base + j) (maj N.mt) with h3 | h3
        · exfalso
          apply h2
          have := (maj_iff N.mt (x := N.st.log[j].index) (by omega)).2 (by omega)
          omega
        · exact h3

end Go.Proofs.YtnlcipocobmgiaaGreatDoor
/- Plain laws: a leader of some nodes; what it makes of a command, and of what a node has. -/
namespace Go.Proofs.YtnlcipocobmgiaaGreatDoor
open Go.RowKit

/-- A leader, its own entries from number 'first' on. -/
structure Lead (N : Rn) (nn first : Nat) : Prop where
  id : N.id = 0
  n : N.n = nn
  n1 : 1 ≤ nn
  role : N.role = 2
  br : N.broken = 0
  mt : N.mt.length = nn
  nx : N.nx.length = nn
  sm : N.Sm
  fit : N.st.Fit
  lo : N.st.base < first
  hi : first ≤ N.st.base + N.st.log.length + 1
  term : ∀ i (h : i < N.st.log.length), N.st.log[i].term = N.st.term ↔ first ≤ N.st.base + i + 1
  mts : ∀ x ∈ N.mt, x ≤ N.st.base + N.st.log.length
  nxs : ∀ x ∈ N.nx, 1 ≤ x ∧ x ≤ N.st.base + N.st.log.length + 1
  cm : N.commit = comm N.st.base first N.mt
theorem others_len (n : Nat) : (others n 0).length ≤ n := by
  unfold others
  exact Nat.le_trans (List.length_filter_le _ _) (by simp)
theorem Lead.maj_le {N : Rn} {n first : Nat} (h : Lead N n first) : maj N.mt ≤ N.st.base + N.st.log.length := by
  rcases maj_mem N.mt with h1 | h1
  · omega
  · exact h.mts _ h1
theorem comm_le {base first K : Nat} {l : List Nat} (h1 : base ≤ K) (h2 : maj l ≤ K) : comm base first l ≤ K := by
  unfold comm
  split <;> omega
/-- The search after the numbers have grown. -/
theorem comm_grow {base first c : Nat} {l l' : List Nat} (hb : base < first) (hc : c = comm base first l) (hl : maj l ≤ maj l') : (if first ≤ maj l' ∧ c < maj l' then maj l' else c) = comm base first l' := by
  by_cases h1 : maj l < first
  · have e : comm base first l = base := if_pos h1
    rw [e] at hc
    by_cases h2 : maj l' < first
    · have e' : comm base first l' = base := if_pos h2
      rw [if_neg (by omega), e']
      exact hc
    · have e' : comm base first l' = maj l' := if_neg h2
      rw [if_pos (by omega), e']
  · have e : comm base first l = maj l := if_neg h1
    have e' : comm base first l' = maj l' := if_neg (by omega)
    rw [e] at hc
    rw [e']
    split <;> omega
theorem Lead.more {N : Rn} {n first : Nat} (h : Lead N n first) (cmd : List UInt8) (hc : cmd.length ≤ 1000) (hm : N.st.log.length < 900) (ho : N.out.length ≤ 900000) :
    Lead (N.appended cmd) n first ∧ (N.appended cmd).st = { N.st with log := N.st.log ++ [⟨N.st.last.1 + 1, N.st.term, cmd⟩] } ∧ (N.appended cmd).mt.getD 0 0 = N.st.base + N.st.log.length + 1 ∧ (N.appended cmd).out.length ≤ N.out.length + n ∧ (N.appended cmd).mt = N.mt.set 0 (N.st.base + N.st.log.length + 1) := by
  have hl := h.fit.last
  have hb := h.fit.base
  have hlo := h.lo
  have hhi := h.hi
  have hn1 := h.n1
  have hmt' : (N.appended cmd).mt = N.mt.set 0 (N.st.base + N.st.log.length + 1) := by
    show N.mt.set N.id (N.st.last.1 + 1) = _
    rw [h.id, hl]
  have hlen : (N.appended cmd).st.log.length = N.st.log.length + 1 := by
    show (N.st.log ++ [_]).length = _
    simp
  have key : ∀ i (hi : i < (N.st.log ++ [N.newEn cmd]).length), (N.st.log ++ [N.newEn cmd])[i].term = N.st.term ↔ first ≤ N.st.base + i + 1 := by
    intro i hi
    rw [List.length_append] at hi
    simp only [List.length_cons, List.length_nil] at hi
    by_cases hi2 : i < N.st.log.length
    · rw [List.getElem_append_left hi2]
      exact h.term i hi2
    · have : i = N.st.log.length := by omega
      subst this
      rw [List.getElem_append_right (Nat.le_refl _)]
      simp only [Nat.sub_self, List.getElem_cons_zero]
      exact ⟨fun _ => by omega, fun _ => rfl⟩
  have hterm' : ∀ i (hi : i < (N.appended cmd).st.log.length), (N.appended cmd).st.log[i].term = (N.appended cmd).st.term ↔ first ≤ (N.appended cmd).st.base + i + 1 := key
  have hfit' := h.fit.add cmd hc (by omega)
  have hmts' : ∀ x ∈ N.mt.set 0 (N.st.base + N.st.log.length + 1), x ≤ N.st.base + N.st.log.length + 1 := by
    intro x hx
    rcases List.mem_or_eq_of_mem_set hx with hx | rfl
    · have := h.mts x hx; omega
    · omega
  have hgrow : maj N.mt ≤ maj (N.mt.set 0 (N.st.base + N.st.log.length + 1)) := maj_set _ _ _ (by
    have : N.mt.getD 0 0 ≤ N.st.base + N.st.log.length := by
      have hx := h.mts (N.mt[0]'(by have := h.mt; omega)) (List.getElem_mem _)
      simpa [List.getD, show 0 < N.mt.length by have := h.mt; omega] using hx
    omega)
  have hmle : maj (N.mt.set 0 (N.st.base + N.st.log.length + 1)) ≤ N.st.base + N.st.log.length + 1 := by
    rcases maj_mem (N.mt.set 0 (N.st.base + N.st.log.length + 1)) with h1 | h1
    · omega
    · exact hmts' _ h1
  have hcm' : (N.appended cmd).commit = comm N.st.base first (N.mt.set 0 (N.st.base + N.st.log.length + 1)) := by
    have e1 : (N.put1 cmd).sendAll.mt = N.mt.set 0 (N.st.base + N.st.log.length + 1) := hmt'
    have e2 : (N.put1 cmd).sendAll.commit = N.commit := rfl
    have := adv_maj (N.put1 cmd).sendAll first (by rw [e1, List.length_set, h.mt]; exact h.n.symm) hlo hfit'.seq hterm' (N.st.log.length + 1) (by show _ ≤ (N.st.log ++ [_]).length; simp) (by rw [e1]; exact hmle)
    rw [e1, e2] at this
    rw [comm_grow hlo h.cm hgrow] at this
    show (N.put1 cmd).sendAll.adv (N.st.log ++ [N.newEn cmd]).reverse = _
    rw [← this]
    show (N.put1 cmd).sendAll.adv (N.st.log ++ [N.newEn cmd]).reverse = (N.put1 cmd).sendAll.adv ((N.st.log ++ [N.newEn cmd]).take (N.st.log.length + 1)).reverse
    rw [List.take_of_length_le (by simp)]
  have hout : (N.appended cmd).out.length ≤ N.out.length + n := by
    show (N.out ++ (others N.n N.id).map _).length ≤ _
    rw [List.length_append, List.length_map, h.n, h.id]
    have := others_len n
    omega
  have hn5 : n ≤ 5 := by have := h.sm.n; rw [h.n] at this; exact this
  refine ⟨⟨h.id, h.n, hn1, h.role, h.br, by rw [hmt', List.length_set]; exact h.mt, h.nx, ?_, hfit', hlo, by rw [hlen]; show first ≤ N.st.base + _ + 1; omega, hterm', by rw [hmt', hlen]; exact hmts', ?_, by rw [hcm', hmt']; rfl⟩, rfl, by rw [hmt']; exact getD_set_same _ _ _ (by have := h.mt; omega), hout, hmt'⟩
  · have hs := (h.sm.put1 cmd (by omega) (by omega) (by omega)).sendAll (by show N.out.length ≤ _; omega)
    refine ⟨hs.n, hs.id, hs.term, hs.base, hs.baseTerm, hs.snap, hs.log, hs.ents, ?_, hs.applied, hs.timer, by omega, hs.mt, hs.nx, hs.votes, hs.nxs, hs.mts⟩
    rw [hcm']
    have := comm_le (first := first) (l := N.mt.set 0 (N.st.base + N.st.log.length + 1)) (base := N.st.base) (K := N.st.base + N.st.log.length + 1) (by omega) hmle
    omega
  · intro x hx
    have := h.nxs x hx
    rw [hlen]
    show 1 ≤ x ∧ x ≤ N.st.base + _ + 1
    omega
/-- A node has entries up to number k. -/
theorem Lead.has_ {N : Rn} {n first : Nat} (h : Lead N n first) (i k : Nat) (hi : i < n) (hk : k ≤ N.st.base + N.st.log.length) (ho : N.out.length ≤ 900000) :
    Lead (N.has i k) n first ∧ (N.has i k).st = N.st ∧ (N.has i k).mt = N.mt.set i (max (N.mt.getD i 0) k) ∧ (N.has i k).out.length ≤ N.out.length + 1 := by
  have hl := h.fit.last
  have hb := h.fit.base
  have hmany := h.fit.many
  have him : i < N.mt.length := by rw [h.mt]; exact hi
  have hm0 : N.mt.getD i 0 ≤ N.st.base + N.st.log.length := by
    have hx := h.mts (N.mt[i]) (List.getElem_mem _)
    simpa [List.getD, him] using hx
  have hn0 : 1 ≤ N.nx.getD i 0 ∧ N.nx.getD i 0 ≤ N.st.base + N.st.log.length + 1 := by
    have hx := h.nxs (N.nx[i]'(by rw [h.nx]; exact hi)) (List.getElem_mem _)
    simpa [List.getD, show i < N.nx.length by rw [h.nx]; exact hi] using hx
  have hmts' : ∀ x ∈ N.mt.set i (max (N.mt.getD i 0) k), x ≤ N.st.base + N.st.log.length := by
    intro x hx
    rcases List.mem_or_eq_of_mem_set hx with hx | rfl
    · exact h.mts x hx
    · omega
  have hgrow : maj N.mt ≤ maj (N.mt.set i (max (N.mt.getD i 0) k)) := maj_set _ _ _ (by omega)
  have hmle : maj (N.mt.set i (max (N.mt.getD i 0) k)) ≤ N.st.base + N.st.log.length := by
    rcases maj_mem (N.mt.set i (max (N.mt.getD i 0) k)) with h1 | h1
    · omega
    · exact hmts' _ h1
  have hcm' : (N.setM i k).advance.commit = comm N.st.base first (N.mt.set i (max (N.mt.getD i 0) k)) := by
    have := adv_maj (N.setM i k) first (by show (N.mt.set i _).length = N.n; rw [List.length_set, h.mt]; exact h.n.symm) h.lo h.fit.seq h.term N.st.log.length (Nat.le_refl _) hmle
    show (N.setM i k).adv N.st.log.reverse = _
    have e : (N.setM i k).st.log.take N.st.log.length = N.st.log := List.take_length
    rw [e] at this
    rw [this]
    exact comm_grow h.lo h.cm hgrow
  have hcb : comm N.st.base first (N.mt.set i (max (N.mt.getD i 0) k)) ≤ N.st.base + N.st.log.length := comm_le (by omega) hmle
  have hnext : 1 ≤ N.nextOf i k ∧ N.nextOf i k ≤ N.st.base + N.st.log.length + 1 := by unfold Rn.nextOf; omega
  have hS := h.sm.haved i k (by omega) (by rw [hcm']; omega) him
  have hhe := haved_eq N i k him
  have hA : Lead (N.haved i k) n first := by
    rw [hhe] at hS ⊢
    refine ⟨h.id, h.n, h.n1, h.role, h.br, by show (N.mt.set i _).length = n; rw [List.length_set]; exact h.mt, by show (N.nx.set i _).length = n; rw [List.length_set]; exact h.nx, hS, h.fit, h.lo, h.hi, h.term, hmts', ?_, hcm'⟩
    intro x hx
    rcases List.mem_or_eq_of_mem_set hx with hx | rfl
    · exact h.nxs x hx
    · exact hnext
  have e1 : (N.haved i k).st = N.st := by rw [hhe]; rfl
  have e2 : (N.haved i k).mt = N.mt.set i (max (N.mt.getD i 0) k) := by rw [hhe]; rfl
  have e3 : (N.haved i k).out = N.out := by rw [hhe]; rfl
  unfold Rn.has
  split
  · refine ⟨⟨hA.id, hA.n, hA.n1, hA.role, hA.br, hA.mt, hA.nx, ?_, hA.fit, hA.lo, hA.hi, hA.term, hA.mts, hA.nxs, hA.cm⟩, e1, e2, ?_⟩
    · have hs := hA.sm
      exact ⟨hs.n, hs.id, hs.term, hs.base, hs.baseTerm, hs.snap, hs.log, hs.ents, hs.commit, hs.applied, hs.timer, (by show ((N.haved i k).out ++ [_]).length ≤ _; rw [e3]; simp; omega), hs.mt, hs.nx, hs.votes, hs.nxs, hs.mts⟩
    · show ((N.haved i k).out ++ [_]).length ≤ _
      rw [e3]; simp
  · exact ⟨hA, e1, e2, by rw [e3]; omega⟩

end Go.Proofs.YtnlcipocobmgiaaGreatDoor
/- Plain laws: a candidate, and how it comes to lead. -/
namespace Go.Proofs.YtnlcipocobmgiaaGreatDoor
open Go.RowKit

def vts (n i : Nat) : List Bool := List.replicate i true ++ List.replicate (n - i) false
theorem vts_trues (n i : Nat) : trues (vts n i) = i := by
  unfold trues vts
  rw [List.filter_append, List.length_append]
  have h1 : ((List.replicate i true).filter id) = List.replicate i true := by simp
  have h2 : ((List.replicate (n - i) false).filter id) = [] := by simp
  rw [h1, h2]
  simp
theorem vts_len (n i : Nat) (h : i ≤ n) : (vts n i).length = n := by simp [vts]; omega
theorem vts_set (n i : Nat) (h : i < n) : (vts n i).set i true = vts n (i + 1) := by
  unfold vts
  obtain ⟨j, hj⟩ : ∃ j, n - i = j + 1 := ⟨n - i - 1, by omega⟩
  have h2 : n - (i + 1) = j := by omega
  rw [hj, h2, List.set_append_right _ _ (by simp), List.length_replicate, Nat.sub_self, List.replicate_succ, List.set_cons_zero, List.replicate_succ']
  simp
/-- A candidate that i nodes have voted for. -/
structure Cand (N : Rn) (nn i : Nat) : Prop where
  id : N.id = 0
  n : N.n = nn
  i0 : 1 ≤ i
  i1 : i ≤ nn
  role : N.role = 1
  br : N.broken = 0
  votes : N.votes = vts nn i
  sm : N.Sm
  fit : N.st.Fit
  old : ∀ e ∈ N.st.log, e.term < N.st.term
  cm : N.commit = N.st.base
  out : N.out.length ≤ 20
theorem Cand.stands {s : Ts} (f : s.Fit) (n : Nat) (h1 : 1 ≤ n) (h5 : n ≤ 5) (ht : s.term < 1000000) :
    Cand (({ Rn.opened 0 n s with timer := 4 } : Rn).stands.asked n) n 1 ∧ (({ Rn.opened 0 n s with timer := 4 } : Rn).stands.asked n).st = { s with term := s.term + 1, vote := 1 } := by
  have hs0 := Rn.Sm.of_fit (id := 0) (n := n) f h5 (by omega)
  have hs1 : ({ Rn.opened 0 n s with timer := 4 } : Rn).Sm := ⟨hs0.n, hs0.id, hs0.term, hs0.base, hs0.baseTerm, hs0.snap, hs0.log, hs0.ents, hs0.commit, hs0.applied, by show (4 : Nat) ≤ _; decide, hs0.out, hs0.mt, hs0.nx, hs0.votes, hs0.nxs, hs0.mts⟩
  have hs2 := (hs1.stands (by show s.term < _; omega)).asked (k := n) h5 (by show (0 : Nat) ≤ _; decide)
  refine ⟨⟨rfl, rfl, Nat.le_refl _, h1, rfl, rfl, ?_, hs2, f.turn 1 (by decide) ht, ?_, rfl, ?_⟩, rfl⟩
  · show (List.replicate n false).set 0 true = vts n 1
    have := vts_set n 0 (by omega)
    simpa [vts] using this
  · intro e he
    have := (f.ents e he).2.1
    show e.term < s.term + 1
    omega
  · have := asked_len ({ Rn.opened 0 n s with timer := 4 } : Rn).stands n
    have e : ({ Rn.opened 0 n s with timer := 4 } : Rn).stands.out.length = 0 := rfl
    omega
theorem Cand.vote {N : Rn} {n i : Nat} (h : Cand N n i) (hi : i < n) : Cand { N with votes := N.votes.set i true } n (i + 1) := by
  have hv : N.votes.set i true = vts n (i + 1) := by rw [h.votes]; exact vts_set n i hi
  have hs := h.sm
  refine ⟨h.id, h.n, by omega, by omega, h.role, h.br, hv, ⟨hs.n, hs.id, hs.term, hs.base, hs.baseTerm, hs.snap, hs.log, hs.ents, hs.commit, hs.applied, hs.timer, hs.out, hs.mt, hs.nx, .inl ?_, hs.nxs, hs.mts⟩, h.fit, h.old, h.cm, h.out⟩
  show (N.votes.set i true).length = N.n
  rw [hv, vts_len _ _ (by omega)]
  exact h.n.symm
theorem Cand.won {N : Rn} {n i : Nat} (h : Cand N n i) (hm : N.st.log.length < 800) :
    Lead N.won n (N.st.base + N.st.log.length + 1) ∧ N.won.st = { N.st with log := N.st.log ++ [⟨N.st.last.1 + 1, N.st.term, []⟩] } ∧ N.won.mt = (List.replicate n 0).set 0 (N.st.base + N.st.log.length + 1) ∧ N.won.out.length ≤ 30 := by
  have hl := h.fit.last
  have hb := h.fit.base
  have hn5 : n ≤ 5 := by have := h.sm.n; rw [h.n] at this; exact this
  have hmz : maj (List.replicate n 0) = 0 := by
    rcases maj_mem (List.replicate n 0) with h1 | h1
    · exact h1
    · exact (List.mem_replicate.1 h1).2
  have hL : Lead N.lead n (N.st.base + N.st.log.length + 1) := by
    refine ⟨h.id, h.n, by have := h.i0; have := h.i1; omega, rfl, h.br, ?_, ?_, h.sm.lead (by omega), h.fit, by show N.st.base < _; omega, Nat.le_refl _, ?_, ?_, ?_, ?_⟩
    · show (List.replicate N.n 0).length = n
      rw [h.n]; simp
    · show (List.replicate N.n _).length = n
      rw [h.n]; simp
    · intro j hj
      have hj' : j < N.st.log.length := hj
      have := h.old _ (List.getElem_mem hj')
      show N.st.log[j].term = N.st.term ↔ N.st.base + N.st.log.length + 1 ≤ N.st.base + j + 1
      constructor
      · intro e; omega
      · intro e; omega
    · intro x hx
      have : x = 0 := (List.mem_replicate.1 hx).2
      omega
    · intro x hx
      have : x = N.st.last.1 + 1 := (List.mem_replicate.1 hx).2
      show 1 ≤ x ∧ x ≤ N.st.base + N.st.log.length + 1
      omega
    · show N.commit = comm N.st.base (N.st.base + N.st.log.length + 1) (List.replicate N.n 0)
      rw [h.n, h.cm]
      unfold comm
      rw [hmz, if_pos (by omega)]
  have ho := h.out
  obtain ⟨h1, h2, -, h4, h5⟩ := hL.more [] (by simp) (by show N.st.log.length < 900; omega) (by show N.out.length ≤ _; omega)
  refine ⟨h1, h2, ?_, ?_⟩
  · have e : N.won.mt = (List.replicate N.n 0).set 0 (N.st.base + N.st.log.length + 1) := h5
    rw [e, h.n]
  · have e : N.won.out.length ≤ N.out.length + n := h4
    omega

end Go.Proofs.YtnlcipocobmgiaaGreatDoor
/- A node of some, as a law walks with it: opened, ticking, a candidate, leading. -/
namespace Go.Proofs.YtnlcipocobmgiaaGreatDoor
open Go.RowKit

structure EarlyN (w W : World) (r b m n : Nat) (s : Ts) (j k : Nat) : Prop where
  ex : ∃ V D, V.r = r ∧ V.b = b ∧ V.m = m ∧ NodeAt W V { Rn.opened 0 n s with timer := j } D ∧ (∀ x ∈ V.fp, x = b ∨ x = m ∨ w.heap.size ≤ x) ∧ Holds D k s
  keep : Keep [b, m] w W
structure CandAt (w W : World) (r b m n i : Nat) (s : Ts) (k : Nat) : Prop where
  ex : ∃ V N D, V.r = r ∧ V.b = b ∧ V.m = m ∧ NodeAt W V N D ∧ (∀ x ∈ V.fp, x = b ∨ x = m ∨ w.heap.size ≤ x) ∧ Cand N n i ∧ N.st = s ∧ Holds D k s
  keep : Keep [b, m] w W
structure LeadAt (w W : World) (r b m n first : Nat) (s : Ts) (mt : List Nat) (o k : Nat) : Prop where
  ex : ∃ V N D, V.r = r ∧ V.b = b ∧ V.m = m ∧ NodeAt W V N D ∧ (∀ x ∈ V.fp, x = b ∨ x = m ∨ w.heap.size ≤ x) ∧ Lead N n first ∧ N.st = s ∧ N.mt = mt ∧ N.out.length ≤ o ∧ Holds D k s
  keep : Keep [b, m] w W
section
variable {w W : World} {r b m n first o k j i : Nat} {s : Ts} {mt : List Nat}
theorem LeadAt.grow {W' : World} (h : LeadAt w W r b m n first s mt o k) (hk : Keep [] W W') : LeadAt w W' r b m n first s mt o k := by
  obtain ⟨⟨V, N, D, h1, h2, h3, h4, h5⟩, h7⟩ := h
  exact ⟨⟨V, N, D, h1, h2, h3, h4.grow hk, h5⟩, h7.trans hk.nil_⟩
theorem CandAt.grow {W' : World} (h : CandAt w W r b m n i s k) (hk : Keep [] W W') : CandAt w W' r b m n i s k := by
  obtain ⟨⟨V, N, D, h1, h2, h3, h4, h5⟩, h7⟩ := h
  exact ⟨⟨V, N, D, h1, h2, h3, h4.grow hk, h5⟩, h7.trans hk.nil_⟩
theorem LeadAt.less {o' k' : Nat} (h : LeadAt w W r b m n first s mt o k) (ho : o ≤ o') (hk : k' ≤ k) : LeadAt w W r b m n first s mt o' k' := by
  obtain ⟨⟨V, N, D, h1, h2, h3, h4, h5, h6, h7, h8, h9, h10⟩, h11⟩ := h
  exact ⟨⟨V, N, D, h1, h2, h3, h4, h5, h6, h7, h8, by omega, h10.mono hk⟩, h11⟩
theorem LeadAt.facts (h : LeadAt w W r b m n first s mt o k) : s.Fit ∧ mt.length = n ∧ s.base < first ∧ first ≤ s.base + s.log.length + 1 ∧ (∀ x ∈ mt, x ≤ s.base + s.log.length) ∧ n ≤ 5 ∧ 1 ≤ n := by
  obtain ⟨⟨V, N, D, -, -, -, -, -, h6, rfl, rfl, -, -⟩, -⟩ := h
  exact ⟨h6.fit, h6.mt, h6.lo, h6.hi, h6.mts, by have := h6.sm.n; rw [h6.n] at this; exact this, h6.n1⟩
theorem open_n {D : Dk} (hD : DiskAt w b m D) (hT : Tab w) (hH : Holds D k s) (f : s.Fit) (h1 : 1 ≤ n) (h5 : n ≤ 5) :
    Calls Tryz.prog 10 #[.pointer (some ⟨b, 0, none⟩), .int .i64 0, .int .i64 (n : Int)] w fun e w' => ∃ r, e = .returned (.tuple #[.pointer (some ⟨r, 0, none⟩), .int .i64 0]) ∧ EarlyN w w' r b m n s 0 k := by
  refine (ropen_calls hD hH.good hT 0 n h5 (by omega) (hH.load f)).mono ?_
  rintro e w' ⟨V, rfl, g1, g2, g3, g4, g5, g6⟩
  exact ⟨V.r, rfl, ⟨V, D, rfl, g2, g3, g1, g5, hH⟩, g6⟩
theorem Rn.Sm.opened_t (f : s.Fit) (h1 : 1 ≤ n) (h5 : n ≤ 5) (j : Nat) (hj : j ≤ 1000) : ({ Rn.opened 0 n s with timer := j } : Rn).Sm := by
  have hs0 := Rn.Sm.of_fit (id := 0) (n := n) f h5 (by omega)
  exact ⟨hs0.n, hs0.id, hs0.term, hs0.base, hs0.baseTerm, hs0.snap, hs0.log, hs0.ents, hs0.commit, hs0.applied, by show j ≤ _; omega, hs0.out, hs0.mt, hs0.nx, hs0.votes, hs0.nxs, hs0.mts⟩
theorem earlyN_tick (h : EarlyN w W r b m n s j k) (f : s.Fit) (h1 : 1 ≤ n) (h5 : n ≤ 5) (hj : j < 3) :
    Calls Tryz.prog 11 #[.pointer (some ⟨r, 0, none⟩)] W fun e w' => e = .returned (.tuple #[]) ∧ EarlyN w w' r b m n s (j + 1) k := by
  obtain ⟨⟨V, D, rfl, h2, h3, h4, h5', h6⟩, h7⟩ := h
  refine (tick_wait h4 (.opened_t f h1 h5 j (by omega)) rfl (by show (0 : Nat) ≠ 2; decide) (by show j + 1 < 4 + 2 * 0; omega)).mono ?_
  rintro e w' ⟨rfl, g1, g2⟩
  obtain ⟨g3, g4⟩ := keep_to h7 h5' g2
  exact ⟨rfl, ⟨V, D, rfl, h2, h3, g1, g4, h6⟩, g3⟩
def Ts.stood (s : Ts) : Ts := { s with term := s.term + 1, vote := 1 }
/-- Behind the vote of node number i - 1. -/
def Voted (w W : World) (r b m n i : Nat) (s : Ts) (k : Nat) : Prop :=
  (2 * i ≤ n ∧ CandAt w W r b m n i s.stood k) ∨ (n < 2 * i ∧ LeadAt w W r b m n (s.base + s.log.length + 1) s.led ((List.replicate n 0).set 0 (s.base + s.log.length + 1)) 30 (k - 50))
theorem won_at {V' : Nv} {N : Rn} {D2 : Dk} (hN : Cand N n i) (hs : N.st = s.stood) (hm : s.log.length < 800) (hk : Keep [b, m] w W) (hfp : ∀ x ∈ V'.fp, x = b ∨ x = m ∨ w.heap.size ≤ x) (h1 : V'.r = r) (h2 : V'.b = b) (h3 : V'.m = m) (h4 : NodeAt W V' N.won D2) (hH : Holds D2 k s.led) :
    LeadAt w W r b m n (s.base + s.log.length + 1) s.led ((List.replicate n 0).set 0 (s.base + s.log.length + 1)) 30 k := by
  obtain ⟨a1, a2, a3, a4⟩ := hN.won (by rw [hs]; exact hm)
  rw [hs] at a1 a2 a3
  exact ⟨⟨V', N.won, D2, h1, h2, h3, h4, hfp, a1, a2, a3, a4, hH⟩, hk⟩
theorem earlyN_late (h : EarlyN w W r b m n s 3 k) (f : s.Fit) (h1 : 1 ≤ n) (h5 : n ≤ 5) (ht : s.term < 1000000) (hm : s.log.length < 800) (hk : 200 ≤ k) :
    Calls Tryz.prog 11 #[.pointer (some ⟨r, 0, none⟩)] W fun e w' => e = .returned (.tuple #[]) ∧ Voted w w' r b m n 1 s (k - 40) := by
  obtain ⟨⟨V, D, rfl, h2, h3, h4, h5', h6⟩, h7⟩ := h
  have hlast := f.last
  have hbase := f.base
  obtain ⟨D1, p1, H1⟩ := h6.saveTerm (s.term + 1) 1 (by omega) (by decide) (by omega)
  obtain ⟨D2, p2, H2⟩ := H1.append ⟨s.last.1 + 1, s.term + 1, []⟩ ⟨by show s.last.1 + 1 ≤ _; omega, by show s.term + 1 ≤ _; omega, by simp⟩ (by simp; omega)
  obtain ⟨hC, hst⟩ := Cand.stands f n h1 h5 ht
  refine tick_elect h4 (.opened_t f h1 h5 3 (by decide)) rfl (by show (0 : Nat) ≠ 2; decide) (by show 4 + 2 * 0 ≤ 3 + 1; decide) (fun w' => Voted w w' V.r b m n 1 s (k - 40)) (fun U hU hT => ?_)
  by_cases hn : n = 1
  · refine (elect_one (N := { Rn.opened 0 n s with timer := 4 }) hU h6.good (.opened_t f h1 h5 4 (by decide)) (by show (0 : Nat) ≤ _; decide) p1 H1.good hn (by show s.term < _; omega) (by show s.last.1 < _; have := f.many; omega) (by show s.log.length < _; omega) p2).mono ?_
    rintro e w' ⟨rfl, V', g1, g2⟩
    have g3 := hT.trans g2
    obtain ⟨g4, g5⟩ := keep_to h7 h5' g3
    refine ⟨rfl, .inr ⟨by omega, ?_⟩⟩
    exact won_at hC hst hm g4 g5 g3.r (g3.b.trans h2) (g3.m.trans h3) g1 (H2.mono (by simp only [List.length_nil]; omega))
  · refine (elect_many (N := { Rn.opened 0 n s with timer := 4 }) hU h6.good (.opened_t f h1 h5 4 (by decide)) (by show (0 : Nat) ≤ _; decide) p1 (by show 2 ≤ n; omega)).mono ?_
    rintro e w' ⟨rfl, V', g1, g2⟩
    have g3 := hT.trans g2
    obtain ⟨g4, g5⟩ := keep_to h7 h5' g3
    exact ⟨rfl, .inl ⟨by omega, ⟨V', _, D1, g3.r, g3.b.trans h2, g3.m.trans h3, g1, g5, hC, hst, H1⟩, g4⟩⟩
theorem voted_step (h : Voted w W r b m n i s k) (f : s.Fit) (h1 : 1 ≤ i) (hi : i < n) (ht : s.term < 1000000) (hm : s.log.length < 800) (hk : 200 ≤ k) :
    Calls Tryz.prog 22 #[.pointer (some ⟨r, 0, none⟩), .agg #[.int .i64 2, .int .i64 (i : Int), .int .i64 0, .int .i64 ((s.term + 1 : Nat) : Int), .int .i64 0, .int .i64 0, .int .i64 0, .bool true, .slice none 0 0, .string { data := #[] }]] W fun e w' => e = .returned (.tuple #[]) ∧ Voted w w' r b m n (i + 1) s k := by
  have hlast := f.last
  have hbase := f.base
  rcases h with ⟨h0, ⟨⟨V, N, D, rfl, h2, h3, h4, h5, h6, h7, h8⟩, h9⟩⟩ | ⟨h0, ⟨⟨V, N, D, rfl, h2, h3, h4, h5, h6, h7, h8, h10, h11⟩, h9⟩⟩
  · have hN' := h6.vote hi
    have e1 : N.st.term = s.term + 1 := by rw [h7]; rfl
    have e2 := h6.id
    have hvl : N.votes.length = N.n := by rw [h6.votes, vts_len _ _ h6.i1]; exact h6.n.symm
    have := step_vote (i := i) h4 h6.br h6.role hvl (by rw [h6.n]; exact hi) (by rw [e2]; omega) (fun w' => Voted w w' V.r b m n (i + 1) s k) (fun U hU hT => ?_)
    · rw [e1, e2] at this
      exact this
    · by_cases hw : n < 2 * (i + 1)
      · obtain ⟨D2, p2, H2⟩ := h8.append ⟨s.last.1 + 1, s.term + 1, []⟩ ⟨by show s.last.1 + 1 ≤ _; omega, by show s.term + 1 ≤ _; omega, by simp⟩ (by simp; omega)
        have hlast2 : N.st.last.1 = s.last.1 := by rw [h7]; rfl
        have hp2 : D.appendLog [({ N with votes := N.votes.set i true } : Rn).newEn []] = (D2, 0) := by
          rw [← p2]
          show D.appendLog [⟨N.st.last.1 + 1, N.st.term, []⟩] = _
          rw [e1, hlast2]
        have hc := count_yes hU h8.good hN'.sm (by rw [hN'.votes, vts_len _ _ hN'.i1]; exact hN'.n.symm) (by rw [hN'.votes, vts_trues]; show N.n < _; rw [h6.n]; exact hw) (by have := h6.out; show N.out.length ≤ _; omega) (by show N.st.last.1 < _; have := f.many; omega) (by show N.st.log.length < _; rw [h7]; show s.log.length < _; omega) hp2
        rw [hT.r] at hc
        refine hc.mono ?_
        rintro e w' ⟨rfl, V', g1, g2⟩
        have g3 := hT.trans g2
        obtain ⟨g4, g5⟩ := keep_to h9 h5 g3
        exact ⟨rfl, .inr ⟨hw, won_at hN' h7 hm g4 g5 g3.r (g3.b.trans h2) (g3.m.trans h3) g1 (H2.mono (by simp))⟩⟩
      · have hc := count_no hU hN'.sm.n hN'.sm.id (by rw [hN'.votes, vts_len _ _ hN'.i1]; exact hN'.n.symm) (by rw [hN'.votes, vts_trues]; show _ ≤ N.n; rw [h6.n]; omega)
        rw [hT.r] at hc
        refine hc.mono ?_
        rintro e w' ⟨rfl, rfl⟩
        obtain ⟨g4, g5⟩ := keep_to h9 h5 hT
        exact ⟨rfl, .inl ⟨by omega, ⟨V, _, D, rfl, h2, h3, hU, g5, hN', h7, h8⟩, g4⟩⟩
  · have e1 : N.st.term = s.term + 1 := by rw [h7]; rfl
    have e2 := h6.id
    have := step_vote_late (i := i) h4 h6.br h6.role (by rw [h6.n]; exact hi) (by rw [e2]; omega)
    rw [e1, e2] at this
    refine this.mono ?_
    rintro e w' ⟨rfl, g1, g2⟩
    obtain ⟨g4, g5⟩ := keep_to h9 h5 g2
    exact ⟨rfl, .inr ⟨by omega, ⟨V, N, D, rfl, h2, h3, g1, g5, h6, h7, h8, h10, h11⟩, g4⟩⟩
theorem voted_term (h : Voted w W r b m n i s k) : Calls Tryz.prog 23 #[.pointer (some ⟨r, 0, none⟩)] W fun e w' => e = .returned (.int .i64 ((s.term + 1 : Nat) : Int)) ∧ W = w' := by
  rcases h with ⟨h0, ⟨⟨V, N, D, rfl, h2, h3, h4, h5, h6, h7, h8⟩, h9⟩⟩ | ⟨h0, ⟨⟨V, N, D, rfl, h2, h3, h4, h5, h6, h7, h8, h10, h11⟩, h9⟩⟩
  · have := term_calls h4
    rw [h7] at this
    exact this
  · have := term_calls h4
    rw [h7] at this
    exact this

theorem lead_role (h : LeadAt w W r b m n first s mt o k) : Calls Tryz.prog 39 #[.pointer (some ⟨r, 0, none⟩)] W fun e w' => e = .returned (.int .i64 2) ∧ W = w' := by
  obtain ⟨⟨V, N, D, rfl, h2, h3, h4, h5, h6, h7, h8, h10, h11⟩, h9⟩ := h
  have := role_calls h4
  rw [h6.role] at this
  exact this
theorem lead_term (h : LeadAt w W r b m n first s mt o k) : Calls Tryz.prog 23 #[.pointer (some ⟨r, 0, none⟩)] W fun e w' => e = .returned (.int .i64 (s.term : Int)) ∧ W = w' := by
  obtain ⟨⟨V, N, D, rfl, h2, h3, h4, h5, h6, rfl, h8, h10, h11⟩, h9⟩ := h
  exact term_calls h4
theorem lead_commit (h : LeadAt w W r b m n first s mt o k) : Calls Tryz.prog 25 #[.pointer (some ⟨r, 0, none⟩)] W fun e w' => e = .returned (.int .i64 (comm s.base first mt : Int)) ∧ W = w' := by
  obtain ⟨⟨V, N, D, rfl, h2, h3, h4, h5, h6, rfl, rfl, h10, h11⟩, h9⟩ := h
  have := commit_calls h4
  rw [h6.cm] at this
  exact this
theorem lead_last (h : LeadAt w W r b m n first s mt o k) : Calls Tryz.prog 14 #[.pointer (some ⟨r, 0, none⟩)] W fun e w' => e = .returned (.int .i64 ((s.base + s.log.length : Nat) : Int)) ∧ ∃ n, w' = W.drewN n := by
  obtain ⟨⟨V, N, D, rfl, h2, h3, h4, h5, h6, rfl, h8, h10, h11⟩, h9⟩ := h
  have := nlast_calls h4 (by have := h6.fit.many; omega)
  rw [h6.fit.last] at this
  exact this
theorem lead_propose (h : LeadAt w W r b m n first s mt o k) (cmd : List UInt8) (hc : cmd.length ≤ 1000) (hm : s.log.length < 900) (ho : o ≤ 900000) (hk : cmd.length + 50 ≤ k) :
    Calls Tryz.prog 12 #[.pointer (some ⟨r, 0, none⟩), .string (bs cmd)] W fun e w' => ∃ n1 n2 : Int, e = .returned (.tuple #[.int .i64 n1, .int .i64 n2, .int .i64 0]) ∧ LeadAt w w' r b m n first (s.more cmd) (mt.set 0 (s.base + s.log.length + 1)) (o + 5) (k - (cmd.length + 50)) := by
  obtain ⟨⟨V, N, D, rfl, h2, h3, h4, h5, h6, rfl, rfl, h10, h11⟩, h9⟩ := h
  have hlast := h6.fit.last
  have hbase := h6.fit.base
  have hterm := h6.fit.term
  have hn5 : n ≤ 5 := by have := h6.sm.n; rw [h6.n] at this; exact this
  obtain ⟨D2, p2, H2⟩ := h11.append ⟨N.st.last.1 + 1, N.st.term, cmd⟩ ⟨by show N.st.last.1 + 1 ≤ _; omega, by show N.st.term ≤ _; omega, by show cmd.length ≤ _; omega⟩ hk
  obtain ⟨a1, a2, a3, a4, a5⟩ := h6.more cmd hc hm (by omega)
  refine (propose_calls h4 h11.good h6.sm h6.br h6.role (by rw [h6.mt, h6.n]) (by rw [h6.nx, h6.n]) (by omega) cmd (by omega) (by omega) (by omega) p2).mono ?_
  rintro e w' ⟨rfl, V', g1, g2⟩
  obtain ⟨g4, g5⟩ := keep_to h9 h5 g2
  exact ⟨_, _, rfl, ⟨V', _, D2, g2.r, g2.b.trans h2, g2.m.trans h3, g1, g5, a1, a2, a5, by omega, H2⟩, g4⟩
theorem lead_have (h : LeadAt w W r b m n first s mt o k) (i : Nat) (h1 : 1 ≤ i) (hi : i < n) (x : Nat) (hx : x ≤ s.base + s.log.length) (ho : o ≤ 900000) :
    Calls Tryz.prog 22 #[.pointer (some ⟨r, 0, none⟩), .agg #[.int .i64 4, .int .i64 (i : Int), .int .i64 0, .int .i64 (s.term : Int), .int .i64 (x : Int), .int .i64 0, .int .i64 0, .bool true, .slice none 0 0, .string { data := #[] }]] W fun e w' => e = .returned (.tuple #[]) ∧ LeadAt w w' r b m n first s (mt.set i (max (mt.getD i 0) x)) (o + 1) k := by
  obtain ⟨⟨V, N, D, rfl, h2, h3, h4, h5, h6, rfl, rfl, h10, h11⟩, h9⟩ := h
  have hlast := h6.fit.last
  have hbase := h6.fit.base
  have hmany := h6.fit.many
  have e2 := h6.id
  obtain ⟨a1, a2, a3, a4⟩ := h6.has_ i x hi hx (by omega)
  have := step_have (i := i) h4 h6.br h6.role (by rw [h6.n]; exact hi) (by rw [e2]; omega) x true (fun w' => ∃ V', NodeAt w' V' (N.has i x) D ∧ NodeTo V V' W w') (fun U hk => by
    have hc := onHave_yes (h4.grow hk) h6.sm (by rw [h6.mt, h6.n]) (by rw [h6.nx, h6.n]) i (by rw [h6.n]; exact hi) x (by omega) (by omega) (by omega) 4 (N.id : Int) (N.st.term : Int) 0 0
    refine hc.mono ?_
    rintro e w' ⟨rfl, V', g1, g2⟩
    exact ⟨rfl, V', g1, (NodeTo.grow V hk).trans g2⟩)
  rw [e2] at this
  refine this.mono ?_
  rintro e w' ⟨rfl, V', g1, g2⟩
  obtain ⟨g4, g5⟩ := keep_to h9 h5 g2
  exact ⟨rfl, ⟨V', _, D, g2.r, g2.b.trans h2, g2.m.trans h3, g1, g5, a1, a2, a3, by omega, h11⟩, g4⟩
/-- The messages are taken. -/
theorem lead_take (h : LeadAt w W r b m n first s mt o k) :
    Calls Tryz.prog 26 #[.pointer (some ⟨r, 0, none⟩)] W fun e w' => ∃ v, e = .returned v ∧ LeadAt w w' r b m n first s mt 0 k := by
  obtain ⟨⟨V, N, D, rfl, h2, h3, h4, h5, h6, rfl, rfl, h10, h11⟩, h9⟩ := h
  refine (take_calls h4).mono ?_
  rintro e w' ⟨rfl, -, g1, g2⟩
  obtain ⟨g4, g5⟩ := keep_to h9 h5 g2
  have hs := h6.sm
  exact ⟨_, rfl, ⟨V.taken, _, D, rfl, h2, h3, g1, g5, ⟨h6.id, h6.n, h6.n1, h6.role, h6.br, h6.mt, h6.nx, ⟨hs.n, hs.id, hs.term, hs.base, hs.baseTerm, hs.snap, hs.log, hs.ents, hs.commit, hs.applied, hs.timer, (by show (0 : Nat) ≤ _; decide), hs.mt, hs.nx, hs.votes, hs.nxs, hs.mts⟩, h6.fit, h6.lo, h6.hi, h6.term, h6.mts, h6.nxs, h6.cm⟩, rfl, rfl, Nat.le_refl _, h11⟩, g4⟩
end

end Go.Proofs.YtnlcipocobmgiaaGreatDoor
/- The contract of glacierlaw10.leader. -/
namespace Go.Proofs.YtnlcipocobmgiaaGreatDoor
open Go.RowKit
attribute [local go_sem] size_bs bs_append bs_extract ba_self

/-- Commands one behind the other. -/
def Ts.mores (s : Ts) (cs : List (List UInt8)) : Nat → Ts
  | 0 => s
  | i + 1 => (s.mores cs i).more ((cs.getD i []).take 20)
theorem Ts.mores_len (s : Ts) (cs : List (List UInt8)) : ∀ i, (s.mores cs i).log.length = s.log.length + i
  | 0 => rfl
  | i + 1 => by
    show ((s.mores cs i).log ++ [_]).length = _
    rw [List.length_append, Ts.mores_len s cs i]
    rfl
theorem Ts.mores_base (s : Ts) (cs : List (List UInt8)) : ∀ i, (s.mores cs i).base = s.base
  | 0 => rfl
  | i + 1 => Ts.mores_base s cs i
theorem Ts.led_len (s : Ts) : s.led.log.length = s.log.length + 1 := by simp [Ts.led]
/-- The four ticks. -/
def TicksN (w W : World) (r b m n : Nat) (K : Ts) (a : Value) : Prop := (∃ j : Nat, j ≤ 3 ∧ a = .int .i64 (j : Int) ∧ EarlyN w W r b m n K j 900000) ∨ (a = .int .i64 4 ∧ Voted w W r b m n 1 K 899960)
/-- What it ends with: K is what was kept ahead of it. -/
def LedBy (w : World) (T B nl n : Nat) (e : Ending) (w' : World) : Prop :=
  ∃ (w3 : World) (r b m : Nat) (K s : Ts), e = .returned (.pointer (some ⟨r, 0, none⟩)) ∧ Keep [] w w3 ∧ w.heap.size ≤ b ∧ w.heap.size ≤ m ∧ K.base = B ∧ K.term = T ∧ K.log.length = min nl 6 ∧ s.log.length ≤ 20 ∧ s.base = B ∧ K.log.length + 1 ≤ s.log.length ∧
    LeadAt w3 w' r b m n (K.base + K.log.length + 1) s ((List.replicate n 0).set 0 (s.base + s.log.length)) 0 100000
theorem set_set0 (n a c : Nat) : ((List.replicate n 0).set 0 a).set 0 c = (List.replicate n 0).set 0 c := by rw [List.set_set]
set_option maxRecDepth 100000 in
set_option maxHeartbeats 4000000 in
theorem leader_calls (w : World) (hTb : Tab w) (st sv sb : Int) (vt : Value) (lt : List Int) (ht : IntsAt w vt lt) (vc : Value) (cs : List (List UInt8)) (hcs : StrsAt w vc cs) (n : Nat) (h1n : 1 ≤ n) (h5n : n ≤ 5) (T V B : Nat) (hT : min (max st 0) 20 = (T : Int)) (hV : min (max sv 0) 5 = (V : Int)) (hB : min (max sb 0) 4 = (B : Int)) :
    Calls Tryz.prog 21 #[.agg #[.int .i64 st, .int .i64 sv, .int .i64 sb, vt], .int .i64 (n : Int), vc] w (LedBy w T B lt.length n) := by
  obtain ⟨At, ct, rfl, ht2⟩ := ht
  have HVT : Hid (IntsAt w (.slice At lt.length ct) lt) := ⟨At, ct, rfl, ht2⟩
  obtain ⟨A0, c0, rfl, hcc⟩ := hcs
  have HCC := Lib.hid hcc
  have HT := Lib.hid hTb
  have hTl : T ≤ 20 := by omega
  have hBl : B ≤ 4 := by omega
  have HTT := Lib.hid hT
  have HVV := Lib.hid hV
  have HBB := Lib.hid hB
  have TK : ∀ W, Keep [] w W → Calls Tryz.prog 9 #[.agg #[.int .i64 st, .int .i64 sv, .int .i64 sb, .slice At lt.length ct]] W fun e w' => ∃ (b m : Nat) (D : Dk) (K : Ts) (A : Option Addr) (c : Nat), e = .returned (.tuple #[.pointer (some ⟨b, 0, none⟩), .agg #[.int .i64 (K.term : Int), .int .i64 (K.vote : Int), .int .i64 (K.base : Int), .int .i64 (K.baseTerm : Int), .string (bs K.snap), .slice A K.log.length c]]) ∧ DiskAt w' b m D ∧ Holds D 900000 K ∧ K.Fit ∧ K.term = T ∧ K.base = B ∧ K.log.length = min lt.length 6 ∧ w.heap.size ≤ b ∧ w.heap.size ≤ m ∧ Keep [] w w' := fun W hk => by
    refine (kept_calls W (HT.out.keep hk (by simp)) st sv sb _ lt (HVT.out.keep hk) T V B HTT.out HVV.out HBB.out).mono ?_
    rintro e w' ⟨b, m, D, K, A, c, rfl, h1, h2, h3, h4, h5, h6, h7, h8, -, h10⟩
    have := hk.size
    exact ⟨b, m, D, K, A, c, rfl, h1, h2, h3, h4, h5, h6, by omega, by omega, hk.trans h10⟩
  have HTK := Lib.hid TK
  clear TK hTb hcc hT hV hB ht2
  go_enter Tryz.func21, Tryz.ntmps21
  go_wp2_with (first
    | (go_at_call 9; (with_reducible refine (HTK.out _ ((Keep.refl [] _).alloc _)).mono ?_); rintro e w2 ⟨b, m, D, K, AK, cK, rfl, hD, hH, hf, hk4, hk5, hk6, hbw, hmw, hk2⟩; have HD := Lib.hid hD; have HH := Lib.hid hH; have HF := Lib.hid hf; have HK4 := Lib.hid hk4; have HK5 := Lib.hid hk5; have HK6 := Lib.hid hk6; have HK2 := Lib.hid hk2; have hbl := hD.blk.lt; have hml := hD.map.lt; clear hD hH hf hk4 hk5 hk6 hk2)
    | (go_at_call 10; (with_reducible refine (open_n (HD.out.alloc _) (HT.out.keep (Keep.trans (M := []) HK2.out ((Keep.refl [] _).alloc _)) (by simp)) HH.out HF.out h1n h5n).mono ?_); rintro e w4 ⟨r, rfl, h4⟩; have H4 := Lib.hid h4; clear h4))
  have HKW3 : Hid (Keep [] w (w2.alloc (.cells #[.int .i64 (K.term : Int), .int .i64 (K.vote : Int), .int .i64 (K.base : Int), .int .i64 (K.baseTerm : Int), .string (bs K.snap), .slice AK K.log.length cK] 31))) := HK2.out.alloc _
  generalize (w2.alloc (.cells #[.int .i64 (K.term : Int), .int .i64 (K.vote : Int), .int .i64 (K.base : Int), .int .i64 (K.baseTerm : Int), .string (bs K.snap), .slice AK K.log.length cK] 31)) = w3 at *
  go_loopw [11] (fun a wr => TicksN w3 wr r b m n K a) (fun a _ => 4 - (intOf a).toNat)
  case atStart => exact .inl ⟨0, by decide, rfl, H4.out⟩
  case round =>
    rcases hrel with ⟨j, hj, rfl, hE⟩ | ⟨rfl, hL⟩
    · have HE := Lib.hid hE
      clear hE
      have d1 : decide ((j : Int) < 4) = true := by simp; omega
      by_cases hlt : j < 3
      · go_wp2_with (go_at_call 11; (with_reducible refine (earlyN_tick HE.out HF.out h1n h5n hlt).mono ?_); rintro e w5 ⟨rfl, h5⟩; have H5 := Lib.hid h5; clear h5)
        go_roundw
        case rel => exact .inl ⟨j + 1, by omega, by go_num, H5.out⟩
        case measure => simp [intOf]; omega
      · obtain rfl : j = 3 := by omega
        have HTk := Lib.hid (earlyN_late HE.out HF.out h1n h5n (by have := HK4.out; omega) (by have := HK6.out; omega) (by decide))
        go_wp2_with (go_at_call 11; (with_reducible refine HTk.out.mono ?_); rintro e w5 ⟨rfl, h5⟩; have H5 := Lib.hid h5; clear h5)
        go_roundw
        case rel => exact .inr ⟨by go_num, H5.out⟩
        case measure => simp [intOf]
    · have HL := Lib.hid hL
      clear hL
      obtain ⟨wo, rfl⟩ : ∃ wo : World, wo = wr := ⟨_, rfl⟩
      go_wp2
      go_loopw [12] (fun a wr => ∃ i : Nat, 1 ≤ i ∧ i ≤ n ∧ a = .int .i64 (i : Int) ∧ Voted w3 wr r b m n i K 899960) (fun a _ => n - (intOf a).toNat)
      case atStart => exact ⟨1, Nat.le_refl _, h1n, rfl, HL.out⟩
      case round =>
        obtain ⟨i, hi1, hi2, rfl, hI⟩ := hrel
        have HI := Lib.hid hI
        clear hI
        by_cases hlt : i < n
        · have d1 : decide ((i : Int) < (n : Int)) = true := by simp; omega
          have HTm := Lib.hid (voted_term HI.out)
          have HTs := Lib.hid (voted_step HI.out HF.out hi1 hlt (by have := HK4.out; omega) (by have := HK6.out; omega) (by decide))
          generalize K.term + 1 = tt at *
          go_wp2_with (first
            | (go_at_call 23; (with_reducible refine HTm.out.mono ?_); rintro e w5 ⟨rfl, rfl⟩)
            | (go_at_call 22; (with_reducible refine HTs.out.mono ?_); rintro e w6 ⟨rfl, h6⟩; have H6 := Lib.hid h6; clear h6))
          go_roundw
          case rel => exact ⟨i + 1, by omega, by omega, by go_num, H6.out⟩
          case measure => simp [intOf]; omega
        · obtain rfl : i = n := by omega
          have d1 : decide ((i : Int) < (i : Int)) = false := by simp
          have hLd : LeadAt w3 wr r b m i (K.base + K.log.length + 1) (K.led.mores cs 0) ((List.replicate i 0).set 0 ((K.led.mores cs 0).base + (K.led.mores cs 0).log.length)) 30 899910 := by
            rcases HI.out with ⟨h, -⟩ | ⟨-, h⟩
            · omega
            · have e : (K.led.mores cs 0).base + (K.led.mores cs 0).log.length = K.base + K.log.length + 1 := by
                show K.base + (K.log ++ [_]).length = _
                simp
                omega
              rw [e]
              exact h
          have HLd := Lib.hid hLd
          clear hLd
          obtain ⟨wo2, rfl⟩ : ∃ wo : World, wo = wr := ⟨_, rfl⟩
          go_wp2_with (go_at_call 39; (with_reducible refine (lead_role HLd.out).mono ?_); rintro e w5 ⟨rfl, rfl⟩)
          go_loopw [13] (fun a wr => ∃ q : Nat, q ≤ cs.length ∧ q ≤ 6 ∧ a = .int .i64 (q : Int) ∧ LeadAt w3 wr r b m i (K.base + K.log.length + 1) (K.led.mores cs q) ((List.replicate i 0).set 0 ((K.led.mores cs q).base + (K.led.mores cs q).log.length)) (30 + 5 * q) (899910 - 100 * q)) (fun a _ => 6 - (intOf a).toNat)
          case atStart => exact ⟨0, Nat.zero_le _, Nat.zero_le _, rfl, HLd.out⟩
          case round =>
            obtain ⟨q, hq1, hq2, rfl, hQ⟩ := hrel
            have HQ := Lib.hid hQ
            have HKR : Hid (Keep [] w wr) := HKW3.out.trans' hQ.keep (by simp; omega)
            clear hQ
            by_cases h : q < cs.length ∧ q < 6
            · obtain ⟨h1, h2⟩ := h
              have d1 : decide ((q : Int) < (cs.length : Int)) = true := by simpa using h1
              have d2 : decide ((q : Int) < 6) = true := by simp; omega
              obtain ⟨g, o, rfl, hc⟩ := HCC.out (by intro h0; subst h0; simp at h1)
              have c1 := hc q h1
              have cx : wr.cell? ⟨g, o + q, none⟩ = some (.string (bs cs[q])) := (HKR.out.cell (World.block_lt_of_cell? _ _ c1) (by simp)).trans c1
              have HXE : Hid (cs.getD q [] = cs[q]) := (by simp [List.getD, h1] : cs.getD q [] = cs[q])
              clear hc c1
              have hk6 := HK6.out
              have HP : Hid (Calls Tryz.prog 12 #[.pointer (some ⟨r, 0, none⟩), .string (bs ((cs[q]).take 20))] wr fun e w' => ∃ n1 n2 : Int, e = .returned (.tuple #[.int .i64 n1, .int .i64 n2, .int .i64 0]) ∧ LeadAt w3 w' r b m i (K.base + K.log.length + 1) (K.led.mores cs (q + 1)) ((List.replicate i 0).set 0 ((K.led.mores cs (q + 1)).base + (K.led.mores cs (q + 1)).log.length)) (30 + 5 * (q + 1)) (899910 - 100 * (q + 1))) := by
                have hl20 : ((cs[q]).take 20).length ≤ 20 := by rw [List.length_take]; omega
                refine (lead_propose HQ.out ((cs[q]).take 20) (by omega) (by rw [Ts.mores_len, Ts.led_len]; omega) (by omega) (by omega)).mono ?_
                rintro e w' ⟨n1, n2, rfl, h5⟩
                refine ⟨n1, n2, rfl, ?_⟩
                have h6 := h5.less (o' := 30 + 5 * (q + 1)) (k' := 899910 - 100 * (q + 1)) (by omega) (by omega)
                rw [set_set0] at h6
                have e1 : (K.led.mores cs (q + 1)).base + (K.led.mores cs (q + 1)).log.length = (K.led.mores cs q).base + (K.led.mores cs q).log.length + 1 := by rw [Ts.mores_len, Ts.mores_len, Ts.mores_base, Ts.mores_base]; omega
                have e2 : K.led.mores cs (q + 1) = (K.led.mores cs q).more ((cs[q]).take 20) := by
                  show (K.led.mores cs q).more ((cs.getD q []).take 20) = _
                  rw [HXE.out]
                rw [e1, e2]
                exact h6
              clear hk6
              generalize cs[q] = x at *
              go_wp2_with (first
                | (go_at_call 8; refine (cut_calls x 20 wr).mono ?_; rintro e w3' ⟨rfl, rfl⟩)
                | (go_at_call 12; (with_reducible refine HP.out.mono ?_); rintro e w5 ⟨n1, n2, rfl, h5⟩; have H5 := Lib.hid h5; clear h5))
              go_roundw
              case rel => exact ⟨q + 1, by omega, by omega, by go_num, H5.out⟩
              case measure => simp [intOf]; omega
            · by_cases h1 : q < cs.length
              · have d1 : decide ((q : Int) < (cs.length : Int)) = true := by simpa using h1
                have d2 : decide ((q : Int) < 6) = false := by simp; omega
                go_wp2_with (go_at_call 26; (with_reducible refine (lead_take HQ.out).mono ?_); rintro e w7 ⟨v7, rfl, h7⟩; have H7 := Lib.hid h7; clear h7)
                go_ret
                have hk6 := HK6.out
                exact ⟨w3, r, b, m, K, K.led.mores cs q, rfl, HKW3.out, hbw, hmw, HK5.out, HK4.out, hk6, by rw [Ts.mores_len, Ts.led_len]; omega, by rw [Ts.mores_base]; exact HK5.out, by rw [Ts.mores_len, Ts.led_len]; omega, H7.out.less (Nat.le_refl _) (by omega)⟩
              · have d1 : decide ((q : Int) < (cs.length : Int)) = false := by simpa using h1
                go_wp2_with (go_at_call 26; (with_reducible refine (lead_take HQ.out).mono ?_); rintro e w7 ⟨v7, rfl, h7⟩; have H7 := Lib.hid h7; clear h7)
                go_ret
                have hk6 := HK6.out
                exact ⟨w3, r, b, m, K, K.led.mores cs q, rfl, HKW3.out, hbw, hmw, HK5.out, HK4.out, hk6, by rw [Ts.mores_len, Ts.led_len]; omega, by rw [Ts.mores_base]; exact HK5.out, by rw [Ts.mores_len, Ts.led_len]; omega, H7.out.less (Nat.le_refl _) (by omega)⟩

end Go.Proofs.YtnlcipocobmgiaaGreatDoor
/- Plain laws: what a leader tells the others; what it makes of a no. -/
namespace Go.Proofs.YtnlcipocobmgiaaGreatDoor
open Go.RowKit

/-- A message as the leader of a state sends it. -/
structure MsgOk (s : Ts) (cm : Nat) (m : Mg) : Prop where
  frm : m.frm = 0
  term : m.term = (s.term : Int)
  commit : m.commit = (cm : Int)
  alt : (m.kind = 5 ∧ m.index = (s.base : Int) ∧ m.snap = s.snap ∧ s.base ≠ 0) ∨
    (m.kind = 3 ∧ ∃ ix : Nat, m.index = (ix : Int) ∧ s.base ≤ ix ∧ ix ≤ s.base + s.log.length ∧ m.ents.length = min (s.base + s.log.length - ix) 4 ∧ ∀ j (h : j < m.ents.length), m.ents[j].index = ix + 1 + j)
theorem Lead.lack_ok {N : Rn} {n first : Nat} (h : Lead N n first) (i : Nat) (hi : i < n) : MsgOk N.st N.commit (N.lack i) := by
  obtain ⟨x, hx⟩ : ∃ x, x = N.nx.getD i 0 := ⟨_, rfl⟩
  have hxb : 1 ≤ x ∧ x ≤ N.st.base + N.st.log.length + 1 := by
    have hq : i < N.nx.length := by rw [h.nx]; exact hi
    have := h.nxs (N.nx[i]) (List.getElem_mem hq)
    rw [hx]
    simpa [List.getD, hq] using this
  have hid := h.id
  have hnone : x - 1 < N.st.base → N.st.termAt (x - 1) = none := fun hlt => by
    have : N.st.at (x - 1) = none := by unfold Ts.at; rw [if_pos (by omega)]
    unfold Ts.termAt
    rw [if_neg (by omega), this]
  have hsome : N.st.base ≤ x - 1 → ∃ t, N.st.termAt (x - 1) = some t := fun hge => by
    unfold Ts.termAt
    by_cases he : x - 1 = N.st.base
    · exact ⟨_, if_pos he⟩
    · have : N.st.at (x - 1) = some (x - 1 - N.st.base - 1) := by unfold Ts.at; rw [if_neg (by omega), if_neg (by omega)]
      rw [if_neg he, this]
      simp only
      rw [List.getElem?_eq_getElem (by omega)]
      exact ⟨_, rfl⟩
  rcases Nat.lt_or_ge (x - 1) N.st.base with hlt | hge
  · have hl : N.lack i = ⟨5, (N.id : Int), (i : Int), (N.st.term : Int), (N.st.base : Int), (N.st.baseTerm : Int), (N.commit : Int), false, [], N.st.snap⟩ := by
      unfold Rn.lack
      rw [← hx, hnone hlt]
    rw [hl]
    exact ⟨by show (N.id : Int) = 0; omega, rfl, rfl, .inl ⟨rfl, rfl, rfl, by omega⟩⟩
  · obtain ⟨t, ht⟩ := hsome hge
    have hl : N.lack i = ⟨3, (N.id : Int), (i : Int), (N.st.term : Int), ((x - 1 : Nat) : Int), (t : Int), (N.commit : Int), false, N.st.from_ x 4, []⟩ := by
      unfold Rn.lack
      rw [← hx, ht]
    have hat : N.st.at x = some (x - N.st.base - 1) := by unfold Ts.at; rw [if_neg (by omega), if_neg (by omega)]
    have hfr : N.st.from_ x 4 = (N.st.log.drop (x - N.st.base - 1)).take 4 := by unfold Ts.from_; rw [hat]
    rw [hl]
    refine ⟨by show (N.id : Int) = 0; omega, rfl, rfl, .inr ⟨rfl, x - 1, rfl, hge, by omega, ?_, ?_⟩⟩
    · show (N.st.from_ x 4).length = _
      rw [hfr, List.length_take, List.length_drop]
      omega
    · intro j hj
      have hj' : j < ((N.st.log.drop (x - N.st.base - 1)).take 4).length := by rw [← hfr]; exact hj
      have hj2 := hj'
      rw [List.length_take, List.length_drop] at hj2
      have e : (N.st.from_ x 4)[j]'hj = ((N.st.log.drop (x - N.st.base - 1)).take 4)[j]'hj' := by simp only [hfr]
      show ((N.st.from_ x 4)[j]'hj).index = _
      rw [e, List.getElem_take, List.getElem_drop]
      have := h.fit.seq (x - N.st.base - 1 + j) (by omega)
      omega
theorem others_count : ∀ k : Fin 6, 1 ≤ k.val → (others k.val 0).length = k.val - 1 := by decide
/-- What it has to send behind a tick. -/
theorem Lead.told_ok {N : Rn} {n first : Nat} (h : Lead N n first) (ho : N.out = []) : (∀ m ∈ N.sendAll.out, MsgOk N.st N.commit m) ∧ N.sendAll.out.length = n - 1 := by
  have e : N.sendAll.out = (others n 0).map N.lack := by
    show N.out ++ (others N.n N.id).map N.lack = _
    rw [ho, h.n, h.id, List.nil_append]
  have hn5 : n ≤ 5 := by have := h.sm.n; rw [h.n] at this; exact this
  rw [e]
  refine ⟨fun m hm => ?_, ?_⟩
  · obtain ⟨i, hi, rfl⟩ := List.mem_map.1 hm
    unfold others at hi
    have := (List.mem_filter.1 hi).1
    exact h.lack_ok i (List.mem_range.1 this)
  · rw [List.length_map]
    exact others_count ⟨n, by omega⟩ h.n1
theorem Lead.tick {N : Rn} {n first : Nat} (h : Lead N n first) (ho : N.out = []) : Lead N.sendAll n first := by
  have hs := h.sm
  have h1 := (h.told_ok ho).2
  have hn5 : n ≤ 5 := by have := h.sm.n; rw [h.n] at this; exact this
  exact ⟨h.id, h.n, h.n1, h.role, h.br, h.mt, h.nx, ⟨hs.n, hs.id, hs.term, hs.base, hs.baseTerm, hs.snap, hs.log, hs.ents, hs.commit, hs.applied, hs.timer, by omega, hs.mt, hs.nx, hs.votes, hs.nxs, hs.mts⟩, h.fit, h.lo, h.hi, h.term, h.mts, h.nxs, h.cm⟩
theorem Lead.back {N : Rn} {n first : Nat} (h : Lead N n first) (i k : Nat) (hi : i < n) (hk : k ≤ N.st.base + N.st.log.length) (ho : N.out.length ≤ 900000) : Lead ((N.backed i k).lacks i) n first ∧ ((N.backed i k).lacks i).out.length ≤ N.out.length + 1 := by
  have hb := h.fit.base
  have hmany := h.fit.many
  have him : i < N.mt.length := by rw [h.mt]; exact hi
  have hm0 : N.mt.getD i 0 ≤ N.st.base + N.st.log.length := by
    have hx := h.mts (N.mt[i]) (List.getElem_mem _)
    simpa [List.getD, him] using hx
  have hs := h.sm.backed i k him (by omega)
  have hl : ((N.backed i k).lacks i).out.length = N.out.length + 1 := by
    show (N.out ++ [_]).length = _
    simp
  refine ⟨⟨h.id, h.n, h.n1, h.role, h.br, h.mt, by show (N.nx.set i _).length = n; rw [List.length_set]; exact h.nx, ⟨hs.n, hs.id, hs.term, hs.base, hs.baseTerm, hs.snap, hs.log, hs.ents, hs.commit, hs.applied, hs.timer, by omega, hs.mt, hs.nx, hs.votes, hs.nxs, hs.mts⟩, h.fit, h.lo, h.hi, h.term, h.mts, ?_, h.cm⟩, by omega⟩
  intro x hx
  rcases List.mem_or_eq_of_mem_set hx with hx | rfl
  · exact h.nxs x hx
  · show 1 ≤ N.backTo i k ∧ N.backTo i k ≤ N.st.base + N.st.log.length + 1
    unfold Rn.backTo
    omega

end Go.Proofs.YtnlcipocobmgiaaGreatDoor
/- A leader that tells the others, as a law walks with it. -/
namespace Go.Proofs.YtnlcipocobmgiaaGreatDoor
open Go.RowKit

structure LeadMs (w W : World) (r b m n first : Nat) (s : Ts) (mt : List Nat) (k : Nat) : Prop where
  ex : ∃ V N D, V.r = r ∧ V.b = b ∧ V.m = m ∧ NodeAt W V N D ∧ (∀ x ∈ V.fp, x = b ∨ x = m ∨ w.heap.size ≤ x) ∧ Lead N n first ∧ N.st = s ∧ N.mt = mt ∧ N.out.length = n - 1 ∧ (∀ q ∈ N.out, MsgOk s (comm s.base first mt) q) ∧ Holds D k s
  keep : Keep [b, m] w W
section
variable {w W : World} {r b m n first o k i : Nat} {s : Ts} {mt : List Nat}
theorem lead_back (h : LeadAt w W r b m n first s mt o k) (i : Nat) (h1 : 1 ≤ i) (hi : i < n) (x : Nat) (hx : x ≤ s.base + s.log.length) (ho : o ≤ 900000) :
    Calls Tryz.prog 22 #[.pointer (some ⟨r, 0, none⟩), .agg #[.int .i64 4, .int .i64 (i : Int), .int .i64 0, .int .i64 (s.term : Int), .int .i64 (x : Int), .int .i64 0, .int .i64 0, .bool false, .slice none 0 0, .string { data := #[] }]] W fun e w' => e = .returned (.tuple #[]) ∧ LeadAt w w' r b m n first s mt (o + 1) k := by
  obtain ⟨⟨V, N, D, rfl, h2, h3, h4, h5, h6, rfl, rfl, h10, h11⟩, h9⟩ := h
  have hbase := h6.fit.base
  have hmany := h6.fit.many
  have e2 := h6.id
  obtain ⟨a1, a4⟩ := h6.back i x hi hx (by omega)
  have := step_have (i := i) h4 h6.br h6.role (by rw [h6.n]; exact hi) (by rw [e2]; omega) x false (fun w' => ∃ V', NodeAt w' V' ((N.backed i x).lacks i) D ∧ NodeTo V V' W w') (fun U hk => by
    have hc := onHave_no (h4.grow hk) h6.sm (by rw [h6.mt, h6.n]) (by rw [h6.nx, h6.n]) i (by rw [h6.n]; exact hi) x (by omega) (by omega) 4 (N.id : Int) (N.st.term : Int) 0 0
    refine hc.mono ?_
    rintro e w' ⟨rfl, V', g1, g2⟩
    exact ⟨rfl, V', g1, (NodeTo.grow V hk).trans g2⟩)
  rw [e2] at this
  refine this.mono ?_
  rintro e w' ⟨rfl, V', g1, g2⟩
  obtain ⟨g4, g5⟩ := keep_to h9 h5 g2
  exact ⟨rfl, ⟨V', _, D, g2.r, g2.b.trans h2, g2.m.trans h3, g1, g5, a1, rfl, rfl, by omega, h11⟩, g4⟩
theorem lead_tick (h : LeadAt w W r b m n first s mt 0 k) :
    Calls Tryz.prog 11 #[.pointer (some ⟨r, 0, none⟩)] W fun e w' => e = .returned (.tuple #[]) ∧ LeadMs w w' r b m n first s mt k := by
  obtain ⟨⟨V, N, D, rfl, h2, h3, h4, h5, h6, rfl, rfl, h10, h11⟩, h9⟩ := h
  have ho : N.out = [] := List.length_eq_zero_iff.1 (by omega)
  obtain ⟨a1, a2⟩ := h6.told_ok ho
  rw [h6.cm] at a1
  refine (tick_leader h4 h6.sm h6.br h6.role (by rw [h6.nx, h6.n]) (by omega)).mono ?_
  rintro e w' ⟨rfl, V', g1, g2⟩
  obtain ⟨g4, g5⟩ := keep_to h9 h5 g2
  exact ⟨rfl, ⟨V', _, D, g2.r, g2.b.trans h2, g2.m.trans h3, g1, g5, h6.tick ho, rfl, rfl, a2, a1, h11⟩, g4⟩
theorem lead_out (h : LeadMs w W r b m n first s mt k) :
    Calls Tryz.prog 26 #[.pointer (some ⟨r, 0, none⟩)] W fun e w' => ∃ A c outs, e = .returned (.slice A (n - 1) c) ∧ MsgsAt w' (.slice A (n - 1) c) outs ∧ outs.length = n - 1 ∧ (∀ p ∈ outs, MsgOk s (comm s.base first mt) p.1) ∧ LeadAt w w' r b m n first s mt 0 k := by
  obtain ⟨⟨V, N, D, rfl, h2, h3, h4, h5, h6, rfl, rfl, h10, h12, h11⟩, h9⟩ := h
  refine (take_calls h4).mono ?_
  rintro e w' ⟨rfl, g0, g1, g2⟩
  obtain ⟨g4, g5⟩ := keep_to h9 h5 g2
  have hs := h6.sm
  have hl := h4.outs_len
  obtain ⟨A, c, hv⟩ := own_slice g0.own
  have hln : V.outs.length = n - 1 := by omega
  rw [hln] at hv
  rw [hv] at g0
  refine ⟨A, c, V.outs, by rw [hv], g0, hln, fun p hp => h12 _ ?_, ⟨V.taken, _, D, rfl, h2, h3, g1, g5, ⟨h6.id, h6.n, h6.n1, h6.role, h6.br, h6.mt, h6.nx, ⟨hs.n, hs.id, hs.term, hs.base, hs.baseTerm, hs.snap, hs.log, hs.ents, hs.commit, hs.applied, hs.timer, (by show (0 : Nat) ≤ _; decide), hs.mt, hs.nx, hs.votes, hs.nxs, hs.mts⟩, h6.fit, h6.lo, h6.hi, h6.term, h6.mts, h6.nxs, h6.cm⟩, rfl, rfl, Nat.le_refl _, h11⟩, g4⟩
  rw [← h4.rest.outs]
  exact List.mem_map_of_mem hp
theorem lead_state (h : LeadAt w W r b m n first s mt o k) : Calls Tryz.prog 20 #[.pointer (some ⟨r, 0, none⟩)] W fun e w' => ∃ A c, e = .returned (s.agg (.slice A s.log.length c)) ∧ Keep [] W w' := by
  obtain ⟨⟨V, N, D, rfl, h2, h3, h4, h5, h6, rfl, rfl, h10, h11⟩, h9⟩ := h
  refine (state_calls h4 (by have := h6.fit.many; omega)).mono ?_
  rintro e w' ⟨A, c, rfl, -, g2⟩
  exact ⟨A, c, rfl, g2⟩
end

end Go.Proofs.YtnlcipocobmgiaaGreatDoor
/- The contract of glacierlaw10.awake. -/
namespace Go.Proofs.YtnlcipocobmgiaaGreatDoor
open Go.RowKit
attribute [local go_sem] size_bs bs_append bs_extract ba_self

def sA : Ts := Ts.zero.led.more [120]
theorem sA_log : sA.log = [⟨1, 1, []⟩, ⟨2, 1, [120]⟩] := rfl
theorem sA_fit1 : Ts.zero.led.log.length < 1000 := by decide
set_option maxRecDepth 100000 in
set_option maxHeartbeats 2000000 in
theorem rawake_calls (w : World) (hT : Tab w) : Calls Tryz.prog 7 #[] w fun e w' => e = .returned (.bool true) ∧ Keep [] w w' := by
  have T1 : ∀ W b m, DiskAt W b m ⟨10000, 0, false, 0, []⟩ → Tab W → Calls Tryz.prog 10 #[.pointer (some ⟨b, 0, none⟩), .int .i64 0, .int .i64 1] W fun e w' => ∃ r, e = .returned (.tuple #[.pointer (some ⟨r, 0, none⟩), .int .i64 0]) ∧ EarlyAt W w' r b m Ts.zero 0 10000 := fun W b m hD hT =>
    open_one hD hT (Holds.start 10000 (by decide)) Ts.fit_zero
  have T2 : ∀ w W r b m j, EarlyAt w W r b m Ts.zero j 10000 → j < 3 → Calls Tryz.prog 11 #[.pointer (some ⟨r, 0, none⟩)] W fun e w' => e = .returned (.tuple #[]) ∧ EarlyAt w w' r b m Ts.zero (j + 1) 10000 := fun w W r b m j h hj => early_tick h Ts.fit_zero (by decide) hj
  have T3 : ∀ w W r b m, EarlyAt w W r b m Ts.zero 3 10000 → Calls Tryz.prog 11 #[.pointer (some ⟨r, 0, none⟩)] W fun e w' => e = .returned (.tuple #[]) ∧ LoneAt w w' r b m Ts.zero.led 0 9900 := fun w W r b m h => early_late h Ts.fit_zero (by decide) (by decide) (by decide)
  have T4 : ∀ w W r b m, LoneAt w W r b m Ts.zero.led 0 9900 → Calls Tryz.prog 12 #[.pointer (some ⟨r, 0, none⟩), .string { data := #[120] }] W fun e w' => e = .returned (.tuple #[.int .i64 2, .int .i64 1, .int .i64 0]) ∧ LoneAt w w' r b m sA 0 9849 := fun w W r b m h => lone_propose h [120] (by decide) sA_fit1 (by decide)
  have T5 : ∀ w W r b m, LoneAt w W r b m sA 0 9849 → Calls Tryz.prog 13 #[.pointer (some ⟨r, 0, none⟩)] W fun e w' => ∃ g o c, e = .returned (.tuple #[.string (bs []), .bool false, .slice (some ⟨g, o, none⟩) 2 c]) ∧ LoneAt w w' r b m sA 2 9849 ∧ w'.cell? ⟨g, o + 3 + 2, none⟩ = some (.string { data := #[120] }) := fun w W r b m h => by
    refine (lone_fresh h).mono ?_
    rintro e w' ⟨A, c, rfl, h1, h2⟩
    obtain ⟨A', c', he, hc⟩ := own_ents h1
    injection he with he1 _ he3
    subst he1 he3
    obtain ⟨g, o, rfl, hcc⟩ := hc (by rw [sA_log]; simp)
    have := hcc 5 (.string (bs [120])) (by rw [sA_log]; rfl)
    exact ⟨g, o, c, rfl, h2, this⟩
  have T6 : ∀ w W r b m, LoneAt w W r b m sA 2 9849 → Calls Tryz.prog 39 #[.pointer (some ⟨r, 0, none⟩)] W fun e w' => e = .returned (.int .i64 2) ∧ W = w' := fun w W r b m h => lone_role h
  have T7 : ∀ w W r b m, LoneAt w W r b m sA 2 9849 → Calls Tryz.prog 25 #[.pointer (some ⟨r, 0, none⟩)] W fun e w' => e = .returned (.int .i64 2) ∧ W = w' := fun w W r b m h => lone_commit h
  have T8 : ∀ w W r b m, LoneAt w W r b m sA 2 9849 → Calls Tryz.prog 23 #[.pointer (some ⟨r, 0, none⟩)] W fun e w' => e = .returned (.int .i64 1) ∧ W = w' := fun w W r b m h => lone_term h
  have HT1 := Lib.hid T1
  have HT2 := Lib.hid T2
  have HT3 := Lib.hid T3
  have HT4 := Lib.hid T4
  have HT5 := Lib.hid T5
  have HT6 := Lib.hid T6
  have HT7 := Lib.hid T7
  have HT8 := Lib.hid T8
  have HT := Lib.hid hT
  clear T1 T2 T3 T4 T5 T6 T7 T8 hT
  go_enter Tryz.func7, Tryz.ntmps7
  go_wp2_with (first
    | (go_at_call 38; refine (new_calls 10000 (by decide) w).mono ?_; rintro e w1 ⟨b, m, rfl, hb, hm, hD1, hk1⟩; have HD1 : Hid (DiskAt w1 b m ⟨10000, 0, false, 0, []⟩) := hD1; have HK1 := Lib.hid hk1; clear hD1 hk1)
    | (go_at_call 10; refine (HT1.out _ _ _ HD1.out (HT.out.keep HK1.out (by simp))).mono ?_; rintro e w2 ⟨r, rfl, h2⟩; have H2 := Lib.hid h2; clear h2))
  go_loopw [3] (fun a wr => ∃ j : Nat, j ≤ 3 ∧ a = .int .i64 (j : Int) ∧ EarlyAt w1 wr r b m Ts.zero j 10000) (fun a _ => 3 - (intOf a).toNat)
  case atStart => exact ⟨0, by decide, rfl, H2.out⟩
  case round =>
    obtain ⟨j, hj, rfl, hE⟩ := hrel
    have HE := Lib.hid hE
    clear hE
    by_cases hlt : j < 3
    · have d1 : decide ((j : Int) < 3) = true := by simp; omega
      go_wp2_with (go_at_call 11; refine (HT2.out _ _ _ _ _ _ HE.out hlt).mono ?_; rintro e w3 ⟨rfl, h3⟩; have H3 := Lib.hid h3; clear h3)
      go_roundw
      case rel => exact ⟨j + 1, by omega, by go_num, H3.out⟩
      case measure => simp [intOf]; omega
    · obtain rfl : j = 3 := by omega
      go_wp2_with (first
        | (go_at_call 39; refine (early_role HE.out).mono ?_; rintro e w4 ⟨rfl, rfl⟩)
        | (go_at_call 11; refine (HT3.out _ _ _ _ _ HE.out).mono ?_; rintro e w5 ⟨rfl, h5⟩; have H5 := Lib.hid h5; clear h5)
        | (go_at_call 12; refine (HT4.out _ _ _ _ _ H5.out).mono ?_; rintro e w6 ⟨rfl, h6⟩; have H6 := Lib.hid h6; clear h6)
        | (go_at_call 13; refine (HT5.out _ _ _ _ _ H6.out).mono ?_; rintro e w7 ⟨g, o, cc, rfl, h7, hc7⟩; have H7 := Lib.hid h7; clear h7)
        | (go_at_call 39; refine (HT6.out _ _ _ _ _ H7.out).mono ?_; rintro e w8 ⟨rfl, rfl⟩)
        | (go_at_call 25; refine (HT7.out _ _ _ _ _ H7.out).mono ?_; rintro e w8 ⟨rfl, rfl⟩)
        | (go_at_call 23; refine (HT8.out _ _ _ _ _ H7.out).mono ?_; rintro e w8 ⟨rfl, rfl⟩))
      go_ret
      exact ⟨rfl, HK1.out.trans' H7.out.keep (by simp; omega)⟩

end Go.Proofs.YtnlcipocobmgiaaGreatDoor
