/- Plain: chunks by number, as the document has them. -/
import Derived.Test.YtkplffkchanipaaGreatDoorBase
import Derived.Test.YtkplffkchanipaaGreatDoorCk
import Derived.Test.YtkplffkchanipaaGreatDoorChParse
import Derived.Test.YtkplffkchanipaaGreatDoorPlain0
import Derived.Test.YtkplffkchanipaaGreatDoorGoods
import Derived.Sort.KeysCollected
namespace Go.Proofs.YtkplffkchanipaaGreatDoor
open Go.RowKit

/- Chunks by number. -/
def lookX (i : Nat) : List (Nat × List UInt8) → Option (List UInt8)
  | [] => none
  | p :: r => if i = p.1 then some p.2 else lookX i r
def dropX (i : Nat) (l : List (Nat × List UInt8)) : List (Nat × List UInt8) := l.filter fun p => decide (p.1 ≠ i)
def insX (p : Nat × List UInt8) : List (Nat × List UInt8) → List (Nat × List UInt8)
  | [] => [p]
  | q :: r => if p.1 < q.1 then p :: q :: r else q :: insX p r
def putX (p : Nat × List UInt8) (l : List (Nat × List UInt8)) : List (Nat × List UInt8) := insX p (dropX p.1 l)
theorem look_dropX (i j : Nat) : ∀ l, lookX j (dropX i l) = if j = i then none else lookX j l
  | [] => by simp [dropX, lookX]
  | p :: l => by
    have ih := look_dropX i j l
    unfold dropX at ih ⊢
    by_cases hp : p.1 = i
    · rw [List.filter_cons_of_neg (by simp [hp]), ih]
      by_cases hj : j = i
      · simp [hj]
      · simp [lookX, hp, hj]
    · rw [List.filter_cons_of_pos (by simp [hp])]
      simp only [lookX, ih]
      by_cases hj : j = p.1
      · subst hj; simp [hp]
      · simp [hj]
theorem look_insX (p : Nat × List UInt8) (j : Nat) : ∀ l, (∀ q ∈ l, q.1 ≠ p.1) → lookX j (insX p l) = if j = p.1 then some p.2 else lookX j l
  | [], _ => by simp [insX, lookX]
  | q :: l, h => by
    have ih := look_insX p j l fun x hx => h x (by simp [hx])
    have hq := h q (by simp)
    unfold insX
    split
    · simp [lookX]
    · simp only [lookX, ih]
      by_cases hj : j = q.1
      · subst hj; simp [hq]
      · simp [hj]
theorem drop_mem {i : Nat} {l : List (Nat × List UInt8)} {q : Nat × List UInt8} : q ∈ dropX i l ↔ q ∈ l ∧ q.1 ≠ i := by simp [dropX]
theorem look_putX (p : Nat × List UInt8) (j : Nat) (l : List (Nat × List UInt8)) : lookX j (putX p l) = if j = p.1 then some p.2 else lookX j l := by
  unfold putX
  rw [look_insX p j _ fun q hq => (drop_mem.1 hq).2, look_dropX]
  split <;> rfl
/-- The numbers rise. -/
def Asc (l : List (Nat × List UInt8)) : Prop := l.Pairwise fun p q => p.1 < q.1
theorem Asc.drop {l : List (Nat × List UInt8)} (h : Asc l) (i : Nat) : Asc (dropX i l) := h.sublist List.filter_sublist
theorem ins_mem {p q : Nat × List UInt8} : ∀ {l}, q ∈ insX p l ↔ q = p ∨ q ∈ l
  | [] => by simp [insX]
  | x :: l => by
    unfold insX
    split
    · simp
    · simp only [List.mem_cons, ins_mem (l := l)]
      constructor
      · rintro (h | h | h) <;> simp [h]
      · rintro (h | h | h) <;> simp [h]
theorem Asc.ins {p : Nat × List UInt8} : ∀ {l}, Asc l → (∀ q ∈ l, q.1 ≠ p.1) → Asc (insX p l)
  | [], _, _ => by simp [insX, Asc]
  | x :: l, h, hn => by
    have hx := List.pairwise_cons.1 h
    unfold insX
    split
    · rename_i hlt
      exact List.pairwise_cons.2 ⟨fun q hq => by
        rcases List.mem_cons.1 hq with rfl | hq
        · exact hlt
        · have := hx.1 q hq; omega, h⟩
    · rename_i hge
      have h0 := hn x (by simp)
      refine List.pairwise_cons.2 ⟨fun q hq => ?_, Asc.ins hx.2 fun q hq => hn q (by simp [hq])⟩
      rcases ins_mem.1 hq with rfl | hq
      · omega
      · exact hx.1 q hq
theorem Asc.put {l : List (Nat × List UInt8)} (h : Asc l) (p : Nat × List UInt8) : Asc (putX p l) := (h.drop p.1).ins fun _ hq => (drop_mem.1 hq).2
theorem look_memX {j : Nat} {d : List UInt8} : ∀ {l}, lookX j l = some d → (j, d) ∈ l
  | [], h => by simp [lookX] at h
  | p :: l, h => by
    simp only [lookX] at h
    split at h
    · rename_i hj; simp only [Option.some.injEq] at h; subst hj; subst h; simp
    · exact List.mem_cons_of_mem _ (look_memX h)
theorem look_ofX {p : Nat × List UInt8} : ∀ {l}, Asc l → p ∈ l → lookX p.1 l = some p.2
  | [], _, hp => by simp at hp
  | x :: l, h, hp => by
    have hx := List.pairwise_cons.1 h
    rcases List.mem_cons.1 hp with rfl | hp
    · simp [lookX]
    · have := hx.1 p hp
      simp only [lookX]
      rw [if_neg (by omega)]
      exact look_ofX hx.2 hp
theorem look_noneX {j : Nat} : ∀ {l}, lookX j l = none ↔ ∀ p ∈ l, p.1 ≠ j
  | [] => by simp [lookX]
  | x :: l => by
    simp only [lookX, List.mem_cons, forall_eq_or_imp]
    split
    · rename_i h; simp [h]
    · rename_i h
      rw [look_noneX (l := l)]
      constructor
      · exact fun h2 => ⟨fun e => h e.symm, h2⟩
      · exact fun h2 => h2.2

theorem ins_done {p q x : Nat × List UInt8} : ∀ {l : List (Nat × List UInt8)}, x ∈ l → p.1 < x.1 → insX p (l ++ [q]) = insX p l ++ [q]
  | [], hx, _ => by simp at hx
  | y :: l, hx, hlt => by
    simp only [List.cons_append, insX]
    split
    · rfl
    · rename_i hn
      rcases List.mem_cons.1 hx with rfl | hx
      · exact absurd hlt hn
      · rw [ins_done hx hlt]; rfl
theorem ins_none {p : Nat × List UInt8} : ∀ {l : List (Nat × List UInt8)} (r : List (Nat × List UInt8)), (∀ x ∈ l, ¬ p.1 < x.1) → insX p (l ++ r) = l ++ insX p r
  | [], _, _ => rfl
  | y :: l, r, h => by
    simp only [List.cons_append, insX]
    rw [if_neg (h y (by simp)), ins_none r fun x hx => h x (by simp [hx])]
/-- The place of a chunk; -1: none. -/
def findX (i : Nat) : List (Nat × List UInt8) → Option Nat
  | [] => none
  | p :: r => if p.1 = i then some 0 else (findX i r).map (· + 1)
theorem find_look (i : Nat) : ∀ l : List (Nat × List UInt8), lookX i l = (findX i l).bind fun k => (l[k]?).map (·.2)
  | [] => rfl
  | p :: l => by
    have ih := find_look i l
    by_cases h : p.1 = i
    · simp [lookX, findX, h]
    · have h2 : ¬ i = p.1 := fun e => h e.symm
      simp only [lookX, findX, if_neg h, if_neg h2, ih]
      cases findX i l with
      | none => rfl
      | some k => simp

end Go.Proofs.YtkplffkchanipaaGreatDoor
/- Plain: what the files of a store say. -/
namespace Go.Proofs.YtkplffkchanipaaGreatDoor
open Go.RowKit

/- A map's laws. -/
theorem lookC_put (s x : Int) (v : Pl) : ∀ L, lookC x (putC s v L) = if x = s then some v else lookC x L
  | [] => by simp [putC, lookC]
  | p :: L => by
    by_cases h : s = p.1
    · subst h
      by_cases hx : x = p.1
      · subst hx; simp [putC, lookC]
      · simp [putC, lookC, hx]
    · simp only [putC, h, if_false, lookC, lookC_put s x v L]
      by_cases hx : x = p.1
      · subst hx
        simp [Ne.symm h]
      · simp [hx]
theorem putC_keys (s : Int) (v : Pl) : ∀ L, (putC s v L).map (·.1) = if (lookC s L).isSome then L.map (·.1) else L.map (·.1) ++ [s]
  | [] => rfl
  | p :: L => by
    by_cases h : s = p.1
    · subst h; simp [putC, lookC]
    · simp only [putC, h, if_false, lookC, List.map_cons, putC_keys s v L]
      split <;> simp
theorem lookC_mem (s : Int) : ∀ L, (lookC s L).isSome = true ↔ s ∈ L.map (·.1)
  | [] => by simp [lookC]
  | p :: L => by
    by_cases h : s = p.1
    · simp [lookC, h]
    · simp [lookC, h, lookC_mem s L]
theorem delC_keys (s : Int) : ∀ L : List (Int × Pl), (delC s L).map (·.1) = (L.map (·.1)).erase s
  | [] => rfl
  | p :: L => by
    by_cases h : s = p.1
    · subst h; simp [delC]
    · have h2 : (p.1 == s) = false := by simpa using Ne.symm h
      simp [delC, h, h2, delC_keys s L]
theorem lookC_del (s x : Int) : ∀ L : List (Int × Pl), (L.map (·.1)).Nodup → lookC x (delC s L) = if x = s then none else lookC x L
  | [], _ => by simp [delC, lookC]
  | p :: L, hn => by
    simp only [List.map_cons, List.nodup_cons] at hn
    by_cases h : s = p.1
    · subst h
      by_cases hx : x = p.1
      · subst hx
        have : lookC p.1 L = none := by
          have h2 := lookC_mem p.1 L
          cases hl : lookC p.1 L with
          | none => rfl
          | some v => rw [hl] at h2; exact absurd (h2.1 rfl) hn.1
        simp [delC, this]
      · simp [delC, lookC, hx]
    · simp only [delC, h, if_false, lookC, lookC_del s x L hn.2]
      by_cases hx : x = p.1
      · subst hx
        simp [Ne.symm h]
      · simp [hx]
theorem mem_putC {s : Int} {v : Pl} {q : Int × Pl} : ∀ {L}, q ∈ putC s v L → q = (s, v) ∨ q ∈ L
  | [], h => by simpa [putC] using h
  | p :: L, h => by
    unfold putC at h
    split at h
    · rcases List.mem_cons.1 h with h | h
      · exact .inl h
      · exact .inr (by simp [h])
    · rcases List.mem_cons.1 h with h | h
      · exact .inr (by simp [h])
      · rcases mem_putC h with h | h
        · exact .inl h
        · exact .inr (by simp [h])
theorem mem_delC {s : Int} {q : Int × Pl} : ∀ {L}, q ∈ delC s L → q ∈ L
  | [], h => by simp [delC] at h
  | p :: L, h => by
    unfold delC at h
    split at h
    · simp [h]
    · rcases List.mem_cons.1 h with h | h
      · simp [h]
      · simp [mem_delC h]
theorem MapOk.nil : MapOk [] := ⟨by simp, by simp, by simp, by simp⟩
theorem MapOk.put {L : List (Int × Pl)} (h : MapOk L) {s : Nat} {v : Pl} (hs : s < 18446744073709551616) (h8 : v.head.length = 8) (hp : 1 ≤ v.seg ∧ v.seg < 100 ∧ v.at_ ≤ 1000000000000 ∧ v.size ≤ 1000000000000) : MapOk (putC (s : Int) v L) := by
  refine ⟨fun q hq => ?_, fun q hq => ?_, ?_, fun q hq => ?_⟩
  · rcases mem_putC hq with rfl | hq
    · exact h8
    · exact h.head q hq
  · rcases mem_putC hq with rfl | hq
    · simp only; omega
    · exact h.key q hq
  · rw [putC_keys]
    split
    · exact h.nodup
    · rename_i h2
      have h3 : (s : Int) ∉ L.map (·.1) := fun hm => h2 ((lookC_mem _ L).2 hm)
      rw [List.nodup_append]
      refine ⟨h.nodup, by simp, ?_⟩
      intro a ha b hb
      simp at hb
      subst hb
      rintro rfl
      exact h3 ha
  · rcases mem_putC hq with rfl | hq
    · exact hp
    · exact h.pl q hq
theorem MapOk.del {L : List (Int × Pl)} (h : MapOk L) (s : Int) : MapOk (delC s L) :=
  ⟨fun q hq => h.head q (mem_delC hq), fun q hq => h.key q (mem_delC hq), by rw [delC_keys]; exact h.nodup.erase s, fun q hq => h.pl q (mem_delC hq)⟩

/- Records. -/
theorem Ds.u_lt (d : Ds) : d.u.1 < 18446744073709551616 := by
  unfold Ds.u
  split
  · simp
  · exact (uF_le _ _ _).2
theorem parse_lt (c : List UInt8) : (parseF c).1 < 18446744073709551616 ∧ (parseF c).2.1 < 18446744073709551616 := ⟨Ds.u_lt _, Ds.u_lt _⟩
theorem Ds.u_enc {a r : List UInt8} {n : Nat} (hn : n < 18446744073709551616) : Ds.u ⟨a ++ (encU n ++ r), a.length, 0⟩ = (n, ⟨a ++ (encU n ++ r), (a ++ encU n).length, 0⟩) := by
  unfold Ds.u
  rw [if_neg (by simp)]
  simp only [List.drop_left, uF_encU n hn r, List.length_append]
theorem parse_enc {k n : Nat} {x : List UInt8} (hk : 1 ≤ k ∧ k ≤ 3) (hn : n < 18446744073709551616) (hx : x.length < 18446744073709551616) : parseF (encRec k n x) = (k, n, x, true) := by
  have h1 := Ds.u_enc (a := []) (r := encU n ++ encS x) (n := k) (by omega)
  have h2 := Ds.u_enc (a := encU k) (r := encS x) (n := n) hn
  have h3 := Ds.str_enc (a := encU k ++ encU n) (r := []) (s := x) (most := (encU k ++ (encU n ++ encS x)).length) hx (by simp only [encS, List.length_append]; omega)
  simp only [List.nil_append, List.length_nil, List.append_nil, List.append_assoc] at h1 h2 h3
  unfold parseF encRec
  simp only [h1, h2, h3, Ds.done_end]
  simp [hk.1, hk.2]

/- What frames say. -/
/-- One record's effect. -/
def absOne (c : List UInt8) (X : List (Nat × List UInt8)) : List (Nat × List UInt8) :=
  if (parseF c).1 = 1 then putX ((parseF c).2.1, (parseF c).2.2.1) X else if (parseF c).1 = 2 then dropX (parseF c).2.1 X else []
/-- Does a file end here? -/
def stopsF (c : List UInt8) (n : Nat) : Prop := (parseF c).2.2.2 = false ∨ ((parseF c).1 = 3 ∧ n < (parseF c).2.1)
instance (c : List UInt8) (n : Nat) : Decidable (stopsF c n) := by unfold stopsF; infer_instance
def absF : List (List UInt8) → List (Nat × List UInt8) → List (Nat × List UInt8)
  | [], X => X
  | c :: cs, X => if stopsF c cs.length then X else absF cs (absOne c X)
def mapOne (seg at_ : Nat) (text c : List UInt8) (L : List (Int × Pl)) : List (Int × Pl) :=
  if (parseF c).1 = 1 then putC ((parseF c).2.1 : Int) ⟨seg, at_, 8 + c.length, (text.drop at_).take 8⟩ L else if (parseF c).1 = 2 then delC ((parseF c).2.1 : Int) L else []
def applyF (seg : Nat) (text : List UInt8) : Nat → List (List UInt8) → List (Int × Pl) → List (Int × Pl)
  | _, [], L => L
  | a, c :: cs, L => if stopsF c cs.length then L else applyF seg text (a + (8 + c.length)) cs (mapOne seg a text c L)
theorem asc_one {X : List (Nat × List UInt8)} (h : Asc X) (c : List UInt8) : Asc (absOne c X) := by
  unfold absOne
  split
  · exact h.put _
  · split
    · exact h.drop _
    · simp [Asc]
theorem asc_abs : ∀ (cs : List (List UInt8)) {X : List (Nat × List UInt8)}, Asc X → Asc (absF cs X)
  | [], _, h => h
  | c :: cs, _, h => by
    unfold absF
    split
    · exact h
    · exact asc_abs cs (asc_one h c)

/-- File i's current state. -/
def Dk.now (D : Dk) (i : Nat) : St := (lookF (segName i) D.files).now
/-- A chunk's record lies where its place says. -/
structure Placed (D : Dk) (p : Pl) (i : Nat) (d : List UInt8) : Prop where
  there : (D.now p.seg).there = true
  le : p.at_ + p.size ≤ (D.now p.seg).text.length
  big : 8 ≤ p.size
  head : p.head = ((D.now p.seg).text.drop p.at_).take 8
  rec_ : ∃ c, OnlyF (((D.now p.seg).text.drop p.at_).take p.size) = (c, 0) ∧ parseF c = (1, i, d, true)
/-- A map and a disk say these chunks. -/
structure Says (D : Dk) (L : List (Int × Pl)) (X : List (Nat × List UInt8)) : Prop where
  one : ∀ (i : Nat) p, lookC (i : Int) L = some p → ∃ d, lookX i X = some d ∧ Placed D p i d
  none_ : ∀ i : Nat, lookC (i : Int) L = none → lookX i X = none
theorem Says.nil (D : Dk) : Says D [] [] := ⟨fun i p h => by simp [lookC] at h, fun _ _ => rfl⟩
theorem Says.put {D : Dk} {L : List (Int × Pl)} {X : List (Nat × List UInt8)} (h : Says D L X) {i : Nat} {p : Pl} {d : List UInt8} (hp : Placed D p i d) : Says D (putC (i : Int) p L) (putX (i, d) X) := by
  refine ⟨fun j q hq => ?_, fun j hj => ?_⟩
  · rw [lookC_put] at hq
    rw [look_putX]
    by_cases hji : j = i
    · subst hji
      simp only [if_true, Option.some.injEq] at hq ⊢
      subst hq
      exact ⟨d, rfl, hp⟩
    · rw [if_neg (by omega)] at hq
      simp only [hji, if_false]
      exact h.one j q hq
  · rw [lookC_put] at hj
    rw [look_putX]
    by_cases hji : j = i
    · subst hji; simp at hj
    · rw [if_neg (by omega)] at hj
      simp only [hji, if_false]
      exact h.none_ j hj
theorem Says.del {D : Dk} {L : List (Int × Pl)} {X : List (Nat × List UInt8)} (h : Says D L X) (hn : (L.map (·.1)).Nodup) (i : Nat) : Says D (delC (i : Int) L) (dropX i X) := by
  refine ⟨fun j q hq => ?_, fun j hj => ?_⟩
  · rw [lookC_del _ _ _ hn] at hq
    rw [look_dropX]
    by_cases hji : j = i
    · subst hji; simp at hq
    · rw [if_neg (by omega)] at hq
      simp only [hji, if_false]
      exact h.one j q hq
  · rw [lookC_del _ _ _ hn] at hj
    rw [look_dropX]
    by_cases hji : j = i
    · simp [hji]
    · rw [if_neg (by omega)] at hj
      simp only [hji, if_false]
      exact h.none_ j hj
theorem Says.mono {D D' : Dk} {L : List (Int × Pl)} {X : List (Nat × List UInt8)} (h : Says D L X) (hD : ∀ (i : Nat) p, lookC (i : Int) L = some p → (D.now p.seg).there = true → (D'.now p.seg).there = true ∧ ∃ t, (D'.now p.seg).text = (D.now p.seg).text ++ t) : Says D' L X := by
  refine ⟨fun i p hp => ?_, h.none_⟩
  obtain ⟨d, h1, h2⟩ := h.one i p hp
  obtain ⟨h3, t, h4⟩ := hD i p hp h2.there
  have hle := h2.le
  have hb := h2.big
  have e : ∀ k, k ≤ p.size → ((D'.now p.seg).text.drop p.at_).take k = ((D.now p.seg).text.drop p.at_).take k := fun k hk => by
    rw [h4, List.drop_append_of_le_length (by omega), List.take_append_of_le_length (by rw [List.length_drop]; omega)]
  exact ⟨d, h1, h3, by rw [h4, List.length_append]; omega, hb, by rw [e 8 hb]; exact h2.head, by rw [e _ (Nat.le_refl _)]; exact h2.rec_⟩

/-- Contents lie behind each other in a text. -/
def Laid (text : List UInt8) : Nat → List (List UInt8) → Prop
  | _, [] => True
  | a, c :: cs => a + (8 + c.length) ≤ text.length ∧ OnlyF ((text.drop a).take (8 + c.length)) = (c, 0) ∧ Laid text (a + (8 + c.length)) cs
theorem openF_eight (a b c d e f g h' : UInt8) (r : List UInt8) (n : Nat) (hn : val4 a b c d = (n : Int)) : openF (a :: b :: c :: d :: e :: f :: g :: h' :: r) =
    if 1048576 < n then ([], 0, 11) else if r.length < n then ([], 0, 2) else if crc ([a, b, c, d] ++ r.take n) = val4 e f g h' then (r.take n, 8 + (n : Int), 0) else ([], 0, 4) := by
  simp only [openF, hn, Int.toNat_natCast]
  by_cases h1 : 1048576 < n
  · rw [if_pos h1, if_pos (by omega)]
  · rw [if_neg h1, if_neg (by omega)]
    by_cases h2 : r.length < n
    · rw [if_pos h2, if_pos (by omega)]
    · rw [if_neg h2, if_neg (by omega)]
theorem take_eight (a b c d e f g h' : UInt8) (r : List UInt8) (n : Nat) : (a :: b :: c :: d :: e :: f :: g :: h' :: r).take (8 + n) = a :: b :: c :: d :: e :: f :: g :: h' :: r.take n := by
  rw [Nat.add_comm]
  simp only [List.take_succ_cons]
theorem openF_cut {s : List UInt8} (h : (openF s).2.2 = 0) : (openF s).2.1 = 8 + ((openF s).1.length : Int) ∧ 8 + (openF s).1.length ≤ s.length ∧ OnlyF (s.take (8 + (openF s).1.length)) = ((openF s).1, 0) := by
  by_cases h8 : s.length < 8
  · rw [openF_short h8] at h
    simp at h
  · obtain ⟨a, b, c, d, e, f, g, h', r, rfl⟩ := eight h8
    have hv := val4_bd a b c d
    obtain ⟨n, hn⟩ := Int.eq_ofNat_of_zero_le hv.1
    have ho := openF_eight a b c d e f g h' r n hn
    rw [ho] at h ⊢
    by_cases h1 : 1048576 < n
    · rw [if_pos h1] at h; simp at h
    rw [if_neg h1] at h ⊢
    by_cases h2 : r.length < n
    · rw [if_pos h2] at h; simp at h
    rw [if_neg h2] at h ⊢
    by_cases h3 : crc ([a, b, c, d] ++ r.take n) = val4 e f g h'
    rotate_left
    · rw [if_neg h3] at h; simp at h
    rw [if_pos h3]
    have hl : (r.take n).length = n := by rw [List.length_take]; omega
    simp only [hl]
    refine ⟨trivial, by simp only [List.length_cons]; omega, ?_⟩
    rw [take_eight]
    have ho2 := openF_eight a b c d e f g h' (r.take n) n hn
    rw [if_neg h1, if_neg (by rw [hl]; omega), List.take_take, Nat.min_self, if_pos h3] at ho2
    unfold OnlyF
    rw [ho2]
    simp only
    rw [if_neg (by simp), if_neg (by simp only [List.length_cons, hl]; omega)]
theorem scanF_laid (text : List UInt8) : ∀ (k a : Nat), a ≤ text.length → Laid text a (scanF k (text.drop a)).1
  | 0, _, _ => trivial
  | k + 1, a, ha => by
    unfold scanF
    split
    · trivial
    · rename_i h
      obtain ⟨h1, h2, h3⟩ := openF_cut (Decidable.not_not.1 h)
      rw [List.length_drop] at h2
      refine ⟨by omega, h3, ?_⟩
      have e : (openF (text.drop a)).2.1.toNat = 8 + (openF (text.drop a)).1.length := by omega
      rw [e, List.drop_drop]
      exact scanF_laid text k _ (by omega)
theorem scan_laid (text : List UInt8) : Laid text 0 (scan text).1 := scanF_laid text _ 0 (Nat.zero_le _)
theorem Laid.mapOne {D : Dk} {seg a : Nat} {text c : List UInt8} {L : List (Int × Pl)} {X : List (Nat × List UInt8)} (hT : D.now seg = ⟨true, text⟩) (hs : 1 ≤ seg ∧ seg < 100) (hl : text.length ≤ 1000000000000) (h : Says D L X) (hM : MapOk L)
    (h1 : a + (8 + c.length) ≤ text.length) (h2 : OnlyF ((text.drop a).take (8 + c.length)) = (c, 0)) (h3 : (parseF c).2.2.2 = true) : Says D (mapOne seg a text c L) (absOne c X) ∧ MapOk (mapOne seg a text c L) := by
  have hp := parse_lt c
  unfold YtkplffkchanipaaGreatDoor.mapOne absOne
  split
  · rename_i hk
    refine ⟨h.put ⟨by rw [hT], by rw [hT]; exact h1, by simp only; omega, by rw [hT], c, by rw [hT]; exact h2, by rw [← hk, ← h3]⟩, hM.put hp.2 (by simp only [List.length_take, List.length_drop]; omega) ⟨hs.1, hs.2, by simp only; omega, by simp only; omega⟩⟩
  · split
    · exact ⟨h.del hM.nodup _, hM.del _⟩
    · exact ⟨Says.nil D, MapOk.nil⟩
theorem Laid.apply {D : Dk} {seg : Nat} {text : List UInt8} (hT : D.now seg = ⟨true, text⟩) (hs : 1 ≤ seg ∧ seg < 100) (hl : text.length ≤ 1000000000000) : ∀ (cs : List (List UInt8)) (a : Nat) (L : List (Int × Pl)) (X : List (Nat × List UInt8)), Says D L X → MapOk L → Laid text a cs → Says D (applyF seg text a cs L) (absF cs X) ∧ MapOk (applyF seg text a cs L)
  | [], _, _, _, h, hM, _ => ⟨h, hM⟩
  | c :: cs, a, L, X, h, hM, ⟨h1, h2, h3⟩ => by
    unfold applyF absF
    split
    · exact ⟨h, hM⟩
    · rename_i hst
      have hp : (parseF c).2.2.2 = true := by
        cases hq : (parseF c).2.2.2
        · exact absurd (.inl hq) hst
        · rfl
      obtain ⟨g1, g2⟩ := Laid.mapOne hT hs hl h hM h1 h2 hp
      exact Laid.apply hT hs hl cs _ _ _ g1 g2 h3

/- What a disk says. -/
def Dk.replay (D : Dk) : Nat → List (Nat × List UInt8)
  | 0 => []
  | k + 1 => if (D.now k).there = true then absF (scan (D.now k).text).1 (D.replay k) else D.replay k
def Dk.places (D : Dk) : Nat → List (Int × Pl)
  | 0 => []
  | k + 1 => if (D.now k).there = true then applyF k (D.now k).text 0 (scan (D.now k).text).1 (D.places k) else D.places k
theorem Dk.replay_succ (D : Dk) (k : Nat) : D.replay (k + 1) = if (D.now k).there = true then absF (scan (D.now k).text).1 (D.replay k) else D.replay k := rfl
theorem Dk.places_succ (D : Dk) (k : Nat) : D.places (k + 1) = if (D.now k).there = true then applyF k (D.now k).text 0 (scan (D.now k).text).1 (D.places k) else D.places k := rfl
theorem Dk.replay_asc (D : Dk) : ∀ k, Asc (D.replay k)
  | 0 => by simp [Dk.replay, Asc]
  | k + 1 => by
    unfold Dk.replay
    split
    · exact asc_abs _ (D.replay_asc k)
    · exact D.replay_asc k
theorem Dk.places_says {D : Dk} (h0 : (D.now 0).there = false) (hl : ∀ i, (D.now i).text.length ≤ 1000000000000) : ∀ k, k ≤ 100 → Says D (D.places k) (D.replay k) ∧ MapOk (D.places k)
  | 0, _ => ⟨Says.nil D, MapOk.nil⟩
  | k + 1, hk => by
    obtain ⟨ih1, ih2⟩ := Dk.places_says h0 hl k (by omega)
    unfold Dk.places Dk.replay
    split
    · rename_i ht
      have hk0 : 1 ≤ k := by
        rcases Nat.eq_zero_or_pos k with rfl | h
        · rw [h0] at ht; cases ht
        · exact h
      exact Laid.apply (by rw [← ht]) ⟨hk0, by omega⟩ (hl k) _ _ _ _ ih1 ih2 (scan_laid _)
    · exact ⟨ih1, ih2⟩

end Go.Proofs.YtkplffkchanipaaGreatDoor
/- Plain: a disk's files, by number. -/
namespace Go.Proofs.YtkplffkchanipaaGreatDoor
open Go.RowKit

/-- The names that a store's files can have. -/
def segNames : List (List UInt8) := (List.range' 1 99).map segName
theorem segName_ord : ∀ i j : Fin 100, i ≤ j → segName i.val ≤ segName j.val := by decide +kernel
theorem segName_inj {i j : Nat} (hi : i < 100) (hj : j < 100) (h : segName i = segName j) : i = j := by
  have h1 := (numV_seg ⟨i, hi⟩).1
  have h2 := (numV_seg ⟨j, hj⟩).1
  simp only at h1 h2
  rw [← h1, ← h2, h]
theorem mem_segNames {n : List UInt8} : n ∈ segNames ↔ ∃ i, 1 ≤ i ∧ i < 100 ∧ n = segName i := by
  unfold segNames
  rw [List.mem_map]
  constructor
  · rintro ⟨i, hi, rfl⟩
    rw [List.mem_range'_1] at hi
    exact ⟨i, hi.1, by omega, rfl⟩
  · rintro ⟨i, h1, h2, rfl⟩
    exact ⟨i, by rw [List.mem_range'_1]; omega, rfl⟩
theorem segNames_len : segNames.length = 99 := by simp [segNames]
theorem segName_len (i : Nat) : (segName i).length = 11 := rfl
theorem look_none {n : List UInt8} : ∀ {l : List (List UInt8 × Fil)}, n ∉ l.map (·.1) → lookF n l = Fil.none_
  | [], _ => rfl
  | p :: l, h => by
    simp only [List.map_cons, List.mem_cons, not_or] at h
    simp only [lookF, if_neg h.1]
    exact look_none h.2
/-- The names of the files there are, in ascending order; their numbers. -/
def Dk.names (D : Dk) : List (List UInt8) := D.all.filter fun n => (lookF n D.files).now.there
def Dk.segs (D : Dk) : List Nat := (List.range 100).filter fun i => (D.now i).there
theorem Dk.now_out {D : Dk} (h : D.Names segNames) {i : Nat} (hi : i < 100) (h0 : i = 0) : (D.now i).there = false := by
  have hn : segName i ∉ D.files.map (·.1) := fun hm => by
    obtain ⟨j, h1, h2, h3⟩ := mem_segNames.1 (h.mem _ hm)
    have := segName_inj hi h2 h3
    omega
  unfold Dk.now
  rw [look_none hn]
  rfl
theorem Dk.mem_names {D : Dk} {n : List UInt8} : n ∈ D.names ↔ (lookF n D.files).now.there = true := by
  unfold Dk.names
  rw [List.mem_filter]
  constructor
  · exact fun h => h.2
  · refine fun h => ⟨(sorted_perm _).mem_iff.2 ?_, h⟩
    refine Decidable.byContradiction fun hn => ?_
    rw [look_none hn] at h
    cases h
theorem Dk.names_segs {D : Dk} (h : D.Names segNames) : D.names = D.segs.map segName := by
  have tr : ∀ a b c : List UInt8, leB a b = true → leB b c = true → leB a c = true := fun a b c h1 h2 => by simp only [leB, decide_eq_true_eq] at *; exact List.le_trans h1 h2
  have ttl : ∀ a b : List UInt8, (leB a b || leB b a) = true := fun a b => by simp only [leB, Bool.or_eq_true, decide_eq_true_eq]; exact List.le_total a b
  have hm : ∀ i ∈ D.segs, i < 100 := fun i hi => List.mem_range.1 (List.mem_filter.1 hi).1
  have hp : D.segs.Pairwise (· < ·) := List.pairwise_lt_range.sublist List.filter_sublist
  refine List.Perm.eq_of_pairwise (le := fun a b => leB a b = true) (fun a b _ _ h1 h2 => ?_) ((List.pairwise_mergeSort tr ttl _).sublist List.filter_sublist) (List.pairwise_map.2 (hp.imp_of_mem fun {i j} hi hj hlt => ?_)) ((List.perm_ext_iff_of_nodup (((sorted_perm _).nodup_iff.2 h.nodup).sublist List.filter_sublist) ?_).2 fun n => ?_)
  · simp only [leB, decide_eq_true_eq] at h1 h2
    exact List.le_antisymm h1 h2
  · simp only [leB, decide_eq_true_eq]
    exact segName_ord ⟨i, hm i hi⟩ ⟨j, hm j hj⟩ (Nat.le_of_lt hlt)
  · exact List.pairwise_map.2 (hp.imp_of_mem fun {i j} hi hj hlt e => by have := segName_inj (hm i hi) (hm j hj) e; omega)
  · show n ∈ D.names ↔ _
    rw [Dk.mem_names, List.mem_map]
    constructor
    · intro ht
      have hk : n ∈ D.files.map (·.1) := Decidable.byContradiction fun hn => by rw [look_none hn] at ht; cases ht
      obtain ⟨i, h1, h2, rfl⟩ := mem_segNames.1 (h.mem _ hk)
      exact ⟨i, List.mem_filter.2 ⟨List.mem_range.2 h2, ht⟩, rfl⟩
    · rintro ⟨i, hi, rfl⟩
      exact (List.mem_filter.1 hi).2
/-- One file read by Open. -/
def Dk.openOne (D : Dk) (L : List (Int × Pl)) (i : Nat) : List (Int × Pl) := applyF i (D.now i).text 0 (scan (D.now i).text).1 L
theorem Dk.places_fold (D : Dk) : ∀ k, D.places k = ((List.range k).filter fun i => (D.now i).there).foldl D.openOne []
  | 0 => rfl
  | k + 1 => by
    rw [List.range_succ, List.filter_append, List.foldl_append, ← D.places_fold k]
    rw [Dk.places_succ]
    by_cases h : (D.now k).there = true
    · simp [h, Dk.openOne]
    · simp [h]
theorem Dk.places_segs (D : Dk) : D.places 100 = D.segs.foldl D.openOne [] := D.places_fold 100
theorem Dk.replay_above {D : Dk} {k : Nat} (h : ∀ i, k ≤ i → i < 100 → (D.now i).there = false) : ∀ j, k + j ≤ 100 → D.replay (k + j) = D.replay k
  | 0, _ => rfl
  | j + 1, hj => by
    rw [← Nat.add_assoc, Dk.replay_succ, if_neg (by rw [h (k + j) (by omega) (by omega)]; simp)]
    exact Dk.replay_above h j (by omega)
theorem Dk.replay_congr {D D' : Dk} : ∀ k, (∀ i, i < k → D'.now i = D.now i) → D'.replay k = D.replay k
  | 0, _ => rfl
  | k + 1, h => by
    have ih := Dk.replay_congr k fun i hi => h i (by omega)
    rw [Dk.replay_succ, Dk.replay_succ, ih, h k (by omega)]

end Go.Proofs.YtkplffkchanipaaGreatDoor
/- Plain: a store over a disk that doesn't fail: what add makes of both. -/
namespace Go.Proofs.YtkplffkchanipaaGreatDoor
open Go.RowKit

/-- A disk in order that doesn't fail. -/
structure Dk.Still (D : Dk) : Prop where
  good : D.Good
  lost : D.lost = false
  armed : D.armed = 0
theorem Dk.Still.tries {D : Dk} (h : D.Still) : D.tries = (D, 0) := by
  unfold Dk.tries
  rw [h.lost, h.armed]
  simp
theorem Dk.Still.put {D : Dk} (h : D.Still) (name : List UInt8) {f : Fil} (hc : f.Clean) (hth : (f.now.there || f.sure.there) = true) :
    (D.room - D.used < f.weight - (lookF name D.files).weight ∧ D.put name f = (D, 7)) ∨
    ∃ D', D.put name f = (D', 0) ∧ D'.Still ∧ D'.room = D.room ∧ D'.used = D.used + (f.weight - (lookF name D.files).weight) ∧ lookF name D'.files = f ∧ ∀ n, n ≠ name → lookF n D'.files = lookF n D.files := by
  have hg := h.good.put name hc
  by_cases hp : D.room - D.used < f.weight - (lookF name D.files).weight
  · exact .inl ⟨hp, by unfold Dk.put; rw [if_pos hp]⟩
  · have h1 : D.put name f = (D.store name f, 0) := by unfold Dk.put; rw [if_neg hp]
    rw [h1] at hg
    refine .inr ⟨_, h1, ⟨hg, h.lost, h.armed⟩, rfl, rfl, ?_, fun n hn => ?_⟩
    · simp only [Dk.store, hth, if_true, look_put]
    · simp only [Dk.store, hth, if_true, look_put, if_neg hn]
theorem Dk.Still.append {D : Dk} (h : D.Still) (name : List UInt8) (hn : name ≠ []) (s : List UInt8) :
    (D.room < D.used + s.length ∧ D.append name s = (D, 7)) ∨
    ∃ D', D.append name s = (D', 0) ∧ D'.Still ∧ D'.room = D.room ∧ D'.used ≤ D.used + s.length ∧ lookF name D'.files = ⟨⟨true, (lookF name D.files).now.text ++ s⟩, (lookF name D.files).sure⟩ ∧ ∀ n, n ≠ name → lookF n D'.files = lookF n D.files := by
  have hc := h.good.clean.look name
  have hch : D.append name s = D.put name ⟨⟨true, (lookF name D.files).now.text ++ s⟩, (lookF name D.files).sure⟩ := by
    unfold Dk.append Dk.change
    rw [h.tries]
    simp [hn]
  have hw : (Fil.weight ⟨⟨true, (lookF name D.files).now.text ++ s⟩, (lookF name D.files).sure⟩) ≤ (lookF name D.files).weight + s.length := by
    have h1 := (lookF name D.files).weight_now
    have h2 := (lookF name D.files).weight_sure
    generalize (lookF name D.files).weight = W at *
    simp only [Fil.weight, List.length_append]
    split <;> omega
  rw [hch]
  rcases h.put name (f := ⟨⟨true, (lookF name D.files).now.text ++ s⟩, (lookF name D.files).sure⟩) ⟨fun e => by simp at e, hc.2⟩ (by simp) with ⟨h1, h2⟩ | ⟨D', h1, h2, h3, h4, h5, h6⟩
  · exact .inl ⟨by omega, h2⟩
  · exact .inr ⟨D', h1, h2, h3, by omega, h5, h6⟩
theorem Dk.Still.sync {D : Dk} (h : D.Still) (name : List UInt8) (hth : (lookF name D.files).now.there = true) :
    ∃ D', D.sync name = (D', 0) ∧ D'.Still ∧ D'.room = D.room ∧ D'.used ≤ D.used ∧ lookF name D'.files = ⟨(lookF name D.files).now, (lookF name D.files).now⟩ ∧ ∀ n, n ≠ name → lookF n D'.files = lookF n D.files := by
  have hc := h.good.clean.look name
  have hf := h.good.ok.fits
  have hw : (Fil.weight ⟨(lookF name D.files).now, (lookF name D.files).now⟩) ≤ (lookF name D.files).weight := by
    have h1 := (lookF name D.files).weight_now
    simp only [Fil.weight] at h1 ⊢
    split <;> omega
  have hs : D.sync name = ((D.put name ⟨(lookF name D.files).now, (lookF name D.files).now⟩).1, 0) := by
    unfold Dk.sync
    rw [h.tries]
    simp
  rw [hs]
  rcases h.put name (f := ⟨(lookF name D.files).now, (lookF name D.files).now⟩) ⟨hc.1, hc.1⟩ (by simp [hth]) with ⟨h1, h2⟩ | ⟨D', h1, h2, h3, h4, h5, h6⟩
  · omega
  · exact ⟨D', by rw [h1], h2, h3, by omega, h5, h6⟩
theorem Dk.now_len {D : Dk} (h : D.Good) (i : Nat) : ((D.now i).text.length : Int) ≤ D.used := by
  have h1 := h.ok.weight (segName i)
  have h2 := (lookF (segName i) D.files).weight_now
  unfold Dk.now
  omega
theorem Dk.now_len' {D : Dk} (h : D.Good) (i : Nat) : (D.now i).text.length ≤ 274877906944 := by
  have h1 := Dk.now_len h i
  have h2 := h.ok.fits
  have h3 := h.ok.room
  omega

/-- Contents of records that add or remove chunks. -/
def Recs (cs : List (List UInt8)) : Prop := ∀ c ∈ cs, c.length ≤ 1048576 ∧ (parseF c).2.2.2 = true ∧ (parseF c).1 ≠ 3
theorem abs_snoc {c : List UInt8} (hc : (parseF c).2.2.2 = true ∧ (parseF c).1 ≠ 3) : ∀ (cs : List (List UInt8)) (X : List (Nat × List UInt8)), Recs cs → absF (cs ++ [c]) X = absOne c (absF cs X)
  | [], X, _ => by
    simp only [List.nil_append, absF]
    rw [if_neg (by unfold stopsF; simp [hc.1, hc.2])]
  | d :: cs, X, h => by
    have hd := h d (by simp)
    simp only [List.cons_append, absF]
    have n1 : ∀ n, ¬ stopsF d n := fun n => by unfold stopsF; simp [hd.2.1, hd.2.2]
    rw [if_neg (n1 _), if_neg (n1 _)]
    exact abs_snoc hc cs _ fun x hx => h x (by simp [hx])
theorem frames_snoc (cs : List (List UInt8)) (c : List UInt8) : frames cs ++ frame c = frames (cs ++ [c]) := by simp [frames]
theorem scan_recs {cs : List (List UInt8)} (h : ∀ c ∈ cs, c.length ≤ 1048576) : (scan (frames cs)).1 = cs := by
  have := scan_frames cs [] openF_nil h
  rw [List.append_nil] at this
  rw [this]

/-- A store and its disk, whatever the chunks are. -/
structure Disky (C : Ck) (D : Dk) : Prop where
  still : D.Still
  names : D.Names segNames
  ok : C.Ok
  seg : 1 ≤ C.seg
  above : ∀ i, C.seg < i → i < 100 → (D.now i).there = false
  cur : ((D.now C.seg).there = false ∧ C.size = 0) ∨ ((D.now C.seg).there = true ∧ ∃ cs, Recs cs ∧ (D.now C.seg).text = frames cs ∧ C.size = (frames cs).length)
  safe : ∀ n, n ≠ segName C.seg → (lookF n D.files).now = (lookF n D.files).sure
  clean : C.dirty = false → D.Safe
  dirt : C.dirty = true → (D.now C.seg).there = true
theorem Disky.text0 {C : Ck} {D : Dk} (h : Disky C D) (h0 : (D.now C.seg).there = false) : (D.now C.seg).text = [] := (h.still.good.clean.look _).1 h0
theorem Disky.size_ {C : Ck} {D : Dk} (h : Disky C D) : C.size = (D.now C.seg).text.length := by
  rcases h.cur with ⟨h1, h2⟩ | ⟨h1, cs, h2, h3, h4⟩
  · rw [h.text0 h1, h2]; rfl
  · rw [h3, h4]
theorem Disky.size_le {C : Ck} {D : Dk} (h : Disky C D) : C.size ≤ 274877906944 := by rw [h.size_]; exact Dk.now_len' h.still.good _
theorem Disky.sync {C : Ck} {D : Dk} (h : Disky C D) : ∃ D', C.sync D = ({ C with dirty := false }, D', 0) ∧ Disky { C with dirty := false } D' ∧ D'.room = D.room ∧ D'.used ≤ D.used ∧ ∀ n, (lookF n D'.files).now = (lookF n D.files).now := by
  unfold Ck.sync
  cases hd : C.dirty with
  | false =>
    simp only [Bool.false_eq_true, if_false]
    have hC : ({ C with dirty := false } : Ck) = C := by cases C; simp only at hd; subst hd; rfl
    exact ⟨D, by rw [hC], by rw [hC]; exact h, rfl, Int.le_refl _, fun _ => rfl⟩
  | true =>
    simp only [if_true]
    obtain ⟨D', h1, h2, h3, h4, h5, h6⟩ := h.still.sync (segName C.seg) (h.dirt hd)
    have hn : ∀ n, (lookF n D'.files).now = (lookF n D.files).now := fun n => by
      by_cases e : n = segName C.seg
      · subst e; rw [h5]
      · rw [h6 n e]
    have hs : D'.Safe := fun n => by
      by_cases e : n = segName C.seg
      · subst e; rw [h5]
      · rw [h6 n e]; exact h.safe n e
    have hN : ∀ i, D'.now i = D.now i := fun i => hn _
    have h7 := h.names.sync (name := segName C.seg) ?_
    · rw [h1] at h7 ⊢
      refine ⟨D', rfl, ⟨h2, h7, ⟨h.ok.map, h.ok.lim⟩, h.seg, fun i a b => by rw [hN]; exact h.above i a b, by simp only [hN]; exact h.cur, fun n _ => hs n, fun _ => hs, fun e => by simp at e⟩, h3, h4, hn⟩
    · have h8 : segName C.seg ∈ D.files.map (·.1) := Decidable.byContradiction fun hx => by
        have h9 := h.dirt hd
        unfold Dk.now at h9
        rw [look_none hx] at h9
        cases h9
      exact h.names.mem _ h8
/-- The next file is begun. -/
theorem Disky.next {C : Ck} {D : Dk} (h : Disky C D) (hd : C.dirty = false) (hs : C.seg + 1 < 100) : Disky C.next D := by
  have hsafe := h.clean hd
  exact ⟨h.still, h.names, ⟨h.ok.map, h.ok.lim⟩, by simp only [Ck.next]; omega, fun i a b => h.above i (by simp only [Ck.next] at a; omega) b, .inl ⟨h.above _ (by simp only [Ck.next]; omega) hs, rfl⟩, fun n _ => hsafe n, fun _ => hsafe, fun e => by simp only [Ck.next] at e; rw [hd] at e; cases e⟩
/-- A record is appended: there is no room, or it is there. -/
theorem Disky.put {C : Ck} {D : Dk} (h : Disky C D) (hs : C.seg < 100) {c : List UInt8} (hc : Recs [c]) (X : List (Nat × List UInt8)) (hX : D.replay (C.seg + 1) = X) :
    (D.room < D.used + (frame c).length ∧ C.put D (frame c) = (C, D, zeroPl, 7)) ∨
    ∃ D', C.put D (frame c) = ({ C with dirty := true, size := C.size + (frame c).length }, D', ⟨C.seg, C.size, (frame c).length, (frame c).take 8⟩, 0) ∧ Disky { C with dirty := true, size := C.size + (frame c).length } D' ∧ D'.room = D.room ∧ D'.used ≤ D.used + (frame c).length ∧
      D'.replay (C.seg + 1) = absOne c X ∧ (D'.now C.seg).there = true ∧ (D'.now C.seg).text = (D.now C.seg).text ++ frame c ∧ ∀ n, n ≠ segName C.seg → lookF n D'.files = lookF n D.files := by
  have hc1 := hc c (by simp)
  unfold Ck.put
  rcases h.still.append (segName C.seg) (segName_ne _) (frame c) with ⟨h1, h2⟩ | ⟨D', h1, h2, h3, h4, h5, h6⟩
  · rw [h2]
    exact .inl ⟨h1, by simp⟩
  · have hnm := h.names.change (name := segName C.seg) (mem_segNames.2 ⟨C.seg, h.seg, hs, rfl⟩) (fun x => x ++ frame c)
    have h1' : D.change (segName C.seg) (fun x => x ++ frame c) = (D', 0) := h1
    rw [h1'] at hnm
    rw [h1]
    have e1 : (D'.now C.seg) = ⟨true, (D.now C.seg).text ++ frame c⟩ := by unfold Dk.now; rw [h5]
    have hlow : ∀ i, i < 100 → i ≠ C.seg → D'.now i = D.now i := fun i hi hne => by
      unfold Dk.now
      rw [h6 _ fun e => hne (segName_inj hi hs e)]
    obtain ⟨cs, g1, g2, g3, g4⟩ : ∃ cs, Recs cs ∧ (D.now C.seg).text = frames cs ∧ C.size = (frames cs).length ∧ D.replay (C.seg + 1) = absF cs (D.replay C.seg) := by
      rcases h.cur with ⟨a1, a2⟩ | ⟨a1, cs, a2, a3, a4⟩
      · refine ⟨[], by simp [Recs], by rw [h.text0 a1]; rfl, by rw [a2]; rfl, ?_⟩
        rw [Dk.replay_succ]
        rw [if_neg (by rw [a1]; simp)]
        rfl
      · refine ⟨cs, a2, a3, a4, ?_⟩
        rw [Dk.replay_succ]
        rw [if_pos a1, a3, scan_recs fun x hx => (a2 x hx).1]
    have g5 : Recs (cs ++ [c]) := fun x hx => by
      rcases List.mem_append.1 hx with hx | hx
      · exact g1 x hx
      · exact hc x hx
    have g6 : (D'.now C.seg).text = frames (cs ++ [c]) := by rw [e1, g2, ← frames_snoc]
    refine .inr ⟨D', by simp, ⟨h2, hnm, ⟨h.ok.map, h.ok.lim⟩, h.seg, fun i a b => by simp only at a; rw [hlow i b (by omega)]; exact h.above i a b, .inr ⟨by rw [e1], cs ++ [c], g5, g6, by rw [← frames_snoc, List.length_append, g3]⟩, fun n hn => by rw [h6 n hn]; exact h.safe n hn, fun e => by simp at e, fun _ => by rw [e1]⟩, h3, h4, ?_, by rw [e1], by rw [e1], h6⟩
    rw [Dk.replay_succ]
    rw [if_pos (by rw [e1]), g6, scan_recs fun x hx => (g5 x hx).1, abs_snoc hc1.2 cs _ g1, Dk.replay_congr _ fun i hi => hlow i (by omega) (by omega), ← g4, hX]
/-- add: there is no room, or the record is there. -/
theorem Disky.add {C : Ck} {D : Dk} (h : Disky C D) (hs : C.seg + 1 < 100) {c : List UInt8} (hc : Recs [c]) (X : List (Nat × List UInt8)) (hX : D.replay (C.seg + 1) = X) :
    ∃ C' D' p e, C.add D (frame c) = (C', D', p, e) ∧ Disky C' D' ∧ C'.map = C.map ∧ C'.limit = C.limit ∧ C.seg ≤ C'.seg ∧ C'.seg ≤ C.seg + 1 ∧ D'.room = D.room ∧ (∀ i, (D.now i).there = true → i < 100 → (D'.now i).there = true ∧ ∃ t, (D'.now i).text = (D.now i).text ++ t) ∧
      ((e = 7 ∧ D.room < D.used + (frame c).length ∧ D'.used ≤ D.used ∧ D'.replay (C'.seg + 1) = X) ∨
       (e = 0 ∧ D'.used ≤ D.used + (frame c).length ∧ D'.replay (C'.seg + 1) = absOne c X ∧ p.seg = C'.seg ∧ p.at_ + p.size = (D'.now C'.seg).text.length ∧ p.size = (frame c).length ∧ p.head = (frame c).take 8 ∧ (D'.now C'.seg).there = true ∧ (D'.now C'.seg).text.drop p.at_ = frame c)) := by
  have key : ∀ (C1 : Ck) (D1 : Dk), Disky C1 D1 → C1.seg < 100 → D1.replay (C1.seg + 1) = X → C1.map = C.map → C1.limit = C.limit → C.seg ≤ C1.seg → C1.seg ≤ C.seg + 1 → D1.room = D.room → D1.used ≤ D.used → (∀ i, D1.now i = D.now i) →
      ∃ C' D' p e, C1.put D1 (frame c) = (C', D', p, e) ∧ Disky C' D' ∧ C'.map = C.map ∧ C'.limit = C.limit ∧ C.seg ≤ C'.seg ∧ C'.seg ≤ C.seg + 1 ∧ D'.room = D.room ∧ (∀ i, (D.now i).there = true → i < 100 → (D'.now i).there = true ∧ ∃ t, (D'.now i).text = (D.now i).text ++ t) ∧
      ((e = 7 ∧ D.room < D.used + (frame c).length ∧ D'.used ≤ D.used ∧ D'.replay (C'.seg + 1) = X) ∨
       (e = 0 ∧ D'.used ≤ D.used + (frame c).length ∧ D'.replay (C'.seg + 1) = absOne c X ∧ p.seg = C'.seg ∧ p.at_ + p.size = (D'.now C'.seg).text.length ∧ p.size = (frame c).length ∧ p.head = (frame c).take 8 ∧ (D'.now C'.seg).there = true ∧ (D'.now C'.seg).text.drop p.at_ = frame c)) := by
    intro C1 D1 k1 k2 k3 k4 k5 k6 k7 k8 k9 k10
    rcases k1.put k2 hc X k3 with ⟨a1, a2⟩ | ⟨D', a1, a2, a3, a4, a5, a6, a7, a8⟩
    · exact ⟨_, _, _, _, a2, k1, k4, k5, k6, k7, k8, fun i hi _ => ⟨by rw [k10]; exact hi, [], by rw [k10]; simp⟩, .inl ⟨rfl, by omega, k9, k3⟩⟩
    · refine ⟨_, _, _, _, a1, a2, k4, k5, k6, k7, by omega, fun i hi hi1 => ?_, .inr ⟨rfl, by omega, a5, rfl, ?_, rfl, rfl, a6, ?_⟩⟩
      · by_cases e : i = C1.seg
        · subst e
          exact ⟨a6, _, by rw [a7, k10]⟩
        · have : D'.now i = D1.now i := by
            unfold Dk.now
            rw [a8 _ fun e2 => e (segName_inj hi1 k2 e2)]
          exact ⟨by rw [this, k10]; exact hi, [], by rw [this, k10]; simp⟩
      · simp only [a7, List.length_append, k1.size_]
      · simp only [a7, k1.size_, List.drop_left]
  obtain ⟨D1, s1, s2, s3, s4, s5⟩ := h.sync
  have hnow : ∀ i, D1.now i = D.now i := fun i => s5 _
  unfold Ck.add
  split
  · rw [s1]
    simp only [if_true]
    have hn := s2.next rfl hs
    have e1 : D1.replay (C.seg + 1) = X := by rw [Dk.replay_congr _ fun i _ => hnow i, hX]
    refine key _ _ hn hs ?_ rfl rfl (by simp only [Ck.next]; omega) (by simp only [Ck.next]; omega) s3 s4 hnow
    rw [Dk.replay_succ]
    rw [if_neg (by have := s2.above (C.seg + 1) (Nat.lt_succ_self _) hs; simp only [Ck.next]; rw [this]; simp)]
    exact e1
  · exact key C D h (by omega) hX rfl rfl (Nat.le_refl _) (by omega) rfl (Int.le_refl _) (fun _ => rfl)

end Go.Proofs.YtkplffkchanipaaGreatDoor
/- Plain: Put, Drop, Get of a store. -/
namespace Go.Proofs.YtkplffkchanipaaGreatDoor
open Go.RowKit

/-- Put. -/
def Ck.putK (C : Ck) (D : Dk) (i : Nat) (d : List UInt8) : Ck × Dk × Int :=
  if 4000 < d.length then (C, D, 11) else if (lookC (i : Int) C.map).isSome = true then (C, D, 6) else
    if (C.add D (frame (encRec 1 i d))).2.2.2 = 0 then ({ (C.add D (frame (encRec 1 i d))).1 with map := putC (i : Int) (C.add D (frame (encRec 1 i d))).2.2.1 (C.add D (frame (encRec 1 i d))).1.map }, (C.add D (frame (encRec 1 i d))).2.1, 0)
    else ((C.add D (frame (encRec 1 i d))).1, (C.add D (frame (encRec 1 i d))).2.1, (C.add D (frame (encRec 1 i d))).2.2.2)
/-- Drop. -/
def Ck.dropK (C : Ck) (D : Dk) (i : Nat) : Ck × Dk × Int :=
  if (lookC (i : Int) C.map).isSome = false then (C, D, 5) else
    if (C.add D (frame (encRec 2 i []))).2.2.2 = 0 then ({ (C.add D (frame (encRec 2 i []))).1 with map := delC (i : Int) (C.add D (frame (encRec 2 i []))).1.map }, (C.add D (frame (encRec 2 i []))).2.1, 0)
    else ((C.add D (frame (encRec 2 i []))).1, (C.add D (frame (encRec 2 i []))).2.1, (C.add D (frame (encRec 2 i []))).2.2.2)
/-- What a place's bytes say of a chunk. -/
def atF (p : Pl) (i : Nat) (text : List UInt8) : List UInt8 × Int :=
  if text.length < p.at_ + p.size then ([], 4)
  else if (OnlyF ((text.drop p.at_).take p.size)).2 ≠ 0 ∨ ((text.drop p.at_).take p.size).take 8 ≠ p.head then ([], 4)
  else if (parseF (OnlyF ((text.drop p.at_).take p.size)).1).2.2.2 = false ∨ (parseF (OnlyF ((text.drop p.at_).take p.size)).1).1 ≠ 1 ∨ (parseF (OnlyF ((text.drop p.at_).take p.size)).1).2.1 ≠ i then ([], 4)
  else ((parseF (OnlyF ((text.drop p.at_).take p.size)).1).2.2.1, 0)
/-- Get: the bytes, the error. -/
def Ck.get (C : Ck) (D : Dk) (i : Nat) : List UInt8 × Int :=
  match lookC (i : Int) C.map with
  | none => ([], 5)
  | some p => if (D.read (segName p.seg)).2 ≠ 0 then ([], (D.read (segName p.seg)).2) else atF p i (D.read (segName p.seg)).1
/-- The disk behind it. -/
def Ck.got (C : Ck) (D : Dk) (i : Nat) : Dk := if (lookC (i : Int) C.map).isSome = true then D.tries.1 else D

/-- A store, its disk and the chunks. -/
structure Inv (C : Ck) (D : Dk) (X : List (Nat × List UInt8)) : Prop where
  dk : Disky C D
  says : Says D C.map X
  rep : D.replay (C.seg + 1) = X
theorem Inv.asc {C : Ck} {D : Dk} {X : List (Nat × List UInt8)} (h : Inv C D X) : Asc X := by rw [← h.rep]; exact D.replay_asc _
theorem Inv.has {C : Ck} {D : Dk} {X : List (Nat × List UInt8)} (h : Inv C D X) (i : Nat) : (lookC (i : Int) C.map).isSome = (lookX i X).isSome := by
  cases hl : lookC (i : Int) C.map with
  | none => rw [h.says.none_ i hl]; rfl
  | some p => obtain ⟨d, h1, _⟩ := h.says.one i p hl; rw [h1]; rfl
theorem atF_placed {D : Dk} {p : Pl} {i : Nat} {d : List UInt8} (h : Placed D p i d) : atF p i (D.now p.seg).text = (d, 0) := by
  obtain ⟨c, h1, h2⟩ := h.rec_
  have hle := h.le
  have hb := h.big
  unfold atF
  rw [if_neg (by omega), h1, if_neg, h2, if_neg]
  · simp
  · simp only [List.take_take, Nat.min_eq_left hb, h.head]
    simp
theorem Says.get {C : Ck} {D : Dk} {X : List (Nat × List UInt8)} (h : Says D C.map X) (hD : D.Still) {i : Nat} {d : List UInt8} (hi : lookX i X = some d) : C.get D i = (d, 0) := by
  unfold Ck.get
  cases hl : lookC (i : Int) C.map with
  | none => rw [h.none_ i hl] at hi; cases hi
  | some p =>
    obtain ⟨d', h1, h2⟩ := h.one i p hl
    rw [h1] at hi
    injection hi with hi
    subst hi
    have hr : D.read (segName p.seg) = ((D.now p.seg).text, 0) := by
      have := h2.there
      unfold Dk.now at this ⊢
      unfold Dk.read
      rw [hD.tries]
      simp [this]
    simp only [hr]
    rw [if_neg (by simp), atF_placed h2]
theorem Ck.get_none {C : Ck} {D : Dk} {i : Nat} (h : (lookC (i : Int) C.map).isSome = false) : C.get D i = ([], 5) := by
  unfold Ck.get
  cases hl : lookC (i : Int) C.map with
  | none => rfl
  | some p => rw [hl] at h; cases h
theorem Ck.got_still {C : Ck} {D : Dk} (h : D.Still) (i : Nat) : C.got D i = D := by
  unfold Ck.got
  rw [h.tries]
  split <;> rfl
theorem Dk.ext_says {C : Ck} {D D' : Dk} {X : List (Nat × List UInt8)} (h : Says D C.map X) (hM : MapOk C.map) (hD : ∀ i, (D.now i).there = true → i < 100 → (D'.now i).there = true ∧ ∃ t, (D'.now i).text = (D.now i).text ++ t) : Says D' C.map X :=
  h.mono fun i p hp ht => hD _ ht (by have := hM.pl _ (look_mem _ _ _ hp); exact this.2.1)
theorem recs_enc {k i : Nat} {d : List UInt8} (hk : k = 1 ∨ k = 2) (hi : i < 18446744073709551616) (hd : d.length ≤ 4000) : Recs [encRec k i d] ∧ (frame (encRec k i d)).length ≤ d.length + 50 := by
  have h1 := encU_len k (by omega)
  have h2 := encU_len i hi
  have h3 := encU_len d.length (by omega)
  have hp := parse_enc (k := k) (n := i) (x := d) (by omega) hi (by omega)
  refine ⟨fun c hc => ?_, ?_⟩
  · simp only [List.mem_singleton] at hc
    subst hc
    refine ⟨?_, by rw [hp], by rw [hp]; simp only; omega⟩
    simp only [encRec, encS, List.length_append]
    omega
  · rw [frame_len]
    simp only [encRec, encS, List.length_append]
    omega
theorem Inv.putK {C : Ck} {D : Dk} {X : List (Nat × List UInt8)} (h : Inv C D X) (hs : C.seg + 1 < 100) {i : Nat} (hi : i < 18446744073709551616) {d : List UInt8} (hd : d.length ≤ 4000) :
    ∃ C' D' e, C.putK D i d = (C', D', e) ∧ C.seg ≤ C'.seg ∧ C'.seg ≤ C.seg + 1 ∧ C'.limit = C.limit ∧ D'.room = D.room ∧
      ((e = 6 ∧ (lookX i X).isSome = true ∧ C' = C ∧ D' = D) ∨ (e = 7 ∧ lookX i X = none ∧ Inv C' D' X ∧ D.room < D.used + (d.length + 50) ∧ D'.used ≤ D.used) ∨
        (e = 0 ∧ lookX i X = none ∧ Inv C' D' (putX (i, d) X) ∧ D'.used ≤ D.used + (d.length + 50))) := by
  have hh := h.has i
  unfold Ck.putK
  rw [if_neg (by omega)]
  cases hx : (lookC (i : Int) C.map).isSome with
  | true =>
    rw [hx] at hh
    exact ⟨C, D, 6, rfl, Nat.le_refl _, by omega, rfl, rfl, .inl ⟨rfl, hh.symm, rfl, rfl⟩⟩
  | false =>
    rw [hx] at hh
    have hn : lookX i X = none := by cases hl : lookX i X with
      | none => rfl
      | some _ => rw [hl] at hh; cases hh
    obtain ⟨r1, r2⟩ := recs_enc (k := 1) (.inl rfl) hi hd
    have hpe := parse_enc (k := 1) (n := i) (x := d) (by omega) hi (by omega)
    obtain ⟨C', D', p, e, a1, a2, a3, a4, a5, a6, a7, a8, a9⟩ := h.dk.add hs r1 X h.rep
    rw [a1]
    have hsay : Says D' C'.map X := by rw [a3]; exact Dk.ext_says h.says h.dk.ok.map a8
    rcases a9 with ⟨rfl, b1, b2, b3⟩ | ⟨rfl, b1, b2, b3, b4, b5, b6, b7, b8⟩
    · exact ⟨C', D', 7, by simp, a5, a6, a4, a7, .inr (.inl ⟨rfl, hn, ⟨a2, hsay, b3⟩, by omega, b2⟩)⟩
    · have h8 : 8 ≤ (frame (encRec 1 i d)).length := by rw [frame_len]; omega
      have hpl : Placed D' p i d := ⟨by rw [b3]; exact b7, by rw [b3, b4]; exact Nat.le_refl _, by rw [b5]; exact h8, by rw [b3, b8, b6], encRec 1 i d, by rw [b3, b8, b5, List.take_of_length_le (Nat.le_refl _), OnlyF_frame _ (r1 _ (by simp)).1], hpe⟩
      have ho : absOne (encRec 1 i d) X = putX (i, d) X := by unfold absOne; rw [hpe]; simp
      have hlen := Dk.now_len' a2.still.good C'.seg
      have hok : MapOk (putC (i : Int) p C'.map) := a2.ok.map.put hi (by rw [b6, List.length_take]; omega) ⟨by rw [b3]; exact a2.seg, by rw [b3]; omega, by omega, by omega⟩
      refine ⟨{ C' with map := putC (i : Int) p C'.map }, D', 0, by simp, a5, a6, a4, a7, .inr (.inr ⟨rfl, hn, ⟨⟨a2.still, a2.names, ⟨hok, a2.ok.lim⟩, a2.seg, a2.above, a2.cur, a2.safe, a2.clean, a2.dirt⟩, hsay.put hpl, by rw [← ho]; exact b2⟩, by omega⟩)⟩
theorem Inv.dropK {C : Ck} {D : Dk} {X : List (Nat × List UInt8)} (h : Inv C D X) (hs : C.seg + 1 < 100) {i : Nat} (hi : i < 18446744073709551616) :
    ∃ C' D' e, C.dropK D i = (C', D', e) ∧ C.seg ≤ C'.seg ∧ C'.seg ≤ C.seg + 1 ∧ C'.limit = C.limit ∧ D'.room = D.room ∧
      ((e = 5 ∧ lookX i X = none ∧ C' = C ∧ D' = D) ∨ (e = 7 ∧ (lookX i X).isSome = true ∧ Inv C' D' X ∧ D.room < D.used + 50 ∧ D'.used ≤ D.used) ∨
        (e = 0 ∧ (lookX i X).isSome = true ∧ Inv C' D' (dropX i X) ∧ D'.used ≤ D.used + 50)) := by
  have hh := h.has i
  unfold Ck.dropK
  cases hx : (lookC (i : Int) C.map).isSome with
  | false =>
    rw [hx] at hh
    have hn : lookX i X = none := by cases hl : lookX i X with
      | none => rfl
      | some _ => rw [hl] at hh; cases hh
    exact ⟨C, D, 5, rfl, Nat.le_refl _, by omega, rfl, rfl, .inl ⟨rfl, hn, rfl, rfl⟩⟩
  | true =>
    rw [hx] at hh
    obtain ⟨r1, r2⟩ := recs_enc (k := 2) (d := []) (.inr rfl) hi (by simp)
    simp only [List.length_nil] at r2
    have hpe := parse_enc (k := 2) (n := i) (x := []) (by omega) hi (by simp)
    obtain ⟨C', D', p, e, a1, a2, a3, a4, a5, a6, a7, a8, a9⟩ := h.dk.add hs r1 X h.rep
    rw [a1]
    have hsay : Says D' C'.map X := by rw [a3]; exact Dk.ext_says h.says h.dk.ok.map a8
    rcases a9 with ⟨rfl, b1, b2, b3⟩ | ⟨rfl, b1, b2, b3, b4, b5, b6, b7, b8⟩
    · exact ⟨C', D', 7, by simp, a5, a6, a4, a7, .inr (.inl ⟨rfl, hh.symm, ⟨a2, hsay, b3⟩, by omega, b2⟩)⟩
    · have ho : absOne (encRec 2 i []) X = dropX i X := by unfold absOne; rw [hpe]; simp
      refine ⟨{ C' with map := delC (i : Int) C'.map }, D', 0, by simp, a5, a6, a4, a7, .inr (.inr ⟨rfl, hh.symm, ⟨⟨a2.still, a2.names, ⟨a2.ok.map.del _, a2.ok.lim⟩, a2.seg, a2.above, a2.cur, a2.safe, a2.clean, a2.dirt⟩, hsay.del a2.ok.map.nodup i, by rw [← ho]; exact b2⟩, by omega⟩)⟩
theorem Inv.sync {C : Ck} {D : Dk} {X : List (Nat × List UInt8)} (h : Inv C D X) : ∃ D', C.sync D = ({ C with dirty := false }, D', 0) ∧ Inv { C with dirty := false } D' X ∧ D'.room = D.room ∧ D'.used ≤ D.used ∧ D'.Safe := by
  obtain ⟨D', h1, h2, h3, h4, h5⟩ := h.dk.sync
  refine ⟨D', h1, ⟨h2, h.says.mono fun i p _ ht => ?_, ?_⟩, h3, h4, h2.clean rfl⟩
  · have : D'.now p.seg = D.now p.seg := h5 _
    exact ⟨by rw [this]; exact ht, [], by rw [this]; simp⟩
  · simp only
    rw [Dk.replay_congr _ fun i _ => h5 _, h.rep]

end Go.Proofs.YtkplffkchanipaaGreatDoor
