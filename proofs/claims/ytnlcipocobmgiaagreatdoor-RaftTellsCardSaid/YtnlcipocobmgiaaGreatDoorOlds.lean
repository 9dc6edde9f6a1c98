/- Entries that a law makes of commands. -/
import Derived.Test.YtnlcipocobmgiaaGreatDoorLast
namespace Go.Proofs.YtnlcipocobmgiaaGreatDoor
open Go.RowKit

/-- append of one entry to a row of the call's own. -/
theorem list_append_own_ent {ops : Array Oper} {rest : List Oper} {o : Oper} {a : Act} {Q : Exit → Act → World → Prop} {w0 wr : World} {v : Value} {acc : List En} {ix it : Int} (e : En)
    (hgd : o.guard = none) (s x : Operand) (ho : o.op = .call { callee := .builtin .append, args := #[s, x], argTypes := #[40, 40] })
    (hs : a.eval s = v) (hx : a.eval x = .slice (some ⟨wr.heap.size, 0, none⟩) 1 1) (hE : wr.ownsRow w0.heap.size 62 3 v acc.length (entsV acc)) (hk : Keep [] w0 wr) (hn : acc.length ≤ 1099511627776) (hix : ix = (e.index : Int)) (hit : it = (e.term : Int))
    (h : ∀ A cap w', w'.ownsRow w0.heap.size 62 3 (.slice A (acc ++ [e]).length cap) (acc ++ [e]).length (entsV (acc ++ [e])) → Keep [] w0 w' → wpList Tryz.prog ops Q rest (a.put o.dst (.slice A (acc ++ [e]).length cap)) w') :
    wpList Tryz.prog ops Q (o :: rest) a (wr.alloc (.cells #[.int .i64 ix, .int .i64 it, .string (bs e.cmd)] 62)) := by
  subst hix hit
  obtain ⟨i0, hi, hz0, hz1, hz2⟩ := info_parts Tryz.info62
  have hsz := hk.size
  refine wpList_append_own _ hgd s x 40 ho w0.heap.size 62 i0 _ 3 32 Tryz.underlying40 hi hz0 hz1 hz2 rfl (by omega) v _ _ hs (hE.alloc (.cells #[.int .i64 (e.index : Int), .int .i64 (e.term : Int), .string (bs e.cmd)] 62)) ⟨wr.heap.size, 0, none⟩ 1 1 e.cells hx (by simp [En.cells]) (World.news_of_block (cs := #[.int .i64 (e.index : Int), .int .i64 (e.term : Int), .string (bs e.cmd)]) (t := 62) (fr := (0, 0)) (heap_alloc_new wr _)) (by simp [En.cells, Value.oneCell']) (by unfold maxLen; omega) (by omega) (by simp; omega) ?_
  intro v' w1 hown1 hgrow _
  have e1 : entsV (acc ++ [e]) = entsV acc ++ e.cells := by simp [entsV]
  have e2 : (acc ++ [e]).length = acc.length + 1 := by simp
  obtain ⟨A, cap, rfl⟩ := own_slice hown1
  have := h A cap w1
  rw [e1, e2] at this
  exact this hown1 ((hk.alloc _).grown hgrow (fun k hk' => .inr (hE.lt k hk').1))

/-- Entries of a list of commands: numbered from 1, all of one term. -/
def olds (t c : Nat) (cs : List (List UInt8)) (i : Nat) : List En := (List.range i).map fun j => ⟨j + 1, t, (cs.getD j []).take c⟩
theorem olds_succ (t c : Nat) (cs : List (List UInt8)) (i : Nat) : olds t c cs (i + 1) = olds t c cs i ++ [⟨i + 1, t, (cs.getD i []).take c⟩] := by simp [olds, List.range_succ]
@[simp] theorem olds_len (t c : Nat) (cs : List (List UInt8)) (i : Nat) : (olds t c cs i).length = i := by simp [olds]
theorem olds_fit {t c : Nat} {cs : List (List UInt8)} {i : Nat} (hi : i ≤ 1000) (ht : t ≤ 1099511627776) (hc : c ≤ 100000) : ∀ e ∈ olds t c cs i, e.Fit ∧ e.cmd.length ≤ c := by
  intro e he
  simp only [olds, List.mem_map, List.mem_range] at he
  obtain ⟨j, hj, rfl⟩ := he
  have : (List.take c (cs.getD j [])).length ≤ c := by rw [List.length_take]; omega
  exact ⟨⟨by simp only; omega, ht, by simp only; omega⟩, this⟩
theorem behind_range (f : Nat → En) (hf : ∀ j, (f j).index = j + 1) (b : Nat) : ∀ (i s : Nat), b ≤ s + i → s ≤ b → behind ((List.range' s i).map f) b = (List.range' b (s + i - b)).map f
  | 0, s, h1, h2 => by
    have : s - b = 0 := by omega
    simp [behind, this]
  | i + 1, s, h1, h2 => by
    simp only [List.range'_succ, List.map_cons, behind, hf]
    by_cases h : s = b
    · subst h
      rw [if_pos rfl]
      have hr : s + (i + 1) - s = i + 1 := by omega
      rw [hr, List.range'_succ, List.map_cons]
      congr 1
      have hall : ∀ (i s : Nat), behind ((List.range' s i).map f) s = (List.range' s i).map f := by
        intro i
        induction i with
        | zero => intro s; simp [behind]
        | succ i ih =>
          intro s
          simp only [List.range'_succ, List.map_cons, behind, hf, if_true]
          rw [ih]
      exact hall i (s + 1)
    · rw [if_neg (by omega), behind_range f hf b i (s + 1) (by omega) (by omega)]
      congr 2
      omega
theorem behind_olds (t c : Nat) (cs : List (List UInt8)) (i b : Nat) (hb : b ≤ i) : behind (olds t c cs i) b = (olds t c cs i).drop b := by
  have := behind_range (fun j => ⟨j + 1, t, (cs.getD j []).take c⟩) (fun _ => rfl) b i 0 (by omega) (by omega)
  unfold olds
  rw [List.range_eq_range', this, ← List.map_drop]
  congr 1
  rw [List.drop_range']
  simp
theorem olds_last (t c : Nat) (cs : List (List UInt8)) (i b : Nat) (hb : b ≤ i) (s : Ts) (hs : s.log = (olds t c cs i).drop b) (hbase : s.base = b) : s.last.1 = i := by
  unfold Ts.last
  rw [hs]
  by_cases h : b = i
  · subst h
    rw [List.drop_of_length_le (by simp)]
    simpa using hbase
  · obtain ⟨i, rfl⟩ : ∃ k, i = k + 1 := ⟨i - 1, by omega⟩
    rw [olds_succ, List.drop_append_of_le_length (by simp; omega)]
    simp

end Go.Proofs.YtnlcipocobmgiaaGreatDoor
