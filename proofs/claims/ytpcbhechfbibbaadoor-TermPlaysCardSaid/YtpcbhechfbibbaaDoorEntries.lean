/- The contract of glacierlaw09.entries. -/
import Derived.Test.YtpcbhechfbibbaaDoorOlds
import Derived.Test.YtpcbhechfbibbaaDoorTermParts
namespace Go.Proofs.YtpcbhechfbibbaaDoor
open Go.RowKit
attribute [local go_sem] size_bs bs_append bs_extract ba_self

theorem list_append_own_ent2 {ops : Array Oper} {rest : List Oper} {o : Oper} {a : Act} {Q : Exit → Act → World → Prop} {w0 wr : World} {v : Value} {acc : List En} {ix it : Int} {p : Nat} (e : En)
    (hgd : o.guard = none) (s x : Operand) (ho : o.op = .call { callee := .builtin .append, args := #[s, x], argTypes := #[26, 26] })
    (hs : a.eval s = v) (hx : a.eval x = .slice (some ⟨p, 0, none⟩) 1 1) (hp : p = wr.heap.size) (hE : wr.ownsRow w0.heap.size 29 3 v acc.length (entsV acc)) (hk : Keep [] w0 wr) (hn : acc.length ≤ 1099511627776) (hix : ix = (e.index : Int)) (hit : it = (e.term : Int))
    (h : ∀ A cap w', w'.ownsRow w0.heap.size 29 3 (.slice A (acc ++ [e]).length cap) (acc ++ [e]).length (entsV (acc ++ [e])) → Keep [] w0 w' → wpList Tryd.prog ops Q rest (a.put o.dst (.slice A (acc ++ [e]).length cap)) w') :
    wpList Tryd.prog ops Q (o :: rest) a (wr.alloc (.cells #[.int .i64 ix, .int .i64 it, .string (bs e.cmd)] 29)) := by
  subst hp
  exact list_append_own_ent e hgd s x ho hs hx hE hk hn hix hit h

def EsRel (l : List En) (w : World) (v x : Value) (wr : World) : Prop :=
  ∃ i g c, i ≤ l.length ∧ x = .int .i64 (i : Int) ∧ v = .slice (some ⟨g, 0, none⟩) i c ∧ wr.ownsRow w.heap.size 29 3 v i (entsV (l.take i)) ∧ Keep [] w wr

set_option maxRecDepth 100000 in
set_option maxHeartbeats 2000000 in
theorem entries_calls (l : List En) (v : Value) (w : World) (hE : EntsAt w v l) (hn : l.length ≤ 1000000000) :
    Calls Tryd.prog 22 #[v] w fun e w' => ∃ A c, e = .returned (.slice A l.length c) ∧ w'.ownsRow w.heap.size 29 3 (.slice A l.length c) l.length (entsV l) ∧ Keep [] w w' := by
  obtain ⟨A0, c0, rfl, hcc⟩ := hE
  have HCC := Lib.hid hcc
  clear hcc
  go_enter Tryd.func22, Tryd.ntmps22
  go_wp2
  go_loopw [3, 9] (fun v x wr => EsRel l w v x wr) (fun _ x _ => l.length - (intOf x).toNat)
  case atStart => exact ⟨0, _, _, Nat.zero_le _, rfl, rfl, ⟨by simp [entsV], .inr ⟨w.heap.size, 0, #[], rfl, Nat.le_refl _, heap_alloc_new _ _, Nat.le_refl _, Nat.zero_le _, rfl, by simp [entsV]⟩⟩, (Keep.refl _ _).alloc _⟩
  case round =>
    obtain ⟨k, g2, c2, hk, rfl, rfl, hown, hkeep⟩ := hrel
    have HOWN := Lib.hid hown
    have HK := Lib.hid hkeep
    clear hown
    by_cases hlt : k < l.length
    · have d1 : decide ((k : Int) < (l.length : Int)) = true := by simp; omega
      obtain ⟨g, o, rfl, hc⟩ := HCC.out (by intro h; rw [h] at hlt; simp at hlt)
      obtain ⟨k0, k1, k2⟩ := entsV_at l k hlt
      have q0 := hc _ _ k0
      have q1 := hc _ _ k1
      have q2 := hc _ _ k2
      have x0 := (hkeep.cell (World.block_lt_of_cell? _ _ q0) (by simp)).trans q0
      have x1 := (hkeep.cell (World.block_lt_of_cell? _ _ q1) (by simp)).trans q1
      have x2 := (hkeep.cell (World.block_lt_of_cell? _ _ q2) (by simp)).trans q2
      have hsn : l.take (k + 1) = l.take k ++ [l[k]] := List.take_succ_eq_append_getElem hlt
      rw [Nat.mul_comm] at x0 x1 x2
      rw [← Nat.add_assoc] at x1 x2
      have HSN := Lib.hid hsn
      have htl : (l.take k).length = k := by rw [List.length_take]; omega
      have HTL := Lib.hid htl
      clear hc k0 k1 k2 q0 q1 q2 hsn hkeep htl
      generalize l[k] = ee at *
      obtain ⟨ei, et, ec⟩ := ee
      simp only at x0 x1 x2
      go_wp2_with (at_builtin; refine list_append_own_ent2 (w0 := w) (wr := wr.alloc (.cells #[.int .i64 (ei : Int), .int .i64 (et : Int), .string (bs ec)] 93)) (v := .slice (some ⟨g2, 0, none⟩) k c2) (acc := l.take k) ⟨ei, et, ec⟩ rfl (.tmp 13) (.tmp 15) rfl rfl rfl ?c0 ?c1 (HK.out.alloc _) ?c2 rfl rfl ?_)
      case c0 => simp
      case c1 =>
        rw [HTL.out]
        exact HOWN.out.alloc _
      case c2 =>
        rw [HTL.out]
        omega
      intro A3 c3 w4 hown4 hk4
      rw [← HSN.out] at hown4
      obtain ⟨g4, c4, he4⟩ := own_some hown4 (by omega)
      injection he4 with hA3 hz1 hc3
      clear hz1
      subst hA3 hc3
      have HOWN4 := Lib.hid hown4
      have HK4 := Lib.hid hk4
      clear hown4 hk4
      go_wp2
      go_roundw
      case rel => exact ⟨k + 1, g4, c3, by omega, by go_num, rfl, HOWN4.out, HK4.out⟩
      case measure => simp [intOf]; omega
    · obtain rfl : k = l.length := by omega
      have d1 : decide ((l.length : Int) < (l.length : Int)) = false := by simp
      clear hkeep
      go_wp2
      go_ret
      have h := HOWN.out
      rw [List.take_of_length_le (Nat.le_refl _)] at h
      exact ⟨_, _, rfl, h, HK.out⟩

end Go.Proofs.YtpcbhechfbibbaaDoor
