/- A frame's head, as a store keeps it. -/
import Derived.Test.YtdgjkejfmehphaaGreatDoorBase
import Derived.Test.YtdgjkejfmehphaaGreatDoorSeal
import Derived.Lib.AppendIntMem
import Derived.Test.YtdgjkejfmehphaaGreatDoorShelf
import Derived.Deep.QuietTactic
import Derived.BigQuiet
import Derived.IntWalk
import Derived.Laws.CopyOwn
import Derived.Laws.CopyRow
namespace Go.Proofs.YtdgjkejfmehphaaGreatDoor
open Go.RowKit
attribute [local go_sem] size_bs bs_append

/-- The bytes as an array's value. -/
def headV (l : List UInt8) : Value := .agg (l.map fun c => Value.int .u8 (c.toNat : Int)).toArray
theorem run_copy_str {P : Program} (w : World) (dT sT ty elem : TypeId) (g n c : Nat) (s : List UInt8) (cur : Array Value) (t : TypeId) (hu : P.underlying dT = some (.slice elem)) (hs : (P.info? elem).map (·.size) = some 1)
    (hg : w.heap[g]? = some (.cells cur t (0, 0))) (hn : n ≤ s.length) (hf : n = cur.size) :
    (Builtin.copy_ #[dT, sT] ty #[.slice (some ⟨g, 0, none⟩) n c, .string (bs s)]).run P w = .ok (.int .i64 (n : Int)) (w.setRow g ((s.take n).map fun x => Value.int .u8 (x.toNat : Int)).toArray) := by
  have hst := run_storeCells_at P g 0 t (List.take n (List.map (fun x => Value.int .u8 (x.toNat : Int)) s)) 0 cur w hg (by simp; omega) (by
    intro v hv
    obtain ⟨x, -, rfl⟩ := List.mem_map.1 (List.mem_of_mem_take hv)
    rfl)
  have hl : (List.take n (List.map (fun x => Value.int .u8 (x.toNat : Int)) s)).length = n := by simp; omega
  have hd : cur.toList.drop n = [] := List.drop_eq_nil_of_le (by simp; omega)
  have hm : Nat.min s.length n = n := Nat.min_eq_right hn
  have hb : (bs s).data.toList = s := lst_bs s
  cases hq : P.info? elem with
  | none => simp [hq] at hs
  | some i =>
    have hi : i.size = 1 := by simpa [hq] using hs
    simp only [Nat.zero_add, List.take_zero, List.nil_append, hl, hd, List.append_nil] at hst
    simp [Builtin.copy_, run_underlying hu, Builtin.lenOf, Builtin.firstCells, sizeOf, typeInfo, hq, hm, goInt, hb]
    rw [hst]
    rfl
set_option maxRecDepth 100000 in
set_option maxHeartbeats 4000000 in
theorem headOf_calls (s : List UInt8) (h8 : 8 ≤ s.length) (w : World) : Calls Tryz.prog 188 #[.string (bs s)] w fun e w' => e = .returned (headV (s.take 8)) ∧ Keep [] w w' := by
  obtain ⟨c0, c1, c2, c3, c4, c5, c6, c7, t, rfl⟩ : ∃ c0 c1 c2 c3 c4 c5 c6 c7 t, s = c0 :: c1 :: c2 :: c3 :: c4 :: c5 :: c6 :: c7 :: t := by
    match s, h8 with
    | c0 :: c1 :: c2 :: c3 :: c4 :: c5 :: c6 :: c7 :: t, _ => exact ⟨c0, c1, c2, c3, c4, c5, c6, c7, t, rfl⟩
  have hcp := fun W c g (hW : W.heap[g]? = some (.cells c 170 (0, 0))) (hc : 8 = c.size) => run_copy_str (P := Tryz.prog) W 215 9 3 5 g 8 8 (c0 :: c1 :: c2 :: c3 :: c4 :: c5 :: c6 :: c7 :: t) c 170 Tryz.underlying215 (by kernel_rfl) hW (by simp) hc
  have hZ := heap_alloc_new (w.alloc (.cells #[.int .u8 0, .int .u8 0, .int .u8 0, .int .u8 0, .int .u8 0, .int .u8 0, .int .u8 0, .int .u8 0] 170)) (.cells #[.int .u8 0, .int .u8 0, .int .u8 0, .int .u8 0, .int .u8 0, .int .u8 0, .int .u8 0, .int .u8 0] 170)
  rw [World.size_alloc] at hZ
  have hcp2 := hcp _ _ _ hZ rfl
  have hW2 := setRow_heap ((w.alloc (.cells #[.int .u8 0, .int .u8 0, .int .u8 0, .int .u8 0, .int .u8 0, .int .u8 0, .int .u8 0, .int .u8 0] 170)).alloc (.cells #[.int .u8 0, .int .u8 0, .int .u8 0, .int .u8 0, .int .u8 0, .int .u8 0, .int .u8 0, .int .u8 0] 170)) (w.heap.size + 1) #[.int .u8 0, .int .u8 0, .int .u8 0, .int .u8 0, .int .u8 0, .int .u8 0, .int .u8 0, .int .u8 0] (((c0 :: c1 :: c2 :: c3 :: c4 :: c5 :: c6 :: c7 :: t).take 8).map fun x => Value.int .u8 (x.toNat : Int)).toArray 170 (0, 0) hZ
  have hW0 : ((w.alloc (.cells #[.int .u8 0, .int .u8 0, .int .u8 0, .int .u8 0, .int .u8 0, .int .u8 0, .int .u8 0, .int .u8 0] 170)).alloc (.cells #[.int .u8 0, .int .u8 0, .int .u8 0, .int .u8 0, .int .u8 0, .int .u8 0, .int .u8 0, .int .u8 0] 170)).setRow (w.heap.size + 1) (((c0 :: c1 :: c2 :: c3 :: c4 :: c5 :: c6 :: c7 :: t).take 8).map fun x => Value.int .u8 (x.toNat : Int)).toArray |>.heap[w.heap.size]? = some (.cells #[.int .u8 0, .int .u8 0, .int .u8 0, .int .u8 0, .int .u8 0, .int .u8 0, .int .u8 0, .int .u8 0] 170 (0, 0)) := (setRow_other _ _ _ _ (by omega)).trans ((Blk.new w 170 #[.int .u8 0, .int .u8 0, .int .u8 0, .int .u8 0, .int .u8 0, .int .u8 0, .int .u8 0, .int .u8 0]).alloc _)
  have hB2 : Below w.heap.size w (((w.alloc (.cells #[.int .u8 0, .int .u8 0, .int .u8 0, .int .u8 0, .int .u8 0, .int .u8 0, .int .u8 0, .int .u8 0] 170)).alloc (.cells #[.int .u8 0, .int .u8 0, .int .u8 0, .int .u8 0, .int .u8 0, .int .u8 0, .int .u8 0, .int .u8 0] 170)).setRow (w.heap.size + 1) (((c0 :: c1 :: c2 :: c3 :: c4 :: c5 :: c6 :: c7 :: t).take 8).map fun x => Value.int .u8 (x.toNat : Int)).toArray) := below_setRow (((Below.refl _ w).alloc (Nat.le_refl _) _).alloc (by simp) _) (by omega) _
  generalize hWW : ((w.alloc (.cells #[.int .u8 0, .int .u8 0, .int .u8 0, .int .u8 0, .int .u8 0, .int .u8 0, .int .u8 0, .int .u8 0] 170)).alloc (.cells #[.int .u8 0, .int .u8 0, .int .u8 0, .int .u8 0, .int .u8 0, .int .u8 0, .int .u8 0, .int .u8 0] 170)).setRow (w.heap.size + 1) (((c0 :: c1 :: c2 :: c3 :: c4 :: c5 :: c6 :: c7 :: t).take 8).map fun x => Value.int .u8 (x.toNat : Int)).toArray = W2 at *
  have hX : bs (c0 :: c1 :: c2 :: c3 :: c4 :: c5 :: c6 :: c7 :: t) = bs (c0 :: c1 :: c2 :: c3 :: c4 :: c5 :: c6 :: c7 :: t) := rfl
  generalize bs (c0 :: c1 :: c2 :: c3 :: c4 :: c5 :: c6 :: c7 :: t) = X at *
  have hBl : Blk W2 (w.heap.size + 1) 170 #[.int .u8 (c0.toNat : Int), .int .u8 (c1.toNat : Int), .int .u8 (c2.toNat : Int), .int .u8 (c3.toNat : Int), .int .u8 (c4.toNat : Int), .int .u8 (c5.toNat : Int), .int .u8 (c6.toNat : Int), .int .u8 (c7.toNat : Int)] := hW2
  have hB0 : Blk W2 w.heap.size 170 #[.int .u8 0, .int .u8 0, .int .u8 0, .int .u8 0, .int .u8 0, .int .u8 0, .int .u8 0, .int .u8 0] := hW0
  have a0 : W2.cell? ⟨w.heap.size + 1, 0, none⟩ = some (.int .u8 (c0.toNat : Int)) := hBl.cell 0
  have a1 : W2.cell? ⟨w.heap.size + 1, 1, none⟩ = some (.int .u8 (c1.toNat : Int)) := hBl.cell 1
  have a2 : W2.cell? ⟨w.heap.size + 1, 2, none⟩ = some (.int .u8 (c2.toNat : Int)) := hBl.cell 2
  have a3 : W2.cell? ⟨w.heap.size + 1, 3, none⟩ = some (.int .u8 (c3.toNat : Int)) := hBl.cell 3
  have a4 : W2.cell? ⟨w.heap.size + 1, 4, none⟩ = some (.int .u8 (c4.toNat : Int)) := hBl.cell 4
  have a5 : W2.cell? ⟨w.heap.size + 1, 5, none⟩ = some (.int .u8 (c5.toNat : Int)) := hBl.cell 5
  have a6 : W2.cell? ⟨w.heap.size + 1, 6, none⟩ = some (.int .u8 (c6.toNat : Int)) := hBl.cell 6
  have a7 : W2.cell? ⟨w.heap.size + 1, 7, none⟩ = some (.int .u8 (c7.toNat : Int)) := hBl.cell 7
  have b0 : W2.cell? ⟨w.heap.size, 0, none⟩ = some (.int .u8 0) := hB0.cell 0
  have b1 : W2.cell? ⟨w.heap.size, 1, none⟩ = some (.int .u8 0) := hB0.cell 1
  have b2 : W2.cell? ⟨w.heap.size, 2, none⟩ = some (.int .u8 0) := hB0.cell 2
  have b3 : W2.cell? ⟨w.heap.size, 3, none⟩ = some (.int .u8 0) := hB0.cell 3
  have b4 : W2.cell? ⟨w.heap.size, 4, none⟩ = some (.int .u8 0) := hB0.cell 4
  have b5 : W2.cell? ⟨w.heap.size, 5, none⟩ = some (.int .u8 0) := hB0.cell 5
  have b6 : W2.cell? ⟨w.heap.size, 6, none⟩ = some (.int .u8 0) := hB0.cell 6
  have b7 : W2.cell? ⟨w.heap.size, 7, none⟩ = some (.int .u8 0) := hB0.cell 7
  have fz : ∀ i, W2.frozen? ⟨w.heap.size, i, none⟩ = false := fun i => hB0.frozen i
  have HB2 := Lib.hid hB2
  have HB0 := Lib.hid hB0
  clear hcp hZ hW2 hW0 hB2 hWW hBl hB0 hX
  go_enter Tryz.func188, Tryz.ntmps188
  go_wp2
  have hF : Blk ((((((((W2.setCell ⟨w.heap.size, 0, none⟩ (.int .u8 (c0.toNat : Int))).setCell ⟨w.heap.size, 1, none⟩ (.int .u8 (c1.toNat : Int))).setCell ⟨w.heap.size, 2, none⟩ (.int .u8 (c2.toNat : Int))).setCell ⟨w.heap.size, 3, none⟩ (.int .u8 (c3.toNat : Int))).setCell ⟨w.heap.size, 4, none⟩ (.int .u8 (c4.toNat : Int))).setCell ⟨w.heap.size, 5, none⟩ (.int .u8 (c5.toNat : Int))).setCell ⟨w.heap.size, 6, none⟩ (.int .u8 (c6.toNat : Int))).setCell ⟨w.heap.size, 7, none⟩ (.int .u8 (c7.toNat : Int))) w.heap.size 170 #[.int .u8 (c0.toNat : Int), .int .u8 (c1.toNat : Int), .int .u8 (c2.toNat : Int), .int .u8 (c3.toNat : Int), .int .u8 (c4.toNat : Int), .int .u8 (c5.toNat : Int), .int .u8 (c6.toNat : Int), .int .u8 (c7.toNat : Int)] := ((((((((HB0.out.set_ 0 _).set_ 1 _).set_ 2 _).set_ 3 _).set_ 4 _).set_ 5 _).set_ 6 _).set_ 7 _)
  have hK : Keep [] w ((((((((W2.setCell ⟨w.heap.size, 0, none⟩ (.int .u8 (c0.toNat : Int))).setCell ⟨w.heap.size, 1, none⟩ (.int .u8 (c1.toNat : Int))).setCell ⟨w.heap.size, 2, none⟩ (.int .u8 (c2.toNat : Int))).setCell ⟨w.heap.size, 3, none⟩ (.int .u8 (c3.toNat : Int))).setCell ⟨w.heap.size, 4, none⟩ (.int .u8 (c4.toNat : Int))).setCell ⟨w.heap.size, 5, none⟩ (.int .u8 (c5.toNat : Int))).setCell ⟨w.heap.size, 6, none⟩ (.int .u8 (c6.toNat : Int))).setCell ⟨w.heap.size, 7, none⟩ (.int .u8 (c7.toNat : Int))) := ((((((((Keep.of_below HB2.out).setCell (.inr (Nat.le_refl _)) _).setCell (.inr (Nat.le_refl _)) _).setCell (.inr (Nat.le_refl _)) _).setCell (.inr (Nat.le_refl _)) _).setCell (.inr (Nat.le_refl _)) _).setCell (.inr (Nat.le_refl _)) _).setCell (.inr (Nat.le_refl _)) _).setCell (.inr (Nat.le_refl _)) _
  generalize ((((((((W2.setCell ⟨w.heap.size, 0, none⟩ (.int .u8 (c0.toNat : Int))).setCell ⟨w.heap.size, 1, none⟩ (.int .u8 (c1.toNat : Int))).setCell ⟨w.heap.size, 2, none⟩ (.int .u8 (c2.toNat : Int))).setCell ⟨w.heap.size, 3, none⟩ (.int .u8 (c3.toNat : Int))).setCell ⟨w.heap.size, 4, none⟩ (.int .u8 (c4.toNat : Int))).setCell ⟨w.heap.size, 5, none⟩ (.int .u8 (c5.toNat : Int))).setCell ⟨w.heap.size, 6, none⟩ (.int .u8 (c6.toNat : Int))).setCell ⟨w.heap.size, 7, none⟩ (.int .u8 (c7.toNat : Int))) = Wf at *
  have q0 := hF.cell 0
  have q1 := hF.cell 1
  have q2 := hF.cell 2
  have q3 := hF.cell 3
  have q4 := hF.cell 4
  have q5 := hF.cell 5
  have q6 := hF.cell 6
  have q7 := hF.cell 7
  exact bodyPost_ret (v := .agg #[.int .u8 (c0.toNat : Int), .int .u8 (c1.toNat : Int), .int .u8 (c2.toNat : Int), .int .u8 (c3.toNat : Int), .int .u8 (c4.toNat : Int), .int .u8 (c5.toNat : Int), .int .u8 (c6.toNat : Int), .int .u8 (c7.toNat : Int)]) (by simp [results, Tryz.results188, go_sem, q0, q1, q2, q3, q4, q5, q6, q7]) rfl ⟨rfl, hK⟩

end Go.Proofs.YtdgjkejfmehphaaGreatDoor
