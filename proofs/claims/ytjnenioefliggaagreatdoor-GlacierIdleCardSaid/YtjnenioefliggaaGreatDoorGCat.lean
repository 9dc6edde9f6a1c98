/- Apply of a catalog that has no blobs, and of its machine: a mover's command finds nothing. -/
import Derived.Test.YtjnenioefliggaaGreatDoorGCmd3
import Derived.Test.YtjnenioefliggaaGreatDoorMapN
import Derived.Test.YtjnenioefliggaaGreatDoorTake2
import Derived.Test.YtjnenioefliggaaGreatDoorRegionK
namespace Go.Proofs.YtjnenioefliggaaGreatDoor
open Go.RowKit
attribute [local go_sem] size_bs bs_append
theorem bs_toList (s : List UInt8) : (bs s).toList = s := by rw [ByteArray.toList_eq]; exact lst_bs s
/-- What is said to a machine without blobs of a mover's command: nothing is there. -/
def noneV : Value := .agg #[.int .i64 5, .int .u64 0, .int .i64 0, .int .u32 0, .slice none 0 0]
/-- The kinds of a mover's commands that name a blob. -/
def MoverKind (k : Nat) : Prop := k = 6 ∨ k = 7 ∨ k = 8 ∨ k = 9 ∨ k = 10 ∨ k = 14
section
variable {w w' w1 w2 : World} {c mb ck m X R : Nat} {x : Cm} {xA : Option Addr} {xc : Nat} {n : Int}
/-- A catalog without blobs. -/
structure NoB (W : World) (c mb ck : Nat) : Prop where
  at_ : W.cell? ⟨c, 0, none⟩ = some (.map (some mb))
  map : W.heap[mb]? = some (.map #[] ck)
theorem NoB.grow (h : NoB w c mb ck) (hk : Keep [] w w') : NoB w' c mb ck := by
  have h1 := World.block_lt_of_cell? _ _ h.at_
  have h2 : mb < w.heap.size := by
    rcases Nat.lt_or_ge mb w.heap.size with h | h3
    · exact h
    · have := h.map; rw [Array.getElem?_eq_none h3] at this; cases this
  exact ⟨(hk.cell (p := ⟨c, 0, none⟩) h1 (by simp)).trans h.at_, (hk.block mb h2 (by simp)).trans h.map⟩
theorem NoB.look (h : NoB w c mb ck) (i : Nat) : (Instr.lookup 98 (.map (some mb)) (.int .u64 (i : Int)) false).run Tryz.prog w = .ok (.pointer none) w := by
  have hm : MapN .u64 w mb [] := ⟨#[], ck, h.map, by simp, by simp [MapKept.Stamped]⟩
  exact hm.look Tryz.underlying98 Tryz.underlying37 (z := .pointer none) (by kernel_rfl) (i : Int)
/-- What Apply knows behind its box and its result's cell. -/
structure GBox (w W : World) (B R c mb ck : Nat) (x : Cm) (v : Value) : Prop where
  keep : Keep [] w W
  box : Blk W B 41 #[.int .i64 (x.kind : Int), .int .i64 (x.client : Int), .int .i64 (x.seq : Int), .string (bs x.name), .int .u64 (x.blob : Int), .int .i64 (x.size : Int), .int .u32 (x.sum : Int), v, .int .i64 (x.pool : Int), .int .i64 (x.vol : Int), .int .i64 (x.at_ : Int)]
  res : Blk W R 167 #[.int .i64 0, .int .u64 0, .int .i64 0, .int .u32 0, .slice none 0 0]
  cat : NoB W c mb ck
  sl : IntSl W v x.disks
  new : w.heap.size ≤ R
theorem GBox.grow {W W' : World} {B : Nat} {v : Value} (h : GBox w W B R c mb ck x v) (hk : Keep [] W W') : GBox w W' B R c mb ck x v :=
  ⟨h.keep.trans hk, h.box.keep hk (by simp), h.res.keep hk (by simp), h.cat.grow hk, h.sl.grow hk, h.new⟩
/-- A new block is turned. -/
theorem Keep.fresh {W W' : World} (h : Keep [] w W) (hR : w.heap.size ≤ R) (hk : Keep [R] W W') : Keep [] w W' :=
  ⟨hk.os.trans h.os, hk.tape.trans h.tape, hk.output.trans h.output, Nat.le_trans h.size hk.size, fun k hlt _ => (hk.block k (Nat.lt_of_lt_of_le hlt h.size) (by simp; omega)).trans (h.block k hlt (by simp))⟩
set_option maxRecDepth 100000 in
set_option maxHeartbeats 4000000 in
theorem gcapply_calls (hx : MoverKind x.kind) (hxo : x.Ok) (h : NoB w c mb ck) (hxi : IntSl w (.slice xA x.disks.length xc) x.disks) :
    Calls Tryz.prog 107 #[.pointer (some ⟨c, 0, none⟩), .agg #[.int .i64 (x.kind : Int), .int .i64 (x.client : Int), .int .i64 (x.seq : Int), .string (bs x.name), .int .u64 (x.blob : Int), .int .i64 (x.size : Int), .int .u32 (x.sum : Int), .slice xA x.disks.length xc, .int .i64 (x.pool : Int), .int .i64 (x.vol : Int), .int .i64 (x.at_ : Int)]] w fun e w' => e = .returned noneV ∧ Keep [] w w' := by
  have HX : Hid (GBox w ((w.alloc (.cells #[.int .i64 (x.kind : Int), .int .i64 (x.client : Int), .int .i64 (x.seq : Int), .string (bs x.name), .int .u64 (x.blob : Int), .int .i64 (x.size : Int), .int .u32 (x.sum : Int), .slice xA x.disks.length xc, .int .i64 (x.pool : Int), .int .i64 (x.vol : Int), .int .i64 (x.at_ : Int)] 41)).alloc (.cells #[.int .i64 0, .int .u64 0, .int .i64 0, .int .u32 0, .slice none 0 0] 167)) w.heap.size (w.heap.size + 1) c mb ck x (.slice xA x.disks.length xc)) := Lib.hid ⟨((Keep.refl _ _).alloc _).alloc _, (Blk.new _ _ _).alloc _, Blk.here _ _ _ _ (by simp), h.grow (((Keep.refl _ _).alloc _).alloc _), (hxi.alloc _).alloc _, Nat.le_succ _⟩
  have HG := Lib.hid (good_calls x hxo _ _ HX.out.sl.sl)
  unfold MoverKind at hx
  have e1 : ((x.kind : Int) == 1) = false := beq_eq_false_iff_ne.2 (by omega)
  have n1 : ¬ (x.kind : Int) = 1 := by omega
  have e2 : ((x.kind : Int) == 2) = false := beq_eq_false_iff_ne.2 (by omega)
  have n2 : ¬ (x.kind : Int) = 2 := by omega
  have e3 : ((x.kind : Int) == 3) = false := beq_eq_false_iff_ne.2 (by omega)
  have n3 : ¬ (x.kind : Int) = 3 := by omega
  have e4 : ((x.kind : Int) == 4) = false := beq_eq_false_iff_ne.2 (by omega)
  have n4 : ¬ (x.kind : Int) = 4 := by omega
  have e5 : ((x.kind : Int) == 5) = false := beq_eq_false_iff_ne.2 (by omega)
  have n5 : ¬ (x.kind : Int) = 5 := by omega
  have e11 : ((x.kind : Int) == 11) = false := beq_eq_false_iff_ne.2 (by omega)
  have n11 : ¬ (x.kind : Int) = 11 := by omega
  have e12 : ((x.kind : Int) == 12) = false := beq_eq_false_iff_ne.2 (by omega)
  have n12 : ¬ (x.kind : Int) = 12 := by omega
  have e13 : ((x.kind : Int) == 13) = false := beq_eq_false_iff_ne.2 (by omega)
  have n13 : ¬ (x.kind : Int) = 13 := by omega
  clear h hxi hxo hx
  go_enter Tryz.func107, Tryz.ntmps107
  go_upto_region 1 with fail
  generalize ((w.alloc (.cells #[.int .i64 (x.kind : Int), .int .i64 (x.client : Int), .int .i64 (x.seq : Int), .string (bs x.name), .int .u64 (x.blob : Int), .int .i64 (x.size : Int), .int .u32 (x.sum : Int), .slice xA x.disks.length xc, .int .i64 (x.pool : Int), .int .i64 (x.vol : Int), .int .i64 (x.at_ : Int)] 41)).alloc (.cells #[.int .i64 0, .int .u64 0, .int .i64 0, .int .u32 0, .slice none 0 0] 167)) = W1 at *
  generalize w.heap.size + 1 = R at *
  generalize w.heap.size = B at *
  have x0 : W1.cell? ⟨B, 0, none⟩ = some (.int .i64 (x.kind : Int)) := HX.out.box.cell 0
  have x1 : W1.cell? ⟨B, 1, none⟩ = some (.int .i64 (x.client : Int)) := HX.out.box.cell 1
  have x2 : W1.cell? ⟨B, 2, none⟩ = some (.int .i64 (x.seq : Int)) := HX.out.box.cell 2
  have x3 : W1.cell? ⟨B, 3, none⟩ = some (.string (bs x.name)) := HX.out.box.cell 3
  have x4 : W1.cell? ⟨B, 4, none⟩ = some (.int .u64 (x.blob : Int)) := HX.out.box.cell 4
  have x5 : W1.cell? ⟨B, 5, none⟩ = some (.int .i64 (x.size : Int)) := HX.out.box.cell 5
  have x6 : W1.cell? ⟨B, 6, none⟩ = some (.int .u32 (x.sum : Int)) := HX.out.box.cell 6
  have x7 : W1.cell? ⟨B, 7, none⟩ = some (.slice xA x.disks.length xc) := HX.out.box.cell 7
  have x8 : W1.cell? ⟨B, 8, none⟩ = some (.int .i64 (x.pool : Int)) := HX.out.box.cell 8
  have x9 : W1.cell? ⟨B, 9, none⟩ = some (.int .i64 (x.vol : Int)) := HX.out.box.cell 9
  have x10 : W1.cell? ⟨B, 10, none⟩ = some (.int .i64 (x.at_ : Int)) := HX.out.box.cell 10
  go_upto_region 3 with (go_at_call 11; refine HG.out.mono ?_; rintro e w2 ⟨rfl, hk2⟩; have HX2 := Lib.hid (HX.out.grow hk2); have y0 : w2.cell? ⟨B, 0, none⟩ = some (.int .i64 (x.kind : Int)) := HX2.out.box.cell 0; clear hk2)
  clear x0 x1 x2 x3 x4 x5 x6 x7 x8 x9 x10 HX HG
  have HS16 : Hid (∀ W, Keep [] w2 W → World.cell? W ⟨c, 0, none⟩ = some (.map (some mb)) ∧ World.cell? W ⟨B, 4, none⟩ = some (.int .u64 (x.blob : Int)) ∧ (Instr.lookup 98 (.map (some mb)) (.int .u64 (x.blob : Int)) false).run Tryz.prog W = .ok (.pointer none) W) := Lib.hid (fun W hW => ⟨(HX2.out.cat.grow hW).at_, (HX2.out.grow hW).box.cell 4, (HX2.out.cat.grow hW).look x.blob⟩)
  go_upto_region 16 with fail
  refine wp_region_held_drew (S := fun W => World.cell? W ⟨c, 0, none⟩ = some (.map (some mb)) ∧ World.cell? W ⟨B, 4, none⟩ = some (.int .u64 (x.blob : Int)) ∧ (Instr.lookup 98 (.map (some mb)) (.int .u64 (x.blob : Int)) false).run Tryz.prog W = .ok (.pointer none) W) (by kernel_rfl) (HS16.out _ (Keep.refl _ _).drew) (fun hHeld => ?_)
  refine th 0 hHeld ?_
  refine th 1 hHeld ?_
  refine th 2 hHeld ?_
  refine th 3 hHeld ?_
  refine th 4 hHeld ?_
  refine th 5 hHeld ?_
  refine th 6 hHeld ?_
  refine th 7 hHeld ?_
  refine wpAnyH_done (by kernel_rfl) ?_ _
  clear hHeld HS16
  have HR := Lib.hid HX2.out.res
  have z0 : World.cell? w2 ⟨R, 0, none⟩ = some (.int .i64 0) := HR.out.cell 0
  have z1 : World.cell? w2 ⟨R, 1, none⟩ = some (.int .u64 0) := HR.out.cell 1
  have z2 : World.cell? w2 ⟨R, 2, none⟩ = some (.int .i64 0) := HR.out.cell 2
  have z3 : World.cell? w2 ⟨R, 3, none⟩ = some (.int .u32 0) := HR.out.cell 3
  have z4 : World.cell? w2 ⟨R, 4, none⟩ = some (.slice none 0 0) := HR.out.cell 4
  have zf := HR.out.frozen
  go_wp2_with fail
  refine bodyPost_ret (v := noneV) (by simp [results, Tryz.results107, go_sem, z0, z1, z2, z3, z4, noneV]) rfl ⟨rfl, ?_⟩
  exact HX2.out.keep.fresh (R := R) HX2.out.new (by repeat (first | refine Keep.setCell ?_ (.inl (by simp)) _ | refine Keep.drew ?_ | exact Keep.refl _ _))
end
end Go.Proofs.YtjnenioefliggaaGreatDoor
