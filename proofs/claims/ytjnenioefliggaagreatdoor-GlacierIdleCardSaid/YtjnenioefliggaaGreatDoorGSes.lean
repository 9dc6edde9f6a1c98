/- Apply of a machine that has no blobs: a mover's command is counted, and finds nothing. -/
import Derived.Test.YtjnenioefliggaaGreatDoorGCat
namespace Go.Proofs.YtjnenioefliggaaGreatDoor
open Go.RowKit
attribute [local go_sem] size_bs bs_append Cm.cells
section
variable {w w' w1 w2 : World} {c mb ck m X R : Nat} {x : Cm} {xA : Option Addr} {xc : Nat} {n : Int} {v : Value} {A : Option Addr} {cp : Nat}
/-- What Apply knows behind its reading. -/
structure GSes (w W : World) (m c mb ck R X : Nat) (x : Cm) (v : Value) : Prop where
  keep : Keep [] w W
  cat : NoB W c mb ck
  mac : W.cell? ⟨m, 0, none⟩ = some (.pointer (some ⟨c, 0, none⟩))
  res : Blk W R 167 #[.int .i64 0, .int .u64 0, .int .i64 0, .int .u32 0, .slice none 0 0]
  new : w.heap.size ≤ R
  box : Blk W X 41 #[.int .i64 (x.kind : Int), .int .i64 (x.client : Int), .int .i64 (x.seq : Int), .string (bs x.name), .int .u64 (x.blob : Int), .int .i64 (x.size : Int), .int .u32 (x.sum : Int), v, .int .i64 (x.pool : Int), .int .i64 (x.vol : Int), .int .i64 (x.at_ : Int)]
theorem GSes.grow {W W' : World} (h : GSes w W m c mb ck R X x v) (hk : Keep [] W W') : GSes w W' m c mb ck R X x v :=
  ⟨h.keep.trans hk, h.cat.grow hk, (hk.cell (p := ⟨m, 0, none⟩) (World.block_lt_of_cell? _ _ h.mac) (by simp)).trans h.mac, h.res.keep hk (by simp), h.new, h.box.keep hk (by simp)⟩
set_option maxRecDepth 100000 in
set_option maxHeartbeats 4000000 in
theorem gsapply_calls (hk : MoverKind x.kind) (hx : x.Ok) (h : NoB w c mb ck) (m0 : w.cell? ⟨m, 0, none⟩ = some (.pointer (some ⟨c, 0, none⟩))) (m2 : w.cell? ⟨m, 2, none⟩ = some (.int .i64 n)) (mf : w.frozen? ⟨m, 2, none⟩ = false) (hn : 0 ≤ n ∧ n ≤ 1000000) (hmc : m ≠ c) (hmm : m ≠ mb) :
    Calls Tryz.prog 62 #[.pointer (some ⟨m, 0, none⟩), .string (bs (encC x))] w fun e w' => e = .returned noneV ∧ Keep [] (w.setCell ⟨m, 2, none⟩ (.int .i64 (n + 1))) w' := by
  have hml := World.block_lt_of_cell? _ _ m2
  have q2 : (w.alloc (.cells #[.int .i64 0, .int .u64 0, .int .i64 0, .int .u32 0, .slice none 0 0] 167)).cell? ⟨m, 2, none⟩ = some (.int .i64 n) := by rw [World.cell?_alloc_old _ _ _ (Nat.ne_of_lt hml)]; exact m2
  have qf : (w.alloc (.cells #[.int .i64 0, .int .u64 0, .int .i64 0, .int .u32 0, .slice none 0 0] 167)).frozen? ⟨m, 2, none⟩ = false := by rw [World.frozen?_alloc_old _ _ _ (Nat.ne_of_lt hml)]; exact mf
  have hs0 : (bs (encC x)).toList.isEmpty = false := by rw [bs_toList]; simpa using encC_ne x
  have hw : IntKind.i64.wrap (n + 1) = n + 1 := IntWalk.i64_in _ (by omega)
  have hka : Keep [m] w (w.setCell ⟨m, 2, none⟩ (.int .i64 (n + 1))) := (Keep.refl _ _).setCell (.inl (by simp)) _
  have hsz : (w.setCell ⟨m, 2, none⟩ (.int .i64 (n + 1))).heap.size = w.heap.size := by rw [World.size_setCell]
  have hmb : mb < w.heap.size := by
    rcases Nat.lt_or_ge mb w.heap.size with h1 | h3
    · exact h1
    · have := h.map; rw [Array.getElem?_eq_none h3] at this; cases this
  have hV : NoB (w.setCell ⟨m, 2, none⟩ (.int .i64 (n + 1))) c mb ck := ⟨(hka.cell (p := ⟨c, 0, none⟩) (World.block_lt_of_cell? _ _ h.at_) (by simpa using Ne.symm hmc)).trans h.at_, (hka.block mb hmb (by simpa using Ne.symm hmm)).trans h.map⟩
  have hm0 : (w.setCell ⟨m, 2, none⟩ (.int .i64 (n + 1))).cell? ⟨m, 0, none⟩ = some (.pointer (some ⟨c, 0, none⟩)) := by simpa [go_sem] using m0
  have HI0 : Hid (Keep [] (w.setCell ⟨m, 2, none⟩ (.int .i64 (n + 1))) ((w.setCell ⟨m, 2, none⟩ (.int .i64 (n + 1))).alloc (.cells #[.int .i64 0, .int .u64 0, .int .i64 0, .int .u32 0, .slice none 0 0] 167)) ∧ NoB ((w.setCell ⟨m, 2, none⟩ (.int .i64 (n + 1))).alloc (.cells #[.int .i64 0, .int .u64 0, .int .i64 0, .int .u32 0, .slice none 0 0] 167)) c mb ck ∧ World.cell? ((w.setCell ⟨m, 2, none⟩ (.int .i64 (n + 1))).alloc (.cells #[.int .i64 0, .int .u64 0, .int .i64 0, .int .u32 0, .slice none 0 0] 167)) ⟨m, 0, none⟩ = some (.pointer (some ⟨c, 0, none⟩)) ∧ Blk ((w.setCell ⟨m, 2, none⟩ (.int .i64 (n + 1))).alloc (.cells #[.int .i64 0, .int .u64 0, .int .i64 0, .int .u32 0, .slice none 0 0] 167)) w.heap.size 167 #[.int .i64 0, .int .u64 0, .int .i64 0, .int .u32 0, .slice none 0 0]) := Lib.hid ⟨(Keep.refl _ _).alloc _, hV.grow ((Keep.refl _ _).alloc _), by rw [World.cell?_alloc_old _ _ _ (by rw [hsz]; exact Nat.ne_of_lt hml)]; exact hm0, Blk.here _ _ _ _ hsz.symm⟩
  have HX := Lib.hid hx
  have HRD := Lib.hid (fun W => cread_calls x hx W)
  have HKD := Lib.hid hk
  have HSZ : Hid ((w.setCell ⟨m, 2, none⟩ (.int .i64 (n + 1))).heap.size ≤ w.heap.size) := Lib.hid (by rw [World.size_setCell]; exact Nat.le_refl _)
  clear h hx hk m0 m2 mf hka hV hm0 hmb hmc hmm
  go_enter Tryz.func62, Tryz.ntmps62
  go_upto_region 4 with fail
  generalize ((w.setCell ⟨m, 2, none⟩ (.int .i64 (n + 1))).alloc (.cells #[.int .i64 0, .int .u64 0, .int .i64 0, .int .u32 0, .slice none 0 0] 167)) = W0 at *
  have HVV : Hid (∃ V, V = w.setCell ⟨m, 2, none⟩ (.int .i64 (n + 1))) := Lib.hid ⟨_, rfl⟩
  obtain ⟨V, hV⟩ := HVV.out
  rw [← hV] at HI0 HSZ
  have HVE := Lib.hid hV
  clear hV HVV
  have HRW : Hid (∃ R, R = w.heap.size) := Lib.hid ⟨_, rfl⟩
  obtain ⟨R, hR⟩ := HRW.out
  have HRG : Hid (V.heap.size ≤ R) := Lib.hid (by have := HSZ.out; omega)
  rw [← hR] at HI0
  simp only [← hR]
  clear q2 qf hs0 hw hR HRW HSZ hml hn hsz
  go_upto_region 5 with (go_at_call 105; refine (HRD.out _).mono ?_; rintro e w1 ⟨v, rfl, hi, hnw, hk1⟩; obtain ⟨A, cp, rfl, -⟩ := hi.at_; have HV1 := Lib.hid hi; have HK1 := Lib.hid hk1; clear hi hnw hk1)
  have HL5 := Lib.hid (HV1.out.alloc (.cells #[.int .i64 (x.kind : Int), .int .i64 (x.client : Int), .int .i64 (x.seq : Int), .string (bs x.name), .int .u64 (x.blob : Int), .int .i64 (x.size : Int), .int .u32 (x.sum : Int), (.slice A x.disks.length cp), .int .i64 (x.pool : Int), .int .i64 (x.vol : Int), .int .i64 (x.at_ : Int)] 41))
  have HI5 : Hid (GSes V (w1.alloc (.cells #[.int .i64 (x.kind : Int), .int .i64 (x.client : Int), .int .i64 (x.seq : Int), .string (bs x.name), .int .u64 (x.blob : Int), .int .i64 (x.size : Int), .int .u32 (x.sum : Int), (.slice A x.disks.length cp), .int .i64 (x.pool : Int), .int .i64 (x.vol : Int), .int .i64 (x.at_ : Int)] 41)) m c mb ck R w1.heap.size x (.slice A x.disks.length cp)) := Lib.hid ⟨HI0.out.1.trans (HK1.out.alloc _), HI0.out.2.1.grow (HK1.out.alloc _), ((HK1.out.alloc _).cell (p := ⟨m, 0, none⟩) (World.block_lt_of_cell? _ _ HI0.out.2.2.1) (by simp)).trans HI0.out.2.2.1, HI0.out.2.2.2.keep (HK1.out.alloc _) (by simp), HRG.out, Blk.new _ _ _⟩
  clear HI0 HV1 HK1 HRD
  generalize w1.alloc (.cells #[.int .i64 (x.kind : Int), .int .i64 (x.client : Int), .int .i64 (x.seq : Int), .string (bs x.name), .int .u64 (x.blob : Int), .int .i64 (x.size : Int), .int .u32 (x.sum : Int), (.slice A x.disks.length cp), .int .i64 (x.pool : Int), .int .i64 (x.vol : Int), .int .i64 (x.at_ : Int)] 41) = W5 at *
  generalize w1.heap.size = X at *
  have x0 : World.cell? W5 ⟨X, 0, none⟩ = some (.int .i64 (x.kind : Int)) := HI5.out.box.cell 0
  have x1 : World.cell? W5 ⟨X, 1, none⟩ = some (.int .i64 (x.client : Int)) := HI5.out.box.cell 1
  have x2 : World.cell? W5 ⟨X, 2, none⟩ = some (.int .i64 (x.seq : Int)) := HI5.out.box.cell 2
  have x3 : World.cell? W5 ⟨X, 3, none⟩ = some (.string (bs x.name)) := HI5.out.box.cell 3
  have x4 : World.cell? W5 ⟨X, 4, none⟩ = some (.int .u64 (x.blob : Int)) := HI5.out.box.cell 4
  have x5 : World.cell? W5 ⟨X, 5, none⟩ = some (.int .i64 (x.size : Int)) := HI5.out.box.cell 5
  have x6 : World.cell? W5 ⟨X, 6, none⟩ = some (.int .u32 (x.sum : Int)) := HI5.out.box.cell 6
  have x7 : World.cell? W5 ⟨X, 7, none⟩ = some (.slice A x.disks.length cp) := HI5.out.box.cell 7
  have x8 : World.cell? W5 ⟨X, 8, none⟩ = some (.int .i64 (x.pool : Int)) := HI5.out.box.cell 8
  have x9 : World.cell? W5 ⟨X, 9, none⟩ = some (.int .i64 (x.vol : Int)) := HI5.out.box.cell 9
  have x10 : World.cell? W5 ⟨X, 10, none⟩ = some (.int .i64 (x.at_ : Int)) := HI5.out.box.cell 10
  have HIC := Lib.hid (fun W => isClient_calls x (.slice A x.disks.length cp) W)
  rw [show (decide (1 ≤ x.kind) && decide (x.kind ≤ 5)) = false by have := HKD.out; unfold MoverKind at this; simp; omega] at HIC
  go_upto_region 8 with (go_at_call 106; refine (HIC.out _).mono ?_; rintro e w6 ⟨rfl, hk6⟩; have HI6 := Lib.hid (HI5.out.grow hk6); have HL6 := Lib.hid (HL5.out.grow hk6); clear hk6)
  clear x0 x1 x2 x3 x4 x5 x6 x7 x8 x9 x10
  have hHeld : World.cell? w6.drew ⟨m, 0, none⟩ = some (.pointer (some ⟨c, 0, none⟩)) ∧ World.cell? w6.drew ⟨X, 0, none⟩ = some (.int .i64 (x.kind : Int)) ∧ World.cell? w6.drew ⟨X, 1, none⟩ = some (.int .i64 (x.client : Int)) ∧ World.cell? w6.drew ⟨X, 2, none⟩ = some (.int .i64 (x.seq : Int)) ∧ World.cell? w6.drew ⟨X, 3, none⟩ = some (.string (bs x.name)) ∧ World.cell? w6.drew ⟨X, 4, none⟩ = some (.int .u64 (x.blob : Int)) ∧ World.cell? w6.drew ⟨X, 5, none⟩ = some (.int .i64 (x.size : Int)) ∧ World.cell? w6.drew ⟨X, 6, none⟩ = some (.int .u32 (x.sum : Int)) ∧ World.cell? w6.drew ⟨X, 7, none⟩ = some (.slice A x.disks.length cp) ∧ World.cell? w6.drew ⟨X, 8, none⟩ = some (.int .i64 (x.pool : Int)) ∧ World.cell? w6.drew ⟨X, 9, none⟩ = some (.int .i64 (x.vol : Int)) ∧ World.cell? w6.drew ⟨X, 10, none⟩ = some (.int .i64 (x.at_ : Int)) := ⟨(HI6.out.grow (Keep.refl _ _).drew).mac, (HI6.out.grow (Keep.refl _ _).drew).box.cell 0, (HI6.out.grow (Keep.refl _ _).drew).box.cell 1, (HI6.out.grow (Keep.refl _ _).drew).box.cell 2, (HI6.out.grow (Keep.refl _ _).drew).box.cell 3, (HI6.out.grow (Keep.refl _ _).drew).box.cell 4, (HI6.out.grow (Keep.refl _ _).drew).box.cell 5, (HI6.out.grow (Keep.refl _ _).drew).box.cell 6, (HI6.out.grow (Keep.refl _ _).drew).box.cell 7, (HI6.out.grow (Keep.refl _ _).drew).box.cell 8, (HI6.out.grow (Keep.refl _ _).drew).box.cell 9, (HI6.out.grow (Keep.refl _ _).drew).box.cell 10⟩
  refine wp_region_K (S := fun W => World.cell? W ⟨m, 0, none⟩ = some (.pointer (some ⟨c, 0, none⟩)) ∧ World.cell? W ⟨X, 0, none⟩ = some (.int .i64 (x.kind : Int)) ∧ World.cell? W ⟨X, 1, none⟩ = some (.int .i64 (x.client : Int)) ∧ World.cell? W ⟨X, 2, none⟩ = some (.int .i64 (x.seq : Int)) ∧ World.cell? W ⟨X, 3, none⟩ = some (.string (bs x.name)) ∧ World.cell? W ⟨X, 4, none⟩ = some (.int .u64 (x.blob : Int)) ∧ World.cell? W ⟨X, 5, none⟩ = some (.int .i64 (x.size : Int)) ∧ World.cell? W ⟨X, 6, none⟩ = some (.int .u32 (x.sum : Int)) ∧ World.cell? W ⟨X, 7, none⟩ = some (.slice A x.disks.length cp) ∧ World.cell? W ⟨X, 8, none⟩ = some (.int .i64 (x.pool : Int)) ∧ World.cell? W ⟨X, 9, none⟩ = some (.int .i64 (x.vol : Int)) ∧ World.cell? W ⟨X, 10, none⟩ = some (.int .i64 (x.at_ : Int))) (z := 6) (by kernel_rfl) ?_
  refine tk 0 hHeld ?_
  refine tk 1 hHeld ?_
  refine tk 2 hHeld ?_
  refine tk 3 hHeld ?_
  refine tk 4 hHeld ?_
  clear hHeld
  have HAP := Lib.hid (gcapply_calls HKD.out HX.out (HI6.out.grow (Keep.refl _ _).drew).cat (HL6.out.grow (Keep.refl _ _).drew))
  refine wpAnyK_one (k := 5) (by kernel_rfl) rfl (fun K hK => ?_)
  go_simp
  go_at_call 107
  refine HAP.out.mono ?_
  rintro e w7 ⟨rfl, hk7⟩
  unfold noneV
  have HI7 := Lib.hid ((HI6.out.grow (Keep.refl _ _).drew).grow hk7)
  clear hk7
  go_simp
  refine hK.out _ _ (fun _ => ⟨HI7.out.mac, HI7.out.box.cell 0, HI7.out.box.cell 1, HI7.out.box.cell 2, HI7.out.box.cell 3, HI7.out.box.cell 4, HI7.out.box.cell 5, HI7.out.box.cell 6, HI7.out.box.cell 7, HI7.out.box.cell 8, HI7.out.box.cell 9, HI7.out.box.cell 10⟩) ?_
  clear hK K
  try simp only [Act.put, List.setIfInBounds_toArray, List.set_cons_zero, List.set_cons_succ]
  have HR := Lib.hid HI7.out.res
  have z0 : World.cell? w7 ⟨R, 0, none⟩ = some (.int .i64 0) := HR.out.cell 0
  have z1 : World.cell? w7 ⟨R, 1, none⟩ = some (.int .u64 0) := HR.out.cell 1
  have z2 : World.cell? w7 ⟨R, 2, none⟩ = some (.int .i64 0) := HR.out.cell 2
  have z3 : World.cell? w7 ⟨R, 3, none⟩ = some (.int .u32 0) := HR.out.cell 3
  have z4 : World.cell? w7 ⟨R, 4, none⟩ = some (.slice none 0 0) := HR.out.cell 4
  have zf := HR.out.frozen
  refine wpAnyK_one (k := 6) (by kernel_rfl) rfl (fun K hK => ?_)
  go_simp
  refine hK.out _ _ (fun h => absurd rfl h) ?_
  clear hK K
  try simp only [Act.put, List.setIfInBounds_toArray, List.set_cons_zero, List.set_cons_succ]
  refine wpAnyK_done (by kernel_rfl) ?_
  go_wp2_with fail
  refine bodyPost_ret (v := noneV) (by simp [results, Tryz.results62, go_sem, z0, z1, z2, z3, z4, noneV]) rfl ⟨rfl, ?_⟩
  rw [← HVE.out]
  exact HI7.out.keep.fresh (R := R) HI7.out.new (by repeat (first | refine Keep.setCell ?_ (.inl (by simp)) _ | refine Keep.drew ?_ | exact Keep.refl _ _))
end
end Go.Proofs.YtjnenioefliggaaGreatDoor
