/- The contract of command.Write. -/
import Derived.Test.YtpnoiagjgkajdaaGreatDoorGCmd1
import Derived.Test.YtpnoiagjgkajdaaGreatDoorIntSl
namespace Go.Proofs.YtpnoiagjgkajdaaGreatDoor
open Go.RowKit
attribute [local go_sem] size_bs bs_append
section
variable {w w' : World}
theorem bl_str (s : ByteArray) (W : World) : (Instr.buildSlice 40 1 #[(0, .string s)]).run Tryz.prog W = .ok (.slice (some ⟨W.heap.size, 0, none⟩) 1 1) (W.alloc (.cells #[.string s] 9)) := by go_simp
theorem bl_int (x : Int) (W : World) : (Instr.buildSlice 22 1 #[(0, .int .i64 x)]).run Tryz.prog W = .ok (.slice (some ⟨W.heap.size, 0, none⟩) 1 1) (W.alloc (.cells #[.int .i64 x] 3)) := by go_simp
theorem bl_u64 (x : Int) (W : World) : (Instr.buildSlice 122 1 #[(0, .int .u64 x)]).run Tryz.prog W = .ok (.slice (some ⟨W.heap.size, 0, none⟩) 1 1) (W.alloc (.cells #[.int .u64 x] 39)) := by go_simp
theorem bl_int3 (x y z : Int) (W : World) : (Instr.buildSlice 22 3 #[(0, .int .i64 x), (1, .int .i64 y), (2, .int .i64 z)]).run Tryz.prog W = .ok (.slice (some ⟨W.heap.size, 0, none⟩) 3 3) (W.alloc (.cells #[.int .i64 x, .int .i64 y, .int .i64 z] 3)) := by go_simp
theorem EncNew.drew_ {wr w : World} {b : Nat} {L : List UInt8} (h : EncNew wr w b L) : EncNew wr w.drew b L := by
  obtain ⟨h1, h2, v, h3, h4⟩ := h
  exact ⟨h1.drew, h2, v, ⟨Blk.drew h3.blk, h3.own⟩, h4⟩
theorem hnewE (w : World) : (Instr.alloc 230 true (.tuple #[])).run Tryz.prog w = .ok (.pointer (some ⟨w.heap.size, 0, none⟩)) (w.alloc (.cells #[.slice none 0 0] 230)) := by go_simp
/-- What the chains leave alone: the command's block, its disks. -/
def CmF (c : Cm) (dv : Value) (m : Nat) (w : World) : Prop := Blk w m 81 (c.cells dv) ∧ IntSl w dv c.disks
set_option maxRecDepth 100000 in
set_option maxHeartbeats 4000000 in
theorem cwrite_calls (c : Cm) (hc : c.Ok) (dv : Value) (w : World) (hd : IntSl w dv c.disks) :
    Calls Tryz.prog 61 #[.agg #[.int .i64 (c.kind : Int), .int .i64 (c.client : Int), .int .i64 (c.seq : Int), .string (bs c.name), .int .u64 (c.blob : Int), .int .i64 (c.size : Int), .int .u32 (c.sum : Int), dv, .int .i64 (c.pool : Int), .int .i64 (c.vol : Int), .int .i64 (c.at_ : Int)]] w fun e w' => e = .returned (.string (bs (encC c))) ∧ Keep [] w w' := by
  have HP := Lib.hid hc
  have HD := Lib.hid hd
  have hsw : IntKind.u64.wrap (c.sum : Int) = (c.sum : Int) := IntWalk.u64_in _ (by have := hc.sum; omega)
  clear hc hd
  go_enter Tryz.func61, Tryz.ntmps61
  go_upto_region 1 with fail
  have HK0 : Hid (Keep [] w (w.alloc (.cells #[.int .i64 (c.kind : Int), .int .i64 (c.client : Int), .int .i64 (c.seq : Int), .string (bs c.name), .int .u64 (c.blob : Int), .int .i64 (c.size : Int), .int .u32 (c.sum : Int), dv, .int .i64 (c.pool : Int), .int .i64 (c.vol : Int), .int .i64 (c.at_ : Int)] 81))) := (Keep.refl _ _).alloc _
  have HB0 : Hid (CmF c dv w.heap.size (w.alloc (.cells #[.int .i64 (c.kind : Int), .int .i64 (c.client : Int), .int .i64 (c.seq : Int), .string (bs c.name), .int .u64 (c.blob : Int), .int .i64 (c.size : Int), .int .u32 (c.sum : Int), dv, .int .i64 (c.pool : Int), .int .i64 (c.vol : Int), .int .i64 (c.at_ : Int)] 81))) := ⟨Blk.new _ _ _, HD.out.alloc _⟩
  generalize w.alloc (.cells #[.int .i64 (c.kind : Int), .int .i64 (c.client : Int), .int .i64 (c.seq : Int), .string (bs c.name), .int .u64 (c.blob : Int), .int .i64 (c.size : Int), .int .u32 (c.sum : Int), dv, .int .i64 (c.pool : Int), .int .i64 (c.vol : Int), .int .i64 (c.at_ : Int)] 81) = W1 at *
  generalize w.heap.size = m at *
  have HC : Hid (∀ W, CmF c dv m W → World.cell? W ⟨m, 0, none⟩ = some (.int .i64 (c.kind : Int)) ∧ World.cell? W ⟨m, 1, none⟩ = some (.int .i64 (c.client : Int)) ∧ World.cell? W ⟨m, 2, none⟩ = some (.int .i64 (c.seq : Int)) ∧ World.cell? W ⟨m, 3, none⟩ = some (.string (bs c.name)) ∧ World.cell? W ⟨m, 4, none⟩ = some (.int .u64 (c.blob : Int)) ∧ World.cell? W ⟨m, 5, none⟩ = some (.int .i64 (c.size : Int)) ∧ World.cell? W ⟨m, 6, none⟩ = some (.int .u32 (c.sum : Int)) ∧ World.cell? W ⟨m, 7, none⟩ = some dv ∧ World.cell? W ⟨m, 8, none⟩ = some (.int .i64 (c.pool : Int)) ∧ World.cell? W ⟨m, 9, none⟩ = some (.int .i64 (c.vol : Int)) ∧ World.cell? W ⟨m, 10, none⟩ = some (.int .i64 (c.at_ : Int))) := fun W h => ⟨h.1.cell 0, h.1.cell 1, h.1.cell 2, h.1.cell 3, h.1.cell 4, h.1.cell 5, h.1.cell 6, h.1.cell 7, h.1.cell 8, h.1.cell 9, h.1.cell 10⟩
  refine wp_region_held_drew (S := fun W => World.cell? W ⟨m, 0, none⟩ = some (.int .i64 (c.kind : Int)) ∧ World.cell? W ⟨m, 1, none⟩ = some (.int .i64 (c.client : Int)) ∧ World.cell? W ⟨m, 2, none⟩ = some (.int .i64 (c.seq : Int)) ∧ World.cell? W ⟨m, 3, none⟩ = some (.string (bs c.name)) ∧ World.cell? W ⟨m, 4, none⟩ = some (.int .u64 (c.blob : Int)) ∧ World.cell? W ⟨m, 5, none⟩ = some (.int .i64 (c.size : Int)) ∧ World.cell? W ⟨m, 6, none⟩ = some (.int .u32 (c.sum : Int)) ∧ World.cell? W ⟨m, 7, none⟩ = some dv ∧ World.cell? W ⟨m, 8, none⟩ = some (.int .i64 (c.pool : Int)) ∧ World.cell? W ⟨m, 9, none⟩ = some (.int .i64 (c.vol : Int)) ∧ World.cell? W ⟨m, 10, none⟩ = some (.int .i64 (c.at_ : Int))) (by kernel_rfl) (HC.out _ ⟨HB0.out.1.drew, HB0.out.2.grow (Keep.refl _ _).drew⟩) (fun hHeld => ?_)
  refine wpAnyH_take (i := 1) (v := ?_) (by simp only [List.getElem?_toArray, List.getElem?_cons_succ, List.getElem?_cons_zero]; rfl) (by kernel_rfl) (by kernel_rfl) (by kernel_rfl) (by exact fun _ _ _ h => h) ?_ hHeld ?_
  rotate_left
  · refine Or.inl ⟨by rfl, ?_⟩
    rintro W ⟨s0, s1, s2, s3, s4, s5, s6, s7, s8, s9, s10⟩
    go_simp
    with_reducible rfl
  try simp only [Act.put, List.setIfInBounds_toArray, List.set_cons_zero, List.set_cons_succ]
  refine wpAnyH_take (i := 2) (v := ?_) (by simp only [List.getElem?_toArray, List.getElem?_cons_succ, List.getElem?_cons_zero]; rfl) (by kernel_rfl) (by kernel_rfl) (by kernel_rfl) (by exact fun _ _ _ h => h) ?_ hHeld ?_
  rotate_left
  · refine Or.inl ⟨by rfl, ?_⟩
    rintro W ⟨s0, s1, s2, s3, s4, s5, s6, s7, s8, s9, s10⟩
    go_simp
    with_reducible rfl
  try simp only [Act.put, List.setIfInBounds_toArray, List.set_cons_zero, List.set_cons_succ]
  refine wpAnyH_take (i := 3) (v := ?_) (by simp only [List.getElem?_toArray, List.getElem?_cons_succ, List.getElem?_cons_zero]; rfl) (by kernel_rfl) (by kernel_rfl) (by kernel_rfl) (by exact fun _ _ _ h => h) ?_ hHeld ?_
  rotate_left
  · refine Or.inl ⟨by rfl, ?_⟩
    rintro W ⟨s0, s1, s2, s3, s4, s5, s6, s7, s8, s9, s10⟩
    go_simp
    with_reducible rfl
  try simp only [Act.put, List.setIfInBounds_toArray, List.set_cons_zero, List.set_cons_succ]
  refine wpAnyH_take (i := 4) (v := ?_) (by simp only [List.getElem?_toArray, List.getElem?_cons_succ, List.getElem?_cons_zero]; rfl) (by kernel_rfl) (by kernel_rfl) (by kernel_rfl) (by exact fun _ _ _ h => h) ?_ hHeld ?_
  rotate_left
  · refine Or.inl ⟨by rfl, ?_⟩
    rintro W ⟨s0, s1, s2, s3, s4, s5, s6, s7, s8, s9, s10⟩
    go_simp
    with_reducible rfl
  try simp only [Act.put, List.setIfInBounds_toArray, List.set_cons_zero, List.set_cons_succ]
  refine wpAnyH_take (i := 5) (v := ?_) (by simp only [List.getElem?_toArray, List.getElem?_cons_succ, List.getElem?_cons_zero]; rfl) (by kernel_rfl) (by kernel_rfl) (by kernel_rfl) (by exact fun _ _ _ h => h) ?_ hHeld ?_
  rotate_left
  · refine Or.inl ⟨by rfl, ?_⟩
    rintro W ⟨s0, s1, s2, s3, s4, s5, s6, s7, s8, s9, s10⟩
    go_simp
    with_reducible rfl
  try simp only [Act.put, List.setIfInBounds_toArray, List.set_cons_zero, List.set_cons_succ]
  refine wpAnyH_take (i := 6) (v := ?_) (by simp only [List.getElem?_toArray, List.getElem?_cons_succ, List.getElem?_cons_zero]; rfl) (by kernel_rfl) (by kernel_rfl) (by kernel_rfl) (by exact fun _ _ _ h => h) ?_ hHeld ?_
  rotate_left
  · refine Or.inl ⟨by rfl, ?_⟩
    rintro W ⟨s0, s1, s2, s3, s4, s5, s6, s7, s8, s9, s10⟩
    go_simp
    with_reducible rfl
  try simp only [Act.put, List.setIfInBounds_toArray, List.set_cons_zero, List.set_cons_succ]
  refine wpAnyH_take (i := 9) (v := ?_) (by simp only [List.getElem?_toArray, List.getElem?_cons_succ, List.getElem?_cons_zero]; rfl) (by kernel_rfl) (by kernel_rfl) (by kernel_rfl) (by exact fun _ _ _ h => h) ?_ hHeld ?_
  rotate_left
  · refine Or.inl ⟨by rfl, ?_⟩
    rintro W ⟨s0, s1, s2, s3, s4, s5, s6, s7, s8, s9, s10⟩
    go_simp
    with_reducible rfl
  try simp only [Act.put, List.setIfInBounds_toArray, List.set_cons_zero, List.set_cons_succ]
  refine wpAnyH_take (i := 10) (v := ?_) (by simp only [List.getElem?_toArray, List.getElem?_cons_succ, List.getElem?_cons_zero]; rfl) (by kernel_rfl) (by kernel_rfl) (by kernel_rfl) (by exact fun _ _ _ h => h) ?_ hHeld ?_
  rotate_left
  · refine Or.inl ⟨by rfl, ?_⟩
    rintro W ⟨s0, s1, s2, s3, s4, s5, s6, s7, s8, s9, s10⟩
    go_simp
    with_reducible rfl
  try simp only [Act.put, List.setIfInBounds_toArray, List.set_cons_zero, List.set_cons_succ]
  refine wpAnyH_take (i := 13) (v := ?_) (by simp only [List.getElem?_toArray, List.getElem?_cons_succ, List.getElem?_cons_zero]; rfl) (by kernel_rfl) (by kernel_rfl) (by kernel_rfl) (by exact fun _ _ _ h => h) ?_ hHeld ?_
  rotate_left
  · refine Or.inl ⟨by rfl, ?_⟩
    rintro W ⟨s0, s1, s2, s3, s4, s5, s6, s7, s8, s9, s10⟩
    go_simp
    with_reducible rfl
  try simp only [Act.put, List.setIfInBounds_toArray, List.set_cons_zero, List.set_cons_succ]
  refine wpAnyH_take (i := 14) (v := ?_) (by simp only [List.getElem?_toArray, List.getElem?_cons_succ, List.getElem?_cons_zero]; rfl) (by kernel_rfl) (by kernel_rfl) (by kernel_rfl) (by exact fun _ _ _ h => h) ?_ hHeld ?_
  rotate_left
  · refine Or.inl ⟨by rfl, ?_⟩
    rintro W ⟨s0, s1, s2, s3, s4, s5, s6, s7, s8, s9, s10⟩
    go_simp
    with_reducible rfl
  try simp only [Act.put, List.setIfInBounds_toArray, List.set_cons_zero, List.set_cons_succ]
  refine wpAnyH_take (i := 17) (v := ?_) (by simp only [List.getElem?_toArray, List.getElem?_cons_succ, List.getElem?_cons_zero]; rfl) (by kernel_rfl) (by kernel_rfl) (by kernel_rfl) (by exact fun _ _ _ h => h) ?_ hHeld ?_
  rotate_left
  · refine Or.inl ⟨by rfl, ?_⟩
    rintro W ⟨s0, s1, s2, s3, s4, s5, s6, s7, s8, s9, s10⟩
    go_simp
    with_reducible rfl
  try simp only [Act.put, List.setIfInBounds_toArray, List.set_cons_zero, List.set_cons_succ]
  refine wpAnyH_take (i := 18) (v := ?_) (by simp only [List.getElem?_toArray, List.getElem?_cons_succ, List.getElem?_cons_zero]; rfl) (by kernel_rfl) (by kernel_rfl) (by kernel_rfl) (by exact fun _ _ _ h => h) ?_ hHeld ?_
  rotate_left
  · refine Or.inl ⟨by rfl, ?_⟩
    rintro W ⟨s0, s1, s2, s3, s4, s5, s6, s7, s8, s9, s10⟩
    go_simp
    with_reducible rfl
  try simp only [Act.put, List.setIfInBounds_toArray, List.set_cons_zero, List.set_cons_succ]
  refine wpAnyH_take (i := 21) (v := ?_) (by simp only [List.getElem?_toArray, List.getElem?_cons_succ, List.getElem?_cons_zero]; rfl) (by kernel_rfl) (by kernel_rfl) (by kernel_rfl) (by exact fun _ _ _ h => h) ?_ hHeld ?_
  rotate_left
  · refine Or.inl ⟨by rfl, ?_⟩
    rintro W ⟨s0, s1, s2, s3, s4, s5, s6, s7, s8, s9, s10⟩
    go_simp
    with_reducible rfl
  try simp only [Act.put, List.setIfInBounds_toArray, List.set_cons_zero, List.set_cons_succ]
  refine wpAnyH_take (i := 22) (v := ?_) (by simp only [List.getElem?_toArray, List.getElem?_cons_succ, List.getElem?_cons_zero]; rfl) (by kernel_rfl) (by kernel_rfl) (by kernel_rfl) (by exact fun _ _ _ h => h) ?_ hHeld ?_
  rotate_left
  · refine Or.inl ⟨by rfl, ?_⟩
    rintro W ⟨s0, s1, s2, s3, s4, s5, s6, s7, s8, s9, s10⟩
    go_simp
    with_reducible rfl
  try simp only [Act.put, List.setIfInBounds_toArray, List.set_cons_zero, List.set_cons_succ]
  refine wpAnyH_take (i := 23) (v := ?_) (by simp only [List.getElem?_toArray, List.getElem?_cons_succ, List.getElem?_cons_zero]; rfl) (by kernel_rfl) (by kernel_rfl) (by kernel_rfl) (by exact fun _ _ _ h => h) ?_ hHeld ?_
  rotate_left
  · refine Or.inl ⟨by rfl, ?_⟩
    rintro W ⟨s0, s1, s2, s3, s4, s5, s6, s7, s8, s9, s10⟩
    go_simp
    with_reducible rfl
  try simp only [Act.put, List.setIfInBounds_toArray, List.set_cons_zero, List.set_cons_succ]
  clear hHeld
  refine enc_chain2 (F := CmF c dv m) (X := [⟨true, 7, 8, 11, 12⟩, ⟨true, 11, 12, 15, 16⟩, ⟨true, 15, 16, 19, 20⟩, ⟨true, 19, 20, 23, 24⟩, ⟨true, 24, 25, 28, 29⟩])
    (Y := [⟨110, 3, 3, #[.int .i64 (c.kind : Int), .int .i64 (c.client : Int), .int .i64 (c.seq : Int)], undef, encIs [c.kind, c.client, c.seq]⟩, ⟨111, 1, 9, #[.string (bs c.name)], undef, encS c.name⟩, ⟨112, 1, 39, #[.int .u64 (c.blob : Int)], undef, encU c.blob⟩, ⟨110, 1, 3, #[.int .i64 (c.size : Int)], undef, encIs [c.size]⟩, ⟨112, 1, 39, #[.int .u64 (c.sum : Int)], undef, encU c.sum⟩])
    (st := some 0) (t0 := 4) (Z := [26]) (TA := 230) (wr := w) (L0 := []) (by kernel_rfl) (by kernel_rfl) #[true, true, true, true, true, true, true, true, true, true, true, true, true, true, true, true, true, true, true, true, true, true, true, true, true, true, false] (by kernel_rfl) rfl (by simp) (by kernel_rfl) hnewE (fun _ _ h => ⟨h.1.alloc _, h.2.alloc _⟩) (fun _ _ h ho => ⟨ho _ _ _ h.1 (by decide) (by decide), h.2.others ho⟩) (fun W h => HC.out W h) ?hrun ?hcall ?hent ?hT ?harg ?hcon ?hL ?hend _ _ _ (by kernel_rfl) ⟨HB0.out.1.drew, HB0.out.2.grow (Keep.refl _ _).drew⟩ (by simp) (fun _ => ⟨rfl, HK0.out.drew⟩)
  case hrun =>
    intro j hj _
    obtain rfl | rfl | rfl | rfl | rfl : j = 0 ∨ j = 1 ∨ j = 2 ∨ j = 3 ∨ j = 4 := by simp only [List.length_cons, List.length_nil] at hj; omega
    · exact ⟨_, _, _, rfl, rfl, fun W => by rw [List.map_toArray]; exact bl_int3 (c.kind : Int) (c.client : Int) (c.seq : Int) W⟩
    · exact ⟨_, _, _, rfl, rfl, fun W => by rw [List.map_toArray]; exact bl_str (bs c.name) W⟩
    · exact ⟨_, _, _, rfl, rfl, fun W => by rw [List.map_toArray]; exact bl_u64 (c.blob : Int) W⟩
    · exact ⟨_, _, _, rfl, rfl, fun W => by rw [List.map_toArray]; exact bl_int (c.size : Int) W⟩
    · exact ⟨_, _, _, rfl, rfl, fun W => by rw [List.map_toArray]; exact bl_u64 (c.sum : Int) W⟩
  case hcall =>
    intro j hj
    obtain rfl | rfl | rfl | rfl | rfl : j = 0 ∨ j = 1 ∨ j = 2 ∨ j = 3 ∨ j = 4 := by simp only [List.length_cons, List.length_nil] at hj; omega
    all_goals exact ⟨_, _, _, rfl, rfl⟩
  case hent =>
    intro j hj
    obtain rfl | rfl | rfl | rfl | rfl : j = 0 ∨ j = 1 ∨ j = 2 ∨ j = 3 ∨ j = 4 := by simp only [List.length_cons, List.length_nil] at hj; omega
    · exact enters_of Tryz.func110 (by kernel_rfl) rfl
    · exact enters_of Tryz.func111 (by kernel_rfl) rfl
    · exact enters_of Tryz.func112 (by kernel_rfl) rfl
    · exact enters_of Tryz.func110 (by kernel_rfl) rfl
    · exact enters_of Tryz.func112 (by kernel_rfl) rfl
  case hT =>
    intro j hj _
    obtain rfl | rfl | rfl | rfl | rfl : j = 0 ∨ j = 1 ∨ j = 2 ∨ j = 3 ∨ j = 4 := by simp only [List.length_cons, List.length_nil] at hj; omega
    all_goals first | exact ⟨(by decide : 9 ≠ 230), (by decide : 9 ≠ 5)⟩ | exact ⟨(by decide : 3 ≠ 230), (by decide : 3 ≠ 5)⟩ | exact ⟨(by decide : 39 ≠ 230), (by decide : 39 ≠ 5)⟩
  case harg =>
    intro j hj hl
    obtain rfl | rfl | rfl | rfl | rfl : j = 0 ∨ j = 1 ∨ j = 2 ∨ j = 3 ∨ j = 4 := by simp only [List.length_cons, List.length_nil] at hj; omega
    all_goals cases hl
  case hcon =>
    have hp := HP.out
    intro j hj W b v L hE hl hv hF
    obtain rfl | rfl | rfl | rfl | rfl : j = 0 ∨ j = 1 ∨ j = 2 ∨ j = 3 ∨ j = 4 := by simp only [List.length_cons, List.length_nil] at hj; omega
    all_goals
      obtain ⟨-, g, rfl, hB⟩ | ⟨hv, -⟩ := hv
      rotate_left
      · cases hv
    · exact in_new [c.kind, c.client, c.seq] (by simp) (by have := hp.kind; have := hp.client; have := hp.seq; simp; omega) (by omega) hE hB
    · exact s_new c.name (by have := hp.name; omega) (by omega) hE hB
    · exact u1_new c.blob hp.blob (by omega) hE hB
    · exact in_new [c.size] (by simp) (by have := hp.size; simp; omega) (by omega) hE hB
    · exact u1_new c.sum (by have := hp.sum; omega) (by omega) hE hB
  case hL =>
    have h1 := encC1_len HP.out
    unfold encC1 at h1
    simp only [List.nil_append, List.flatMap_cons, List.flatMap_nil, List.append_nil]
    omega
  case hend =>
    intro f a W b hA hev hF hE hu
    have hu1 : unl #[true, true, true, true, true, true, true, true, true, true, true, true, true, true, true, true, true, true, true, true, true, true, true, true, true, true, false] = 1 := by kernel_rfl
    rw [hu1] at hu
    obtain ⟨f, rfl⟩ : ∃ f', f = f' + 1 := ⟨f - 1, by omega⟩
    clear hu1
    have hE1 : EncNew w W b (encC1 c) := by
      unfold encC1
      simpa only [List.nil_append, List.flatMap_cons, List.flatMap_nil, List.append_nil] using hE
    have HE := Lib.hid hE1
    have HF := Lib.hid hF
    have ha := hA.act
    change a = putsD a [4, 11, 12, 15, 16, 19, 20, 23, 24, 28, 29] _ at ha
    change a.eval (.tmp 29) = _ at hev
    unfold putsD at ha
    simp only [List.foldl_cons, List.foldl_nil] at ha
    rw [hev] at ha
    generalize a.eval (.tmp 4) = z4 at ha
    generalize a.eval (.tmp 11) = z11 at ha
    generalize a.eval (.tmp 12) = z12 at ha
    generalize a.eval (.tmp 15) = z15 at ha
    generalize a.eval (.tmp 16) = z16 at ha
    generalize a.eval (.tmp 19) = z19 at ha
    generalize a.eval (.tmp 20) = z20 at ha
    generalize a.eval (.tmp 23) = z23 at ha
    generalize a.eval (.tmp 24) = z24 at ha
    generalize a.eval (.tmp 28) = z28 at ha
    rw [ha]
    clear ha hA hev hE hu hE1
    have hHeld := HC.out _ hF
    clear hF
    simp only [Act.put, List.setIfInBounds_toArray, List.set_cons_zero, List.set_cons_succ]
    refine wpAnyH_take (i := 26) (v := ?_) (by simp only [List.getElem?_toArray, List.getElem?_cons_succ, List.getElem?_cons_zero]; rfl) (by kernel_rfl) (by kernel_rfl) (by kernel_rfl) (by exact fun _ _ _ h => h) ?_ hHeld ?_
    rotate_left
    · refine Or.inl ⟨by rfl, ?_⟩
      rintro W ⟨s0, s1, s2, s3, s4, s5, s6, s7, s8, s9, s10⟩
      go_simp
      with_reducible rfl
    try simp only [Act.put, List.setIfInBounds_toArray, List.set_cons_zero, List.set_cons_succ]
    refine wpAnyH_done (by kernel_rfl) ?_ _
    go_wp2_with fail
    refine wp_region_held_drew (S := fun W => World.cell? W ⟨m, 0, none⟩ = some (.int .i64 (c.kind : Int)) ∧ World.cell? W ⟨m, 1, none⟩ = some (.int .i64 (c.client : Int)) ∧ World.cell? W ⟨m, 2, none⟩ = some (.int .i64 (c.seq : Int)) ∧ World.cell? W ⟨m, 3, none⟩ = some (.string (bs c.name)) ∧ World.cell? W ⟨m, 4, none⟩ = some (.int .u64 (c.blob : Int)) ∧ World.cell? W ⟨m, 5, none⟩ = some (.int .i64 (c.size : Int)) ∧ World.cell? W ⟨m, 6, none⟩ = some (.int .u32 (c.sum : Int)) ∧ World.cell? W ⟨m, 7, none⟩ = some dv ∧ World.cell? W ⟨m, 8, none⟩ = some (.int .i64 (c.pool : Int)) ∧ World.cell? W ⟨m, 9, none⟩ = some (.int .i64 (c.vol : Int)) ∧ World.cell? W ⟨m, 10, none⟩ = some (.int .i64 (c.at_ : Int))) (by kernel_rfl) (HC.out _ ⟨HF.out.1.drew, HF.out.2.grow (Keep.refl _ _).drew⟩) (fun hHeld => ?_)
    refine wpAnyH_take (i := 0) (v := ?_) (by simp only [List.getElem?_toArray, List.getElem?_cons_zero]; rfl) (by kernel_rfl) (by kernel_rfl) (by kernel_rfl) (by exact fun _ _ _ h => h) ?_ hHeld ?_
    rotate_left
    · refine Or.inl ⟨by rfl, ?_⟩
      rintro W ⟨s0, s1, s2, s3, s4, s5, s6, s7, s8, s9, s10⟩
      go_simp
      with_reducible rfl
    try simp only [Act.put, List.setIfInBounds_toArray, List.set_cons_zero, List.set_cons_succ]
    refine wpAnyH_take (i := 1) (v := ?_) (by simp only [List.getElem?_toArray, List.getElem?_cons_succ, List.getElem?_cons_zero]; rfl) (by kernel_rfl) (by kernel_rfl) (by kernel_rfl) (by exact fun _ _ _ h => h) ?_ hHeld ?_
    rotate_left
    · refine Or.inl ⟨by rfl, ?_⟩
      rintro W ⟨s0, s1, s2, s3, s4, s5, s6, s7, s8, s9, s10⟩
      go_simp
      with_reducible rfl
    try simp only [Act.put, List.setIfInBounds_toArray, List.set_cons_zero, List.set_cons_succ]
    refine wpAnyH_take (i := 2) (v := ?_) (by simp only [List.getElem?_toArray, List.getElem?_cons_succ, List.getElem?_cons_zero]; rfl) (by kernel_rfl) (by kernel_rfl) (by kernel_rfl) (by exact fun _ _ _ h => h) ?_ hHeld ?_
    rotate_left
    · refine Or.inl ⟨by rfl, ?_⟩
      rintro W ⟨s0, s1, s2, s3, s4, s5, s6, s7, s8, s9, s10⟩
      go_simp
      with_reducible rfl
    try simp only [Act.put, List.setIfInBounds_toArray, List.set_cons_zero, List.set_cons_succ]
    refine wpAnyH_take (i := 4) (v := ?_) (by simp only [List.getElem?_toArray, List.getElem?_cons_succ, List.getElem?_cons_zero]; rfl) (by kernel_rfl) (by kernel_rfl) (by kernel_rfl) (by exact fun _ _ _ h => h) ?_ hHeld ?_
    rotate_left
    · refine Or.inl ⟨by rfl, ?_⟩
      rintro W ⟨s0, s1, s2, s3, s4, s5, s6, s7, s8, s9, s10⟩
      go_simp
      with_reducible rfl
    try simp only [Act.put, List.setIfInBounds_toArray, List.set_cons_zero, List.set_cons_succ]
    refine wpAnyH_take (i := 5) (v := ?_) (by simp only [List.getElem?_toArray, List.getElem?_cons_succ, List.getElem?_cons_zero]; rfl) (by kernel_rfl) (by kernel_rfl) (by kernel_rfl) (by exact fun _ _ _ h => h) ?_ hHeld ?_
    rotate_left
    · refine Or.inl ⟨by rfl, ?_⟩
      rintro W ⟨s0, s1, s2, s3, s4, s5, s6, s7, s8, s9, s10⟩
      go_simp
      with_reducible rfl
    try simp only [Act.put, List.setIfInBounds_toArray, List.set_cons_zero, List.set_cons_succ]
    refine wpAnyH_take (i := 6) (v := ?_) (by simp only [List.getElem?_toArray, List.getElem?_cons_succ, List.getElem?_cons_zero]; rfl) (by kernel_rfl) (by kernel_rfl) (by kernel_rfl) (by exact fun _ _ _ h => h) ?_ hHeld ?_
    rotate_left
    · refine Or.inl ⟨by rfl, ?_⟩
      rintro W ⟨s0, s1, s2, s3, s4, s5, s6, s7, s8, s9, s10⟩
      go_simp
      with_reducible rfl
    try simp only [Act.put, List.setIfInBounds_toArray, List.set_cons_zero, List.set_cons_succ]
    refine wpAnyH_take (i := 7) (v := ?_) (by simp only [List.getElem?_toArray, List.getElem?_cons_succ, List.getElem?_cons_zero]; rfl) (by kernel_rfl) (by kernel_rfl) (by kernel_rfl) (by exact fun _ _ _ h => h) ?_ hHeld ?_
    rotate_left
    · refine Or.inl ⟨by rfl, ?_⟩
      rintro W ⟨s0, s1, s2, s3, s4, s5, s6, s7, s8, s9, s10⟩
      go_simp
      with_reducible rfl
    try simp only [Act.put, List.setIfInBounds_toArray, List.set_cons_zero, List.set_cons_succ]
    refine wpAnyH_take (i := 8) (v := ?_) (by simp only [List.getElem?_toArray, List.getElem?_cons_succ, List.getElem?_cons_zero]; rfl) (by kernel_rfl) (by kernel_rfl) (by kernel_rfl) (by exact fun _ _ _ h => h) ?_ hHeld ?_
    rotate_left
    · refine Or.inl ⟨by rfl, ?_⟩
      rintro W ⟨s0, s1, s2, s3, s4, s5, s6, s7, s8, s9, s10⟩
      go_simp
      with_reducible rfl
    try simp only [Act.put, List.setIfInBounds_toArray, List.set_cons_zero, List.set_cons_succ]
    refine wpAnyH_take (i := 9) (v := ?_) (by simp only [List.getElem?_toArray, List.getElem?_cons_succ, List.getElem?_cons_zero]; rfl) (by kernel_rfl) (by kernel_rfl) (by kernel_rfl) (by exact fun _ _ _ h => h) ?_ hHeld ?_
    rotate_left
    · refine Or.inl ⟨by rfl, ?_⟩
      rintro W ⟨s0, s1, s2, s3, s4, s5, s6, s7, s8, s9, s10⟩
      go_simp
      with_reducible rfl
    try simp only [Act.put, List.setIfInBounds_toArray, List.set_cons_zero, List.set_cons_succ]
    clear hHeld
    refine enc_chain2 (F := CmF c dv m) (X := [⟨false, 100, 3, 32, 33⟩, ⟨true, 10, 11, 40, 41⟩])
      (Y := [⟨113, 0, 0, #[], dv, encIs [c.disks.length] ++ encIs c.disks⟩, ⟨110, 3, 3, #[.int .i64 (c.pool : Int), .int .i64 (c.vol : Int), .int .i64 (c.at_ : Int)], undef, encIs [c.pool, c.vol, c.at_]⟩])
      (st := none) (t0 := 30) (Z := [12, 13]) (TA := 230) (wr := w) (L0 := encC1 c) (by kernel_rfl) (by kernel_rfl) #[true, true, true, true, true, true, true, true, true, true, true, true, false, false] (by kernel_rfl) rfl (by simp) (by kernel_rfl) hnewE (fun _ _ h => ⟨h.1.alloc _, h.2.alloc _⟩) (fun _ _ h ho => ⟨ho _ _ _ h.1 (by decide) (by decide), h.2.others ho⟩) (fun W h => HC.out W h) ?hrun ?hcall ?hent ?hT ?harg ?hcon ?hL ?hend _ _ _ (by kernel_rfl) ⟨HF.out.1.drew, HF.out.2.grow (Keep.refl _ _).drew⟩ (fun _ => ⟨b, rfl, HE.out.drew_⟩) (by simp)
    case hrun =>
      intro j hj hl
      obtain rfl | rfl : j = 0 ∨ j = 1 := by simp only [List.length_cons, List.length_nil] at hj; omega
      · cases hl
      · exact ⟨_, _, _, rfl, rfl, fun W => by rw [List.map_toArray]; exact bl_int3 (c.pool : Int) (c.vol : Int) (c.at_ : Int) W⟩
    case hcall =>
      intro j hj
      obtain rfl | rfl : j = 0 ∨ j = 1 := by simp only [List.length_cons, List.length_nil] at hj; omega
      all_goals exact ⟨_, _, _, rfl, rfl⟩
    case hent =>
      intro j hj
      obtain rfl | rfl : j = 0 ∨ j = 1 := by simp only [List.length_cons, List.length_nil] at hj; omega
      · exact enters_of Tryz.func113 (by kernel_rfl) rfl
      · exact enters_of Tryz.func110 (by kernel_rfl) rfl
    case hT =>
      intro j hj hl
      obtain rfl | rfl : j = 0 ∨ j = 1 := by simp only [List.length_cons, List.length_nil] at hj; omega
      · cases hl
      · exact ⟨(by decide : 3 ≠ 230), (by decide : 3 ≠ 5)⟩
    case harg =>
      intro j hj hl
      obtain rfl | rfl : j = 0 ∨ j = 1 := by simp only [List.length_cons, List.length_nil] at hj; omega
      · rfl
      · cases hl
    case hcon =>
      have hp := HP.out
      have hdl := hp.len
      intro j hj W b v L hE hl hv hF
      obtain rfl | rfl : j = 0 ∨ j = 1 := by simp only [List.length_cons, List.length_nil] at hj; omega
      · obtain ⟨hv, -⟩ | ⟨-, rfl⟩ := hv
        · cases hv
        · exact list_new c.disks (by omega) (fun n hn => by have := hp.disk n hn; omega) (by omega) hE hF.2
      · obtain ⟨-, g, rfl, hB⟩ | ⟨hv, -⟩ := hv
        · exact in_new [c.pool, c.vol, c.at_] (by simp) (by have := hp.pool; have := hp.vol; have := hp.at_; simp; omega) (by omega) hE hB
        · cases hv
    case hL =>
      have h1 := encC1_len HP.out
      have h2 := encC2_len HP.out
      unfold encC2 at h2
      simp only [List.flatMap_cons, List.flatMap_nil, List.append_nil, List.length_append] at h2 ⊢
      omega
    case hend =>
      intro f a W b hA hev hF hE hu
      have hu1 : unl #[true, true, true, true, true, true, true, true, true, true, true, true, false, false] = 2 := by kernel_rfl
      rw [hu1] at hu
      obtain ⟨f, rfl⟩ : ∃ f', f = f' + 2 := ⟨f - 2, by omega⟩
      clear hu1
      have hE1 : EncNew w W b (encC c) := by
        unfold encC encC2
        simpa only [List.flatMap_cons, List.flatMap_nil, List.append_nil] using hE
      have HE := Lib.hid hE1
      have ha := hA.act
      change a = putsD a [33, 40, 41] _ at ha
      change a.eval (.tmp 41) = _ at hev
      unfold putsD at ha
      simp only [List.foldl_cons, List.foldl_nil] at ha
      rw [hev] at ha
      generalize a.eval (.tmp 33) = y33 at ha
      generalize a.eval (.tmp 40) = y40 at ha
      rw [ha]
      clear ha hA hev hE hu hE1
      simp only [Act.put, List.setIfInBounds_toArray, List.set_cons_zero, List.set_cons_succ]
      refine wpAnyH_ready (rs := [12]) (by kernel_rfl) (by simp) (AllReadyH.cons rfl (fun K hK => ?_) AllReadyH.nil)
      go_simp
      go_at_call 114
      refine (bytes_new HE.out).mono ?_
      rintro e w9 ⟨rfl, rfl⟩
      have hHeld := HC.out _ hF
      go_simp
      refine hK.out _ _ hHeld (fun _ => ?_)
      clear hK K
      refine wpAnyH_take (i := 13) (v := ?_) (by simp only [List.getElem?_toArray, List.getElem?_cons_succ, List.getElem?_cons_zero]; rfl) (by kernel_rfl) (by kernel_rfl) (by kernel_rfl) (by exact fun _ _ _ h => h) ?_ hHeld ?_
      rotate_left
      · refine Or.inl ⟨by rfl, ?_⟩
        rintro W ⟨s0, s1, s2, s3, s4, s5, s6, s7, s8, s9, s10⟩
        go_simp
        with_reducible rfl
      try simp only [Act.put, List.setIfInBounds_toArray, List.set_cons_zero, List.set_cons_succ]
      refine wpAnyH_done (by kernel_rfl) ?_ _
      go_wp2_with fail
      go_ret
      exact ⟨rfl, HE.out.keep⟩
end
end Go.Proofs.YtpnoiagjgkajdaaGreatDoor
