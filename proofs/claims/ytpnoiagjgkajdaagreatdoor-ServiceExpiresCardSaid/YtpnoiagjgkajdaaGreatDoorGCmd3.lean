/- The contract of command.Read, of the bytes of a command. -/
import Derived.Test.YtpnoiagjgkajdaaGreatDoorGCmd2
import Derived.Test.YtpnoiagjgkajdaaGreatDoorGCur
namespace Go.Proofs.YtpnoiagjgkajdaaGreatDoor
open Go.RowKit
attribute [local go_sem] size_bs bs_append

theorem encC_eq (c : Cm) : encC c = encU c.kind ++ (encU c.client ++ (encU c.seq ++ (encS c.name ++ (encU c.blob ++ (encU c.size ++ (encU c.sum ++ (encIs [c.disks.length] ++ (encIs c.disks ++ (encU c.pool ++ (encU c.vol ++ (encU c.at_ ++ []))))))))))) := by
  simp [encC, encC1, encC2, encIs]
/-- Read's memory: the decoder, the command, the result. -/
structure CrI (w W : World) (d q r : Nat) (s rs : List UInt8) (cs : Array Value) : Prop where
  cur : Cur W d s rs
  pc : Blk W q 81 cs
  res : Blk W r 81 #[.int .i64 0, .int .i64 0, .int .i64 0, .string ⟨#[]⟩, .int .u64 0, .int .i64 0, .int .u32 0, .slice none 0 0, .int .i64 0, .int .i64 0, .int .i64 0]
  keep : Keep [] w W
  lo : w.heap.size ≤ d ∧ w.heap.size ≤ q ∧ w.heap.size ≤ r
  ne : q ≠ r
section
variable {w w' W W' : World} {d q r : Nat} {s rs rs' : List UInt8} {cs : Array Value} {v : Value} {l : List Nat}
theorem IntSl.cur (h : IntSl W v l) (hk : Keep [d] W W') (hc : Cur W d s rs) : IntSl W' v l := by
  obtain ⟨-, a, -, h3⟩ := hc
  exact h.apart hk h3.blk (by decide)
theorem CrI.qd (h : CrI w W d q r s rs cs) : q ≠ d ∧ r ≠ d := ⟨h.cur.ne_ h.pc (by decide), h.cur.ne_ h.res (by decide)⟩
theorem CrI.step (h : CrI w W d q r s rs cs) (hk : Keep [d] W W') (hd : Cur W' d s rs') : CrI w W' d q r s rs' cs :=
  ⟨hd, h.pc.keep hk (by simpa using h.qd.1), h.res.keep hk (by simpa using h.qd.2), h.keep.trans' hk (fun x hx => by simp at hx; exact .inr (hx ▸ h.lo.1)), h.lo, h.ne⟩
theorem CrI.set (h : CrI w W d q r s rs cs) (i : Nat) (u : Value) : CrI w (W.setCell ⟨q, i, none⟩ u) d q r s rs (cs.setIfInBounds i u) :=
  ⟨h.cur.keep ((Keep.refl [q] W).setCell (.inl (by simp)) u) (by simpa using h.qd.1.symm), h.pc.set_ i u, h.res.far (fun e => h.ne e.symm) u, h.keep.setCell (.inr h.lo.2.1) u, h.lo, h.ne⟩
set_option maxRecDepth 100000 in
set_option maxHeartbeats 4000000 in
theorem cread_calls (c : Cm) (hc : c.Ok) (w : World) :
    Calls Tryz.prog 124 #[.string (bs (encC c))] w fun e w' => ∃ dv, e = .returned (.tuple #[.agg (c.cells dv), .int .i64 0]) ∧ IntSl w' dv c.disks ∧ (∀ k, dv.ownBlock = some k → w.heap.size ≤ k) ∧ Keep [] w w' ∧ Fresh dv c.disks.length := by
  have hl : (encC c).length ≤ 4611686018427387904 := by
    have h1 := encC1_len hc
    have h2 := encC2_len hc
    simp only [encC, List.length_append]
    omega
  have HG := Lib.hid (fun W dv (h : IntSl W dv c.disks) => good_calls c hc dv W h.sl)
  have k1 := hc.kind
  have k2 := hc.client
  have k3 := hc.seq
  have k4 := hc.name
  have k5 := hc.size
  have k6 := hc.pool
  have k7 := hc.vol
  have k8 := hc.at_
  have k9 := hc.sum
  have k10 := hc.blob
  have k11 := hc.len
  have HD := Lib.hid hc.disk
  have HL := Lib.hid hl
  have hsw : IntKind.u32.wrap (c.sum : Int) = (c.sum : Int) := IntWalk.u32_in _ (by omega)
  have dg : decide ((4294967295 : Int) < (c.sum : Int)) = false := decide_eq_false (by omega)
  clear hc hl
  go_enter Tryz.func124, Tryz.ntmps124
  go_upto_region 3 with (first
    | (go_at_call 191; refine (cur_from _ HL.out _).mono ?_; rintro e w1 ⟨rfl, hd1, hk1⟩; have HD1 := Lib.hid hd1; have HK1 := Lib.hid hk1; have HB1 := Lib.hid ((Blk.new w 81 #[.int .i64 0, .int .i64 0, .int .i64 0, .string ⟨#[]⟩, .int .u64 0, .int .i64 0, .int .u32 0, .slice none 0 0, .int .i64 0, .int .i64 0, .int .i64 0]).keep hk1 (by simp)); clear hd1 hk1)
    | fail)
  have HI0 : Hid (CrI w (w1.alloc (.cells #[.int .i64 0, .int .i64 0, .int .i64 0, .string ⟨#[]⟩, .int .u64 0, .int .i64 0, .int .u32 0, .slice none 0 0, .int .i64 0, .int .i64 0, .int .i64 0] 81)) (w.heap.size + 1) w1.heap.size w.heap.size (encC c) (encU c.kind ++ (encU c.client ++ (encU c.seq ++ (encS c.name ++ (encU c.blob ++ (encU c.size ++ (encU c.sum ++ (encIs [c.disks.length] ++ (encIs c.disks ++ (encU c.pool ++ (encU c.vol ++ (encU c.at_ ++ [])))))))))))) #[.int .i64 0, .int .i64 0, .int .i64 0, .string ⟨#[]⟩, .int .u64 0, .int .i64 0, .int .u32 0, .slice none 0 0, .int .i64 0, .int .i64 0, .int .i64 0]) := by
    have hs1 : w.heap.size < w1.heap.size := HB1.out.lt
    refine Lib.hid ⟨?_, Blk.new _ _ _, HB1.out.alloc _, (Keep.trans (M := []) ((Keep.refl _ _).alloc _) HK1.out).alloc _, ⟨Nat.le_succ _, by omega, Nat.le_refl _⟩, by omega⟩
    rw [← encC_eq c]
    have h1 := HD1.out
    rw [World.size_alloc] at h1
    exact h1.grow ((Keep.refl _ _).alloc _)
  generalize w1.alloc (.cells #[.int .i64 0, .int .i64 0, .int .i64 0, .string ⟨#[]⟩, .int .u64 0, .int .i64 0, .int .u32 0, .slice none 0 0, .int .i64 0, .int .i64 0, .int .i64 0] 81) = W0 at *
  generalize w.heap.size + 1 = d at *
  generalize w1.heap.size = q at *
  generalize hr : w.heap.size = r at *
  have HRW := Lib.hid hr
  clear hr
  clear HB1 HD1 HK1
  go_upto_region 4 with (go_at_call 192; refine (cur_i (most := 14) HI0.out.cur (by omega) (by omega) (by decide)).mono ?_; rintro e v0 ⟨rfl, hd, hk⟩; have HP := Lib.hid (HI0.out.step hk hd); have q0 : World.cell? v0 ⟨q, 0, none⟩ = some (.int .i64 0) := (HI0.out.step hk hd).pc.cell 0; have qf := (HI0.out.step hk hd).pc.frozen 0; clear hd hk HI0)
  have hI := HP.out.set 0 (.int .i64 (c.kind : Int))
  simp only [List.setIfInBounds_toArray, List.set_cons_zero] at hI
  have HI1 := Lib.hid hI
  clear q0 qf HP hI
  generalize (World.setCell v0 ⟨q, 0, none⟩ (.int .i64 (c.kind : Int))) = W1 at *
  go_upto_region 5 with (go_at_call 192; refine (cur_i (most := 1073741824) HI1.out.cur (by omega) (by omega) (by decide)).mono ?_; rintro e v1 ⟨rfl, hd, hk⟩; have HP := Lib.hid (HI1.out.step hk hd); have q0 : World.cell? v1 ⟨q, 1, none⟩ = some (.int .i64 0) := (HI1.out.step hk hd).pc.cell 1; have qf := (HI1.out.step hk hd).pc.frozen 1; clear hd hk HI1)
  have hI := HP.out.set 1 (.int .i64 (c.client : Int))
  simp only [List.setIfInBounds_toArray, List.set_cons_zero, List.set_cons_succ] at hI
  have HI2 := Lib.hid hI
  clear q0 qf HP hI
  generalize (World.setCell v1 ⟨q, 1, none⟩ (.int .i64 (c.client : Int))) = W2 at *
  go_upto_region 6 with (go_at_call 192; refine (cur_i (most := 1073741824) HI2.out.cur (by omega) (by omega) (by decide)).mono ?_; rintro e v2 ⟨rfl, hd, hk⟩; have HP := Lib.hid (HI2.out.step hk hd); have q0 : World.cell? v2 ⟨q, 2, none⟩ = some (.int .i64 0) := (HI2.out.step hk hd).pc.cell 2; have qf := (HI2.out.step hk hd).pc.frozen 2; clear hd hk HI2)
  have hI := HP.out.set 2 (.int .i64 (c.seq : Int))
  simp only [List.setIfInBounds_toArray, List.set_cons_zero, List.set_cons_succ] at hI
  have HI3 := Lib.hid hI
  clear q0 qf HP hI
  generalize (World.setCell v2 ⟨q, 2, none⟩ (.int .i64 (c.seq : Int))) = W3 at *
  go_upto_region 7 with (go_at_call 193; refine (cur_s (most := 32) HI3.out.cur (by omega) (by omega) (by decide)).mono ?_; rintro e v3 ⟨rfl, hd, hk⟩; have HP := Lib.hid (HI3.out.step hk hd); have q0 : World.cell? v3 ⟨q, 3, none⟩ = some (.string ⟨#[]⟩) := (HI3.out.step hk hd).pc.cell 3; have qf := (HI3.out.step hk hd).pc.frozen 3; clear hd hk HI3)
  have hI := HP.out.set 3 (.string (bs c.name))
  simp only [List.setIfInBounds_toArray, List.set_cons_zero, List.set_cons_succ] at hI
  have HI4 := Lib.hid hI
  clear q0 qf HP hI
  generalize (World.setCell v3 ⟨q, 3, none⟩ (.string (bs c.name))) = W4 at *
  go_upto_region 8 with (go_at_call 200; refine (cur_u HI4.out.cur (by omega)).mono ?_; rintro e v4 ⟨rfl, hd, hk⟩; have HP := Lib.hid (HI4.out.step hk hd); have q0 : World.cell? v4 ⟨q, 4, none⟩ = some (.int .u64 0) := (HI4.out.step hk hd).pc.cell 4; have qf := (HI4.out.step hk hd).pc.frozen 4; clear hd hk HI4)
  have hI := HP.out.set 4 (.int .u64 (c.blob : Int))
  simp only [List.setIfInBounds_toArray, List.set_cons_zero, List.set_cons_succ] at hI
  have HI5 := Lib.hid hI
  clear q0 qf HP hI
  generalize (World.setCell v4 ⟨q, 4, none⟩ (.int .u64 (c.blob : Int))) = W5 at *
  go_upto_region 9 with (go_at_call 192; refine (cur_i (most := 4000) HI5.out.cur (by omega) (by omega) (by decide)).mono ?_; rintro e v5 ⟨rfl, hd, hk⟩; have HP := Lib.hid (HI5.out.step hk hd); have q0 : World.cell? v5 ⟨q, 5, none⟩ = some (.int .i64 0) := (HI5.out.step hk hd).pc.cell 5; have qf := (HI5.out.step hk hd).pc.frozen 5; clear hd hk HI5)
  have hI := HP.out.set 5 (.int .i64 (c.size : Int))
  simp only [List.setIfInBounds_toArray, List.set_cons_zero, List.set_cons_succ] at hI
  have HI6 := Lib.hid hI
  clear q0 qf HP hI
  generalize (World.setCell v5 ⟨q, 5, none⟩ (.int .i64 (c.size : Int))) = W6 at *
  go_upto_region 10 with (go_at_call 200; refine (cur_u HI6.out.cur (by omega)).mono ?_; rintro e v6 ⟨rfl, hd, hk⟩; have HP := Lib.hid (HI6.out.step hk hd); have q0 : World.cell? v6 ⟨q, 6, none⟩ = some (.int .u32 0) := (HI6.out.step hk hd).pc.cell 6; have qf := (HI6.out.step hk hd).pc.frozen 6; clear hd hk HI6)
  go_upto_region 11 with fail
  have hI := HP.out.set 6 (.int .u32 (c.sum : Int))
  simp only [List.setIfInBounds_toArray, List.set_cons_zero, List.set_cons_succ] at hI
  have HI7 := Lib.hid hI
  clear q0 qf HP hI
  generalize (World.setCell v6 ⟨q, 6, none⟩ (.int .u32 (c.sum : Int))) = W7 at *
  go_upto_region 12 with (go_at_call 201; refine (cur_list (most := 6) (each := 5) HI7.out.cur (by omega) (by decide) (fun n hn => HD.out n hn) (by decide)).mono ?_; rintro e v7 ⟨dv, rfl, hdv, hnew, hd, hk, hfr⟩; have HFR := Lib.hid hfr; clear hfr; have hdv2 := hdv.at_; obtain ⟨A, cp, rfl, -⟩ := hdv2; have HDV := Lib.hid hdv; have HNW := Lib.hid hnew; have HP := Lib.hid (HI7.out.step hk hd); have q0 : World.cell? v7 ⟨q, 7, none⟩ = some (.slice none 0 0) := (HI7.out.step hk hd).pc.cell 7; have qf := (HI7.out.step hk hd).pc.frozen 7; clear hd hk hdv hnew)
  generalize hdvv : Value.slice A c.disks.length cp = dv at *
  have hI := HP.out.set 7 dv
  simp only [List.setIfInBounds_toArray, List.set_cons_zero, List.set_cons_succ] at hI
  have HI8 := Lib.hid hI
  have HV8 : Hid (IntSl (World.setCell v7 ⟨q, 7, none⟩ dv) dv c.disks) := Lib.hid (HDV.out.apart (r := q) ((Keep.refl [q] _).setCell (.inl (by simp)) _) HP.out.pc (by decide))
  have HNW2 : Hid (∀ k, dv.ownBlock = some k → w.heap.size ≤ k) := Lib.hid (fun k hk => Nat.le_trans HI7.out.keep.size (HNW.out k hk))
  clear q0 qf HP HDV HNW HI7 hI
  generalize (World.setCell v7 ⟨q, 7, none⟩ dv) = W8 at *
  subst hdvv
  go_upto_region 13 with (go_at_call 192; refine (cur_i (most := 1) HI8.out.cur (by omega) (by omega) (by decide)).mono ?_; rintro e v8 ⟨rfl, hd, hk⟩; have HP := Lib.hid (HI8.out.step hk hd); have HVP := Lib.hid (HV8.out.cur hk HI8.out.cur); have q0 : World.cell? v8 ⟨q, 8, none⟩ = some (.int .i64 0) := (HI8.out.step hk hd).pc.cell 8; have qf := (HI8.out.step hk hd).pc.frozen 8; clear hd hk HI8)
  have hI := HP.out.set 8 (.int .i64 (c.pool : Int))
  simp only [List.setIfInBounds_toArray, List.set_cons_zero, List.set_cons_succ] at hI
  have HI9 := Lib.hid hI
  have HV9 := Lib.hid (HVP.out.apart (r := q) ((Keep.refl [q] _).setCell (p := ⟨q, 8, none⟩) (.inl (by simp)) (.int .i64 (c.pool : Int))) HP.out.pc (by decide))
  clear q0 qf HP hI HVP HV8
  generalize (World.setCell v8 ⟨q, 8, none⟩ (.int .i64 (c.pool : Int))) = W9 at *
  go_upto_region 14 with (go_at_call 192; refine (cur_i (most := 11) HI9.out.cur (by omega) (by omega) (by decide)).mono ?_; rintro e v9 ⟨rfl, hd, hk⟩; have HP := Lib.hid (HI9.out.step hk hd); have HVP := Lib.hid (HV9.out.cur hk HI9.out.cur); have q0 : World.cell? v9 ⟨q, 9, none⟩ = some (.int .i64 0) := (HI9.out.step hk hd).pc.cell 9; have qf := (HI9.out.step hk hd).pc.frozen 9; clear hd hk HI9)
  have hI := HP.out.set 9 (.int .i64 (c.vol : Int))
  simp only [List.setIfInBounds_toArray, List.set_cons_zero, List.set_cons_succ] at hI
  have HI10 := Lib.hid hI
  have HV10 := Lib.hid (HVP.out.apart (r := q) ((Keep.refl [q] _).setCell (p := ⟨q, 9, none⟩) (.inl (by simp)) (.int .i64 (c.vol : Int))) HP.out.pc (by decide))
  clear q0 qf HP hI HVP HV9
  generalize (World.setCell v9 ⟨q, 9, none⟩ (.int .i64 (c.vol : Int))) = W10 at *
  go_upto_region 15 with (go_at_call 192; refine (cur_i (most := 1073741824) HI10.out.cur (by omega) (by omega) (by decide)).mono ?_; rintro e v10 ⟨rfl, hd, hk⟩; have HP := Lib.hid (HI10.out.step hk hd); have HVP := Lib.hid (HV10.out.cur hk HI10.out.cur); have q0 : World.cell? v10 ⟨q, 10, none⟩ = some (.int .i64 0) := (HI10.out.step hk hd).pc.cell 10; have qf := (HI10.out.step hk hd).pc.frozen 10; clear hd hk HI10)
  have hI := HP.out.set 10 (.int .i64 (c.at_ : Int))
  simp only [List.setIfInBounds_toArray, List.set_cons_zero, List.set_cons_succ] at hI
  have HI11 := Lib.hid hI
  have HV11 := Lib.hid (HVP.out.apart (r := q) ((Keep.refl [q] _).setCell (p := ⟨q, 10, none⟩) (.inl (by simp)) (.int .i64 (c.at_ : Int))) HP.out.pc (by decide))
  clear q0 qf HP hI HVP HV10
  generalize (World.setCell v10 ⟨q, 10, none⟩ (.int .i64 (c.at_ : Int))) = W11 at *
  have q0 : W11.cell? ⟨q, 0, none⟩ = some (.int .i64 (c.kind : Int)) := HI11.out.pc.cell 0
  have q1 : W11.cell? ⟨q, 1, none⟩ = some (.int .i64 (c.client : Int)) := HI11.out.pc.cell 1
  have q2 : W11.cell? ⟨q, 2, none⟩ = some (.int .i64 (c.seq : Int)) := HI11.out.pc.cell 2
  have q3 : W11.cell? ⟨q, 3, none⟩ = some (.string (bs c.name)) := HI11.out.pc.cell 3
  have q4 : W11.cell? ⟨q, 4, none⟩ = some (.int .u64 (c.blob : Int)) := HI11.out.pc.cell 4
  have q5 : W11.cell? ⟨q, 5, none⟩ = some (.int .i64 (c.size : Int)) := HI11.out.pc.cell 5
  have q6 : W11.cell? ⟨q, 6, none⟩ = some (.int .u32 (c.sum : Int)) := HI11.out.pc.cell 6
  have q7 : W11.cell? ⟨q, 7, none⟩ = some (.slice A c.disks.length cp) := HI11.out.pc.cell 7
  have q8 : W11.cell? ⟨q, 8, none⟩ = some (.int .i64 (c.pool : Int)) := HI11.out.pc.cell 8
  have q9 : W11.cell? ⟨q, 9, none⟩ = some (.int .i64 (c.vol : Int)) := HI11.out.pc.cell 9
  have q10 : W11.cell? ⟨q, 10, none⟩ = some (.int .i64 (c.at_ : Int)) := HI11.out.pc.cell 10
  go_upto_region 17 with (go_at_call 202; refine (HG.out _ _ HV11.out).mono ?_; rintro e v11 ⟨rfl, hk⟩; have HK11 := Lib.hid hk; clear hk)
  clear q0 q1 q2 q3 q4 q5 q6 q7 q8 q9 q10
  go_upto_region 18 with (go_at_call 198; refine (cur_done (HI11.out.cur.grow HK11.out)).mono ?_; rintro e v12 ⟨rfl, hk⟩; have HK12 := Lib.hid hk; clear hk)
  have hP := (HI11.out.pc.keep HK11.out (by simp)).keep HK12.out (by simpa using HI11.out.qd.1)
  have hR := (HI11.out.res.keep HK11.out (by simp)).keep HK12.out (by simpa using HI11.out.qd.2)
  have q0 : v12.cell? ⟨q, 0, none⟩ = some (.int .i64 (c.kind : Int)) := hP.cell 0
  have q1 : v12.cell? ⟨q, 1, none⟩ = some (.int .i64 (c.client : Int)) := hP.cell 1
  have q2 : v12.cell? ⟨q, 2, none⟩ = some (.int .i64 (c.seq : Int)) := hP.cell 2
  have q3 : v12.cell? ⟨q, 3, none⟩ = some (.string (bs c.name)) := hP.cell 3
  have q4 : v12.cell? ⟨q, 4, none⟩ = some (.int .u64 (c.blob : Int)) := hP.cell 4
  have q5 : v12.cell? ⟨q, 5, none⟩ = some (.int .i64 (c.size : Int)) := hP.cell 5
  have q6 : v12.cell? ⟨q, 6, none⟩ = some (.int .u32 (c.sum : Int)) := hP.cell 6
  have q7 : v12.cell? ⟨q, 7, none⟩ = some (.slice A c.disks.length cp) := hP.cell 7
  have q8 : v12.cell? ⟨q, 8, none⟩ = some (.int .i64 (c.pool : Int)) := hP.cell 8
  have q9 : v12.cell? ⟨q, 9, none⟩ = some (.int .i64 (c.vol : Int)) := hP.cell 9
  have q10 : v12.cell? ⟨q, 10, none⟩ = some (.int .i64 (c.at_ : Int)) := hP.cell 10
  have z0 : v12.cell? ⟨r, 0, none⟩ = some (.int .i64 0) := hR.cell 0
  have z1 : v12.cell? ⟨r, 1, none⟩ = some (.int .i64 0) := hR.cell 1
  have z2 : v12.cell? ⟨r, 2, none⟩ = some (.int .i64 0) := hR.cell 2
  have z3 : v12.cell? ⟨r, 3, none⟩ = some (.string ⟨#[]⟩) := hR.cell 3
  have z4 : v12.cell? ⟨r, 4, none⟩ = some (.int .u64 0) := hR.cell 4
  have z5 : v12.cell? ⟨r, 5, none⟩ = some (.int .i64 0) := hR.cell 5
  have z6 : v12.cell? ⟨r, 6, none⟩ = some (.int .u32 0) := hR.cell 6
  have z7 : v12.cell? ⟨r, 7, none⟩ = some (.slice none 0 0) := hR.cell 7
  have z8 : v12.cell? ⟨r, 8, none⟩ = some (.int .i64 0) := hR.cell 8
  have z9 : v12.cell? ⟨r, 9, none⟩ = some (.int .i64 0) := hR.cell 9
  have z10 : v12.cell? ⟨r, 10, none⟩ = some (.int .i64 0) := hR.cell 10
  have zf := hR.frozen
  have HRR := Lib.hid hR
  clear hP hR
  go_wp2
  clear q0 q1 q2 q3 q4 q5 q6 q7 q8 q9 q10
  have HKF : Hid (Keep [] w v12) := Lib.hid ((HI11.out.keep.trans HK11.out).trans' HK12.out (fun x hx => by simp only [List.mem_singleton] at hx; exact .inr (hx ▸ HI11.out.lo.1)))
  have HVF : Hid (IntSl v12 (.slice A c.disks.length cp) c.disks) := Lib.hid ((HV11.out.grow HK11.out).cur HK12.out (HI11.out.cur.grow HK11.out))
  refine bodyPost_ret (v := .tuple #[.agg (c.cells (.slice A c.disks.length cp)), .int .i64 0]) (by simp [results, Tryz.results124, go_sem, z0, z1, z2, z3, z4, z5, z6, z7, z8, z9, z10, Cm.cells]) rfl ⟨_, rfl, ?_, ?_, ?_, HFR.out⟩
  · refine HVF.out.apart (r := r) ?_ HRR.out (by decide)
    repeat (first | refine Keep.setCell ?_ (.inl (by simp)) _ | exact Keep.refl _ _)
  · exact HNW2.out
  · repeat (first | refine Keep.setCell ?_ (.inr (Nat.le_of_eq HRW.out)) _ | exact HKF.out)
end
end Go.Proofs.YtpnoiagjgkajdaaGreatDoor
