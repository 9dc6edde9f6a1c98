/- The contracts of glacierref06.Find and glacierref19. -/
import Derived.Test.YtkplffkchanipaaGreatDoorChRef
import Derived.Handy
import Derived.Test.YtkplffkchanipaaGreatDoorNodesA
import Derived.Deep.QuietTactic
import Derived.BigQuiet
namespace Go.Proofs.YtkplffkchanipaaGreatDoor
open Go.RowKit
attribute [local go_sem] size_bs bs_append

/-- What Find answers. -/
def findV (i : Nat) (l : List (Nat × List UInt8)) : Int := match findX i l with
  | none => -1
  | some k => (k : Int)
theorem find_at (i : Nat) : ∀ (l : List (Nat × List UInt8)) (k : Nat) (h : k < l.length), (∀ j (hj : j < k), (l[j]'(by omega)).1 ≠ i) → l[k].1 = i → findX i l = some k
  | [], _, h, _, _ => by simp at h
  | p :: l, 0, _, _, h2 => by simp only [List.getElem_cons_zero] at h2; simp [findX, h2]
  | p :: l, k + 1, h, h1, h2 => by
    have h0 := h1 0 (by omega)
    simp only [List.getElem_cons_zero] at h0
    simp only [List.getElem_cons_succ] at h2
    rw [findX, if_neg h0, find_at i l k (by simpa using h) (fun j hj => by have := h1 (j + 1) (by omega); simpa using this) h2]
    rfl
theorem find_off (i : Nat) : ∀ (l : List (Nat × List UInt8)), (∀ j (hj : j < l.length), l[j].1 ≠ i) → findX i l = none
  | [], _ => rfl
  | p :: l, h => by
    have h0 := h 0 (by simp)
    simp only [List.getElem_cons_zero] at h0
    rw [findX, if_neg h0, find_off i l fun j hj => by have := h (j + 1) (by simpa using hj); simpa using this]
    rfl
set_option maxRecDepth 100000 in
set_option maxHeartbeats 1600000 in
theorem findX_calls (l : List (Nat × List UInt8)) (v : Value) (i0 : Nat) (w : World) (hE : ChsAt w v l) (hn : l.length ≤ 1000000000) :
    Calls Tryz.prog 76 #[v, .int .u64 (i0 : Int)] w fun e w' => e = .returned (.int .i64 (findV i0 l)) ∧ Keep [] w w' := by
  obtain ⟨A0, c0, rfl, hcc⟩ := hE
  have HCC := Lib.hid hcc
  clear hcc
  go_enter Tryz.func76, Tryz.ntmps76
  go_wp2
  go_loopw [9] (fun x wr => ∃ k : Nat, k ≤ l.length ∧ x = .int .i64 (k : Int) ∧ (∀ j (hj : j < l.length), j < k → l[j].1 ≠ i0) ∧ Keep [] w wr) (fun x _ => l.length - (intOf x).toNat)
  case atStart => exact ⟨0, Nat.zero_le _, rfl, fun j _ h => absurd h (Nat.not_lt_zero j), Keep.refl _ _⟩
  case round =>
    obtain ⟨k, hk, rfl, hno, hkeep⟩ := hrel
    have HK := Lib.hid hkeep
    have HN := Lib.hid hno
    clear hno
    by_cases hlt : k < l.length
    · have d1 : decide ((k : Int) < (l.length : Int)) = true := by simp; omega
      obtain ⟨g, o, rfl, hc⟩ := HCC.out (by intro h; rw [h] at hlt; simp at hlt)
      obtain ⟨q0, q1⟩ := hc k hlt
      have x0 := (hkeep.cell (World.block_lt_of_cell? _ _ q0) (by simp)).trans q0
      have x1 := (hkeep.cell (World.block_lt_of_cell? _ _ q1) (by simp)).trans q1
      clear hc q0 q1 hkeep
      by_cases he : l[k].1 = i0
      · have b1 : ((l[k].1 : Int) == (i0 : Int)) = true := by rw [beq_iff_eq]; omega
        have hf := find_at i0 l k hlt (fun j hj => HN.out j (by omega) hj) he
        have hv : findV i0 l = (k : Int) := by unfold findV; rw [hf]
        have HV := Lib.hid hv
        clear hv hf he
        generalize l[k] = ee at *
        obtain ⟨ei, ed⟩ := ee
        simp only at x0 x1 b1
        go_wp2
        go_ret
        exact ⟨by rw [HV.out]; rfl, HK.out.alloc _⟩
      · have b1 : ((l[k].1 : Int) == (i0 : Int)) = false := by rw [beq_eq_false_iff_ne]; omega
        have HE := Lib.hid he
        clear he
        have HL : Hid (∀ j (hj : j < l.length), j < k + 1 → l[j].1 ≠ i0) := fun j hj h => by
          by_cases e : j = k
          · subst e; exact HE.out
          · exact HN.out j hj (by omega)
        clear HE
        generalize hee : l[k] = ee at *
        obtain ⟨ei, ed⟩ := ee
        simp only at x0 x1 b1
        clear hee
        go_wp2
        go_roundw
        case rel => exact ⟨k + 1, by omega, by go_num, HL.out, HK.out.alloc _⟩
        case measure => simp [intOf]; omega
    · obtain rfl : k = l.length := by omega
      have d1 : decide ((l.length : Int) < (l.length : Int)) = false := by simp
      have hf := find_off i0 l fun j hj => HN.out j hj hj
      have hv : findV i0 l = -1 := by unfold findV; rw [hf]
      have HV := Lib.hid hv
      clear hkeep hv hf
      go_wp2
      go_ret
      exact ⟨by rw [HV.out]; rfl, HK.out⟩
theorem findV_none {i : Nat} {l : List (Nat × List UInt8)} (h : lookX i l = none) : findV i l = -1 := by
  have h2 := find_off i l fun j hj => look_noneX.1 h _ (List.getElem_mem hj)
  unfold findV
  rw [h2]
theorem find_lt {i : Nat} : ∀ {l : List (Nat × List UInt8)} {k : Nat}, findX i l = some k → k < l.length
  | [], _, h => by simp [findX] at h
  | p :: l, k, h => by
    unfold findX at h
    split at h
    · simp only [Option.some.injEq] at h
      subst h
      simp
    · cases hf : findX i l with
      | none => rw [hf] at h; cases h
      | some j =>
        rw [hf] at h
        have := find_lt hf
        simp only [Option.map_some, Option.some.injEq] at h
        subst h
        simpa using this
theorem findV_some {i : Nat} {d : List UInt8} {l : List (Nat × List UInt8)} (h : lookX i l = some d) : ∃ k, ∃ hk : k < l.length, findV i l = (k : Int) ∧ l[k].2 = d := by
  have h2 := find_look i l
  rw [h] at h2
  cases hf : findX i l with
  | none => rw [hf] at h2; cases h2
  | some k =>
    have hk := find_lt hf
    rw [hf] at h2
    simp only [Option.bind_some, List.getElem?_eq_getElem hk, Option.map_some, Option.some.injEq] at h2
    exact ⟨k, hk, by unfold findV; rw [hf], h2.symm⟩

/-- A node, as the document has it. -/
def ndV (v : Value) (u lo : Bool) : Value := .agg #[v, .bool u, .bool lo]
set_option maxRecDepth 100000 in
set_option maxHeartbeats 400000 in
theorem rup_calls (v : Value) (u lo : Bool) (w : World) :
    Calls Tryz.prog 75 #[ndV v u lo] w fun e w' => e = .returned (.bool (u && !lo)) ∧ Keep [] w w' := by
  unfold ndV
  cases u with
  | false =>
    go_enter Tryz.func75, Tryz.ntmps75
    go_wp2
    go_ret
    exact ⟨rfl, (Keep.refl _ _).alloc _⟩
  | true =>
    cases lo with
    | false =>
      go_enter Tryz.func75, Tryz.ntmps75
      go_wp2
      go_ret
      exact ⟨rfl, (Keep.refl _ _).alloc _⟩
    | true =>
      go_enter Tryz.func75, Tryz.ntmps75
      go_wp2
      go_ret
      exact ⟨rfl, (Keep.refl _ _).alloc _⟩

theorem box2 {w w1 : World} {A B : Array Value} {tA tB : TypeId} (hk : Keep [] ((w.alloc (.cells A tA)).alloc (.cells B tB)) w1) :
    Blk w1 w.heap.size tA A ∧ Blk w1 (w.heap.size + 1) tB B ∧ Keep [] w w1 := by
  have h1 : Blk ((w.alloc (.cells A tA)).alloc (.cells B tB)) w.heap.size tA A := (Blk.new w tA A).alloc _
  have h2 : Blk ((w.alloc (.cells A tA)).alloc (.cells B tB)) (w.heap.size + 1) tB B := by
    have h := Blk.new (w.alloc (.cells A tA)) tB B
    rw [World.size_alloc] at h
    exact h
  exact ⟨h1.keep hk (by simp), h2.keep hk (by simp), (((Keep.refl [] w).alloc _).alloc _).trans hk⟩
theorem box3 {w w1 : World} {A B C : Array Value} {tA tB tC : TypeId} (hk : Keep [] (((w.alloc (.cells A tA)).alloc (.cells B tB)).alloc (.cells C tC)) w1) :
    Blk w1 w.heap.size tA A ∧ Blk w1 (w.heap.size + 1) tB B ∧ Blk w1 (w.heap.size + 2) tC C ∧ Keep [] w w1 := by
  have h0 : Keep [] ((w.alloc (.cells A tA)).alloc (.cells B tB)) w1 := ((Keep.refl [] _).alloc _).trans hk
  obtain ⟨h1, h2, h3⟩ := box2 h0
  have h4 : Blk (((w.alloc (.cells A tA)).alloc (.cells B tB)).alloc (.cells C tC)) (w.heap.size + 2) tC C := by
    have h := Blk.new ((w.alloc (.cells A tA)).alloc (.cells B tB)) tC C
    rw [World.size_alloc, World.size_alloc] at h
    exact h
  exact ⟨h1, h2, h4.keep hk (by simp), h3⟩
variable {w : World} {v : Value} {u lo : Bool} {l : List (Nat × List UInt8)} {i : Nat}

set_option maxRecDepth 100000 in
set_option maxHeartbeats 400000 in
theorem rget_off (h : (u && !lo) = false) (x : Int) :
    Calls Tryz.prog 47 #[.agg #[v, .bool u, .bool lo], .int .u64 x] w fun e w' => e = .returned (.tuple #[.string (bs []), .int .i64 9]) ∧ Keep [] w w' := by
  have HU : Hid (∀ W, Calls Tryz.prog 75 #[.agg #[v, .bool u, .bool lo]] W fun e w' => e = .returned (.bool false) ∧ Keep [] W w') := fun W => by
    have T := rup_calls v u lo W
    rw [h] at T
    exact T
  clear h
  go_enter Tryz.func47, Tryz.ntmps47
  go_wp2_with (go_at_call 75; refine (HU.out _).mono ?_; rintro e w1 ⟨rfl, hk⟩; have HK1 := Lib.hid hk; clear hk)
  go_ret2
  exact ⟨rfl, ((Keep.refl [] _).alloc _).trans HK1.out⟩

/- The chunks of a node that is up. -/
set_option maxRecDepth 100000 in
set_option maxHeartbeats 400000 in
theorem rget_none (hE : ChsAt w v l) (hn : l.length ≤ 1000000) (hx : lookX i l = none) :
    Calls Tryz.prog 47 #[.agg #[v, .bool true, .bool false], .int .u64 (i : Int)] w fun e w' => e = .returned (.tuple #[.string (bs []), .int .i64 5]) ∧ Keep [] w w' := by
  have HU : Hid (∀ W, Calls Tryz.prog 75 #[.agg #[v, .bool true, .bool false]] W fun e w' => e = .returned (.bool true) ∧ Keep [] W w') := fun W => rup_calls v true false W
  have HF := fun (W : World) (hW : Keep [] w W) => findX_calls l v i W (hE.keep hW) (by omega)
  rw [findV_none hx] at HF
  have HF2 := Lib.hid HF
  obtain ⟨A0, c0, rfl, -⟩ := hE
  clear hx HF
  go_enter Tryz.func47, Tryz.ntmps47
  go_wp2_with (first
    | (go_at_call 75; refine (HU.out _).mono ?_; rintro e w1 ⟨rfl, hk⟩; have hb2 : Blk w1 w.heap.size 84 #[.slice A0 l.length c0, .bool true, .bool false] := (Blk.new w _ _).keep hk (by simp); have z20 : w1.cell? ⟨w.heap.size, 0, none⟩ = some (.slice A0 l.length c0) := hb2.cell 0; have HK1 : Hid (Keep [] w w1) := ((Keep.refl [] _).alloc _).trans hk; clear hk hb2)
    | (go_at_call 76; refine (HF2.out _ HK1.out).mono ?_; rintro e w2 ⟨rfl, hk⟩; have HK2 := Lib.hid hk; clear hk))
  go_ret2
  exact ⟨rfl, HK1.out.trans HK2.out⟩
set_option maxRecDepth 100000 in
set_option maxHeartbeats 400000 in
theorem rget_some (hE : ChsAt w v l) (hn : l.length ≤ 1000000) {d : List UInt8} (hx : lookX i l = some d) :
    Calls Tryz.prog 47 #[.agg #[v, .bool true, .bool false], .int .u64 (i : Int)] w fun e w' => e = .returned (.tuple #[.string (bs d), .int .i64 0]) ∧ Keep [] w w' := by
  have HU : Hid (∀ W, Calls Tryz.prog 75 #[.agg #[v, .bool true, .bool false]] W fun e w' => e = .returned (.bool true) ∧ Keep [] W w') := fun W => rup_calls v true false W
  have HF := fun (W : World) (hW : Keep [] w W) => findX_calls l v i W (hE.keep hW) (by omega)
  obtain ⟨k, hk, hfv, hkd⟩ := findV_some hx
  rw [hfv] at HF
  have HF2 := Lib.hid HF
  obtain ⟨A0, c0, rfl, hcc⟩ := hE
  obtain ⟨g, o, rfl, hc⟩ := hcc (by intro h; rw [h] at hk; simp at hk)
  obtain ⟨_, q1⟩ := hc k hk
  rw [hkd] at q1
  have HQ := Lib.hid q1
  have d1 : decide ((k : Int) < 0) = false := decide_eq_false (by omega)
  clear hx HF hcc hc q1 hkd hfv
  go_enter Tryz.func47, Tryz.ntmps47
  go_wp2_with (first
    | (go_at_call 75; refine (HU.out _).mono ?_; rintro e w1 ⟨rfl, hk⟩; have hb2 : Blk w1 w.heap.size 84 #[.slice (some ⟨g, o, none⟩) l.length c0, .bool true, .bool false] := (Blk.new w _ _).keep hk (by simp); have z20 : w1.cell? ⟨w.heap.size, 0, none⟩ = some (.slice (some ⟨g, o, none⟩) l.length c0) := hb2.cell 0; have HB2 := Lib.hid hb2; have HK1 : Hid (Keep [] w w1) := ((Keep.refl [] _).alloc _).trans hk; clear hk hb2)
    | (go_at_call 76; refine (HF2.out _ HK1.out).mono ?_; rintro e w2 ⟨rfl, hk⟩; have z20 : w2.cell? ⟨w.heap.size, 0, none⟩ = some (.slice (some ⟨g, o, none⟩) l.length c0) := (HB2.out.keep hk (by simp)).cell 0; have q1 : w2.cell? ⟨g, o + k * 2 + 1, none⟩ = some (.string (bs d)) := ((HK1.out.trans hk).cell (World.block_lt_of_cell? _ _ HQ.out) (by simp)).trans HQ.out; have HK2 := Lib.hid hk; clear hk))
  go_ret2
  exact ⟨rfl, HK1.out.trans HK2.out⟩

end Go.Proofs.YtkplffkchanipaaGreatDoor
/- The contracts of glacierref19: Drop, Put. -/
namespace Go.Proofs.YtkplffkchanipaaGreatDoor
open Go.RowKit
attribute [local go_sem] size_bs bs_append
variable {w : World} {v : Value} {u lo : Bool} {l : List (Nat × List UInt8)} {i : Nat}

set_option maxRecDepth 100000 in
set_option maxHeartbeats 400000 in
theorem rdrop_off (A : Option Addr) (n c : Nat) (h : (u && !lo) = false) (x : Int) :
    Calls Tryz.prog 46 #[.agg #[.slice A n c, .bool u, .bool lo], .int .u64 x] w fun e w' => e = .returned (.tuple #[.agg #[.slice A n c, .bool u, .bool lo], .int .i64 9]) ∧ Keep [] w w' := by
  have HU : Hid (∀ W, Calls Tryz.prog 75 #[.agg #[.slice A n c, .bool u, .bool lo]] W fun e w' => e = .returned (.bool false) ∧ Keep [] W w') := fun W => by
    have T := rup_calls (.slice A n c) u lo W
    rw [h] at T
    exact T
  clear h
  go_enter Tryz.func46, Tryz.ntmps46
  go_wp2_with (go_at_call 75; refine (HU.out _).mono ?_; rintro e w1 ⟨rfl, hk⟩; obtain ⟨hb2, hb4, hk1⟩ := box2 hk; have z20 : w1.cell? ⟨w.heap.size, 0, none⟩ = some (.slice A n c) := hb2.cell 0; have z21 : w1.cell? ⟨w.heap.size, 1, none⟩ = some (.bool u) := hb2.cell 1; have z22 : w1.cell? ⟨w.heap.size, 2, none⟩ = some (.bool lo) := hb2.cell 2; have f40 := hb4.frozen 0; have f41 := hb4.frozen 1; have f42 := hb4.frozen 2; have z40 := hb4.cell 0; have z41 := hb4.cell 1; have z42 := hb4.cell 2; have HB2 := Lib.hid hb2; have HB4 := Lib.hid hb4; have HK1 := Lib.hid hk1; clear hb2 hb4 hk1 hk)
  have hb4 : Blk (((w1.setCell ⟨w.heap.size + 1, 0, none⟩ (.slice A n c)).setCell ⟨w.heap.size + 1, 1, none⟩ (.bool u)).setCell ⟨w.heap.size + 1, 2, none⟩ (.bool lo)) (w.heap.size + 1) 84 #[.slice A n c, .bool u, .bool lo] := (((HB4.out).set_ 0 _).set_ 1 _).set_ 2 _
  have hk9 : Keep [w.heap.size + 1] _ (((w1.setCell ⟨w.heap.size + 1, 0, none⟩ (.slice A n c)).setCell ⟨w.heap.size + 1, 1, none⟩ (.bool u)).setCell ⟨w.heap.size + 1, 2, none⟩ (.bool lo)) := (((Keep.refl _ _).setCell (.inl (by simp)) _).setCell (.inl (by simp)) _).setCell (.inl (by simp)) _
  have c40 : World.cell? (((w1.setCell ⟨w.heap.size + 1, 0, none⟩ (.slice A n c)).setCell ⟨w.heap.size + 1, 1, none⟩ (.bool u)).setCell ⟨w.heap.size + 1, 2, none⟩ (.bool lo)) ⟨w.heap.size + 1, 0, none⟩ = some (.slice A n c) := hb4.cell 0
  have c41 : World.cell? (((w1.setCell ⟨w.heap.size + 1, 0, none⟩ (.slice A n c)).setCell ⟨w.heap.size + 1, 1, none⟩ (.bool u)).setCell ⟨w.heap.size + 1, 2, none⟩ (.bool lo)) ⟨w.heap.size + 1, 1, none⟩ = some (.bool u) := hb4.cell 1
  have c42 : World.cell? (((w1.setCell ⟨w.heap.size + 1, 0, none⟩ (.slice A n c)).setCell ⟨w.heap.size + 1, 1, none⟩ (.bool u)).setCell ⟨w.heap.size + 1, 2, none⟩ (.bool lo)) ⟨w.heap.size + 1, 2, none⟩ = some (.bool lo) := hb4.cell 2
  generalize (((w1.setCell ⟨w.heap.size + 1, 0, none⟩ (.slice A n c)).setCell ⟨w.heap.size + 1, 1, none⟩ (.bool u)).setCell ⟨w.heap.size + 1, 2, none⟩ (.bool lo)) = W at *
  (try simp only [Exit.inBlock, Exit.then])
  refine bodyPost_ret (by simp [results, Tryz.results46, go_sem, c40, c41, c42]; try rfl) rfl ?_
  exact ⟨rfl, HK1.out.trans' hk9 (by simp)⟩

set_option maxRecDepth 100000 in
set_option maxHeartbeats 400000 in
theorem rdrop_none (hE : ChsAt w v l) (hn : l.length ≤ 1000000) (hx : lookX i l = none) :
    Calls Tryz.prog 46 #[.agg #[v, .bool true, .bool false], .int .u64 (i : Int)] w fun e w' => e = .returned (.tuple #[.agg #[v, .bool true, .bool false], .int .i64 5]) ∧ Keep [] w w' := by
  have HU : Hid (∀ W, Calls Tryz.prog 75 #[.agg #[v, .bool true, .bool false]] W fun e w' => e = .returned (.bool true) ∧ Keep [] W w') := fun W => rup_calls v true false W
  have HF := fun (W : World) (hW : Keep [] w W) => findX_calls l v i W (hE.keep hW) (by omega)
  rw [findV_none hx] at HF
  have HF2 := Lib.hid HF
  obtain ⟨A, c, rfl, -⟩ := hE
  clear hx HF
  go_enter Tryz.func46, Tryz.ntmps46
  go_wp2_with (first | (go_at_call 75; refine (HU.out _).mono ?_; rintro e w1 ⟨rfl, hk⟩; obtain ⟨hb2, hb4, hk1⟩ := box2 hk; have z20 : w1.cell? ⟨w.heap.size, 0, none⟩ = some (.slice A l.length c) := hb2.cell 0; have z21 : w1.cell? ⟨w.heap.size, 1, none⟩ = some (.bool true) := hb2.cell 1; have z22 : w1.cell? ⟨w.heap.size, 2, none⟩ = some (.bool false) := hb2.cell 2; have f40 := hb4.frozen 0; have f41 := hb4.frozen 1; have f42 := hb4.frozen 2; have z40 := hb4.cell 0; have z41 := hb4.cell 1; have z42 := hb4.cell 2; have HB2 := Lib.hid hb2; have HB4 := Lib.hid hb4; have HK1 := Lib.hid hk1; clear hb2 hb4 hk1 hk) | (go_at_call 76; refine (HF2.out _ HK1.out).mono ?_; rintro e w2 ⟨rfl, hk⟩; have hb2 := HB2.out.keep hk (by simp); have hb4 := HB4.out.keep hk (by simp); have z20 : w2.cell? ⟨w.heap.size, 0, none⟩ = some (.slice A l.length c) := hb2.cell 0; have z21 : w2.cell? ⟨w.heap.size, 1, none⟩ = some (.bool true) := hb2.cell 1; have z22 : w2.cell? ⟨w.heap.size, 2, none⟩ = some (.bool false) := hb2.cell 2; have f40 := hb4.frozen 0; have f41 := hb4.frozen 1; have f42 := hb4.frozen 2; have z40 := hb4.cell 0; have z41 := hb4.cell 1; have z42 := hb4.cell 2; have f20 := hb2.frozen 0; have HB2 := Lib.hid hb2; have HB4 := Lib.hid hb4; have HK2 : Hid (Keep [] w w2) := HK1.out.trans hk; clear hb2 hb4 hk))
  have hb4 : Blk (((w2.setCell ⟨w.heap.size + 1, 0, none⟩ (.slice A l.length c)).setCell ⟨w.heap.size + 1, 1, none⟩ (.bool true)).setCell ⟨w.heap.size + 1, 2, none⟩ (.bool false)) (w.heap.size + 1) 84 #[.slice A l.length c, .bool true, .bool false] := (((HB4.out).set_ 0 _).set_ 1 _).set_ 2 _
  have hk9 : Keep [w.heap.size + 1] _ (((w2.setCell ⟨w.heap.size + 1, 0, none⟩ (.slice A l.length c)).setCell ⟨w.heap.size + 1, 1, none⟩ (.bool true)).setCell ⟨w.heap.size + 1, 2, none⟩ (.bool false)) := (((Keep.refl _ _).setCell (.inl (by simp)) _).setCell (.inl (by simp)) _).setCell (.inl (by simp)) _
  have c40 : World.cell? (((w2.setCell ⟨w.heap.size + 1, 0, none⟩ (.slice A l.length c)).setCell ⟨w.heap.size + 1, 1, none⟩ (.bool true)).setCell ⟨w.heap.size + 1, 2, none⟩ (.bool false)) ⟨w.heap.size + 1, 0, none⟩ = some (.slice A l.length c) := hb4.cell 0
  have c41 : World.cell? (((w2.setCell ⟨w.heap.size + 1, 0, none⟩ (.slice A l.length c)).setCell ⟨w.heap.size + 1, 1, none⟩ (.bool true)).setCell ⟨w.heap.size + 1, 2, none⟩ (.bool false)) ⟨w.heap.size + 1, 1, none⟩ = some (.bool true) := hb4.cell 1
  have c42 : World.cell? (((w2.setCell ⟨w.heap.size + 1, 0, none⟩ (.slice A l.length c)).setCell ⟨w.heap.size + 1, 1, none⟩ (.bool true)).setCell ⟨w.heap.size + 1, 2, none⟩ (.bool false)) ⟨w.heap.size + 1, 2, none⟩ = some (.bool false) := hb4.cell 2
  generalize (((w2.setCell ⟨w.heap.size + 1, 0, none⟩ (.slice A l.length c)).setCell ⟨w.heap.size + 1, 1, none⟩ (.bool true)).setCell ⟨w.heap.size + 1, 2, none⟩ (.bool false)) = W at *
  (try simp only [Exit.inBlock, Exit.then])
  refine bodyPost_ret (by simp [results, Tryz.results46, go_sem, c40, c41, c42]; try rfl) rfl ?_
  exact ⟨rfl, HK2.out.trans' hk9 (by simp)⟩

set_option maxRecDepth 100000 in
set_option maxHeartbeats 800000 in
theorem rdrop_some (hE : ChsAt w v l) (hn : l.length ≤ 1000000) {d : List UInt8} (hx : lookX i l = some d) :
    Calls Tryz.prog 46 #[.agg #[v, .bool true, .bool false], .int .u64 (i : Int)] w fun e w' => ∃ g c, e = .returned (.tuple #[.agg #[.slice (some ⟨g, 0, none⟩) (dropX i l).length c, .bool true, .bool false], .int .i64 0]) ∧ OwnX w' w.heap.size (.slice (some ⟨g, 0, none⟩) (dropX i l).length c) (dropX i l) ∧ Keep [] w w' := by
  have HU : Hid (∀ W, Calls Tryz.prog 75 #[.agg #[v, .bool true, .bool false]] W fun e w' => e = .returned (.bool true) ∧ Keep [] W w') := fun W => rup_calls v true false W
  have HF := fun (W : World) (hW : Keep [] w W) => findX_calls l v i W (hE.keep hW) (by omega)
  obtain ⟨k, hk, hfv, -⟩ := findV_some hx
  rw [hfv] at HF
  have HF2 := Lib.hid HF
  have HD : Hid (∀ W, Keep [] w W → _) := fun W (hW : Keep [] w W) => dropX_calls l v i W (hE.keep hW) (by omega)
  obtain ⟨A, c, rfl, -⟩ := hE
  have d1 : decide ((k : Int) < 0) = false := decide_eq_false (by omega)
  clear hx HF hfv
  generalize dropX i l = L at *
  go_enter Tryz.func46, Tryz.ntmps46
  go_wp2_with (first
    | (go_at_call 75; refine (HU.out _).mono ?_; rintro e w1 ⟨rfl, hk⟩; obtain ⟨hb2, hb4, hk1⟩ := box2 hk; have z20 : w1.cell? ⟨w.heap.size, 0, none⟩ = some (.slice A l.length c) := hb2.cell 0; have z21 : w1.cell? ⟨w.heap.size, 1, none⟩ = some (.bool true) := hb2.cell 1; have z22 : w1.cell? ⟨w.heap.size, 2, none⟩ = some (.bool false) := hb2.cell 2; have f40 := hb4.frozen 0; have f41 := hb4.frozen 1; have f42 := hb4.frozen 2; have z40 := hb4.cell 0; have z41 := hb4.cell 1; have z42 := hb4.cell 2; have HB2 := Lib.hid hb2; have HB4 := Lib.hid hb4; have HK1 := Lib.hid hk1; clear hb2 hb4 hk1 hk)
    | (go_at_call 76; refine (HF2.out _ HK1.out).mono ?_; rintro e w2 ⟨rfl, hk⟩; have hb2 := HB2.out.keep hk (by simp); have hb4 := HB4.out.keep hk (by simp); have z20 : w2.cell? ⟨w.heap.size, 0, none⟩ = some (.slice A l.length c) := hb2.cell 0; have z21 : w2.cell? ⟨w.heap.size, 1, none⟩ = some (.bool true) := hb2.cell 1; have z22 : w2.cell? ⟨w.heap.size, 2, none⟩ = some (.bool false) := hb2.cell 2; have f40 := hb4.frozen 0; have f41 := hb4.frozen 1; have f42 := hb4.frozen 2; have z40 := hb4.cell 0; have z41 := hb4.cell 1; have z42 := hb4.cell 2; have f20 := hb2.frozen 0; have HB2 := Lib.hid hb2; have HB4 := Lib.hid hb4; have HK2 : Hid (Keep [] w w2) := HK1.out.trans hk; clear hb2 hb4 hk)
    | (go_at_call 37; refine (HD.out _ HK2.out).mono ?_; rintro e w3 ⟨g, c3, rfl, hO, hk⟩; have hlt := World.block_lt_of_cell? _ _ z40; have hb2 := HB2.out.keep hk (by simp); have hb4 := HB4.out.keep hk (by simp); have z21 : w3.cell? ⟨w.heap.size, 1, none⟩ = some (.bool true) := hb2.cell 1; have z22 : w3.cell? ⟨w.heap.size, 2, none⟩ = some (.bool false) := hb2.cell 2; have f20 := hb2.frozen 0; have f40 := hb4.frozen 0; have f41 := hb4.frozen 1; have f42 := hb4.frozen 2; have z40 := hb4.cell 0; have z41 := hb4.cell 1; have z42 := hb4.cell 2; have z20 := hb2.cell 0; have HB2 := Lib.hid hb2; have HB4 := Lib.hid hb4; have HK3 : Hid (Keep [] w w3) := HK2.out.trans hk; have HO : Hid (OwnX w3 (w.heap.size + 2) (.slice (some ⟨g, 0, none⟩) L.length c3) (L)) := hO.mono (by simp at hlt; omega); clear hb2 hb4 hk hO hlt))
  have hk4 : Keep [w.heap.size] w3 (w3.setCell ⟨w.heap.size, 0, none⟩ (.slice (some ⟨g, 0, none⟩) L.length c3)) := (Keep.refl _ _).setCell (.inl (by simp)) _
  have HB4 := Lib.hid (HB4.out.keep hk4 (by simp))
  have hk5 : Keep [w.heap.size, w.heap.size + 1] w3 ((((w3.setCell ⟨w.heap.size, 0, none⟩ (.slice (some ⟨g, 0, none⟩) L.length c3)).setCell ⟨w.heap.size + 1, 0, none⟩ (.slice (some ⟨g, 0, none⟩) L.length c3)).setCell ⟨w.heap.size + 1, 1, none⟩ (.bool true)).setCell ⟨w.heap.size + 1, 2, none⟩ (.bool false)) := (((hk4.mono (by simp)).setCell (.inl (by simp)) _).setCell (.inl (by simp)) _).setCell (.inl (by simp)) _
  have hO4 := HO.out.keep hk5 (by simp)
  have hb4 : Blk ((((w3.setCell ⟨w.heap.size, 0, none⟩ (.slice (some ⟨g, 0, none⟩) L.length c3)).setCell ⟨w.heap.size + 1, 0, none⟩ (.slice (some ⟨g, 0, none⟩) L.length c3)).setCell ⟨w.heap.size + 1, 1, none⟩ (.bool true)).setCell ⟨w.heap.size + 1, 2, none⟩ (.bool false)) (w.heap.size + 1) 84 #[.slice (some ⟨g, 0, none⟩) L.length c3, .bool true, .bool false] := (((HB4.out).set_ 0 _).set_ 1 _).set_ 2 _
  have hk9 : Keep [w.heap.size + 1] _ ((((w3.setCell ⟨w.heap.size, 0, none⟩ (.slice (some ⟨g, 0, none⟩) L.length c3)).setCell ⟨w.heap.size + 1, 0, none⟩ (.slice (some ⟨g, 0, none⟩) L.length c3)).setCell ⟨w.heap.size + 1, 1, none⟩ (.bool true)).setCell ⟨w.heap.size + 1, 2, none⟩ (.bool false)) := (((Keep.refl _ _).setCell (.inl (by simp)) _).setCell (.inl (by simp)) _).setCell (.inl (by simp)) _
  have c40 : World.cell? ((((w3.setCell ⟨w.heap.size, 0, none⟩ (.slice (some ⟨g, 0, none⟩) L.length c3)).setCell ⟨w.heap.size + 1, 0, none⟩ (.slice (some ⟨g, 0, none⟩) L.length c3)).setCell ⟨w.heap.size + 1, 1, none⟩ (.bool true)).setCell ⟨w.heap.size + 1, 2, none⟩ (.bool false)) ⟨w.heap.size + 1, 0, none⟩ = some (.slice (some ⟨g, 0, none⟩) L.length c3) := hb4.cell 0
  have c41 : World.cell? ((((w3.setCell ⟨w.heap.size, 0, none⟩ (.slice (some ⟨g, 0, none⟩) L.length c3)).setCell ⟨w.heap.size + 1, 0, none⟩ (.slice (some ⟨g, 0, none⟩) L.length c3)).setCell ⟨w.heap.size + 1, 1, none⟩ (.bool true)).setCell ⟨w.heap.size + 1, 2, none⟩ (.bool false)) ⟨w.heap.size + 1, 1, none⟩ = some (.bool true) := hb4.cell 1
  have c42 : World.cell? ((((w3.setCell ⟨w.heap.size, 0, none⟩ (.slice (some ⟨g, 0, none⟩) L.length c3)).setCell ⟨w.heap.size + 1, 0, none⟩ (.slice (some ⟨g, 0, none⟩) L.length c3)).setCell ⟨w.heap.size + 1, 1, none⟩ (.bool true)).setCell ⟨w.heap.size + 1, 2, none⟩ (.bool false)) ⟨w.heap.size + 1, 2, none⟩ = some (.bool false) := hb4.cell 2
  generalize ((((w3.setCell ⟨w.heap.size, 0, none⟩ (.slice (some ⟨g, 0, none⟩) L.length c3)).setCell ⟨w.heap.size + 1, 0, none⟩ (.slice (some ⟨g, 0, none⟩) L.length c3)).setCell ⟨w.heap.size + 1, 1, none⟩ (.bool true)).setCell ⟨w.heap.size + 1, 2, none⟩ (.bool false)) = W at *
  (try simp only [Exit.inBlock, Exit.then])
  refine bodyPost_ret (by simp [results, Tryz.results46, go_sem, c40, c41, c42]; try rfl) rfl ?_
  exact ⟨g, c3, rfl, hO4.mono (by omega), HK3.out.trans' hk5 (by simp)⟩

end Go.Proofs.YtkplffkchanipaaGreatDoor
/- The contract of glacierref19.Put. -/
namespace Go.Proofs.YtkplffkchanipaaGreatDoor
open Go.RowKit
attribute [local go_sem] size_bs bs_append ba_self
variable {w : World} {v : Value} {u lo : Bool} {l : List (Nat × List UInt8)} {i : Nat} {d : List UInt8}

set_option maxRecDepth 100000 in
set_option maxHeartbeats 400000 in
theorem rput_off (A : Option Addr) (n c : Nat) (h : (u && !lo) = false) :
    Calls Tryz.prog 45 #[.agg #[.slice A n c, .bool u, .bool lo], .agg #[.int .u64 (i : Int), .string (bs d)]] w fun e w' => e = .returned (.tuple #[.agg #[.slice A n c, .bool u, .bool lo], .int .i64 9]) ∧ Keep [] w w' := by
  have HU : Hid (∀ W, Calls Tryz.prog 75 #[.agg #[.slice A n c, .bool u, .bool lo]] W fun e w' => e = .returned (.bool false) ∧ Keep [] W w') := fun W => by
    have T := rup_calls (.slice A n c) u lo W
    rw [h] at T
    exact T
  clear h
  go_enter Tryz.func45, Tryz.ntmps45
  go_wp2_with (go_at_call 75; refine (HU.out _).mono ?_; rintro e w1 ⟨rfl, hk⟩; obtain ⟨hb2, hb3, hb4, hk1⟩ := box3 hk; have HK1 := Lib.hid hk1; clear hk hk1; have z20 : World.cell? w1 ⟨w.heap.size, 0, none⟩ = some (.slice A n c) := hb2.cell 0; have z21 : World.cell? w1 ⟨w.heap.size, 1, none⟩ = some (.bool u) := hb2.cell 1; have z22 : World.cell? w1 ⟨w.heap.size, 2, none⟩ = some (.bool lo) := hb2.cell 2; have z30 : World.cell? w1 ⟨w.heap.size + 1, 0, none⟩ = some (.int .u64 (i : Int)) := hb3.cell 0; have z31 : World.cell? w1 ⟨w.heap.size + 1, 1, none⟩ = some (.string (bs d)) := hb3.cell 1; have f20 := hb2.frozen 0; have f40 := hb4.frozen 0; have f41 := hb4.frozen 1; have f42 := hb4.frozen 2; have z40 := hb4.cell 0; have z41 := hb4.cell 1; have z42 := hb4.cell 2; have HB2 := Lib.hid hb2; have HB3 := Lib.hid hb3; have HB4 := Lib.hid hb4; clear hb2 hb3 hb4)
  have hb4 : Blk (((w1.setCell ⟨w.heap.size + 2, 0, none⟩ (.slice A n c)).setCell ⟨w.heap.size + 2, 1, none⟩ (.bool u)).setCell ⟨w.heap.size + 2, 2, none⟩ (.bool lo)) (w.heap.size + 2) 84 #[.slice A n c, .bool u, .bool lo] := (((HB4.out).set_ 0 _).set_ 1 _).set_ 2 _
  have hk9 : Keep [w.heap.size + 2] _ (((w1.setCell ⟨w.heap.size + 2, 0, none⟩ (.slice A n c)).setCell ⟨w.heap.size + 2, 1, none⟩ (.bool u)).setCell ⟨w.heap.size + 2, 2, none⟩ (.bool lo)) := (((Keep.refl _ _).setCell (.inl (by simp)) _).setCell (.inl (by simp)) _).setCell (.inl (by simp)) _
  have c40 : World.cell? (((w1.setCell ⟨w.heap.size + 2, 0, none⟩ (.slice A n c)).setCell ⟨w.heap.size + 2, 1, none⟩ (.bool u)).setCell ⟨w.heap.size + 2, 2, none⟩ (.bool lo)) ⟨w.heap.size + 2, 0, none⟩ = some (.slice A n c) := hb4.cell 0
  have c41 : World.cell? (((w1.setCell ⟨w.heap.size + 2, 0, none⟩ (.slice A n c)).setCell ⟨w.heap.size + 2, 1, none⟩ (.bool u)).setCell ⟨w.heap.size + 2, 2, none⟩ (.bool lo)) ⟨w.heap.size + 2, 1, none⟩ = some (.bool u) := hb4.cell 1
  have c42 : World.cell? (((w1.setCell ⟨w.heap.size + 2, 0, none⟩ (.slice A n c)).setCell ⟨w.heap.size + 2, 1, none⟩ (.bool u)).setCell ⟨w.heap.size + 2, 2, none⟩ (.bool lo)) ⟨w.heap.size + 2, 2, none⟩ = some (.bool lo) := hb4.cell 2
  generalize (((w1.setCell ⟨w.heap.size + 2, 0, none⟩ (.slice A n c)).setCell ⟨w.heap.size + 2, 1, none⟩ (.bool u)).setCell ⟨w.heap.size + 2, 2, none⟩ (.bool lo)) = W at *
  (try simp only [Exit.inBlock, Exit.then])
  refine bodyPost_ret (by simp [results, Tryz.results45, go_sem, c40, c41, c42]; try rfl) rfl ?_
  exact ⟨rfl, HK1.out.trans' hk9 (by simp)⟩

set_option maxRecDepth 100000 in
set_option maxHeartbeats 800000 in
theorem rput_diff (hE : ChsAt w v l) (hn : l.length ≤ 1000000) {d0 : List UInt8} (hx : lookX i l = some d0) (hd : d0 ≠ d) :
    Calls Tryz.prog 45 #[.agg #[v, .bool true, .bool false], .agg #[.int .u64 (i : Int), .string (bs d)]] w fun e w' => e = .returned (.tuple #[.agg #[v, .bool true, .bool false], .int .i64 6]) ∧ Keep [] w w' := by
  have HU : Hid (∀ W, Calls Tryz.prog 75 #[.agg #[v, .bool true, .bool false]] W fun e w' => e = .returned (.bool true) ∧ Keep [] W w') := fun W => rup_calls v true false W
  have HF := fun (W : World) (hW : Keep [] w W) => findX_calls l v i W (hE.keep hW) (by omega)
  obtain ⟨k, hk, hfv, hkd⟩ := findV_some hx
  rw [hfv] at HF
  have HF2 := Lib.hid HF
  obtain ⟨A0, c, rfl, hcc⟩ := hE
  obtain ⟨g, o, rfl, hc⟩ := hcc (by intro h; rw [h] at hk; simp at hk)
  obtain ⟨_, q1⟩ := hc k hk
  rw [hkd] at q1
  have HQ := Lib.hid q1
  have d1 : decide (0 ≤ (k : Int)) = true := decide_eq_true (by omega)
  have b1 := str_lne hd
  clear hx HF hcc hc q1 hkd hfv hd
  go_enter Tryz.func45, Tryz.ntmps45
  go_wp2_with (first
    | (go_at_call 75; refine (HU.out _).mono ?_; rintro e w1 ⟨rfl, hk⟩; obtain ⟨hb2, hb3, hb4, hk1⟩ := box3 hk; have HK1 := Lib.hid hk1; clear hk hk1; have z20 : World.cell? w1 ⟨w.heap.size, 0, none⟩ = some (.slice (some ⟨g, o, none⟩) l.length c) := hb2.cell 0; have z21 : World.cell? w1 ⟨w.heap.size, 1, none⟩ = some (.bool true) := hb2.cell 1; have z22 : World.cell? w1 ⟨w.heap.size, 2, none⟩ = some (.bool false) := hb2.cell 2; have z30 : World.cell? w1 ⟨w.heap.size + 1, 0, none⟩ = some (.int .u64 (i : Int)) := hb3.cell 0; have z31 : World.cell? w1 ⟨w.heap.size + 1, 1, none⟩ = some (.string (bs d)) := hb3.cell 1; have f20 := hb2.frozen 0; have f40 := hb4.frozen 0; have f41 := hb4.frozen 1; have f42 := hb4.frozen 2; have z40 := hb4.cell 0; have z41 := hb4.cell 1; have z42 := hb4.cell 2; have HB2 := Lib.hid hb2; have HB3 := Lib.hid hb3; have HB4 := Lib.hid hb4; clear hb2 hb3 hb4)
    | (go_at_call 76; refine (HF2.out _ HK1.out).mono ?_; rintro e w2 ⟨rfl, hk⟩; have hb2 := HB2.out.keep hk (by simp); have hb3 := HB3.out.keep hk (by simp); have hb4 := HB4.out.keep hk (by simp); have HK2 : Hid (Keep [] w w2) := HK1.out.trans hk; have q1 : w2.cell? ⟨g, o + k * 2 + 1, none⟩ = some (.string (bs d0)) := (HK2.out.cell (World.block_lt_of_cell? _ _ HQ.out) (by simp)).trans HQ.out; clear hk; have z20 : World.cell? w2 ⟨w.heap.size, 0, none⟩ = some (.slice (some ⟨g, o, none⟩) l.length c) := hb2.cell 0; have z21 : World.cell? w2 ⟨w.heap.size, 1, none⟩ = some (.bool true) := hb2.cell 1; have z22 : World.cell? w2 ⟨w.heap.size, 2, none⟩ = some (.bool false) := hb2.cell 2; have z30 : World.cell? w2 ⟨w.heap.size + 1, 0, none⟩ = some (.int .u64 (i : Int)) := hb3.cell 0; have z31 : World.cell? w2 ⟨w.heap.size + 1, 1, none⟩ = some (.string (bs d)) := hb3.cell 1; have f20 := hb2.frozen 0; have f40 := hb4.frozen 0; have f41 := hb4.frozen 1; have f42 := hb4.frozen 2; have z40 := hb4.cell 0; have z41 := hb4.cell 1; have z42 := hb4.cell 2; have HB2 := Lib.hid hb2; have HB3 := Lib.hid hb3; have HB4 := Lib.hid hb4; clear hb2 hb3 hb4))
  have HC9 : Hid (∀ W, Keep [] w2 W → World.cell? W ⟨w.heap.size, 0, none⟩ = some (.slice (some ⟨g, o, none⟩) l.length c) ∧ World.cell? W ⟨w.heap.size + 1, 1, none⟩ = some (.string (bs d)) ∧ World.cell? W ⟨g, o + k * 2 + 1, none⟩ = some (.string (bs d0))) := fun W hW => ⟨(HB2.out.keep hW (by simp)).cell 0, (HB3.out.keep hW (by simp)).cell 1, (hW.cell (World.block_lt_of_cell? _ _ q1) (by simp)).trans q1⟩
  go_region_held3 (fun w' => World.cell? w' ⟨w.heap.size, 0, none⟩ = some (.slice (some ⟨g, o, none⟩) l.length c) ∧ World.cell? w' ⟨w.heap.size + 1, 1, none⟩ = some (.string (bs d)) ∧ World.cell? w' ⟨g, o + k * 2 + 1, none⟩ = some (.string (bs d0)))
    (first
      | (exact HC9.out _ (by repeat (first | exact Keep.refl _ _ | refine Keep.drew ?_ | refine Keep.drewN ?_ _)))
      | fail)
    (fail)
  have hk5 : Keep [] w2 w2.drew := (Keep.refl _ _).drew
  generalize w2.drew = w5 at *
  have hb2 := HB2.out.keep hk5 (by simp)
  have hb3 := HB3.out.keep hk5 (by simp)
  have hb4 := HB4.out.keep hk5 (by simp)
  have HK5 : Hid (Keep [] w w5) := HK2.out.trans hk5
  clear hk5
  have z20 : World.cell? w5 ⟨w.heap.size, 0, none⟩ = some (.slice (some ⟨g, o, none⟩) l.length c) := hb2.cell 0; have z21 : World.cell? w5 ⟨w.heap.size, 1, none⟩ = some (.bool true) := hb2.cell 1; have z22 : World.cell? w5 ⟨w.heap.size, 2, none⟩ = some (.bool false) := hb2.cell 2; have z30 : World.cell? w5 ⟨w.heap.size + 1, 0, none⟩ = some (.int .u64 (i : Int)) := hb3.cell 0; have z31 : World.cell? w5 ⟨w.heap.size + 1, 1, none⟩ = some (.string (bs d)) := hb3.cell 1; have f20 := hb2.frozen 0; have f40 := hb4.frozen 0; have f41 := hb4.frozen 1; have f42 := hb4.frozen 2; have z40 := hb4.cell 0; have z41 := hb4.cell 1; have z42 := hb4.cell 2; have HB2 := Lib.hid hb2; have HB3 := Lib.hid hb3; have HB4 := Lib.hid hb4; clear hb2 hb3 hb4
  go_wp2
  have hb4 : Blk (((w5.setCell ⟨w.heap.size + 2, 0, none⟩ (.slice (some ⟨g, o, none⟩) l.length c)).setCell ⟨w.heap.size + 2, 1, none⟩ (.bool true)).setCell ⟨w.heap.size + 2, 2, none⟩ (.bool false)) (w.heap.size + 2) 84 #[.slice (some ⟨g, o, none⟩) l.length c, .bool true, .bool false] := (((HB4.out).set_ 0 _).set_ 1 _).set_ 2 _
  have hk9 : Keep [w.heap.size + 2] _ (((w5.setCell ⟨w.heap.size + 2, 0, none⟩ (.slice (some ⟨g, o, none⟩) l.length c)).setCell ⟨w.heap.size + 2, 1, none⟩ (.bool true)).setCell ⟨w.heap.size + 2, 2, none⟩ (.bool false)) := (((Keep.refl _ _).setCell (.inl (by simp)) _).setCell (.inl (by simp)) _).setCell (.inl (by simp)) _
  have c40 : World.cell? (((w5.setCell ⟨w.heap.size + 2, 0, none⟩ (.slice (some ⟨g, o, none⟩) l.length c)).setCell ⟨w.heap.size + 2, 1, none⟩ (.bool true)).setCell ⟨w.heap.size + 2, 2, none⟩ (.bool false)) ⟨w.heap.size + 2, 0, none⟩ = some (.slice (some ⟨g, o, none⟩) l.length c) := hb4.cell 0
  have c41 : World.cell? (((w5.setCell ⟨w.heap.size + 2, 0, none⟩ (.slice (some ⟨g, o, none⟩) l.length c)).setCell ⟨w.heap.size + 2, 1, none⟩ (.bool true)).setCell ⟨w.heap.size + 2, 2, none⟩ (.bool false)) ⟨w.heap.size + 2, 1, none⟩ = some (.bool true) := hb4.cell 1
  have c42 : World.cell? (((w5.setCell ⟨w.heap.size + 2, 0, none⟩ (.slice (some ⟨g, o, none⟩) l.length c)).setCell ⟨w.heap.size + 2, 1, none⟩ (.bool true)).setCell ⟨w.heap.size + 2, 2, none⟩ (.bool false)) ⟨w.heap.size + 2, 2, none⟩ = some (.bool false) := hb4.cell 2
  generalize (((w5.setCell ⟨w.heap.size + 2, 0, none⟩ (.slice (some ⟨g, o, none⟩) l.length c)).setCell ⟨w.heap.size + 2, 1, none⟩ (.bool true)).setCell ⟨w.heap.size + 2, 2, none⟩ (.bool false)) = W at *
  (try simp only [Exit.inBlock, Exit.then])
  refine bodyPost_ret (by simp [results, Tryz.results45, go_sem, c40, c41, c42]; try rfl) rfl ?_
  exact ⟨rfl, HK5.out.trans' hk9 (by simp)⟩

set_option maxRecDepth 100000 in
set_option maxHeartbeats 800000 in
theorem rput_none (hE : ChsAt w v l) (hn : l.length ≤ 1000000) (hx : lookX i l = none) :
    Calls Tryz.prog 45 #[.agg #[v, .bool true, .bool false], .agg #[.int .u64 (i : Int), .string (bs d)]] w fun e w' => ∃ g c, e = .returned (.tuple #[.agg #[.slice (some ⟨g, 0, none⟩) (putX (i, d) l).length c, .bool true, .bool false], .int .i64 0]) ∧ OwnX w' w.heap.size (.slice (some ⟨g, 0, none⟩) (putX (i, d) l).length c) (putX (i, d) l) ∧ Keep [] w w' := by
  have HU : Hid (∀ W, Calls Tryz.prog 75 #[.agg #[v, .bool true, .bool false]] W fun e w' => e = .returned (.bool true) ∧ Keep [] W w') := fun W => rup_calls v true false W
  have HF := fun (W : World) (hW : Keep [] w W) => findX_calls l v i W (hE.keep hW) (by omega)
  rw [findV_none hx] at HF
  have HF2 := Lib.hid HF
  have HP : Hid (∀ W, Keep [] w W → _) := fun W (hW : Keep [] w W) => putX_calls l v i d W (hE.keep hW) (by omega)
  obtain ⟨A0, c, rfl, -⟩ := hE
  clear hx HF
  generalize putX (i, d) l = L at *
  go_enter Tryz.func45, Tryz.ntmps45
  go_wp2_with (first
    | (go_at_call 75; refine (HU.out _).mono ?_; rintro e w1 ⟨rfl, hk⟩; obtain ⟨hb2, hb3, hb4, hk1⟩ := box3 hk; have HK1 := Lib.hid hk1; clear hk hk1; have z20 : World.cell? w1 ⟨w.heap.size, 0, none⟩ = some (.slice A0 l.length c) := hb2.cell 0; have z21 : World.cell? w1 ⟨w.heap.size, 1, none⟩ = some (.bool true) := hb2.cell 1; have z22 : World.cell? w1 ⟨w.heap.size, 2, none⟩ = some (.bool false) := hb2.cell 2; have z30 : World.cell? w1 ⟨w.heap.size + 1, 0, none⟩ = some (.int .u64 (i : Int)) := hb3.cell 0; have z31 : World.cell? w1 ⟨w.heap.size + 1, 1, none⟩ = some (.string (bs d)) := hb3.cell 1; have f20 := hb2.frozen 0; have f40 := hb4.frozen 0; have f41 := hb4.frozen 1; have f42 := hb4.frozen 2; have z40 := hb4.cell 0; have z41 := hb4.cell 1; have z42 := hb4.cell 2; have HB2 := Lib.hid hb2; have HB3 := Lib.hid hb3; have HB4 := Lib.hid hb4; clear hb2 hb3 hb4)
    | (go_at_call 76; refine (HF2.out _ HK1.out).mono ?_; rintro e w2 ⟨rfl, hk⟩; have hb2 := HB2.out.keep hk (by simp); have hb3 := HB3.out.keep hk (by simp); have hb4 := HB4.out.keep hk (by simp); have HK2 : Hid (Keep [] w w2) := HK1.out.trans hk;  clear hk; have z20 : World.cell? w2 ⟨w.heap.size, 0, none⟩ = some (.slice A0 l.length c) := hb2.cell 0; have z21 : World.cell? w2 ⟨w.heap.size, 1, none⟩ = some (.bool true) := hb2.cell 1; have z22 : World.cell? w2 ⟨w.heap.size, 2, none⟩ = some (.bool false) := hb2.cell 2; have z30 : World.cell? w2 ⟨w.heap.size + 1, 0, none⟩ = some (.int .u64 (i : Int)) := hb3.cell 0; have z31 : World.cell? w2 ⟨w.heap.size + 1, 1, none⟩ = some (.string (bs d)) := hb3.cell 1; have f20 := hb2.frozen 0; have f40 := hb4.frozen 0; have f41 := hb4.frozen 1; have f42 := hb4.frozen 2; have z40 := hb4.cell 0; have z41 := hb4.cell 1; have z42 := hb4.cell 2; have HB2 := Lib.hid hb2; have HB3 := Lib.hid hb3; have HB4 := Lib.hid hb4; clear hb2 hb3 hb4))
  go_quiet (fail)
  have hk5 : Keep [] w2 (w2.drewN nq) := (Keep.refl _ _).drewN _
  generalize w2.drewN nq = w5 at *
  have hb2 := HB2.out.keep hk5 (by simp)
  have hb3 := HB3.out.keep hk5 (by simp)
  have hb4 := HB4.out.keep hk5 (by simp)
  have HK5 : Hid (Keep [] w w5) := HK2.out.trans hk5
  clear hk5
  have z20 : World.cell? w5 ⟨w.heap.size, 0, none⟩ = some (.slice A0 l.length c) := hb2.cell 0; have z21 : World.cell? w5 ⟨w.heap.size, 1, none⟩ = some (.bool true) := hb2.cell 1; have z22 : World.cell? w5 ⟨w.heap.size, 2, none⟩ = some (.bool false) := hb2.cell 2; have z30 : World.cell? w5 ⟨w.heap.size + 1, 0, none⟩ = some (.int .u64 (i : Int)) := hb3.cell 0; have z31 : World.cell? w5 ⟨w.heap.size + 1, 1, none⟩ = some (.string (bs d)) := hb3.cell 1; have f20 := hb2.frozen 0; have f40 := hb4.frozen 0; have f41 := hb4.frozen 1; have f42 := hb4.frozen 2; have z40 := hb4.cell 0; have z41 := hb4.cell 1; have z42 := hb4.cell 2; have HB2 := Lib.hid hb2; have HB3 := Lib.hid hb3; have HB4 := Lib.hid hb4; clear hb2 hb3 hb4
  go_wp2_with (go_at_call 17; refine (HP.out _ HK5.out).mono ?_; rintro e w3 ⟨g3, c3, rfl, hO, hk⟩; have hlt := World.block_lt_of_cell? _ _ z40; have hb2 := HB2.out.keep hk (by simp); have hb3 := HB3.out.keep hk (by simp); have hb4 := HB4.out.keep hk (by simp); have HK6 : Hid (Keep [] w w3) := HK5.out.trans hk; have HO : Hid (OwnX w3 (w.heap.size + 3) (.slice (some ⟨g3, 0, none⟩) L.length c3) L) := hO.mono (by simp at hlt; omega); clear hk hO hlt; have z20 : World.cell? w3 ⟨w.heap.size, 0, none⟩ = some (.slice A0 l.length c) := hb2.cell 0; have z21 : World.cell? w3 ⟨w.heap.size, 1, none⟩ = some (.bool true) := hb2.cell 1; have z22 : World.cell? w3 ⟨w.heap.size, 2, none⟩ = some (.bool false) := hb2.cell 2; have z30 : World.cell? w3 ⟨w.heap.size + 1, 0, none⟩ = some (.int .u64 (i : Int)) := hb3.cell 0; have z31 : World.cell? w3 ⟨w.heap.size + 1, 1, none⟩ = some (.string (bs d)) := hb3.cell 1; have f20 := hb2.frozen 0; have f40 := hb4.frozen 0; have f41 := hb4.frozen 1; have f42 := hb4.frozen 2; have z40 := hb4.cell 0; have z41 := hb4.cell 1; have z42 := hb4.cell 2; have HB2 := Lib.hid hb2; have HB3 := Lib.hid hb3; have HB4 := Lib.hid hb4; clear hb2 hb3 hb4)
  have hk4 : Keep [w.heap.size] w3 (w3.setCell ⟨w.heap.size, 0, none⟩ (.slice (some ⟨g3, 0, none⟩) L.length c3)) := (Keep.refl _ _).setCell (.inl (by simp)) _
  have HB4 := Lib.hid (HB4.out.keep hk4 (by simp))
  have hk5 : Keep [w.heap.size, w.heap.size + 2] w3 ((((w3.setCell ⟨w.heap.size, 0, none⟩ (.slice (some ⟨g3, 0, none⟩) L.length c3)).setCell ⟨w.heap.size + 2, 0, none⟩ (.slice (some ⟨g3, 0, none⟩) L.length c3)).setCell ⟨w.heap.size + 2, 1, none⟩ (.bool true)).setCell ⟨w.heap.size + 2, 2, none⟩ (.bool false)) := (((hk4.mono (by simp)).setCell (.inl (by simp)) _).setCell (.inl (by simp)) _).setCell (.inl (by simp)) _
  have hO4 := HO.out.keep hk5 (by simp)
  have hb4 : Blk ((((w3.setCell ⟨w.heap.size, 0, none⟩ (.slice (some ⟨g3, 0, none⟩) L.length c3)).setCell ⟨w.heap.size + 2, 0, none⟩ (.slice (some ⟨g3, 0, none⟩) L.length c3)).setCell ⟨w.heap.size + 2, 1, none⟩ (.bool true)).setCell ⟨w.heap.size + 2, 2, none⟩ (.bool false)) (w.heap.size + 2) 84 #[.slice (some ⟨g3, 0, none⟩) L.length c3, .bool true, .bool false] := (((HB4.out).set_ 0 _).set_ 1 _).set_ 2 _
  have hk9 : Keep [w.heap.size + 2] _ ((((w3.setCell ⟨w.heap.size, 0, none⟩ (.slice (some ⟨g3, 0, none⟩) L.length c3)).setCell ⟨w.heap.size + 2, 0, none⟩ (.slice (some ⟨g3, 0, none⟩) L.length c3)).setCell ⟨w.heap.size + 2, 1, none⟩ (.bool true)).setCell ⟨w.heap.size + 2, 2, none⟩ (.bool false)) := (((Keep.refl _ _).setCell (.inl (by simp)) _).setCell (.inl (by simp)) _).setCell (.inl (by simp)) _
  have c40 : World.cell? ((((w3.setCell ⟨w.heap.size, 0, none⟩ (.slice (some ⟨g3, 0, none⟩) L.length c3)).setCell ⟨w.heap.size + 2, 0, none⟩ (.slice (some ⟨g3, 0, none⟩) L.length c3)).setCell ⟨w.heap.size + 2, 1, none⟩ (.bool true)).setCell ⟨w.heap.size + 2, 2, none⟩ (.bool false)) ⟨w.heap.size + 2, 0, none⟩ = some (.slice (some ⟨g3, 0, none⟩) L.length c3) := hb4.cell 0
  have c41 : World.cell? ((((w3.setCell ⟨w.heap.size, 0, none⟩ (.slice (some ⟨g3, 0, none⟩) L.length c3)).setCell ⟨w.heap.size + 2, 0, none⟩ (.slice (some ⟨g3, 0, none⟩) L.length c3)).setCell ⟨w.heap.size + 2, 1, none⟩ (.bool true)).setCell ⟨w.heap.size + 2, 2, none⟩ (.bool false)) ⟨w.heap.size + 2, 1, none⟩ = some (.bool true) := hb4.cell 1
  have c42 : World.cell? ((((w3.setCell ⟨w.heap.size, 0, none⟩ (.slice (some ⟨g3, 0, none⟩) L.length c3)).setCell ⟨w.heap.size + 2, 0, none⟩ (.slice (some ⟨g3, 0, none⟩) L.length c3)).setCell ⟨w.heap.size + 2, 1, none⟩ (.bool true)).setCell ⟨w.heap.size + 2, 2, none⟩ (.bool false)) ⟨w.heap.size + 2, 2, none⟩ = some (.bool false) := hb4.cell 2
  generalize ((((w3.setCell ⟨w.heap.size, 0, none⟩ (.slice (some ⟨g3, 0, none⟩) L.length c3)).setCell ⟨w.heap.size + 2, 0, none⟩ (.slice (some ⟨g3, 0, none⟩) L.length c3)).setCell ⟨w.heap.size + 2, 1, none⟩ (.bool true)).setCell ⟨w.heap.size + 2, 2, none⟩ (.bool false)) = W at *
  (try simp only [Exit.inBlock, Exit.then])
  refine bodyPost_ret (by simp [results, Tryz.results45, go_sem, c40, c41, c42]; try rfl) rfl ?_
  exact ⟨g3, c3, rfl, hO4.mono (by omega), HK6.out.trans' hk5 (by simp)⟩
set_option maxRecDepth 100000 in
set_option maxHeartbeats 800000 in
theorem rput_same (hE : ChsAt w v l) (hn : l.length ≤ 1000000) (hx : lookX i l = some d) :
    Calls Tryz.prog 45 #[.agg #[v, .bool true, .bool false], .agg #[.int .u64 (i : Int), .string (bs d)]] w fun e w' => ∃ g c, e = .returned (.tuple #[.agg #[.slice (some ⟨g, 0, none⟩) (putX (i, d) l).length c, .bool true, .bool false], .int .i64 0]) ∧ OwnX w' w.heap.size (.slice (some ⟨g, 0, none⟩) (putX (i, d) l).length c) (putX (i, d) l) ∧ Keep [] w w' := by
  have HU : Hid (∀ W, Calls Tryz.prog 75 #[.agg #[v, .bool true, .bool false]] W fun e w' => e = .returned (.bool true) ∧ Keep [] W w') := fun W => rup_calls v true false W
  have HF := fun (W : World) (hW : Keep [] w W) => findX_calls l v i W (hE.keep hW) (by omega)
  obtain ⟨k, hk, hfv, hkd⟩ := findV_some hx
  rw [hfv] at HF
  have HF2 := Lib.hid HF
  have HP : Hid (∀ W, Keep [] w W → _) := fun W (hW : Keep [] w W) => putX_calls l v i d W (hE.keep hW) (by omega)
  obtain ⟨A0, c, rfl, hcc⟩ := hE
  obtain ⟨g, o, rfl, hc⟩ := hcc (by intro h; rw [h] at hk; simp at hk)
  obtain ⟨_, q1⟩ := hc k hk
  rw [hkd] at q1
  have HQ := Lib.hid q1
  have d1 : decide (0 ≤ (k : Int)) = true := decide_eq_true (by omega)
  clear hx HF hcc hc q1 hkd hfv
  generalize putX (i, d) l = L at *
  go_enter Tryz.func45, Tryz.ntmps45
  go_wp2_with (first
    | (go_at_call 75; refine (HU.out _).mono ?_; rintro e w1 ⟨rfl, hk⟩; obtain ⟨hb2, hb3, hb4, hk1⟩ := box3 hk; have HK1 := Lib.hid hk1; clear hk hk1; have z20 : World.cell? w1 ⟨w.heap.size, 0, none⟩ = some (.slice (some ⟨g, o, none⟩) l.length c) := hb2.cell 0; have z21 : World.cell? w1 ⟨w.heap.size, 1, none⟩ = some (.bool true) := hb2.cell 1; have z22 : World.cell? w1 ⟨w.heap.size, 2, none⟩ = some (.bool false) := hb2.cell 2; have z30 : World.cell? w1 ⟨w.heap.size + 1, 0, none⟩ = some (.int .u64 (i : Int)) := hb3.cell 0; have z31 : World.cell? w1 ⟨w.heap.size + 1, 1, none⟩ = some (.string (bs d)) := hb3.cell 1; have f20 := hb2.frozen 0; have f40 := hb4.frozen 0; have f41 := hb4.frozen 1; have f42 := hb4.frozen 2; have z40 := hb4.cell 0; have z41 := hb4.cell 1; have z42 := hb4.cell 2; have HB2 := Lib.hid hb2; have HB3 := Lib.hid hb3; have HB4 := Lib.hid hb4; clear hb2 hb3 hb4)
    | (go_at_call 76; refine (HF2.out _ HK1.out).mono ?_; rintro e w2 ⟨rfl, hk⟩; have hb2 := HB2.out.keep hk (by simp); have hb3 := HB3.out.keep hk (by simp); have hb4 := HB4.out.keep hk (by simp); have HK2 : Hid (Keep [] w w2) := HK1.out.trans hk; have q1 : w2.cell? ⟨g, o + k * 2 + 1, none⟩ = some (.string (bs d)) := (HK2.out.cell (World.block_lt_of_cell? _ _ HQ.out) (by simp)).trans HQ.out; clear hk; have z20 : World.cell? w2 ⟨w.heap.size, 0, none⟩ = some (.slice (some ⟨g, o, none⟩) l.length c) := hb2.cell 0; have z21 : World.cell? w2 ⟨w.heap.size, 1, none⟩ = some (.bool true) := hb2.cell 1; have z22 : World.cell? w2 ⟨w.heap.size, 2, none⟩ = some (.bool false) := hb2.cell 2; have z30 : World.cell? w2 ⟨w.heap.size + 1, 0, none⟩ = some (.int .u64 (i : Int)) := hb3.cell 0; have z31 : World.cell? w2 ⟨w.heap.size + 1, 1, none⟩ = some (.string (bs d)) := hb3.cell 1; have f20 := hb2.frozen 0; have f40 := hb4.frozen 0; have f41 := hb4.frozen 1; have f42 := hb4.frozen 2; have z40 := hb4.cell 0; have z41 := hb4.cell 1; have z42 := hb4.cell 2; have HB2 := Lib.hid hb2; have HB3 := Lib.hid hb3; have HB4 := Lib.hid hb4; clear hb2 hb3 hb4))
  have HC9 : Hid (∀ W, Keep [] w2 W → World.cell? W ⟨w.heap.size, 0, none⟩ = some (.slice (some ⟨g, o, none⟩) l.length c) ∧ World.cell? W ⟨w.heap.size + 1, 1, none⟩ = some (.string (bs d)) ∧ World.cell? W ⟨g, o + k * 2 + 1, none⟩ = some (.string (bs d))) := fun W hW => ⟨(HB2.out.keep hW (by simp)).cell 0, (HB3.out.keep hW (by simp)).cell 1, (hW.cell (World.block_lt_of_cell? _ _ q1) (by simp)).trans q1⟩
  go_region_held3 (fun w' => World.cell? w' ⟨w.heap.size, 0, none⟩ = some (.slice (some ⟨g, o, none⟩) l.length c) ∧ World.cell? w' ⟨w.heap.size + 1, 1, none⟩ = some (.string (bs d)) ∧ World.cell? w' ⟨g, o + k * 2 + 1, none⟩ = some (.string (bs d)))
    (first
      | (exact HC9.out _ (by repeat (first | exact Keep.refl _ _ | refine Keep.drew ?_ | refine Keep.drewN ?_ _)))
      | fail)
    (fail)
  have hk5 : Keep [] w2 w2.drew := (Keep.refl _ _).drew
  generalize w2.drew = w5 at *
  have hb2 := HB2.out.keep hk5 (by simp)
  have hb3 := HB3.out.keep hk5 (by simp)
  have hb4 := HB4.out.keep hk5 (by simp)
  have HK5 : Hid (Keep [] w w5) := HK2.out.trans hk5
  clear hk5
  have z20 : World.cell? w5 ⟨w.heap.size, 0, none⟩ = some (.slice (some ⟨g, o, none⟩) l.length c) := hb2.cell 0; have z21 : World.cell? w5 ⟨w.heap.size, 1, none⟩ = some (.bool true) := hb2.cell 1; have z22 : World.cell? w5 ⟨w.heap.size, 2, none⟩ = some (.bool false) := hb2.cell 2; have z30 : World.cell? w5 ⟨w.heap.size + 1, 0, none⟩ = some (.int .u64 (i : Int)) := hb3.cell 0; have z31 : World.cell? w5 ⟨w.heap.size + 1, 1, none⟩ = some (.string (bs d)) := hb3.cell 1; have f20 := hb2.frozen 0; have f40 := hb4.frozen 0; have f41 := hb4.frozen 1; have f42 := hb4.frozen 2; have z40 := hb4.cell 0; have z41 := hb4.cell 1; have z42 := hb4.cell 2; have HB2 := Lib.hid hb2; have HB3 := Lib.hid hb3; have HB4 := Lib.hid hb4; clear hb2 hb3 hb4
  go_wp2_with (go_at_call 17; refine (HP.out _ HK5.out).mono ?_; rintro e w3 ⟨g3, c3, rfl, hO, hk⟩; have hlt := World.block_lt_of_cell? _ _ z40; have hb2 := HB2.out.keep hk (by simp); have hb3 := HB3.out.keep hk (by simp); have hb4 := HB4.out.keep hk (by simp); have HK6 : Hid (Keep [] w w3) := HK5.out.trans hk; have HO : Hid (OwnX w3 (w.heap.size + 3) (.slice (some ⟨g3, 0, none⟩) L.length c3) L) := hO.mono (by simp at hlt; omega); clear hk hO hlt; have z20 : World.cell? w3 ⟨w.heap.size, 0, none⟩ = some (.slice (some ⟨g, o, none⟩) l.length c) := hb2.cell 0; have z21 : World.cell? w3 ⟨w.heap.size, 1, none⟩ = some (.bool true) := hb2.cell 1; have z22 : World.cell? w3 ⟨w.heap.size, 2, none⟩ = some (.bool false) := hb2.cell 2; have z30 : World.cell? w3 ⟨w.heap.size + 1, 0, none⟩ = some (.int .u64 (i : Int)) := hb3.cell 0; have z31 : World.cell? w3 ⟨w.heap.size + 1, 1, none⟩ = some (.string (bs d)) := hb3.cell 1; have f20 := hb2.frozen 0; have f40 := hb4.frozen 0; have f41 := hb4.frozen 1; have f42 := hb4.frozen 2; have z40 := hb4.cell 0; have z41 := hb4.cell 1; have z42 := hb4.cell 2; have HB2 := Lib.hid hb2; have HB3 := Lib.hid hb3; have HB4 := Lib.hid hb4; clear hb2 hb3 hb4)
  have hk4 : Keep [w.heap.size] w3 (w3.setCell ⟨w.heap.size, 0, none⟩ (.slice (some ⟨g3, 0, none⟩) L.length c3)) := (Keep.refl _ _).setCell (.inl (by simp)) _
  have HB4 := Lib.hid (HB4.out.keep hk4 (by simp))
  have hk5 : Keep [w.heap.size, w.heap.size + 2] w3 ((((w3.setCell ⟨w.heap.size, 0, none⟩ (.slice (some ⟨g3, 0, none⟩) L.length c3)).setCell ⟨w.heap.size + 2, 0, none⟩ (.slice (some ⟨g3, 0, none⟩) L.length c3)).setCell ⟨w.heap.size + 2, 1, none⟩ (.bool true)).setCell ⟨w.heap.size + 2, 2, none⟩ (.bool false)) := (((hk4.mono (by simp)).setCell (.inl (by simp)) _).setCell (.inl (by simp)) _).setCell (.inl (by simp)) _
  have hO4 := HO.out.keep hk5 (by simp)
  have hb4 : Blk ((((w3.setCell ⟨w.heap.size, 0, none⟩ (.slice (some ⟨g3, 0, none⟩) L.length c3)).setCell ⟨w.heap.size + 2, 0, none⟩ (.slice (some ⟨g3, 0, none⟩) L.length c3)).setCell ⟨w.heap.size + 2, 1, none⟩ (.bool true)).setCell ⟨w.heap.size + 2, 2, none⟩ (.bool false)) (w.heap.size + 2) 84 #[.slice (some ⟨g3, 0, none⟩) L.length c3, .bool true, .bool false] := (((HB4.out).set_ 0 _).set_ 1 _).set_ 2 _
  have hk9 : Keep [w.heap.size + 2] _ ((((w3.setCell ⟨w.heap.size, 0, none⟩ (.slice (some ⟨g3, 0, none⟩) L.length c3)).setCell ⟨w.heap.size + 2, 0, none⟩ (.slice (some ⟨g3, 0, none⟩) L.length c3)).setCell ⟨w.heap.size + 2, 1, none⟩ (.bool true)).setCell ⟨w.heap.size + 2, 2, none⟩ (.bool false)) := (((Keep.refl _ _).setCell (.inl (by simp)) _).setCell (.inl (by simp)) _).setCell (.inl (by simp)) _
  have c40 : World.cell? ((((w3.setCell ⟨w.heap.size, 0, none⟩ (.slice (some ⟨g3, 0, none⟩) L.length c3)).setCell ⟨w.heap.size + 2, 0, none⟩ (.slice (some ⟨g3, 0, none⟩) L.length c3)).setCell ⟨w.heap.size + 2, 1, none⟩ (.bool true)).setCell ⟨w.heap.size + 2, 2, none⟩ (.bool false)) ⟨w.heap.size + 2, 0, none⟩ = some (.slice (some ⟨g3, 0, none⟩) L.length c3) := hb4.cell 0
  have c41 : World.cell? ((((w3.setCell ⟨w.heap.size, 0, none⟩ (.slice (some ⟨g3, 0, none⟩) L.length c3)).setCell ⟨w.heap.size + 2, 0, none⟩ (.slice (some ⟨g3, 0, none⟩) L.length c3)).setCell ⟨w.heap.size + 2, 1, none⟩ (.bool true)).setCell ⟨w.heap.size + 2, 2, none⟩ (.bool false)) ⟨w.heap.size + 2, 1, none⟩ = some (.bool true) := hb4.cell 1
  have c42 : World.cell? ((((w3.setCell ⟨w.heap.size, 0, none⟩ (.slice (some ⟨g3, 0, none⟩) L.length c3)).setCell ⟨w.heap.size + 2, 0, none⟩ (.slice (some ⟨g3, 0, none⟩) L.length c3)).setCell ⟨w.heap.size + 2, 1, none⟩ (.bool true)).setCell ⟨w.heap.size + 2, 2, none⟩ (.bool false)) ⟨w.heap.size + 2, 2, none⟩ = some (.bool false) := hb4.cell 2
  generalize ((((w3.setCell ⟨w.heap.size, 0, none⟩ (.slice (some ⟨g3, 0, none⟩) L.length c3)).setCell ⟨w.heap.size + 2, 0, none⟩ (.slice (some ⟨g3, 0, none⟩) L.length c3)).setCell ⟨w.heap.size + 2, 1, none⟩ (.bool true)).setCell ⟨w.heap.size + 2, 2, none⟩ (.bool false)) = W at *
  (try simp only [Exit.inBlock, Exit.then])
  refine bodyPost_ret (by simp [results, Tryz.results45, go_sem, c40, c41, c42]; try rfl) rfl ?_
  exact ⟨g3, c3, rfl, hO4.mono (by omega), HK6.out.trans' hk5 (by simp)⟩

end Go.Proofs.YtkplffkchanipaaGreatDoor
