/- The encoder's contract at two numbers: (*Enc).U(x, y). -/
import Derived.Test.YtdgjkejfmehphaaGreatDoorFrame0
namespace Go.Proofs.YtdgjkejfmehphaaGreatDoor
open Go.RowKit
attribute [local go_sem] size_bs bs_append

set_option maxRecDepth 100000 in
set_option maxHeartbeats 2000000 in
theorem u2_calls (x y : Nat) (hx : x < 18446744073709551616) (hy : y < 18446744073709551616) (L : List UInt8) (hL : L.length ≤ 549755813888) (b p : Nat) (v : Value) (w : World) (h : EncAt w b v L) (hp : Blk w p 50 #[.int .u64 x, .int .u64 y]) :
    Calls Tryz.prog 89 #[.pointer (some ⟨b, 0, none⟩), .slice (some ⟨p, 0, none⟩) 2 2] w fun e w' => e = .returned (.pointer (some ⟨b, 0, none⟩)) ∧ ∃ v', EncAt w' b v' (L ++ (encU x ++ encU y)) ∧ EncTo b v v' w w' := by
  obtain ⟨i0, hi, hz0, hz1, hz2⟩ := info_parts Tryz.info5
  have hc0 : w.cell? ⟨p, 0, none⟩ = some (.int .u64 x) := hp.cell 0
  have HP := Lib.hid hp
  have H := Lib.hid h
  have HYY := Lib.hid hy
  have HXX := Lib.hid hx
  clear h hp
  go_enter Tryz.func89, Tryz.ntmps89
  go_wp2
  refine wp_loop_rounds 3 ?_
  rw [rounds_succ]
  go_wp2_with fail
  obtain ⟨j0, r0, hr0, hj0, hB, hj1, hj2⟩ := len_parts x hx
  refine (len64_calls x hx _).mono ?_
  rintro e w' ⟨rfl, rfl⟩
  rw [hB]
  clear hB
  have HJ1 := Lib.hid hj1
  have HJ2 := Lib.hid hj2
  clear hj1 hj2
  go_wp2_with fail
  go_loopw [7] (fun a wr => URel x L b v w a wr) (fun a _ => (intOf a).toNat)
  case atStart =>
    refine ⟨j0, v, hj0, ?_, HJ1.out, ?_, EncTo.refl _ _ _⟩
    · rw [show ((7 * (j0 : Int) + r0) / 7 * 7) = ((7 * j0 : Nat) : Int) from by omega]
    · rw [Nat.div_eq_of_lt HJ2.out]
      unfold encH
      simpa using H.out
  case round =>
    obtain ⟨j, v1, hj, rfl, hjx, hE, hto⟩ := hrel
    have HE := Lib.hid hE
    have HTO := Lib.hid hto
    have HJ := Lib.hid hjx
    have hlen : (Lib.byteCells (L ++ encH (x / 2 ^ (7 * (j + 1))))).length ≤ (L).length + 10 := by
      rw [Lib.byteCells_length, List.length_append]
      have := encH_len 10 (x / 2 ^ (7 * (j + 1))) (Nat.lt_of_le_of_lt (Nat.div_le_self _ _) (by omega))
      omega
    have hcb : wr.cell? ⟨b, 0, none⟩ = some v1 := hE.blk.cell 0
    have hfb := hE.blk.frozen 0
    clear hE hto hjx
    by_cases hj0 : j = 0
    · subst hj0
      have hb1 : (Lib.byteCells (L ++ encH (x / 2 ^ (7 * (0 + 1))))).length + 1 ≤ 140737488355328 := by have := hL; omega
      have hgd : True := trivial
      go_wp2_with (at_builtin; refine list_append_byte rfl (.tmp 42) (.tmp 46) rfl rfl rfl HE.out hcb hfb hb1 ?_; intro gg cap w1 hown1 hcb1 hfb1 hto1)
      rw [rounds_succ]
      have d := encmid_done (UInt8.ofNat (x % 128)) (lo_byte x) HE.out hto1 rfl hown1
      have hT2 := HTO.out.trans d.2
      have hE2 := d.1
      rw [List.append_assoc] at hE2
      have hE3 : EncAt (w1.setCell ⟨b, 0, none⟩ (.slice (some ⟨gg, 0, none⟩) ((Lib.byteCells (L ++ encH (x / 2 ^ (7 * (0 + 1))))).length + 1) cap)) b _ (L ++ encU x) := hE2
      have hq := (hT2.others H.out) _ _ _ HP.out (by decide) (by decide)
      have hcy := hq.cell 1
      have H3 := Lib.hid hE3
      have HT3 := Lib.hid hT2
      have hL2 : (L ++ encU x).length ≤ 1099511627776 := by
        have := encU_len x HXX.out
        rw [List.length_append]
        omega
      clear d hT2 hE2 hE3 hq hcb1 hfb1 hcb hfb HTO HE HJ hlen hb1 hto1 hown1 hc0 hgd
      generalize w1.setCell ⟨b, 0, none⟩ (.slice (some ⟨gg, 0, none⟩) ((Lib.byteCells (L ++ encH (x / 2 ^ (7 * (0 + 1))))).length + 1) cap) = W2 at *
      generalize (Value.slice (some ⟨gg, 0, none⟩) ((Lib.byteCells (L ++ encH (x / 2 ^ (7 * (0 + 1))))).length + 1) cap) = v2 at *
      generalize hLL : L ++ encU x = L2 at *
      have HLL := Lib.hid hLL
      clear hLL
      go_wp2_with fail
      obtain ⟨j0, r0, hr0, hj0, hB, hj1, hj2⟩ := len_parts y HYY.out
      refine (len64_calls y HYY.out _).mono ?_
      rintro e w' ⟨rfl, rfl⟩
      rw [hB]
      clear hB
      have HJ1 := Lib.hid hj1
      have HJ2 := Lib.hid hj2
      clear hj1 hj2
      go_wp2_with fail
      go_loopw [7] (fun a wr => URel y L2 b v2 W2 a wr) (fun a _ => (intOf a).toNat)
      case atStart =>
        refine ⟨j0, v2, hj0, ?_, HJ1.out, ?_, EncTo.refl _ _ _⟩
        · rw [show ((7 * (j0 : Int) + r0) / 7 * 7) = ((7 * j0 : Nat) : Int) from by omega]
        · rw [Nat.div_eq_of_lt HJ2.out]
          unfold encH
          simpa using H3.out
      case round =>
        obtain ⟨j, v1, hj, rfl, hjx, hE, hto⟩ := hrel
        have HE := Lib.hid hE
        have HTO := Lib.hid hto
        have HJ := Lib.hid hjx
        have hlen : (Lib.byteCells (L2 ++ encH (y / 2 ^ (7 * (j + 1))))).length ≤ (L2).length + 10 := by
          rw [Lib.byteCells_length, List.length_append]
          have := encH_len 10 (y / 2 ^ (7 * (j + 1))) (Nat.lt_of_le_of_lt (Nat.div_le_self _ _) (by omega))
          omega
        have hcb : wr.cell? ⟨b, 0, none⟩ = some v1 := hE.blk.cell 0
        have hfb := hE.blk.frozen 0
        clear hE hto hjx
        by_cases hj0 : j = 0
        · subst hj0
          have hb1 : (Lib.byteCells (L2 ++ encH (y / 2 ^ (7 * (0 + 1))))).length + 1 ≤ 140737488355328 := by have := hL2; omega
          have hgd : True := trivial
          go_wp2_with (at_builtin; refine list_append_byte rfl (.tmp 42) (.tmp 46) rfl rfl rfl HE.out hcb hfb hb1 ?_; intro gg cap w1 hown1 hcb1 hfb1 hto1)
          rw [rounds_succ]
          go_wp2
          go_ret
          have d := encmid_done (UInt8.ofNat (y % 128)) (lo_byte y) HE.out hto1 rfl hown1
          refine ⟨rfl, _, ?_, HT3.out.trans (HTO.out.trans d.2)⟩
          have e : L ++ (encU x ++ encU y) = L2 ++ encH (y / 2 ^ (7 * (0 + 1))) ++ [UInt8.ofNat (y % 128)] := by
            rw [← HLL.out, List.append_assoc, List.append_assoc]
            rfl
          rw [e]
          exact d.1
        · obtain ⟨i, rfl⟩ : ∃ i, j = i + 1 := ⟨j - 1, by omega⟩
          have hpos : (0 : Int) < ((7 * (i + 1) : Nat) : Int) := by omega
          have hpos2 : (0 : Int) ≤ ((7 * (i + 1) : Nat) : Int) := by omega
          have hq1 : 7 ≤ 7 * (i + 1) := by omega
          have hq2 : 7 * (i + 1) ≤ 63 := by omega
          generalize hq : 7 * (i + 1) = q at *
          have HQ := Lib.hid hq
          clear hq
          go_wp2_with fail
          have hb1 : (Lib.byteCells (L2 ++ encH (y / 2 ^ (7 * (i + 1 + 1))))).length + 1 ≤ 140737488355328 := by have := hL2; omega
          have hnb : ∀ o, (wr.alloc o).cell? ⟨b, 0, none⟩ = some v1 := fun o => cell_alloc hcb o
          go_region_law (refine step_append_byte rfl (.tmp 28) (.tmp 34) rfl rfl rfl HE.out hcb hfb hb1 ?_; intro gg cap w1 hown1 hcb1 hfb1 hto1)
          all_goals
            go_wp2
            go_roundw
            case rel =>
              have d := encmid_done (UInt8.ofNat (128 + y / 2 ^ q % 128)) (hi_byte y q) HE.out hto1 rfl hown1
              have hq := HQ.out
              refine ⟨i, _, by omega, ?_, fun _ => Nat.le_trans (Nat.pow_le_pow_right (by omega) (by omega)) (HJ.out (by omega)), ?_, HTO.out.trans d.2⟩
              · rw [show ((q : Int) - 7) = ((7 * i : Nat) : Int) from by omega]
              · have h2 := encH_step y q (HJ.out (by omega))
                rw [show q + 7 = 7 * (i + 1 + 1) from by omega] at h2
                rw [hq, h2, ← List.append_assoc]
                exact d.1
            case measure => simp [intOf]; omega
    · obtain ⟨i, rfl⟩ : ∃ i, j = i + 1 := ⟨j - 1, by omega⟩
      have hpos : (0 : Int) < ((7 * (i + 1) : Nat) : Int) := by omega
      have hpos2 : (0 : Int) ≤ ((7 * (i + 1) : Nat) : Int) := by omega
      have hq1 : 7 ≤ 7 * (i + 1) := by omega
      have hq2 : 7 * (i + 1) ≤ 63 := by omega
      generalize hq : 7 * (i + 1) = q at *
      have HQ := Lib.hid hq
      clear hq
      go_wp2_with fail
      have hb1 : (Lib.byteCells (L ++ encH (x / 2 ^ (7 * (i + 1 + 1))))).length + 1 ≤ 140737488355328 := by have := hL; omega
      have hnb : ∀ o, (wr.alloc o).cell? ⟨b, 0, none⟩ = some v1 := fun o => cell_alloc hcb o
      go_region_law (refine step_append_byte rfl (.tmp 28) (.tmp 34) rfl rfl rfl HE.out hcb hfb hb1 ?_; intro gg cap w1 hown1 hcb1 hfb1 hto1)
      all_goals
        go_wp2
        go_roundw
        case rel =>
          have d := encmid_done (UInt8.ofNat (128 + x / 2 ^ q % 128)) (hi_byte x q) HE.out hto1 rfl hown1
          have hq := HQ.out
          refine ⟨i, _, by omega, ?_, fun _ => Nat.le_trans (Nat.pow_le_pow_right (by omega) (by omega)) (HJ.out (by omega)), ?_, HTO.out.trans d.2⟩
          · rw [show ((q : Int) - 7) = ((7 * i : Nat) : Int) from by omega]
          · have h2 := encH_step x q (HJ.out (by omega))
            rw [show q + 7 = 7 * (i + 1 + 1) from by omega] at h2
            rw [hq, h2, ← List.append_assoc]
            exact d.1
        case measure => simp [intOf]; omega

end Go.Proofs.YtdgjkejfmehphaaGreatDoor
