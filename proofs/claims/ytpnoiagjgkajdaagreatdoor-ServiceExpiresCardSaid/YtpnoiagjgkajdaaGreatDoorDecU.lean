/- The contracts of wire's decoder: U. -/
import Derived.Test.YtpnoiagjgkajdaaGreatDoorDec
namespace Go.Proofs.YtpnoiagjgkajdaaGreatDoor
open Go.RowKit
attribute [local go_sem] size_bs bs_append

/-- A number off some bytes: what it is, how many bytes are consumed, the error. -/
def uF : List UInt8 → Nat → Bool → Nat × Nat × Int
  | [], _, _ => (0, 0, 2)
  | c :: r, v, first =>
    if (first = true ∧ c.toNat = 128) ∨ 144115188075855871 < v then (0, 1, 3)
    else if c.toNat < 128 then (v * 128 + c.toNat % 128, 1, 0)
    else ((uF r (v * 128 + c.toNat % 128) false).1, (uF r (v * 128 + c.toNat % 128) false).2.1 + 1, (uF r (v * 128 + c.toNat % 128) false).2.2)
def Ds.u (d : Ds) : Nat × Ds :=
  if d.err ≠ 0 then (0, d) else ((uF (d.s.drop d.at_) 0 true).1, { d with at_ := d.at_ + (uF (d.s.drop d.at_) 0 true).2.1, err := (uF (d.s.drop d.at_) 0 true).2.2 })

def atOf (w : World) (b : Nat) : Nat := (intOf ((w.cell? ⟨b, 1, none⟩).getD undef)).toNat
theorem DecAt.atOf_ {w : World} {b : Nat} {d : Ds} (h : DecAt w b d) : atOf w b = d.at_ := by
  unfold atOf
  rw [h.c1]
  simp [intOf]

theorem dec_step (v : Nat) (c : UInt8) (hv : v ≤ 144115188075855871) :
    bits .or .u64 ((v : Int) * 128) (IntKind.u64.wrap (bits .andNot .u8 (c.toNat : Int) 128)) = ((v * 128 + c.toNat % 128 : Nat) : Int) := by
  have hc := c.toNat_lt
  have e3 : bits .andNot .u8 (c.toNat : Int) 128 = ((c.toNat &&& (255 - 128) : Nat) : Int) := u8_andNot_nat c.toNat 128 hc (by decide)
  have e4 : c.toNat &&& (255 - 128) = c.toNat % 128 := by
    have : ∀ k : Fin 256, k.val &&& (255 - 128) = k.val % 128 := by decide +kernel
    exact this ⟨c.toNat, hc⟩
  rw [e3, e4, IntWalk.u64_in _ (by omega)]
  have hw : ∀ n : Int, 0 ≤ n → n < 2 ^ 64 → IntKind.u64.wrap n = n := fun n h0 h1 => IntWalk.u64_in n (by omega)
  have e1 := bits_join .u64 64 (by decide) hw 7 ((v : Int) * 128) ((c.toNat % 128 : Nat) : Int) (by omega) (by omega) (by omega) (by omega) (by omega) (by omega)
  rw [e1]
  omega
theorem uF_cons (c : UInt8) (r : List UInt8) (v : Nat) (first : Bool) : uF (c :: r) v first = if (first = true ∧ c.toNat = 128) ∨ 144115188075855871 < v then (0, 1, 3)
    else if c.toNat < 128 then (v * 128 + c.toNat % 128, 1, 0)
    else ((uF r (v * 128 + c.toNat % 128) false).1, (uF r (v * 128 + c.toNat % 128) false).2.1 + 1, (uF r (v * 128 + c.toNat % 128) false).2.2) := rfl

def DURel (s : List UInt8) (a0 b : Nat) (w : World) (v_ f_ : Value) (wr : World) : Prop :=
  ∃ (v k : Nat) (first : Bool), v < 18446744073709551616 ∧ a0 ≤ k ∧ k ≤ s.length ∧ v_ = .int .u64 (v : Int) ∧ f_ = .bool first ∧ DecAt wr b ⟨s, k, 0⟩ ∧ Keep [b] w wr ∧
    uF (s.drop a0) 0 true = ((uF (s.drop k) v first).1, (uF (s.drop k) v first).2.1 + (k - a0), (uF (s.drop k) v first).2.2)

set_option maxRecDepth 100000 in
set_option maxHeartbeats 1000000 in
theorem du_calls {w : World} {b : Nat} {d : Ds} (h : DecAt w b d) (ha : d.at_ ≤ d.s.length) (hl : d.s.length ≤ 4611686018427387904) :
    Calls Tryz.prog 200 #[.pointer (some ⟨b, 0, none⟩)] w fun r w' => r = .returned (.int .u64 (d.u.1 : Int)) ∧ DecAt w' b d.u.2 ∧ Keep [b] w w' := by
  by_cases h0 : d.err = 0
  · obtain ⟨s, a0, er⟩ := d
    simp only at h0 ha hl
    subst h0
    have hu : Ds.u ⟨s, a0, 0⟩ = ((uF (s.drop a0) 0 true).1, ⟨s, a0 + (uF (s.drop a0) 0 true).2.1, (uF (s.drop a0) 0 true).2.2⟩) := rfl
    have HU := Lib.hid hu
    have H := Lib.hid h
    clear hu h
    go_enter Tryz.func200, Tryz.ntmps200
    go_wp2
    go_loopw [3, 4, 5, 6] (fun v f _ _ wr => DURel s a0 b w v f wr) (fun _ _ _ _ wr => s.length - atOf wr b)
    case atStart => exact ⟨0, a0, true, by omega, Nat.le_refl _, ha, rfl, rfl, H.out, Keep.refl _ _, by simp⟩
    case round =>
      obtain ⟨v, k, first, hv, hk0, hk1, rfl, rfl, hD, hkeep, hF⟩ := hrel
      have HF := Lib.hid hF
      have HD := Lib.hid hD
      have HK := Lib.hid hkeep
      clear hF hD hkeep
      by_cases hend : k = s.length
      · subst hend
        go_wp2_with (go_at_call 258; refine (next_end HD.out rfl rfl hl).mono ?_; rintro e w1 ⟨rfl, hD1, hk1⟩; have HD1 := Lib.hid hD1; have HK1 := Lib.hid hk1; clear hD1 hk1)
        go_ret
        have hfin : uF (s.drop a0) 0 true = (0, s.length - a0, 2) := by rw [HF.out, List.drop_length]; simp [uF]
        rw [HU.out, hfin]
        refine ⟨rfl, ?_, HK.out.trans HK1.out⟩
        have := HD1.out
        simp only [show a0 + (s.length - a0) = s.length from by omega]
        exact this
      · have hlt : k < s.length := by omega
        have hdrop : s.drop k = s[k] :: s.drop (k + 1) := List.drop_eq_getElem_cons hlt
        rw [hdrop] at HF
        have N := next_ok HD.out rfl hlt hl
        simp only at N
        have hc := s[k].toNat_lt
        generalize s[k] = c at *
        have HN := Lib.hid N
        clear N hdrop
        rw [uF_cons] at HF
        by_cases hbad : (first = true ∧ c.toNat = 128) ∨ 144115188075855871 < v
        · rw [if_pos hbad] at HF
          have hfin : uF (s.drop a0) 0 true = (0, 1 + (k - a0), 3) := HF.out
          have HFIN := Lib.hid hfin
          clear hfin
          have close : ∀ w2, DecAt w2 b ⟨s, k + 1, 3⟩ → DecAt w2 b (Ds.u ⟨s, a0, 0⟩).2 := fun w2 hd => by
            rw [HU.out, HFIN.out]
            simp only [show a0 + (1 + (k - a0)) = k + 1 from by omega]
            exact hd
          have HC := Lib.hid close
          clear close
          by_cases h128 : first = true ∧ c.toNat = 128
          · obtain ⟨rfl, h128⟩ := h128
            have hb : ((c.toNat : Int) == 128) = true := by simp; omega
            clear h128 hbad
            go_wp2_with (first | (go_at_call 258; refine HN.out.mono ?_; rintro e w1 ⟨rfl, hD1, hk1⟩; have HD1 := Lib.hid hD1; have HK1 := Lib.hid hk1; clear hD1 hk1) | (go_at_call 197; refine (dfail_calls HD1.out 3).mono ?_; rintro e w2 ⟨rfl, hD2, hk2⟩; have HD2 := Lib.hid hD2; have HK2 := Lib.hid hk2; clear hD2 hk2))
            go_ret
            rw [HU.out, HFIN.out]
            refine ⟨rfl, ?_, HK.out.trans (HK1.out.trans HK2.out)⟩
            rw [← HFIN.out, ← HU.out]
            exact HC.out _ HD2.out
          · have hvbig : 144115188075855871 < (v : Int) := by rcases hbad with h | h; exact absurd h h128; omega
            cases first
            · go_wp2_with (first | (go_at_call 258; refine HN.out.mono ?_; rintro e w1 ⟨rfl, hD1, hk1⟩; have HD1 := Lib.hid hD1; have HK1 := Lib.hid hk1; clear hD1 hk1) | (go_at_call 197; refine (dfail_calls HD1.out 3).mono ?_; rintro e w2 ⟨rfl, hD2, hk2⟩; have HD2 := Lib.hid hD2; have HK2 := Lib.hid hk2; clear hD2 hk2))
              go_ret
              rw [HU.out, HFIN.out]
              refine ⟨rfl, ?_, HK.out.trans (HK1.out.trans HK2.out)⟩
              rw [← HFIN.out, ← HU.out]
              exact HC.out _ HD2.out
            · have hb : ((c.toNat : Int) == 128) = false := by simp at h128 ⊢; omega
              clear h128 hbad
              go_wp2_with (first | (go_at_call 258; refine HN.out.mono ?_; rintro e w1 ⟨rfl, hD1, hk1⟩; have HD1 := Lib.hid hD1; have HK1 := Lib.hid hk1; clear hD1 hk1) | (go_at_call 197; refine (dfail_calls HD1.out 3).mono ?_; rintro e w2 ⟨rfl, hD2, hk2⟩; have HD2 := Lib.hid hD2; have HK2 := Lib.hid hk2; clear hD2 hk2))
              go_ret
              rw [HU.out, HFIN.out]
              refine ⟨rfl, ?_, HK.out.trans (HK1.out.trans HK2.out)⟩
              rw [← HFIN.out, ← HU.out]
              exact HC.out _ HD2.out
        · rw [if_neg hbad] at HF
          have hf1 : (decide (144115188075855871 < (v : Int))) = false := by simp; omega
          have hv2 : v ≤ 144115188075855871 := by omega
          have hstep := dec_step v c hv2
          have HST := Lib.hid hstep
          clear hstep
          by_cases hsm : c.toNat < 128
          · rw [if_pos hsm] at HF
            have hsm2 : (c.toNat : Int) < 128 := by omega
            cases first
            · go_wp2_with (first | (go_at_call 258; refine HN.out.mono ?_; rintro e w1 ⟨rfl, hD1, hk1⟩; have HD1 := Lib.hid hD1; have HK1 := Lib.hid hk1; clear hD1 hk1) | (go_at_call 197; refine (dfail_calls HD1.out 3).mono ?_; rintro e w2 ⟨rfl, hD2, hk2⟩; have HD2 := Lib.hid hD2; have HK2 := Lib.hid hk2; clear hD2 hk2))
              go_ret
              rw [HU.out, HF.out, HST.out]
              refine ⟨rfl, ?_, HK.out.trans HK1.out⟩
              simp only [show a0 + (1 + (k - a0)) = k + 1 from by omega]
              exact HD1.out
            · have hb : ((c.toNat : Int) == 128) = false := by simp; omega
              go_wp2_with (first | (go_at_call 258; refine HN.out.mono ?_; rintro e w1 ⟨rfl, hD1, hk1⟩; have HD1 := Lib.hid hD1; have HK1 := Lib.hid hk1; clear hD1 hk1) | (go_at_call 197; refine (dfail_calls HD1.out 3).mono ?_; rintro e w2 ⟨rfl, hD2, hk2⟩; have HD2 := Lib.hid hD2; have HK2 := Lib.hid hk2; clear hD2 hk2))
              go_ret
              rw [HU.out, HF.out, HST.out]
              refine ⟨rfl, ?_, HK.out.trans HK1.out⟩
              simp only [show a0 + (1 + (k - a0)) = k + 1 from by omega]
              exact HD1.out
          · rw [if_neg hsm] at HF
            have hsm2 : ¬ (c.toNat : Int) < 128 := by omega
            cases first
            · go_wp2_with (first | (go_at_call 258; refine HN.out.mono ?_; rintro e w1 ⟨rfl, hD1, hk1⟩; have HD1 := Lib.hid hD1; have HK1 := Lib.hid hk1; clear hD1 hk1) | (go_at_call 197; refine (dfail_calls HD1.out 3).mono ?_; rintro e w2 ⟨rfl, hD2, hk2⟩; have HD2 := Lib.hid hD2; have HK2 := Lib.hid hk2; clear hD2 hk2))
              go_roundw
              case rel =>
                refine ⟨v * 128 + c.toNat % 128, k + 1, false, by omega, by omega, by omega, by rw [HST.out], rfl, HD1.out, HK.out.trans HK1.out, ?_⟩
                rw [HF.out]
                simp only [Prod.mk.injEq, true_and, and_true]
                omega
              case measure => rw [HD1.out.atOf_, HD.out.atOf_]; simp only; omega
            · have hb : ((c.toNat : Int) == 128) = false := by
                simp only [true_and, not_or] at hbad
                rw [beq_eq_false_iff_ne]; omega
              go_wp2_with (first | (go_at_call 258; refine HN.out.mono ?_; rintro e w1 ⟨rfl, hD1, hk1⟩; have HD1 := Lib.hid hD1; have HK1 := Lib.hid hk1; clear hD1 hk1) | (go_at_call 197; refine (dfail_calls HD1.out 3).mono ?_; rintro e w2 ⟨rfl, hD2, hk2⟩; have HD2 := Lib.hid hD2; have HK2 := Lib.hid hk2; clear hD2 hk2))
              go_roundw
              case rel =>
                refine ⟨v * 128 + c.toNat % 128, k + 1, false, by omega, by omega, by omega, by rw [HST.out], rfl, HD1.out, HK.out.trans HK1.out, ?_⟩
                rw [HF.out]
                simp only [Prod.mk.injEq, true_and, and_true]
                omega
              case measure => rw [HD1.out.atOf_, HD.out.atOf_]; simp only; omega
  · have hu : d.u = (0, d) := by simp [Ds.u, h0]
    have HU := Lib.hid hu
    have H := Lib.hid h
    clear hu h
    go_enter Tryz.func200, Tryz.ntmps200
    go_wp2
    refine wp_loop_rounds 1 ?_
    rw [rounds_succ]
    go_wp2_with (go_at_call 258; refine (next_err H.out h0).mono ?_; rintro e w1 ⟨rfl, hD1, hk1⟩; have HD1 := Lib.hid hD1; have HK1 := Lib.hid hk1; clear hD1 hk1)
    go_ret
    rw [HU.out]
    exact ⟨rfl, HD1.out, HK1.out⟩

end Go.Proofs.YtpnoiagjgkajdaaGreatDoor
