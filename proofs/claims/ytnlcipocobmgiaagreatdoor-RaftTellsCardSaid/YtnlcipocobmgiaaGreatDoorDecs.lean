/- The contracts of wire's decoder: From, next, Fail, Left, U. -/
import Derived.Test.YtnlcipocobmgiaaGreatDoorProg
import Derived.Test.YtnlcipocobmgiaaGreatDoorBase
import Derived.WalkLawsBesides
import Derived.Deep.QuietTactic
import Derived.BigQuiet
import Derived.Deep.RegionHeld3
import Derived.Deep.DeepCutAuto
namespace Go.Proofs.YtnlcipocobmgiaaGreatDoor
open Go.RowKit
attribute [local go_sem] size_bs bs_append

/-- A decoder: its bytes, how many are consumed, its error. -/
structure Ds where
  s : List UInt8
  at_ : Nat
  err : Int
structure DecAt (w : World) (b : Nat) (d : Ds) : Prop where
  blk : Blk w b 153 #[.string (bs d.s), .int .i64 (d.at_ : Int), .int .i64 d.err]
theorem DecAt.drewN {w : World} {b : Nat} {d : Ds} (h : DecAt w b d) (n : Nat) : DecAt (w.drewN n) b d := ⟨h.blk⟩
theorem DecAt.keep {M : List Nat} {w w' : World} {b : Nat} {d : Ds} (h : DecAt w b d) (hk : Keep M w w') (hb : b ∉ M) : DecAt w' b d := ⟨h.blk.keep hk hb⟩
section
variable {w : World} {b : Nat} {d : Ds} (h : DecAt w b d)
include h
theorem DecAt.c0 : w.cell? ⟨b, 0, none⟩ = some (.string (bs d.s)) := h.blk.cell 0
theorem DecAt.c1 : w.cell? ⟨b, 1, none⟩ = some (.int .i64 (d.at_ : Int)) := h.blk.cell 1
theorem DecAt.c2 : w.cell? ⟨b, 2, none⟩ = some (.int .i64 d.err) := h.blk.cell 2
theorem DecAt.err_ (e : Int) : DecAt (w.setCell ⟨b, 2, none⟩ (.int .i64 e)) b { d with err := e } := ⟨h.blk.set_ 2 _⟩
theorem DecAt.at__ (n : Nat) : DecAt (w.setCell ⟨b, 1, none⟩ (.int .i64 (n : Int))) b { d with at_ := n } := ⟨h.blk.set_ 1 _⟩
end

set_option maxHeartbeats 400000 in
theorem from_calls (s : List UInt8) (w : World) :
    Calls Tryz.prog 86 #[.string (bs s)] w fun e w' => e = .returned (.pointer (some ⟨w.heap.size, 0, none⟩)) ∧ DecAt w' w.heap.size ⟨s, 0, 0⟩ ∧ Keep [] w w' := by
  go_enter Tryz.func86, Tryz.ntmps86
  go_wp2
  go_ret
  exact ⟨rfl, ⟨Blk.new _ _ _⟩, (Keep.refl _ _).alloc _⟩

def Ds.fail (d : Ds) (e : Int) : Ds := { d with err := if d.err = 0 then e else d.err }
set_option maxHeartbeats 400000 in
theorem dfail_calls {w : World} {b : Nat} {d : Ds} (h : DecAt w b d) (e : Int) :
    Calls Tryz.prog 107 #[.pointer (some ⟨b, 0, none⟩), .int .i64 e] w fun r w' => r = .returned (.tuple #[]) ∧ DecAt w' b (d.fail e) ∧ Keep [b] w w' := by
  have hf : d.fail e = { d with err := if d.err = 0 then e else d.err } := rfl
  have HF := Lib.hid hf
  clear hf
  have c2 := h.c2
  have f2 := h.blk.frozen 2
  have H := Lib.hid h
  clear h
  by_cases h0 : d.err = 0
  · have hb : (d.err == 0) = true := by simpa using h0
    have H0 := Lib.hid h0
    clear h0
    go_enter Tryz.func107, Tryz.ntmps107
    go_wp2
    go_end0
    rw [HF.out, if_pos H0.out]
    exact ⟨rfl, H.out.err_ e, (Keep.refl _ _).setCell (.inl (by simp)) _⟩
  · have hb : (d.err == 0) = false := by simpa using h0
    have H0 := Lib.hid h0
    clear h0
    go_enter Tryz.func107, Tryz.ntmps107
    go_wp2
    go_end0
    rw [HF.out, if_neg H0.out]
    exact ⟨rfl, H.out, Keep.refl _ _⟩

set_option maxHeartbeats 400000 in
theorem left_calls {w : World} {b : Nat} {d : Ds} (h : DecAt w b d) (ha : d.at_ ≤ d.s.length) (hl : d.s.length ≤ 4611686018427387904) :
    Calls Tryz.prog 108 #[.pointer (some ⟨b, 0, none⟩)] w fun r w' => r = .returned (.int .i64 ((d.s.length : Int) - (d.at_ : Int))) ∧ DecAt w' b d ∧ Keep [b] w w' := by
  have c0 := h.c0
  have c1 := h.c1
  have H := Lib.hid h
  clear h
  go_enter Tryz.func108, Tryz.ntmps108
  go_wp2
  go_quiet (fail)
  go_wp2
  go_ret
  exact ⟨rfl, H.out.drewN _, (Keep.refl _ _).drewN _⟩

set_option maxRecDepth 100000 in
set_option maxHeartbeats 400000 in
theorem next_err {w : World} {b : Nat} {d : Ds} (h : DecAt w b d) (h0 : d.err ≠ 0) :
    Calls Tryz.prog 127 #[.pointer (some ⟨b, 0, none⟩)] w fun r w' => r = .returned (.tuple #[.int .u8 0, .bool false]) ∧ DecAt w' b d ∧ Keep [b] w w' := by
  have c2 := h.c2
  have hb : (d.err == 0) = false := by simpa using h0
  have hb2 : (d.err != 0) = true := by simpa using h0
  have H := Lib.hid h
  have H0 := Lib.hid h0
  clear h h0
  go_enter Tryz.func127, Tryz.ntmps127
  go_wp2
  go_quiet (fail)
  go_wp2
  go_ret2
  exact ⟨rfl, H.out.drewN _, (Keep.refl _ _).drewN _⟩

set_option maxRecDepth 100000 in
set_option maxHeartbeats 400000 in
theorem next_end {w : World} {b : Nat} {d : Ds} (h : DecAt w b d) (h0 : d.err = 0) (ha : d.at_ = d.s.length) (hl : d.s.length ≤ 4611686018427387904) :
    Calls Tryz.prog 127 #[.pointer (some ⟨b, 0, none⟩)] w fun r w' => r = .returned (.tuple #[.int .u8 0, .bool false]) ∧ DecAt w' b { d with err := 2 } ∧ Keep [b] w w' := by
  obtain ⟨s, a, er⟩ := d
  simp only at h0 ha
  subst h0 ha
  have c0 := h.c0
  have c1 := h.c1
  have c2 := h.c2
  have f2 := h.blk.frozen 2
  have H := Lib.hid h
  clear h
  simp only at *
  go_enter Tryz.func127, Tryz.ntmps127
  go_wp2
  go_quiet (fail)
  go_wp2
  go_ret2
  exact ⟨rfl, (H.out.drewN _).err_ 2, ((Keep.refl _ _).drewN _).setCell (.inl (by simp)) _⟩

set_option maxRecDepth 100000 in
set_option maxHeartbeats 400000 in
theorem next_ok {w : World} {b : Nat} {d : Ds} (h : DecAt w b d) (h0 : d.err = 0) (ha : d.at_ < d.s.length) (hl : d.s.length ≤ 4611686018427387904) :
    Calls Tryz.prog 127 #[.pointer (some ⟨b, 0, none⟩)] w fun r w' => r = .returned (.tuple #[.int .u8 (d.s[d.at_].toNat : Int), .bool true]) ∧ DecAt w' b { d with at_ := d.at_ + 1 } ∧ Keep [b] w w' := by
  obtain ⟨s, a, er⟩ := d
  simp only at h0 ha hl
  subst h0
  have c0 := h.c0
  have c1 := h.c1
  have c2 := h.c2
  have f1 := h.blk.frozen 1
  have H := Lib.hid h
  clear h
  simp only at *
  go_enter Tryz.func127, Tryz.ntmps127
  go_wp2
  go_quiet (fail)
  go_wp2
  have hcast : ((a : Int) + 1) = ((a + 1 : Nat) : Int) := by omega
  rw [hcast]
  have hD : DecAt ((w.drewN nq).setCell ⟨b, 1, none⟩ (.int .i64 ((a + 1 : Nat) : Int))) b ⟨s, a + 1, 0⟩ := (H.out.drewN nq).at__ (a + 1)
  have HK : Hid (Keep [b] w ((w.drewN nq).setCell ⟨b, 1, none⟩ (.int .i64 ((a + 1 : Nat) : Int)))) := ((Keep.refl _ _).drewN _).setCell (.inl (by simp)) _
  clear hcast c0 c1 c2 f1
  generalize (w.drewN nq).setCell ⟨b, 1, none⟩ (.int .i64 ((a + 1 : Nat) : Int)) = W at *
  have d0 : W.cell? ⟨b, 0, none⟩ = some (.string (bs s)) := hD.c0
  have d1 : W.cell? ⟨b, 1, none⟩ = some (.int .i64 ((a : Int) + 1)) := by rw [hD.c1]; simp
  have HD := Lib.hid hD
  clear hD
  have hwr : IntKind.i64.wrap ((a : Int) + 1 - 1) = (a : Int) := by rw [IntWalk.i64_in _ (by omega)]; omega
  have i0 : (0 : Int) ≤ (a : Int) := by omega
  have i1 : (a : Int) < (s.length : Int) := by omega
  go_quiet (fail)
  go_wp2
  go_ret2
  exact ⟨rfl, HD.out.drewN _, HK.out.drewN _⟩

end Go.Proofs.YtnlcipocobmgiaaGreatDoor
/- The contracts of wire's decoder: U. -/
namespace Go.Proofs.YtnlcipocobmgiaaGreatDoor
open Go.RowKit
attribute [local go_sem] size_bs bs_append

/-- A number off some bytes: what it is, how many bytes are consumed, the error. -/
def uF : List UInt8 → Nat → Bool → Nat × Nat × Int
  | [], _, _ => (0, 0, 2)
  | c :: r, v, first =>
    if (first = true ∧ c.toNat = 128) ∨ 144115188075855871 < v then (0, 1, 3)
    else if c.toNat < 128 then (v * 128 + c.toNat % 128, 1, 0)
    else ((uF r (v * 128 + c.toNat % 128) false).1, (uF r (v * 128 + c.toNat % 128) false).2.1 + 1, (uF r (v * 128 + c.toNat % 128) false).2.2)
def Ds.u (d : Ds) : Nat × Ds :=
  if d.err ≠ 0 then (0, d) else ((uF (d.s.drop d.at_) 0 true).1, { d with at_ := d.at_ + (uF (d.s.drop d.at_) 0 true).2.1, err := (uF (d.s.drop d.at_) 0 true).2.2 })

def atOf (w : World) (b : Nat) : Nat := (intOf ((w.cell? ⟨b, 1, none⟩).getD undef)).toNat
theorem DecAt.atOf_ {w : World} {b : Nat} {d : Ds} (h : DecAt w b d) : atOf w b = d.at_ := by
  unfold atOf
  rw [h.c1]
  simp [intOf]

theorem dec_step (v : Nat) (c : UInt8) (hv : v ≤ 144115188075855871) :
    bits .or .u64 ((v : Int) * 128) (IntKind.u64.wrap (bits .andNot .u8 (c.toNat : Int) 128)) = ((v * 128 + c.toNat % 128 : Nat) : Int) := by
  have hc := c.toNat_lt
  have e3 : bits .andNot .u8 (c.toNat : Int) 128 = ((c.toNat &&& (255 - 128) : Nat) : Int) := u8_andNot_nat c.toNat 128 hc (by decide)
  have e4 : c.toNat &&& (255 - 128) = c.toNat % 128 := by
    have : ∀ k : Fin 256, k.val &&& (255 - 128) = k.val % 128 := by decide +kernel
    exact this ⟨c.toNat, hc⟩
  rw [e3, e4, IntWalk.u64_in _ (by omega)]
  have hw : ∀ n : Int, 0 ≤ n → n < 2 ^ 64 → IntKind.u64.wrap n = n := fun n h0 h1 => IntWalk.u64_in n (by omega)
  have e1 := bits_join .u64 64 (by decide) hw 7 ((v : Int) * 128) ((c.toNat % 128 : Nat) : Int) (by omega) (by omega) (by omega) (by omega) (by omega) (by omega)
  rw [e1]
  omega
theorem uF_cons (c : UInt8) (r : List UInt8) (v : Nat) (first : Bool) : uF (c :: r) v first = if (first = true ∧ c.toNat = 128) ∨ 144115188075855871 < v then (0, 1, 3)
    else if c.toNat < 128 then (v * 128 + c.toNat % 128, 1, 0)
    else ((uF r (v * 128 + c.toNat % 128) false).1, (uF r (v * 128 + c.toNat % 128) false).2.1 + 1, (uF r (v * 128 + c.toNat % 128) false).2.2) := rfl

def DURel (s : List UInt8) (a0 b : Nat) (w : World) (v_ f_ : Value) (wr : World) : Prop :=
  ∃ (v k : Nat) (first : Bool), v < 18446744073709551616 ∧ a0 ≤ k ∧ k ≤ s.length ∧ v_ = .int .u64 (v : Int) ∧ f_ = .bool first ∧ DecAt wr b ⟨s, k, 0⟩ ∧ Keep [b] w wr ∧
    uF (s.drop a0) 0 true = ((uF (s.drop k) v first).1, (uF (s.drop k) v first).2.1 + (k - a0), (uF (s.drop k) v first).2.2)

set_option maxRecDepth 100000 in
set_option maxHeartbeats 1000000 in
theorem du_calls {w : World} {b : Nat} {d : Ds} (h : DecAt w b d) (ha : d.at_ ≤ d.s.length) (hl : d.s.length ≤ 4611686018427387904) :
    Calls Tryz.prog 106 #[.pointer (some ⟨b, 0, none⟩)] w fun r w' => r = .returned (.int .u64 (d.u.1 : Int)) ∧ DecAt w' b d.u.2 ∧ Keep [b] w w' := by
  by_cases h0 : d.err = 0
  · obtain ⟨s, a0, er⟩ := d
    simp only at h0 ha hl
    subst h0
    have hu : Ds.u ⟨s, a0, 0⟩ = ((uF (s.drop a0) 0 true).1, ⟨s, a0 + (uF (s.drop a0) 0 true).2.1, (uF (s.drop a0) 0 true).2.2⟩) := rfl
    have HU := Lib.hid hu
    have H := Lib.hid h
    clear hu h
    go_enter Tryz.func106, Tryz.ntmps106
    go_wp2
    go_loopw [3, 4, 5, 6] (fun v f _ _ wr => DURel s a0 b w v f wr) (fun _ _ _ _ wr => s.length - atOf wr b)
    case atStart => exact ⟨0, a0, true, by omega, Nat.le_refl _, ha, rfl, rfl, H.out, Keep.refl _ _, by simp⟩
    case round =>
      obtain ⟨v, k, first, hv, hk0, hk1, rfl, rfl, hD, hkeep, hF⟩ := hrel
      have HF := Lib.hid hF
      have HD := Lib.hid hD
      have HK := Lib.hid hkeep
      clear hF hD hkeep
      by_cases hend : k = s.length
      · subst hend
        go_wp2_with (go_at_call 127; refine (next_end HD.out rfl rfl hl).mono ?_; rintro e w1 ⟨rfl, hD1, hk1⟩; have HD1 := Lib.hid hD1; have HK1 := Lib.hid hk1; clear hD1 hk1)
        go_ret
        have hfin : uF (s.drop a0) 0 true = (0, s.length - a0, 2) := by rw [HF.out, List.drop_length]; simp [uF]
        rw [HU.out, hfin]
        refine ⟨rfl, ?_, HK.out.trans HK1.out⟩
        have := HD1.out
        simp only [show a0 + (s.length - a0) = s.length from by omega]
        exact this
      · have hlt : k < s.length := by omega
        have hdrop : s.drop k = s[k] :: s.drop (k + 1) := List.drop_eq_getElem_cons hlt
        rw [hdrop] at HF
        have N := next_ok HD.out rfl hlt hl
        simp only at N
        have hc := s[k].toNat_lt
        generalize s[k] = c at *
        have HN := Lib.hid N
        clear N hdrop
        rw [uF_cons] at HF
        by_cases hbad : (first = true ∧ c.toNat = 128) ∨ 144115188075855871 < v
        · rw [if_pos hbad] at HF
          have hfin : uF (s.drop a0) 0 true = (0, 1 + (k - a0), 3) := HF.out
          have HFIN := Lib.hid hfin
          clear hfin
          have close : ∀ w2, DecAt w2 b ⟨s, k + 1, 3⟩ → DecAt w2 b (Ds.u ⟨s, a0, 0⟩).2 := fun w2 hd => by
            rw [HU.out, HFIN.out]
            simp only [show a0 + (1 + (k - a0)) = k + 1 from by omega]
            exact hd
          have HC := Lib.hid close
          clear close
          by_cases h128 : first = true ∧ c.toNat = 128
          · obtain ⟨rfl, h128⟩ := h128
            have hb : ((c.toNat : Int) == 128) = true := by simp; omega
            clear h128 hbad
            go_wp2_with (first | (go_at_call 127; refine HN.out.mono ?_; rintro e w1 ⟨rfl, hD1, hk1⟩; have HD1 := Lib.hid hD1; have HK1 := Lib.hid hk1; clear hD1 hk1) | (go_at_call 107; refine (dfail_calls HD1.out 3).mono ?_; rintro e w2 ⟨rfl, hD2, hk2⟩; have HD2 := Lib.hid hD2; have HK2 := Lib.hid hk2; clear hD2 hk2))
            go_ret
            rw [HU.out, HFIN.out]
            refine ⟨rfl, ?_, HK.out.trans (HK1.out.trans HK2.out)⟩
            rw [← HFIN.out, ← HU.out]
            exact HC.out _ HD2.out
          · have hvbig : 144115188075855871 < (v : Int) := by rcases hbad with h | h; exact absurd h h128; omega
            cases first
            · go_wp2_with (first | (go_at_call 127; refine HN.out.mono ?_; rintro e w1 ⟨rfl, hD1, hk1⟩; have HD1 := Lib.hid hD1; have HK1 := Lib.hid hk1; clear hD1 hk1) | (go_at_call 107; refine (dfail_calls HD1.out 3).mono ?_; rintro e w2 ⟨rfl, hD2, hk2⟩; have HD2 := Lib.hid hD2; have HK2 := Lib.hid hk2; clear hD2 hk2))
              go_ret
              rw [HU.out, HFIN.out]
              refine ⟨rfl, ?_, HK.out.trans (HK1.out.trans HK2.out)⟩
              rw [← HFIN.out, ← HU.out]
              exact HC.out _ HD2.out
            · have hb : ((c.toNat : Int) == 128) = false := by simp at h128 ⊢; omega
              clear h128 hbad
              go_wp2_with (first | (go_at_call 127; refine HN.out.mono ?_; rintro e w1 ⟨rfl, hD1, hk1⟩; have HD1 := Lib.hid hD1; have HK1 := Lib.hid hk1; clear hD1 hk1) | (go_at_call 107; refine (dfail_calls HD1.out 3).mono ?_; rintro e w2 ⟨rfl, hD2, hk2⟩; have HD2 := Lib.hid hD2; have HK2 := Lib.hid hk2; clear hD2 hk2))
              go_ret
              rw [HU.out, HFIN.out]
              refine ⟨rfl, ?_, HK.out.trans (HK1.out.trans HK2.out)⟩
              rw [← HFIN.out, ← HU.out]
              exact HC.out _ HD2.out
        · rw [if_neg hbad] at HF
          have hf1 : (decide (144115188075855871 < (v : Int))) = false := by simp; omega
          have hv2 : v ≤ 144115188075855871 := by omega
          have hstep := dec_step v c hv2
          have HST := Lib.hid hstep
          clear hstep
          by_cases hsm : c.toNat < 128
          · rw [if_pos hsm] at HF
            have hsm2 : (c.toNat : Int) < 128 := by omega
            cases first
            · go_wp2_with (first | (go_at_call 127; refine HN.out.mono ?_; rintro e w1 ⟨rfl, hD1, hk1⟩; have HD1 := Lib.hid hD1; have HK1 := Lib.hid hk1; clear hD1 hk1) | (go_at_call 107; refine (dfail_calls HD1.out 3).mono ?_; rintro e w2 ⟨rfl, hD2, hk2⟩; have HD2 := Lib.hid hD2; have HK2 := Lib.hid hk2; clear hD2 hk2))
              go_ret
              rw [HU.out, HF.out, HST.out]
              refine ⟨rfl, ?_, HK.out.trans HK1.out⟩
              simp only [show a0 + (1 + (k - a0)) = k + 1 from by omega]
              exact HD1.out
            · have hb : ((c.toNat : Int) == 128) = false := by simp; omega
              go_wp2_with (first | (go_at_call 127; refine HN.out.mono ?_; rintro e w1 ⟨rfl, hD1, hk1⟩; have HD1 := Lib.hid hD1; have HK1 := Lib.hid hk1; clear hD1 hk1) | (go_at_call 107; refine (dfail_calls HD1.out 3).mono ?_; rintro e w2 ⟨rfl, hD2, hk2⟩; have HD2 := Lib.hid hD2; have HK2 := Lib.hid hk2; clear hD2 hk2))
              go_ret
              rw [HU.out, HF.out, HST.out]
              refine ⟨rfl, ?_, HK.out.trans HK1.out⟩
              simp only [show a0 + (1 + (k - a0)) = k + 1 from by omega]
              exact HD1.out
          · rw [if_neg hsm] at HF
            have hsm2 : ¬ (c.toNat : Int) < 128 := by omega
            cases first
            · go_wp2_with (first | (go_at_call 127; refine HN.out.mono ?_; rintro e w1 ⟨rfl, hD1, hk1⟩; have HD1 := Lib.hid hD1; have HK1 := Lib.hid hk1; clear hD1 hk1) | (go_at_call 107; refine (dfail_calls HD1.out 3).mono ?_; rintro e w2 ⟨rfl, hD2, hk2⟩; have HD2 := Lib.hid hD2; have HK2 := Lib.hid hk2; clear hD2 hk2))
              go_roundw
              case rel =>
                refine ⟨v * 128 + c.toNat % 128, k + 1, false, by omega, by omega, by omega, by rw [HST.out], rfl, HD1.out, HK.out.trans HK1.out, ?_⟩
                rw [HF.out]
                simp only [Prod.mk.injEq, true_and, and_true]
                omega
              case measure => rw [HD1.out.atOf_, HD.out.atOf_]; simp only; omega
            · have hb : ((c.toNat : Int) == 128) = false := by
                simp only [true_and, not_or] at hbad
                rw [beq_eq_false_iff_ne]; omega
              go_wp2_with (first | (go_at_call 127; refine HN.out.mono ?_; rintro e w1 ⟨rfl, hD1, hk1⟩; have HD1 := Lib.hid hD1; have HK1 := Lib.hid hk1; clear hD1 hk1) | (go_at_call 107; refine (dfail_calls HD1.out 3).mono ?_; rintro e w2 ⟨rfl, hD2, hk2⟩; have HD2 := Lib.hid hD2; have HK2 := Lib.hid hk2; clear hD2 hk2))
              go_roundw
              case rel =>
                refine ⟨v * 128 + c.toNat % 128, k + 1, false, by omega, by omega, by omega, by rw [HST.out], rfl, HD1.out, HK.out.trans HK1.out, ?_⟩
                rw [HF.out]
                simp only [Prod.mk.injEq, true_and, and_true]
                omega
              case measure => rw [HD1.out.atOf_, HD.out.atOf_]; simp only; omega
  · have hu : d.u = (0, d) := by simp [Ds.u, h0]
    have HU := Lib.hid hu
    have H := Lib.hid h
    clear hu h
    go_enter Tryz.func106, Tryz.ntmps106
    go_wp2
    refine wp_loop_rounds 1 ?_
    rw [rounds_succ]
    go_wp2_with (go_at_call 127; refine (next_err H.out h0).mono ?_; rintro e w1 ⟨rfl, hD1, hk1⟩; have HD1 := Lib.hid hD1; have HK1 := Lib.hid hk1; clear hD1 hk1)
    go_ret
    rw [HU.out]
    exact ⟨rfl, HD1.out, HK1.out⟩

end Go.Proofs.YtnlcipocobmgiaaGreatDoor
/- The contracts of wire's decoder: I, S, Done. -/
namespace Go.Proofs.YtnlcipocobmgiaaGreatDoor
open Go.RowKit
attribute [local go_sem] size_bs bs_append bs_extract

theorem uF_le : ∀ (l : List UInt8) (v : Nat) (f : Bool), (uF l v f).2.1 ≤ l.length ∧ (uF l v f).1 < 18446744073709551616
  | [], v, f => by simp [uF]
  | c :: r, v, f => by
    have ih := uF_le r (v * 128 + c.toNat % 128) false
    rw [uF_cons]
    split
    · simp
    · split
      · simp; omega
      · simp only [List.length_cons]; omega
theorem Ds.u_at {d : Ds} (h : d.at_ ≤ d.s.length) : d.u.2.at_ ≤ d.u.2.s.length ∧ d.u.2.s = d.s ∧ d.u.1 < 18446744073709551616 := by
  unfold Ds.u
  split
  · exact ⟨h, rfl, by simp⟩
  · have := uF_le (d.s.drop d.at_) 0 true
    simp only [List.length_drop] at this
    refine ⟨?_, rfl, this.2⟩
    simp only
    omega
def Ds.i (d : Ds) (most : Nat) : Nat × Ds := if most < d.u.1 then (0, d.u.2.fail 11) else d.u
theorem Ds.i_at {d : Ds} (h : d.at_ ≤ d.s.length) (most : Nat) : (d.i most).2.at_ ≤ (d.i most).2.s.length ∧ (d.i most).2.s = d.s ∧ (d.i most).1 ≤ most := by
  have h1 := Ds.u_at h
  unfold Ds.i
  split
  · exact ⟨h1.1, h1.2.1, Nat.zero_le _⟩
  · exact ⟨h1.1, h1.2.1, by omega⟩

set_option maxRecDepth 100000 in
set_option maxHeartbeats 1000000 in
theorem di_calls {w : World} {b : Nat} {d : Ds} (h : DecAt w b d) (ha : d.at_ ≤ d.s.length) (hl : d.s.length ≤ 4611686018427387904) (most : Nat) (hm : most ≤ 4611686018427387904) :
    Calls Tryz.prog 87 #[.pointer (some ⟨b, 0, none⟩), .int .i64 (most : Int)] w fun r w' => r = .returned (.int .i64 ((d.i most).1 : Int)) ∧ DecAt w' b (d.i most).2 ∧ Keep [b] w w' := by
  have hU := du_calls h ha hl
  have hi : d.i most = if most < d.u.1 then (0, d.u.2.fail 11) else d.u := rfl
  have hat := Ds.u_at ha
  generalize d.u = q at *
  obtain ⟨v, d1⟩ := q
  simp only at hat hU
  have HI := Lib.hid hi
  have HU := Lib.hid hU
  have hv := hat.2.2
  clear hi hU h hat
  by_cases hbig : most < v
  · have hbig2 : (most : Int) < (v : Int) := by omega
    go_enter Tryz.func87, Tryz.ntmps87
    go_wp2_with (first | (go_at_call 106; refine HU.out.mono ?_; rintro e w1 ⟨rfl, hD1, hk1⟩; have HD1 := Lib.hid hD1; have HK1 := Lib.hid hk1; clear hD1 hk1) | (go_at_call 107; refine (dfail_calls HD1.out 11).mono ?_; rintro e w2 ⟨rfl, hD2, hk2⟩; have HD2 := Lib.hid hD2; have HK2 := Lib.hid hk2; clear hD2 hk2))
    go_ret
    rw [HI.out, if_pos (by omega)]
    exact ⟨rfl, HD2.out, HK1.out.trans HK2.out⟩
  · have hbig2 : ¬ (most : Int) < (v : Int) := by omega
    go_enter Tryz.func87, Tryz.ntmps87
    go_wp2_with (first | (go_at_call 106; refine HU.out.mono ?_; rintro e w1 ⟨rfl, hD1, hk1⟩; have HD1 := Lib.hid hD1; have HK1 := Lib.hid hk1; clear hD1 hk1))
    go_ret
    rw [HI.out, if_neg (by omega)]
    exact ⟨rfl, HD1.out, HK1.out⟩

def Ds.done (d : Ds) : Ds := if d.at_ < d.s.length then d.fail 3 else d

set_option maxRecDepth 100000 in
set_option maxHeartbeats 1000000 in
theorem done_calls {w : World} {b : Nat} {d : Ds} (h : DecAt w b d) (ha : d.at_ ≤ d.s.length) (hl : d.s.length ≤ 4611686018427387904) :
    Calls Tryz.prog 88 #[.pointer (some ⟨b, 0, none⟩)] w fun r w' => r = .returned (.int .i64 d.done.err) ∧ DecAt w' b d.done ∧ Keep [b] w w' := by
  have hd : d.done = if d.at_ < d.s.length then d.fail 3 else d := rfl
  have HD := Lib.hid hd
  have H := Lib.hid h
  clear hd h
  by_cases hlt : d.at_ < d.s.length
  · have h2 : (0 : Int) < (d.s.length : Int) - (d.at_ : Int) := by omega
    go_enter Tryz.func88, Tryz.ntmps88
    go_wp2_with (first | (go_at_call 108; refine (left_calls H.out ha hl).mono ?_; rintro e w1 ⟨rfl, hD1, hk1⟩; have HD1 := Lib.hid hD1; have HK1 := Lib.hid hk1; clear hD1 hk1) | (go_at_call 107; refine (dfail_calls HD1.out 3).mono ?_; rintro e w2 ⟨rfl, hD2, hk2⟩; have HD2 := Lib.hid hD2; have HK2 := Lib.hid hk2; have hc2 := hD2.c2; clear hD2 hk2))
    go_ret
    rw [HD.out, if_pos hlt]
    exact ⟨rfl, HD2.out, HK1.out.trans HK2.out⟩
  · have h2 : ¬ (0 : Int) < (d.s.length : Int) - (d.at_ : Int) := by omega
    go_enter Tryz.func88, Tryz.ntmps88
    go_wp2_with (first | (go_at_call 108; refine (left_calls H.out ha hl).mono ?_; rintro e w1 ⟨rfl, hD1, hk1⟩; have HD1 := Lib.hid hD1; have HK1 := Lib.hid hk1; have hc1 := hD1.c2; clear hD1 hk1))
    go_ret
    rw [HD.out, if_neg hlt]
    exact ⟨rfl, HD1.out, HK1.out⟩

def Ds.str (d : Ds) (most : Nat) : List UInt8 × Ds :=
  if (d.i most).2.err ≠ 0 then ([], (d.i most).2)
  else if (d.i most).2.s.length - (d.i most).2.at_ < (d.i most).1 then ([], { (d.i most).2 with err := 2 })
  else (((d.i most).2.s.drop (d.i most).2.at_).take (d.i most).1, { (d.i most).2 with at_ := (d.i most).2.at_ + (d.i most).1 })
theorem Ds.str_at {d : Ds} (h : d.at_ ≤ d.s.length) (most : Nat) : (d.str most).2.at_ ≤ (d.str most).2.s.length ∧ (d.str most).2.s = d.s := by
  have h1 := Ds.i_at h most
  unfold Ds.str
  split
  · exact ⟨h1.1, h1.2.1⟩
  · split
    · exact ⟨h1.1, h1.2.1⟩
    · refine ⟨?_, h1.2.1⟩
      simp only
      omega

set_option maxRecDepth 100000 in
set_option maxHeartbeats 1000000 in
theorem ds_calls {w : World} {b : Nat} {d : Ds} (h : DecAt w b d) (ha : d.at_ ≤ d.s.length) (hl : d.s.length ≤ 4611686018427387904) (most : Nat) (hm : most ≤ 4611686018427387904) :
    Calls Tryz.prog 89 #[.pointer (some ⟨b, 0, none⟩), .int .i64 (most : Int)] w fun r w' => r = .returned (.string (bs (d.str most).1)) ∧ DecAt w' b (d.str most).2 ∧ Keep [b] w w' := by
  have hI := di_calls h ha hl most hm
  have hi : d.str most = if (d.i most).2.err ≠ 0 then ([], (d.i most).2)
    else if (d.i most).2.s.length - (d.i most).2.at_ < (d.i most).1 then ([], { (d.i most).2 with err := 2 })
    else (((d.i most).2.s.drop (d.i most).2.at_).take (d.i most).1, { (d.i most).2 with at_ := (d.i most).2.at_ + (d.i most).1 }) := rfl
  obtain ⟨hat1, hat2, hat3⟩ := Ds.i_at ha most
  have hl2 : (d.i most).2.s.length ≤ 4611686018427387904 := by rw [hat2]; exact hl
  clear hat2
  generalize d.i most = q at *
  obtain ⟨n, ⟨s, a, er⟩⟩ := q
  simp only at hat1 hat3 hl2 hi hI
  have HI := Lib.hid hi
  have HU := Lib.hid hI
  clear hi hI h ha hl
  by_cases he : er = 0
  · subst he
    by_cases hlt : s.length - a < n
    · have hlt2 : (s.length : Int) - (a : Int) < (n : Int) := by omega
      go_enter Tryz.func89, Tryz.ntmps89
      go_wp2_with (first | (go_at_call 87; refine HU.out.mono ?_; rintro e w1 ⟨rfl, hD1, hk1⟩; have HD1 := Lib.hid hD1; have HK1 := Lib.hid hk1; have c2 : w1.cell? ⟨b, 2, none⟩ = some (.int .i64 0) := hD1.c2; clear hD1 hk1) | (go_at_call 108; refine (left_calls HD1.out hat1 hl2).mono ?_; rintro e w2 ⟨rfl, hD2, hk2⟩; have HD2 := Lib.hid hD2; have HK2 := Lib.hid hk2; clear hD2 hk2) | (go_at_call 107; refine (dfail_calls HD2.out 2).mono ?_; rintro e w3 ⟨rfl, hD3, hk3⟩; have HD3 := Lib.hid hD3; have HK3 := Lib.hid hk3; have c3 : w3.cell? ⟨b, 2, none⟩ = some (.int .i64 2) := hD3.c2; clear hD3 hk3))
      go_ret
      rw [HI.out, if_neg (by simp), if_pos (by omega)]
      exact ⟨rfl, HD3.out, HK1.out.trans (HK2.out.trans HK3.out)⟩
    · have hlt2 : ¬ (s.length : Int) - (a : Int) < (n : Int) := by omega
      go_enter Tryz.func89, Tryz.ntmps89
      go_wp2_with (first | (go_at_call 87; refine HU.out.mono ?_; rintro e w1 ⟨rfl, hD1, hk1⟩; have HD1 := Lib.hid hD1; have HK1 := Lib.hid hk1; have c2 : w1.cell? ⟨b, 2, none⟩ = some (.int .i64 0) := hD1.c2; clear hD1 hk1) | (go_at_call 108; refine (left_calls HD1.out hat1 hl2).mono ?_; rintro e w2 ⟨rfl, hD2, hk2⟩; have HD2 := Lib.hid hD2; have HK2 := Lib.hid hk2; have d2 : w2.cell? ⟨b, 2, none⟩ = some (.int .i64 0) := hD2.c2; have d1 : w2.cell? ⟨b, 1, none⟩ = some (.int .i64 (a : Int)) := hD2.c1; have f1 := hD2.blk.frozen 1; clear hD2 hk2))
      have hcast : ((a : Int) + (n : Int)) = ((a + n : Nat) : Int) := by omega
      rw [hcast]
      have hD : DecAt (w2.setCell ⟨b, 1, none⟩ (.int .i64 ((a + n : Nat) : Int))) b ⟨s, a + n, 0⟩ := HD2.out.at__ (a + n)
      have HK : Hid (Keep [b] w (w2.setCell ⟨b, 1, none⟩ (.int .i64 ((a + n : Nat) : Int)))) := (HK1.out.trans HK2.out).setCell (.inl (by simp)) _
      clear hcast d2 d1 f1 c2
      generalize w2.setCell ⟨b, 1, none⟩ (.int .i64 ((a + n : Nat) : Int)) = W at *
      have d0 : W.cell? ⟨b, 0, none⟩ = some (.string (bs s)) := hD.c0
      have d1 : W.cell? ⟨b, 1, none⟩ = some (.int .i64 ((a : Int) + (n : Int))) := by rw [hD.c1]; simp
      have HD := Lib.hid hD
      clear hD
      have hwr : IntKind.i64.wrap ((a : Int) + (n : Int) - (n : Int)) = (a : Int) := by rw [IntWalk.i64_in _ (by omega)]; omega
      have i0 : (0 : Int) ≤ (a : Int) := by omega
      have i1 : (a : Int) ≤ (a : Int) + (n : Int) := by omega
      have i2 : (a : Int) + (n : Int) ≤ (s.length : Int) := by omega
      have i3 : (0 : Int) ≤ (a : Int) + (n : Int) := by omega
      have i4 : ((a : Int) + (n : Int)).toNat = a + n := by omega
      go_quiet (fail)
      go_wp2
      go_ret
      rw [HI.out, if_neg (by simp), if_neg (by omega)]
      refine ⟨?_, HD.out.drewN _, HK.out.drewN _⟩
      simp
  · have hb : (er == 0) = false := by simpa using he
    have hb2 : (er != 0) = true := by simpa using he
    go_enter Tryz.func89, Tryz.ntmps89
    go_wp2_with (first | (go_at_call 87; refine HU.out.mono ?_; rintro e w1 ⟨rfl, hD1, hk1⟩; have HD1 := Lib.hid hD1; have HK1 := Lib.hid hk1; have c2 : w1.cell? ⟨b, 2, none⟩ = some (.int .i64 er) := hD1.c2; clear hD1 hk1))
    go_ret
    rw [HI.out, if_pos (by simpa using he)]
    exact ⟨rfl, HD1.out, HK1.out⟩

end Go.Proofs.YtnlcipocobmgiaaGreatDoor
