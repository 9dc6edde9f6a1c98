/- The contracts of wire's decoder: I, S, Done. -/
import Derived.Test.YtpnoiagjgkajdaaGreatDoorDecU
namespace Go.Proofs.YtpnoiagjgkajdaaGreatDoor
open Go.RowKit
attribute [local go_sem] size_bs bs_append bs_extract

theorem uF_le : ∀ (l : List UInt8) (v : Nat) (f : Bool), (uF l v f).2.1 ≤ l.length ∧ (uF l v f).1 < 18446744073709551616
  | [], v, f => by simp [uF]
  | c :: r, v, f => by
    have ih := uF_le r (v * 128 + c.toNat % 128) false
    rw [uF_cons]
    split
    · simp
    · split
      · simp; omega
      · simp only [List.length_cons]; omega
theorem Ds.u_at {d : Ds} (h : d.at_ ≤ d.s.length) : d.u.2.at_ ≤ d.u.2.s.length ∧ d.u.2.s = d.s ∧ d.u.1 < 18446744073709551616 := by
  unfold Ds.u
  split
  · exact ⟨h, rfl, by simp⟩
  · have := uF_le (d.s.drop d.at_) 0 true
    simp only [List.length_drop] at this
    refine ⟨?_, rfl, this.2⟩
    simp only
    omega
def Ds.i (d : Ds) (most : Nat) : Nat × Ds := if most < d.u.1 then (0, d.u.2.fail 11) else d.u
theorem Ds.i_at {d : Ds} (h : d.at_ ≤ d.s.length) (most : Nat) : (d.i most).2.at_ ≤ (d.i most).2.s.length ∧ (d.i most).2.s = d.s ∧ (d.i most).1 ≤ most := by
  have h1 := Ds.u_at h
  unfold Ds.i
  split
  · exact ⟨h1.1, h1.2.1, Nat.zero_le _⟩
  · exact ⟨h1.1, h1.2.1, by omega⟩

set_option maxRecDepth 100000 in
set_option maxHeartbeats 1000000 in
theorem di_calls {w : World} {b : Nat} {d : Ds} (h : DecAt w b d) (ha : d.at_ ≤ d.s.length) (hl : d.s.length ≤ 4611686018427387904) (most : Nat) (hm : most ≤ 4611686018427387904) :
    Calls Tryz.prog 192 #[.pointer (some ⟨b, 0, none⟩), .int .i64 (most : Int)] w fun r w' => r = .returned (.int .i64 ((d.i most).1 : Int)) ∧ DecAt w' b (d.i most).2 ∧ Keep [b] w w' := by
  have hU := du_calls h ha hl
  have hi : d.i most = if most < d.u.1 then (0, d.u.2.fail 11) else d.u := rfl
  have hat := Ds.u_at ha
  generalize d.u = q at *
  obtain ⟨v, d1⟩ := q
  simp only at hat hU
  have HI := Lib.hid hi
  have HU := Lib.hid hU
  have hv := hat.2.2
  clear hi hU h hat
  by_cases hbig : most < v
  · have hbig2 : (most : Int) < (v : Int) := by omega
    go_enter Tryz.func192, Tryz.ntmps192
    go_wp2_with (first | (go_at_call 200; refine HU.out.mono ?_; rintro e w1 ⟨rfl, hD1, hk1⟩; have HD1 := Lib.hid hD1; have HK1 := Lib.hid hk1; clear hD1 hk1) | (go_at_call 197; refine (dfail_calls HD1.out 11).mono ?_; rintro e w2 ⟨rfl, hD2, hk2⟩; have HD2 := Lib.hid hD2; have HK2 := Lib.hid hk2; clear hD2 hk2))
    go_ret
    rw [HI.out, if_pos (by omega)]
    exact ⟨rfl, HD2.out, HK1.out.trans HK2.out⟩
  · have hbig2 : ¬ (most : Int) < (v : Int) := by omega
    go_enter Tryz.func192, Tryz.ntmps192
    go_wp2_with (first | (go_at_call 200; refine HU.out.mono ?_; rintro e w1 ⟨rfl, hD1, hk1⟩; have HD1 := Lib.hid hD1; have HK1 := Lib.hid hk1; clear hD1 hk1))
    go_ret
    rw [HI.out, if_neg (by omega)]
    exact ⟨rfl, HD1.out, HK1.out⟩

def Ds.done (d : Ds) : Ds := if d.at_ < d.s.length then d.fail 3 else d

set_option maxRecDepth 100000 in
set_option maxHeartbeats 1000000 in
theorem done_calls {w : World} {b : Nat} {d : Ds} (h : DecAt w b d) (ha : d.at_ ≤ d.s.length) (hl : d.s.length ≤ 4611686018427387904) :
    Calls Tryz.prog 198 #[.pointer (some ⟨b, 0, none⟩)] w fun r w' => r = .returned (.int .i64 d.done.err) ∧ DecAt w' b d.done ∧ Keep [b] w w' := by
  have hd : d.done = if d.at_ < d.s.length then d.fail 3 else d := rfl
  have HD := Lib.hid hd
  have H := Lib.hid h
  clear hd h
  by_cases hlt : d.at_ < d.s.length
  · have h2 : (0 : Int) < (d.s.length : Int) - (d.at_ : Int) := by omega
    go_enter Tryz.func198, Tryz.ntmps198
    go_wp2_with (first | (go_at_call 255; refine (left_calls H.out ha hl).mono ?_; rintro e w1 ⟨rfl, hD1, hk1⟩; have HD1 := Lib.hid hD1; have HK1 := Lib.hid hk1; clear hD1 hk1) | (go_at_call 197; refine (dfail_calls HD1.out 3).mono ?_; rintro e w2 ⟨rfl, hD2, hk2⟩; have HD2 := Lib.hid hD2; have HK2 := Lib.hid hk2; have hc2 := hD2.c2; clear hD2 hk2))
    go_ret
    rw [HD.out, if_pos hlt]
    exact ⟨rfl, HD2.out, HK1.out.trans HK2.out⟩
  · have h2 : ¬ (0 : Int) < (d.s.length : Int) - (d.at_ : Int) := by omega
    go_enter Tryz.func198, Tryz.ntmps198
    go_wp2_with (first | (go_at_call 255; refine (left_calls H.out ha hl).mono ?_; rintro e w1 ⟨rfl, hD1, hk1⟩; have HD1 := Lib.hid hD1; have HK1 := Lib.hid hk1; have hc1 := hD1.c2; clear hD1 hk1))
    go_ret
    rw [HD.out, if_neg hlt]
    exact ⟨rfl, HD1.out, HK1.out⟩

def Ds.str (d : Ds) (most : Nat) : List UInt8 × Ds :=
  if (d.i most).2.err ≠ 0 then ([], (d.i most).2)
  else if (d.i most).2.s.length - (d.i most).2.at_ < (d.i most).1 then ([], { (d.i most).2 with err := 2 })
  else (((d.i most).2.s.drop (d.i most).2.at_).take (d.i most).1, { (d.i most).2 with at_ := (d.i most).2.at_ + (d.i most).1 })
theorem Ds.str_at {d : Ds} (h : d.at_ ≤ d.s.length) (most : Nat) : (d.str most).2.at_ ≤ (d.str most).2.s.length ∧ (d.str most).2.s = d.s := by
  have h1 := Ds.i_at h most
  unfold Ds.str
  split
  · exact ⟨h1.1, h1.2.1⟩
  · split
    · exact ⟨h1.1, h1.2.1⟩
    · refine ⟨?_, h1.2.1⟩
      simp only
      omega

set_option maxRecDepth 100000 in
set_option maxHeartbeats 1000000 in
theorem ds_calls {w : World} {b : Nat} {d : Ds} (h : DecAt w b d) (ha : d.at_ ≤ d.s.length) (hl : d.s.length ≤ 4611686018427387904) (most : Nat) (hm : most ≤ 4611686018427387904) :
    Calls Tryz.prog 193 #[.pointer (some ⟨b, 0, none⟩), .int .i64 (most : Int)] w fun r w' => r = .returned (.string (bs (d.str most).1)) ∧ DecAt w' b (d.str most).2 ∧ Keep [b] w w' := by
  have hI := di_calls h ha hl most hm
  have hi : d.str most = if (d.i most).2.err ≠ 0 then ([], (d.i most).2)
    else if (d.i most).2.s.length - (d.i most).2.at_ < (d.i most).1 then ([], { (d.i most).2 with err := 2 })
    else (((d.i most).2.s.drop (d.i most).2.at_).take (d.i most).1, { (d.i most).2 with at_ := (d.i most).2.at_ + (d.i most).1 }) := rfl
  obtain ⟨hat1, hat2, hat3⟩ := Ds.i_at ha most
  have hl2 : (d.i most).2.s.length ≤ 4611686018427387904 := by rw [hat2]; exact hl
  clear hat2
  generalize d.i most = q at *
  obtain ⟨n, ⟨s, a, er⟩⟩ := q
  simp only at hat1 hat3 hl2 hi hI
  have HI := Lib.hid hi
  have HU := Lib.hid hI
  clear hi hI h ha hl
  by_cases he : er = 0
  · subst he
    by_cases hlt : s.length - a < n
    · have hlt2 : (s.length : Int) - (a : Int) < (n : Int) := by omega
      go_enter Tryz.func193, Tryz.ntmps193
      go_wp2_with (first | (go_at_call 192; refine HU.out.mono ?_; rintro e w1 ⟨rfl, hD1, hk1⟩; have HD1 := Lib.hid hD1; have HK1 := Lib.hid hk1; have c2 : w1.cell? ⟨b, 2, none⟩ = some (.int .i64 0) := hD1.c2; clear hD1 hk1) | (go_at_call 255; refine (left_calls HD1.out hat1 hl2).mono ?_; rintro e w2 ⟨rfl, hD2, hk2⟩; have HD2 := Lib.hid hD2; have HK2 := Lib.hid hk2; clear hD2 hk2) | (go_at_call 197; refine (dfail_calls HD2.out 2).mono ?_; rintro e w3 ⟨rfl, hD3, hk3⟩; have HD3 := Lib.hid hD3; have HK3 := Lib.hid hk3; have c3 : w3.cell? ⟨b, 2, none⟩ = some (.int .i64 2) := hD3.c2; clear hD3 hk3))
      go_ret
      rw [HI.out, if_neg (by simp), if_pos (by omega)]
      exact ⟨rfl, HD3.out, HK1.out.trans (HK2.out.trans HK3.out)⟩
    · have hlt2 : ¬ (s.length : Int) - (a : Int) < (n : Int) := by omega
      go_enter Tryz.func193, Tryz.ntmps193
      go_wp2_with (first | (go_at_call 192; refine HU.out.mono ?_; rintro e w1 ⟨rfl, hD1, hk1⟩; have HD1 := Lib.hid hD1; have HK1 := Lib.hid hk1; have c2 : w1.cell? ⟨b, 2, none⟩ = some (.int .i64 0) := hD1.c2; clear hD1 hk1) | (go_at_call 255; refine (left_calls HD1.out hat1 hl2).mono ?_; rintro e w2 ⟨rfl, hD2, hk2⟩; have HD2 := Lib.hid hD2; have HK2 := Lib.hid hk2; have d2 : w2.cell? ⟨b, 2, none⟩ = some (.int .i64 0) := hD2.c2; have d1 : w2.cell? ⟨b, 1, none⟩ = some (.int .i64 (a : Int)) := hD2.c1; have f1 := hD2.blk.frozen 1; clear hD2 hk2))
      have hcast : ((a : Int) + (n : Int)) = ((a + n : Nat) : Int) := by omega
      rw [hcast]
      have hD : DecAt (w2.setCell ⟨b, 1, none⟩ (.int .i64 ((a + n : Nat) : Int))) b ⟨s, a + n, 0⟩ := HD2.out.at__ (a + n)
      have HK : Hid (Keep [b] w (w2.setCell ⟨b, 1, none⟩ (.int .i64 ((a + n : Nat) : Int)))) := (HK1.out.trans HK2.out).setCell (.inl (by simp)) _
      clear hcast d2 d1 f1 c2
      generalize w2.setCell ⟨b, 1, none⟩ (.int .i64 ((a + n : Nat) : Int)) = W at *
      have d0 : W.cell? ⟨b, 0, none⟩ = some (.string (bs s)) := hD.c0
      have d1 : W.cell? ⟨b, 1, none⟩ = some (.int .i64 ((a : Int) + (n : Int))) := by rw [hD.c1]; simp
      have HD := Lib.hid hD
      clear hD
      have hwr : IntKind.i64.wrap ((a : Int) + (n : Int) - (n : Int)) = (a : Int) := by rw [IntWalk.i64_in _ (by omega)]; omega
      have i0 : (0 : Int) ≤ (a : Int) := by omega
      have i1 : (a : Int) ≤ (a : Int) + (n : Int) := by omega
      have i2 : (a : Int) + (n : Int) ≤ (s.length : Int) := by omega
      have i3 : (0 : Int) ≤ (a : Int) + (n : Int) := by omega
      have i4 : ((a : Int) + (n : Int)).toNat = a + n := by omega
      go_quiet (fail)
      go_wp2
      go_ret
      rw [HI.out, if_neg (by simp), if_neg (by omega)]
      refine ⟨?_, HD.out.drewN _, HK.out.drewN _⟩
      simp
  · have hb : (er == 0) = false := by simpa using he
    have hb2 : (er != 0) = true := by simpa using he
    go_enter Tryz.func193, Tryz.ntmps193
    go_wp2_with (first | (go_at_call 192; refine HU.out.mono ?_; rintro e w1 ⟨rfl, hD1, hk1⟩; have HD1 := Lib.hid hD1; have HK1 := Lib.hid hk1; have c2 : w1.cell? ⟨b, 2, none⟩ = some (.int .i64 er) := hD1.c2; clear hD1 hk1))
    go_ret
    rw [HI.out, if_pos (by simpa using he)]
    exact ⟨rfl, HD1.out, HK1.out⟩

end Go.Proofs.YtpnoiagjgkajdaaGreatDoor
