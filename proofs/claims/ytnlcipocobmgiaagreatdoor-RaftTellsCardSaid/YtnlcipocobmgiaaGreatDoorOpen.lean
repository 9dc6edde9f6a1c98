/- The contracts of seal.Open, Only. -/
import Derived.Test.YtnlcipocobmgiaaGreatDoorSeal
namespace Go.Proofs.YtnlcipocobmgiaaGreatDoor
open Go.RowKit
attribute [local go_sem] size_bs bs_append be4_len List.length_append bs_extract

/-- Open: the contents, how many bytes the frame has, the error. -/
def openF : List UInt8 → List UInt8 × Int × Int
  | a :: b :: c :: d :: e :: f :: g :: h :: r =>
    if 1048576 < val4 a b c d then ([], 0, 11)
    else if (r.length : Int) < val4 a b c d then ([], 0, 2)
    else if crc ([a, b, c, d] ++ r.take (val4 a b c d).toNat) = val4 e f g h then (r.take (val4 a b c d).toNat, 8 + val4 a b c d, 0) else ([], 0, 4)
  | _ => ([], 0, 2)
theorem openF_short {s : List UInt8} (h : s.length < 8) : openF s = ([], 0, 2) := by
  unfold openF
  split
  · simp at h; omega
  · rfl
theorem eight {s : List UInt8} (hs : ¬ s.length < 8) : ∃ a b c d e f g h r, s = a :: b :: c :: d :: e :: f :: g :: h :: r := by
  match s, hs with
  | [], hs | [_], hs | [_, _], hs | [_, _, _], hs | [_, _, _, _], hs | [_, _, _, _, _], hs | [_, _, _, _, _, _], hs | [_, _, _, _, _, _, _], hs => simp at hs
  | a :: b :: c :: d :: e :: f :: g :: h :: r, _ => exact ⟨a, b, c, d, e, f, g, h, r, rfl⟩
def OpenTuple (s : List UInt8) : Value := .tuple #[.string (bs (openF s).1), .int .i64 (openF s).2.1, .int .i64 (openF s).2.2]

set_option maxRecDepth 100000 in
set_option maxHeartbeats 1000000 in
theorem open_calls (s : List UInt8) (w : World) (hT : Tab w) (hs : s.length ≤ 4611686018427387904) :
    Calls Tryz.prog 110 #[.string (bs s)] w fun e w' => e = .returned (OpenTuple s) ∧ Keep [] w w' := by
  have HT := Lib.hid hT
  clear hT
  by_cases hlt : s.length < 8
  · have HO := Lib.hid (openF_short hlt)
    go_enter Tryz.func110, Tryz.ntmps110
    go_wp2
    go_ret3
    exact ⟨by unfold OpenTuple; rw [HO.out]; rfl, Keep.refl _ _⟩
  · obtain ⟨a, b, c, d, e, f, g, h, r, rfl⟩ := eight hlt
    · skip
      simp only [List.length_cons] at hs
      have hO : openF (a :: b :: c :: d :: e :: f :: g :: h :: r) = (if 1048576 < val4 a b c d then ([], 0, 11)
          else if (r.length : Int) < val4 a b c d then ([], 0, 2)
          else if crc ([a, b, c, d] ++ r.take (val4 a b c d).toNat) = val4 e f g h then (r.take (val4 a b c d).toNat, 8 + val4 a b c d, 0) else ([], 0, 4)) := rfl
      have HO := Lib.hid hO
      clear hO
      have hv := val4_bd a b c d
      have hbig : ¬ (r.length + 1 + 1 + 1 + 1 + 1 + 1 + 1 + 1 < 8) := by omega
      have V : ∀ W, Calls Tryz.prog 128 #[.string (bs [a, b, c, d])] W _ := fun W => value_calls _ a b c d rfl W
      have HV := Lib.hid V
      clear V
      generalize hvv : val4 a b c d = v at *
      have HVV := Lib.hid hvv
      clear hvv
      by_cases h1 : 1048576 < v
      · go_enter Tryz.func110, Tryz.ntmps110
        go_wp2_with (go_at_call 128; refine (HV.out _).mono ?_; rintro e w' ⟨rfl, n, rfl⟩)
        go_ret3
        exact ⟨by unfold OpenTuple; rw [HO.out, if_pos h1]; rfl, (Keep.refl _ _).drewN _⟩
      · by_cases h2 : (r.length : Int) < v
        · go_enter Tryz.func110, Tryz.ntmps110
          go_wp2_with (go_at_call 128; refine (HV.out _).mono ?_; rintro e w' ⟨rfl, n, rfl⟩)
          go_ret3
          exact ⟨by unfold OpenTuple; rw [HO.out, if_neg (by omega), if_pos h2]; rfl, (Keep.refl _ _).drewN _⟩
        · obtain ⟨m, rfl⟩ := Int.eq_ofNat_of_zero_le hv.1
          go_enter Tryz.func110, Tryz.ntmps110
          go_wp2_with (go_at_call 128; refine (HV.out _).mono ?_; rintro e w' ⟨rfl, n, rfl⟩)
          rw [show 8 + m - 8 = m from by omega]
          have V2 := fun W => value_calls [e, f, g, h] e f g h rfl W
          have HV2 := Lib.hid V2
          clear V2
          have hk0 : Keep [] w (w.drewN n).drew := ((Keep.refl _ _).drewN _).drew
          have HK0 := Lib.hid hk0
          clear hk0
          have i4 : (4 : Int) ≤ (r.length : Int) + 1 + 1 + 1 + 1 + 1 + 1 + 1 + 1 := by omega
          have i8 : (8 : Int) ≤ (r.length : Int) + 1 + 1 + 1 + 1 + 1 + 1 + 1 + 1 := by omega
          have n4 : 4 ≤ r.length + 1 + 1 + 1 + 1 + 1 + 1 + 1 + 1 := by omega
          have n8 : 8 ≤ r.length + 1 + 1 + 1 + 1 + 1 + 1 + 1 + 1 := by omega
          by_cases h3 : crc ([a, b, c, d] ++ r.take m) = val4 e f g h
          · have hb3 : (crc (a :: b :: c :: d :: List.take m r) != val4 e f g h) = false := by simpa using h3
            have H3 := Lib.hid h3
            clear h3
            go_region_held3 (fun w' => Keep [] w w')
              (first
                | exact HK0.out
                | assumption
                | exact HK0.out.alloc _
                | exact (HK0.out.alloc _).drewN _)
              (first
                | (go_at_call 101; refine (sum2_calls [a, b, c, d] (r.take m) _ _ (HT.out.keep (HK0.out.alloc _) (by simp)) (Blk.new _ _ _) (by simp) (by simp; omega)).mono ?_; rintro e w' ⟨rfl, rfl⟩)
                | (go_at_call 128; refine (HV2.out _).mono ?_; rintro e w' ⟨rfl, k, rfl⟩))
            go_wp2
            go_ret3
            refine ⟨?_, by assumption⟩
            unfold OpenTuple
            rw [HO.out, if_neg (by omega), if_neg (by omega), Int.toNat_natCast, if_pos H3.out]
            rfl
          · have hb3 : (crc (a :: b :: c :: d :: List.take m r) != val4 e f g h) = true := by simpa using h3
            have H3 := Lib.hid h3
            clear h3
            go_region_held3 (fun w' => Keep [] w w')
              (first
                | exact HK0.out
                | assumption
                | exact HK0.out.alloc _
                | exact (HK0.out.alloc _).drewN _)
              (first
                | (go_at_call 101; refine (sum2_calls [a, b, c, d] (r.take m) _ _ (HT.out.keep (HK0.out.alloc _) (by simp)) (Blk.new _ _ _) (by simp) (by simp; omega)).mono ?_; rintro e w' ⟨rfl, rfl⟩)
                | (go_at_call 128; refine (HV2.out _).mono ?_; rintro e w' ⟨rfl, k, rfl⟩))
            go_wp2
            go_ret3
            refine ⟨?_, by assumption⟩
            unfold OpenTuple
            rw [HO.out, if_neg (by omega), if_neg (by omega), Int.toNat_natCast, if_neg H3.out]
            rfl

def OnlyF (s : List UInt8) : List UInt8 × Int :=
  if (openF s).2.2 ≠ 0 then ([], (openF s).2.2) else if (openF s).2.1 < s.length then ([], 3) else ((openF s).1, 0)

set_option maxRecDepth 100000 in
set_option maxHeartbeats 1000000 in
theorem only_calls (s : List UInt8) (w : World) (hT : Tab w) (hs : s.length ≤ 4611686018427387904) :
    Calls Tryz.prog 105 #[.string (bs s)] w fun e w' => e = .returned (.tuple #[.string (bs (OnlyF s).1), .int .i64 (OnlyF s).2]) ∧ Keep [] w w' := by
  have O := open_calls s w hT hs
  unfold OpenTuple at O
  have hF : OnlyF s = if (openF s).2.2 ≠ 0 then ([], (openF s).2.2) else if (openF s).2.1 < s.length then ([], 3) else ((openF s).1, 0) := rfl
  generalize openF s = r at *
  obtain ⟨c, n, er⟩ := r
  have HF := Lib.hid hF
  have HO := Lib.hid O
  clear hF O hT
  by_cases h1 : er = 0
  · subst h1
    by_cases h2 : n < (s.length : Int)
    · go_enter Tryz.func105, Tryz.ntmps105
      go_wp2_with (go_at_call 110; refine HO.out.mono ?_; rintro e w' ⟨rfl, hk⟩; have HK := Lib.hid hk; clear hk)
      go_ret2
      rw [HF.out, if_neg (by simp), if_pos (by omega)]
      exact ⟨rfl, HK.out⟩
    · go_enter Tryz.func105, Tryz.ntmps105
      go_wp2_with (go_at_call 110; refine HO.out.mono ?_; rintro e w' ⟨rfl, hk⟩; have HK := Lib.hid hk; clear hk)
      go_ret2
      rw [HF.out, if_neg (by simp), if_neg (by omega)]
      exact ⟨rfl, HK.out⟩
  · have hb : (er != 0) = true := by simpa using h1
    have hb2 : (er == 0) = false := by simpa using h1
    go_enter Tryz.func105, Tryz.ntmps105
    go_wp2_with (go_at_call 110; refine HO.out.mono ?_; rintro e w' ⟨rfl, hk⟩; have HK := Lib.hid hk; clear hk)
    go_ret2
    rw [HF.out, if_pos (by simpa using h1)]
    exact ⟨rfl, HK.out⟩

end Go.Proofs.YtnlcipocobmgiaaGreatDoor
