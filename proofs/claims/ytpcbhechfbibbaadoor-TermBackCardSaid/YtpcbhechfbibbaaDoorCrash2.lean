/- The contract of (*Disk).Crash. -/
import Derived.Test.YtpcbhechfbibbaaDoorCrash
import Derived.Test.YtpcbhechfbibbaaDoorTermSave
namespace Go.Proofs.YtpcbhechfbibbaaDoor
open Go.RowKit
attribute [local go_sem] size_bs bs_append bs_extract ba_self

theorem Fil.Clean.left {f : Fil} (h : f.Clean) (ch : List Int) (k : Nat) : (f.left ch k).Clean := by
  unfold Fil.left
  split
  · split
    · exact h.2
    · intro h; cases h
  · split
    · exact h.2
    · exact h.1
theorem Fil.left_le (f : Fil) (ch : List Int) (k : Nat) : ((f.left ch k).text.length : Int) ≤ f.weight := by
  have h1 := f.weight_now
  have h2 := f.weight_sure
  unfold Fil.left
  split
  · split
    · exact h2
    · simp only [List.length_take]; omega
  · split
    · exact h2
    · exact h1
/-- What a crash leaves of a disk: of each file in turn. -/
def crashL (ch : List Int) : List (List UInt8) → Nat → Dk → Dk
  | [], _, D => D
  | n :: ns, k, D => if (lookF n D.files).now.there = (lookF n D.files).sure.there ∧ (lookF n D.files).now.text = (lookF n D.files).sure.text then crashL ch ns k D else crashL ch ns (k + 1) (D.put n ⟨(lookF n D.files).left ch k, (lookF n D.files).left ch k⟩).1
def Dk.crash (D : Dk) (ch : List Int) : Dk := crashL ch D.all 0 D

def CrRel (D : Dk) (ch : List Int) (w1 : World) (b m : Nat) (x y : Value) (wr : World) : Prop :=
  ∃ j k D', j ≤ D.all.length ∧ k ≤ j ∧ x = .int .i64 (j : Int) ∧ y = .int .i64 (k : Int) ∧ crashL ch (D.all.drop j) k D' = D.crash ch ∧ D'.Good ∧ DiskAt wr b m D' ∧ Keep [b, m] w1 wr

set_option maxRecDepth 100000 in
set_option maxHeartbeats 2000000 in
theorem crash_calls {w : World} {b m : Nat} {D : Dk} (h : DiskAt w b m D) (hg : D.Good) (hn : D.files.length ≤ 1000000000) (hk : ∀ p ∈ D.files, p.1.length ≤ 1000000000) (v : Value) (ch : List Int) (hb : ∀ x ∈ ch, -9223372036854775808 ≤ x ∧ x ≤ 9223372036854775807) (hv : ∀ W, Keep [b, m] w W → IntsAt W v ch) :
    Calls Tryd.prog 18 #[.pointer (some ⟨b, 0, none⟩), v] w fun e w' => e = .returned (.tuple #[]) ∧ DiskAt w' b m (D.crash ch) ∧ Keep [b, m] w w' := by
  have HA := Lib.hid (all_calls h hn hk)
  have hal : D.all.length ≤ 1000000000 := by rw [D.all_len]; exact hn
  have hbl := h.blk.lt
  have hml := h.map.lt
  have H := Lib.hid h
  have HV := Lib.hid hv
  have HG := Lib.hid hg
  clear h hv hg hn hk
  go_enter Tryd.func18, Tryd.ntmps18
  go_wp2_with (go_at_call 39; refine HA.out.mono ?_; rintro e w1 ⟨A, c, rfl, hown, hk⟩; have HO := Lib.hid hown; have HS := Lib.hid (own_strs hown); have HK := Lib.hid hk; have HD1 := Lib.hid (H.out.keep hk (by simp) (by simp)); clear hown hk)
  have HDR : Hid (crashL ch (D.all.drop 0) 0 D = D.crash ch) := (rfl : crashL ch (D.all.drop 0) 0 D = D.crash ch)
  go_loopw [12, 4] (fun x y wr => CrRel D ch w1 b m x y wr) (fun x _ _ => D.all.length - (intOf x).toNat)
  case atStart => exact ⟨0, 0, D, Nat.zero_le _, Nat.le_refl _, rfl, rfl, HDR.out, HG.out, HD1.out, Keep.refl _ _⟩
  case round =>
    obtain ⟨j, k, D', hj, hkj, rfl, rfl, hcr, hg', hd', hk'⟩ := hrel
    have HCR := Lib.hid hcr
    have HKW := Lib.hid hk'
    have HD := Lib.hid hd'
    have HKW0 := Lib.hid ((HK.out.nil_ (M := [b, m])).trans hk')
    by_cases hlt : j < D.all.length
    · have d1 : decide ((j : Int) < (D.all.length : Int)) = true := by simp; omega
      have hdrop : D.all.drop j = D.all[j] :: D.all.drop (j + 1) := List.drop_eq_getElem_cons hlt
      have hc4 := hd'.c4
      have hlk := hd'.look_lit D.all[j]
      obtain ⟨A', c', hv', hcc⟩ := HS.out
      injection hv' with hA hz1 hz2
      clear hz1 hz2
      subst hA
      obtain ⟨g, o, rfl, hcc2⟩ := hcc (by intro h0; rw [h0] at hlt; simp at hlt)
      clear hcc
      have hgb : g ≠ b ∧ g ≠ m := by
        rcases HO.out.2 with ⟨h0, _⟩ | ⟨g', cap, cur, h0, hge, _⟩
        · cases h0
        · injection h0 with h0; injection h0 with h0; injection h0 with h0; omega
      have cx0 := hcc2 j hlt
      have cx : wr.cell? ⟨g, o + j, none⟩ = some (.string (bs D.all[j])) := (hk'.cell (World.block_lt_of_cell? _ _ cx0) (by simp; omega)).trans cx0
      have hw1 := hg'.ok.weight D.all[j]
      have hw2 := hg'.ok.fits
      have hw3 := hg'.ok.room
      have hw4 := (lookF D.all[j] D'.files).weight_now
      have hw5 := (lookF D.all[j] D'.files).weight_sure
      have hlf := (lookF D.all[j] D'.files).left_le ch k
      have hcl := (hg'.clean.look D.all[j]).left ch k
      have hgp := hg'.put D.all[j] (f := ⟨(lookF D.all[j] D'.files).left ch k, (lookF D.all[j] D'.files).left ch k⟩) ⟨hcl, hcl⟩
      have HL := Lib.hid (fun W (hW : Keep [b, m] w W) => fleft_calls (lookF D.all[j] D'.files) v ch hb k (by omega) (by omega) (by omega) W (HV.out W hW))
      have HP := Lib.hid (fun W (hW : DiskAt W b m D') => put_lit hW hg'.ok D.all[j] ((lookF D.all[j] D'.files).left ch k).there ((lookF D.all[j] D'.files).left ch k).text ((lookF D.all[j] D'.files).left ch k).there ((lookF D.all[j] D'.files).left ch k).text (by omega) (by omega))
      rw [hdrop] at hcr
      simp only [crashL] at hcr
      unfold Fil.val at HL
      clear hdrop cx0 hcc2 hd' hk' hb hw1 hcl
      generalize D.all[j] = nm at *
      have HG' := Lib.hid hg'
      have HGP := Lib.hid hgp
      clear hg' hgp HCR
      generalize hff : lookF nm D'.files = f at *
      clear hff
      obtain ⟨⟨nt, nx⟩, ⟨st, sx⟩⟩ := f
      simp only at hcr hlk HL hw4 hw5
      by_cases hsame : nt = st ∧ nx = sx
      · obtain ⟨rfl, rfl⟩ := hsame
        rw [if_pos ⟨rfl, rfl⟩] at hcr
        have HCR := Lib.hid hcr
        clear hcr
        go_wp2_with (fail)
        go_roundw
        case rel => exact ⟨j + 1, k, D', by omega, by omega, by go_num, rfl, HCR.out, HG'.out, HD.out.alloc _, HKW.out.alloc _⟩
        case measure => simp [intOf]; omega
      · rw [if_neg hsame] at hcr
        have HCR := Lib.hid hcr
        clear hcr
        generalize hlf' : Fil.left ⟨⟨nt, nx⟩, ⟨st, sx⟩⟩ ch k = lf at *
        clear hlf'
        obtain ⟨lt, lx⟩ := lf
        simp only at HP HL HCR HGP
        by_cases hts : nt = st
        · subst hts
          have hne : ¬ (bs nx).toList = (bs sx).toList := by
            rw [ByteArray.toList_eq, ByteArray.toList_eq]
            intro he
            have he2 : lst (bs nx) = lst (bs sx) := he
            rw [lst_bs, lst_bs] at he2
            exact hsame ⟨rfl, he2⟩
          clear hsame
          go_wp2_with (first
            | (go_at_call 40; refine (HL.out _ (HKW0.out.alloc _)).mono ?_; rintro e w3 ⟨rfl, hk3⟩; have HK3 := Lib.hid hk3; clear hk3)
            | (go_at_call 41; refine (HP.out _ (((HD.out.alloc _).keep HK3.out (by simp) (by simp)).alloc _)).mono ?_; rintro e w4 ⟨rfl, hD4, hk4⟩; have HD4 := Lib.hid hD4; have HK4 := Lib.hid hk4; clear hD4 hk4))
          go_roundw
          case rel => exact ⟨j + 1, k + 1, _, by omega, by omega, by go_num, by go_num, HCR.out, HGP.out, HD4.out, (((HKW.out.alloc _).trans (HK3.out.nil_)).alloc _).trans HK4.out⟩
          case measure => simp [intOf]; omega
        · have hne : (nt == st) = false := by simpa using hts
          clear hsame hts
          go_wp2_with (first
            | (go_at_call 40; refine (HL.out _ (HKW0.out.alloc _)).mono ?_; rintro e w3 ⟨rfl, hk3⟩; have HK3 := Lib.hid hk3; clear hk3)
            | (go_at_call 41; refine (HP.out _ (((HD.out.alloc _).keep HK3.out (by simp) (by simp)).alloc _)).mono ?_; rintro e w4 ⟨rfl, hD4, hk4⟩; have HD4 := Lib.hid hD4; have HK4 := Lib.hid hk4; clear hD4 hk4))
          go_roundw
          case rel => exact ⟨j + 1, k + 1, _, by omega, by omega, by go_num, by go_num, HCR.out, HGP.out, HD4.out, (((HKW.out.alloc _).trans (HK3.out.nil_)).alloc _).trans HK4.out⟩
          case measure => simp [intOf]; omega
    · obtain rfl : j = D.all.length := by omega
      rw [List.drop_of_length_le (Nat.le_refl _)] at HCR
      clear hcr
      have d1 : decide ((D.all.length : Int) < (D.all.length : Int)) = false := by simp
      go_wp2
      go_end0
      have hfin := HCR.out
      simp only [crashL] at hfin
      rw [← hfin]
      exact ⟨rfl, HD.out, HKW0.out⟩

end Go.Proofs.YtpcbhechfbibbaaDoor
