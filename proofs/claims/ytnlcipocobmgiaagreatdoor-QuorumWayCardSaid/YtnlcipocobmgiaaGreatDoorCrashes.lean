/- The contracts of meter.Pick, (file).left, (*Disk).Crash. -/
import Derived.Test.YtnlcipocobmgiaaGreatDoorDisks
import Derived.Test.YtnlcipocobmgiaaGreatDoorKeys
import Derived.Test.YtnlcipocobmgiaaGreatDoorArrsAt
import Derived.Test.YtnlcipocobmgiaaGreatDoorShelf
import Derived.Test.YtnlcipocobmgiaaGreatDoorGood
namespace Go.Proofs.YtnlcipocobmgiaaGreatDoor
open Go.RowKit
attribute [local go_sem] size_bs bs_append bs_extract ba_self

set_option maxRecDepth 100000 in
set_option maxHeartbeats 1000000 in
theorem pick_calls (v : Value) (l : List Int) (hb : ∀ x ∈ l, -9223372036854775808 ≤ x ∧ x ≤ 9223372036854775807) (k n : Nat) (hn : 1 ≤ n) (hn2 : n ≤ 4611686018427387904) (_hk : k ≤ 4611686018427387904) (w : World) (hv : IntsAt w v l) :
    Calls Tryz.prog 114 #[v, .int .i64 (k : Int), .int .i64 (n : Int)] w fun e w' => e = .returned (.int .i64 (pick l k n : Int)) ∧ w = w' := by
  obtain ⟨A, c, rfl, hcc⟩ := hv
  have d1 : decide ((n : Int) < 1) = false := by simp; omega
  have d2 : decide ((k : Int) < 0) = false := by simp
  by_cases hlt : k < l.length
  · have hp : pick l k n = (l[k] % (n : Int)).toNat := by simp [pick, hlt]
    obtain ⟨g, o, rfl, hc⟩ := hcc (by intro h; subst h; simp at hlt)
    have c0 := hc k hlt
    have hbk := hb l[k] (List.getElem_mem hlt)
    have d3 : decide ((l.length : Int) ≤ (k : Int)) = false := by simp; omega
    have e1 := Int.emod_nonneg l[k] (show (n : Int) ≠ 0 by omega)
    have e2 := Int.emod_lt_of_pos l[k] (show (0 : Int) < (n : Int) by omega)
    have e3 : l[k].tmod (n : Int) = l[k] % (n : Int) - ((if 0 ≤ l[k] ∨ (n : Int) ∣ l[k] then 0 else (n : Int).natAbs : Nat) : Int) := Int.tmod_eq_emod
    have hz : ((n : Int) == 0) = false := by simp; omega
    have hm1 : ((n : Int) == -1) = false := by simp
    have HPK := Lib.hid hp
    clear hc hcc hb hp
    generalize l[k] = x at *
    by_cases hneg : x.tmod (n : Int) < 0
    · have hr : x.tmod (n : Int) + (n : Int) = x % (n : Int) := by
        split at e3 <;> omega
      have hr2 : ((x % (n : Int)).toNat : Int) = x % (n : Int) := by omega
      have b1 : -(n : Int) ≤ x.tmod (n : Int) := by omega
      have HR := Lib.hid hr
      have HR2 := Lib.hid hr2
      clear e3 hr hr2
      go_enter Tryz.func114, Tryz.ntmps114
      go_wp2
      go_ret
      refine ⟨?_, rfl⟩
      rw [HPK.out, HR2.out, ← HR.out]
      rfl
    · have hr : x.tmod (n : Int) = x % (n : Int) := by
        split at e3 <;> omega
      have hr2 : ((x % (n : Int)).toNat : Int) = x % (n : Int) := by omega
      have HR := Lib.hid hr
      have HR2 := Lib.hid hr2
      clear e3 hr hr2
      go_enter Tryz.func114, Tryz.ntmps114
      go_wp2
      go_ret
      refine ⟨?_, rfl⟩
      rw [HPK.out, HR2.out, ← HR.out]
      rfl
  · have hp : pick l k n = 0 := by simp [pick, hlt]
    have d3 : decide ((l.length : Int) ≤ (k : Int)) = true := by simp; omega
    rw [hp]
    clear hcc hb hp
    go_enter Tryz.func114, Tryz.ntmps114
    go_wp2
    go_ret
    exact ⟨rfl, rfl⟩

theorem hasPrefix_calls (s p : List UInt8) (w : World) : Calls Tryz.prog 113 #[.string (bs s), .string (bs p)] w fun e w' => e = .returned (.bool (p.isPrefixOf s)) ∧ w = w' :=
  (Tryz.strings_HasPrefix (bs s) (bs p) w).mono fun _ _ ⟨h1, h2⟩ => ⟨by
    have e1 : (bs s).data.toList = s := lst_bs s
    have e2 : (bs p).data.toList = p := lst_bs p
    rw [h1, e1, e2]; rfl, h2.symm⟩

theorem Blk.here_ (w : World) (t : TypeId) (cs : Array Value) (k : Nat) (hk : k = w.heap.size) : Blk (w.alloc (.cells cs t)) k t cs := by subst hk; exact Blk.new _ _ _
theorem fleft_ret {W : World} {r : Nat} {x0 x1 : Value} {t : Array Value} {R : Ending → World → Prop} (h2 : t[6]? = some (.pointer (some ⟨r, 0, none⟩)))
    (hB : Blk W r 136 #[x0, x1]) (hR : R (.returned (.agg #[x0, x1])) W) : bodyPost Tryz.prog Tryz.f95 R .ret { tmps := t, defers := [] } W := by
  have k0 : W.cell? ⟨r, 0, none⟩ = some x0 := hB.cell 0
  have k1 : W.cell? ⟨r, 1, none⟩ = some x1 := hB.cell 1
  refine bodyPost_ret (v := .agg #[x0, x1]) ?_ rfl hR
  simp [results, Tryz.results95, go_sem, h2, k0, k1]


set_option maxRecDepth 100000 in
set_option maxHeartbeats 2000000 in
theorem fleft_calls (f : Fil) (v : Value) (ch : List Int) (hb : ∀ x ∈ ch, -9223372036854775808 ≤ x ∧ x ≤ 9223372036854775807) (k : Nat) (hk : k ≤ 4611686018427387904) (h1 : f.now.text.length ≤ 1099511627776) (h2 : f.sure.text.length ≤ 1099511627776) (w : World) (hv : IntsAt w v ch) :
    Calls Tryz.prog 95 #[f.val, v, .int .i64 (k : Int)] w fun e w' => e = .returned (.agg #[.bool (f.left ch k).there, .string (bs (f.left ch k).text)]) ∧ Keep [] w w' := by
  have hleft : f.left ch k = if f.now.there = true ∧ f.sure.text.length < f.now.text.length ∧ f.sure.text.isPrefixOf f.now.text = true then
    if pick ch k (f.now.text.length - f.sure.text.length + 1) = 0 then f.sure else ⟨true, f.now.text.take (f.sure.text.length + pick ch k (f.now.text.length - f.sure.text.length + 1))⟩
    else if pick ch k 2 = 0 then f.sure else f.now := rfl
  unfold Fil.val
  generalize f.left ch k = R at *
  obtain ⟨⟨nt, nx⟩, ⟨st, sx⟩⟩ := f
  simp only at hleft h1 h2 ⊢
  have hP : ∀ (n : Nat), 1 ≤ n → n ≤ 4611686018427387904 → ∀ W, Keep [] w W → Calls Tryz.prog 114 #[v, .int .i64 (k : Int), .int .i64 (n : Int)] W fun e w' => e = .returned (.int .i64 (pick ch k n : Int)) ∧ W = w' := fun n a b W hW => pick_calls v ch hb k n a b hk W (hv.keep hW)
  obtain ⟨A, c, rfl, -⟩ := hv
  by_cases hc : nt = true ∧ sx.length < nx.length ∧ sx.isPrefixOf nx = true
  · rw [if_pos hc] at hleft
    obtain ⟨rfl, hl, hpre⟩ := hc
    have hl0 : decide ((0 : Int) < (nx.length : Int) - (sx.length : Int)) = true := by simp; omega
    have hpk := pick_lt ch k (n := nx.length - sx.length + 1) (by omega)
    have hP1 := hP (nx.length - sx.length + 1) (by omega) (by omega)
    have hcast : ((nx.length - sx.length + 1 : Nat) : Int) = (nx.length : Int) - (sx.length : Int) + 1 := by omega
    rw [hcast] at hP1
    have HP := Lib.hid hP1
    clear hcast hP hb hP1
    have HPX := Lib.hid (hasPrefix_calls nx sx)
    rw [hpre] at HPX
    clear hpre
    by_cases hz : pick ch k (nx.length - sx.length + 1) = 0
    · rw [if_pos hz] at hleft
      have HF := Lib.hid hleft
      rw [hz] at HP
      clear hz hleft hpk
      go_enter Tryz.func95, Tryz.ntmps95
      go_wp2_with (first
        | (go_at_call 113; refine (HPX.out _).mono ?_; rintro e w2 ⟨rfl, rfl⟩)
        | (go_at_call 114; refine (HP.out _ (((Keep.refl [] w).alloc _).alloc _)).mono ?_; rintro e w2 ⟨rfl, rfl⟩))
      refine fleft_ret rfl (Blk.here_ _ _ _ _ (by simp)) ?_
      exact ⟨by rw [HF.out], ((Keep.refl _ _).alloc _).alloc _⟩
    · rw [if_neg hz] at hleft
      have hs1 : (0 : Int) ≤ (sx.length : Int) + (pick ch k (nx.length - sx.length + 1) : Int) := by omega
      have hs2 : (sx.length : Int) + (pick ch k (nx.length - sx.length + 1) : Int) ≤ (nx.length : Int) := by omega
      have hs3 : ((sx.length : Int) + (pick ch k (nx.length - sx.length + 1) : Int)).toNat = sx.length + pick ch k (nx.length - sx.length + 1) := by omega
      have dz : ((pick ch k (nx.length - sx.length + 1) : Int) == 0) = false := by simp; omega
      have HF := Lib.hid hleft
      have hpk2 : pick ch k (nx.length - sx.length + 1) ≤ 1099511627776 := by omega
      clear hz hleft hpk
      generalize pick ch k (nx.length - sx.length + 1) = q at *
      go_enter Tryz.func95, Tryz.ntmps95
      go_wp2_with (first
        | (go_at_call 113; refine (HPX.out _).mono ?_; rintro e w2 ⟨rfl, rfl⟩)
        | (go_at_call 114; refine (HP.out _ (((Keep.refl [] w).alloc _).alloc _)).mono ?_; rintro e w2 ⟨rfl, rfl⟩))
      refine fleft_ret rfl (Blk.here_ _ _ _ _ (by simp)) ?_
      exact ⟨by rw [HF.out], ((Keep.refl _ _).alloc _).alloc _⟩
  · rw [if_neg hc] at hleft
    have hP2 := hP 2 (by decide) (by decide)
    have HP := Lib.hid hP2
    have HPX := Lib.hid (hasPrefix_calls nx sx)
    have hpk := pick_lt ch k (n := 2) (by decide)
    clear hP hP2 hb
    by_cases hz : pick ch k 2 = 0
    · rw [if_pos hz] at hleft
      have HF := Lib.hid hleft
      rw [hz] at HP
      clear hz hleft hpk
      cases nt with
      | false =>
        clear hc
        go_enter Tryz.func95, Tryz.ntmps95
        go_wp2_with (first
          | (go_at_call 113; refine (HPX.out _).mono ?_; rintro e w2 ⟨rfl, rfl⟩)
          | (go_at_call 114; refine (HP.out _ (((Keep.refl [] w).alloc _).alloc _)).mono ?_; rintro e w2 ⟨rfl, rfl⟩))
        refine fleft_ret rfl (Blk.here_ _ _ _ _ (by simp)) ?_
        exact ⟨by rw [HF.out], ((Keep.refl _ _).alloc _).alloc _⟩
      | true =>
        by_cases hl : sx.length < nx.length
        · have hl0 : decide ((0 : Int) < (nx.length : Int) - (sx.length : Int)) = true := by simp; omega
          have hpre : sx.isPrefixOf nx = false := by
            cases h : sx.isPrefixOf nx
            · rfl
            · exact absurd ⟨rfl, hl, h⟩ hc
          rw [hpre] at HPX
          clear hpre hc
          go_enter Tryz.func95, Tryz.ntmps95
          go_wp2_with (first
            | (go_at_call 113; refine (HPX.out _).mono ?_; rintro e w2 ⟨rfl, rfl⟩)
            | (go_at_call 114; refine (HP.out _ (((Keep.refl [] w).alloc _).alloc _)).mono ?_; rintro e w2 ⟨rfl, rfl⟩))
          refine fleft_ret rfl (Blk.here_ _ _ _ _ (by simp)) ?_
          exact ⟨by rw [HF.out], ((Keep.refl _ _).alloc _).alloc _⟩
        · have hl0 : decide ((0 : Int) < (nx.length : Int) - (sx.length : Int)) = false := by simp; omega
          clear hc
          go_enter Tryz.func95, Tryz.ntmps95
          go_wp2_with (first
            | (go_at_call 113; refine (HPX.out _).mono ?_; rintro e w2 ⟨rfl, rfl⟩)
            | (go_at_call 114; refine (HP.out _ (((Keep.refl [] w).alloc _).alloc _)).mono ?_; rintro e w2 ⟨rfl, rfl⟩))
          refine fleft_ret rfl (Blk.here_ _ _ _ _ (by simp)) ?_
          exact ⟨by rw [HF.out], ((Keep.refl _ _).alloc _).alloc _⟩
    · rw [if_neg hz] at hleft
      have HF := Lib.hid hleft
      have hq : pick ch k 2 = 1 := by omega
      rw [hq] at HP
      clear hz hleft hpk hq
      cases nt with
      | false =>
        clear hc
        go_enter Tryz.func95, Tryz.ntmps95
        go_wp2_with (first
          | (go_at_call 113; refine (HPX.out _).mono ?_; rintro e w2 ⟨rfl, rfl⟩)
          | (go_at_call 114; refine (HP.out _ (((Keep.refl [] w).alloc _).alloc _)).mono ?_; rintro e w2 ⟨rfl, rfl⟩))
        refine fleft_ret rfl (Blk.here_ _ _ _ _ (by simp)) ?_
        exact ⟨by rw [HF.out], ((Keep.refl _ _).alloc _).alloc _⟩
      | true =>
        by_cases hl : sx.length < nx.length
        · have hl0 : decide ((0 : Int) < (nx.length : Int) - (sx.length : Int)) = true := by simp; omega
          have hpre : sx.isPrefixOf nx = false := by
            cases h : sx.isPrefixOf nx
            · rfl
            · exact absurd ⟨rfl, hl, h⟩ hc
          rw [hpre] at HPX
          clear hpre hc
          go_enter Tryz.func95, Tryz.ntmps95
          go_wp2_with (first
            | (go_at_call 113; refine (HPX.out _).mono ?_; rintro e w2 ⟨rfl, rfl⟩)
            | (go_at_call 114; refine (HP.out _ (((Keep.refl [] w).alloc _).alloc _)).mono ?_; rintro e w2 ⟨rfl, rfl⟩))
          refine fleft_ret rfl (Blk.here_ _ _ _ _ (by simp)) ?_
          exact ⟨by rw [HF.out], ((Keep.refl _ _).alloc _).alloc _⟩
        · have hl0 : decide ((0 : Int) < (nx.length : Int) - (sx.length : Int)) = false := by simp; omega
          clear hc
          go_enter Tryz.func95, Tryz.ntmps95
          go_wp2_with (first
            | (go_at_call 113; refine (HPX.out _).mono ?_; rintro e w2 ⟨rfl, rfl⟩)
            | (go_at_call 114; refine (HP.out _ (((Keep.refl [] w).alloc _).alloc _)).mono ?_; rintro e w2 ⟨rfl, rfl⟩))
          refine fleft_ret rfl (Blk.here_ _ _ _ _ (by simp)) ?_
          exact ⟨by rw [HF.out], ((Keep.refl _ _).alloc _).alloc _⟩

end Go.Proofs.YtnlcipocobmgiaaGreatDoor
/- The contract of (*Disk).Crash. -/
namespace Go.Proofs.YtnlcipocobmgiaaGreatDoor
open Go.RowKit
attribute [local go_sem] size_bs bs_append bs_extract ba_self

def CrRel (D : Dk) (ch : List Int) (w1 : World) (b m : Nat) (x y : Value) (wr : World) : Prop :=
  ∃ j k D', j ≤ D.all.length ∧ k ≤ j ∧ x = .int .i64 (j : Int) ∧ y = .int .i64 (k : Int) ∧ crashL ch (D.all.drop j) k D' = D.crash ch ∧ D'.Good ∧ DiskAt wr b m D' ∧ Keep [b, m] w1 wr

set_option maxRecDepth 100000 in
set_option maxHeartbeats 2000000 in
theorem crash_calls {w : World} {b m : Nat} {D : Dk} (h : DiskAt w b m D) (hg : D.Good) (hn : D.files.length ≤ 1000000000) (hk : ∀ p ∈ D.files, p.1.length ≤ 1000000000) (v : Value) (ch : List Int) (hb : ∀ x ∈ ch, -9223372036854775808 ≤ x ∧ x ≤ 9223372036854775807) (hv : ∀ W, Keep [b, m] w W → IntsAt W v ch) :
    Calls Tryz.prog 69 #[.pointer (some ⟨b, 0, none⟩), v] w fun e w' => e = .returned (.tuple #[]) ∧ DiskAt w' b m (D.crash ch) ∧ Keep [b, m] w w' := by
  have HA := Lib.hid (all_calls h hn hk)
  have hal : D.all.length ≤ 1000000000 := by rw [D.all_len]; exact hn
  have hbl := h.blk.lt
  have hml := h.map.lt
  have H := Lib.hid h
  have HV := Lib.hid hv
  have HG := Lib.hid hg
  clear h hv hg hn hk
  go_enter Tryz.func69, Tryz.ntmps69
  go_wp2_with (go_at_call 94; refine HA.out.mono ?_; rintro e w1 ⟨A, c, rfl, hown, hk⟩; have HO := Lib.hid hown; have HS := Lib.hid (own_strs hown); have HK := Lib.hid hk; have HD1 := Lib.hid (H.out.keep hk (by simp) (by simp)); clear hown hk)
  have HDR : Hid (crashL ch (D.all.drop 0) 0 D = D.crash ch) := (rfl : crashL ch (D.all.drop 0) 0 D = D.crash ch)
  go_loopw [12, 4] (fun x y wr => CrRel D ch w1 b m x y wr) (fun x _ _ => D.all.length - (intOf x).toNat)
  case atStart => exact ⟨0, 0, D, Nat.zero_le _, Nat.le_refl _, rfl, rfl, HDR.out, HG.out, HD1.out, Keep.refl _ _⟩
  case round =>
    obtain ⟨j, k, D', hj, hkj, rfl, rfl, hcr, hg', hd', hk'⟩ := hrel
    have HCR := Lib.hid hcr
    have HKW := Lib.hid hk'
    have HD := Lib.hid hd'
    have HKW0 := Lib.hid ((HK.out.nil_ (M := [b, m])).trans hk')
    by_cases hlt : j < D.all.length
    · have d1 : decide ((j : Int) < (D.all.length : Int)) = true := by simp; omega
      have hdrop : D.all.drop j = D.all[j] :: D.all.drop (j + 1) := List.drop_eq_getElem_cons hlt
      have hc4 := hd'.c4
      have hlk := hd'.look_lit D.all[j]
      obtain ⟨A', c', hv', hcc⟩ := HS.out
      injection hv' with hA hz1 hz2
      clear hz1 hz2
      subst hA
      obtain ⟨g, o, rfl, hcc2⟩ := hcc (by intro h0; rw [h0] at hlt; simp at hlt)
      clear hcc
      have hgb : g ≠ b ∧ g ≠ m := by
        rcases HO.out.2 with ⟨h0, _⟩ | ⟨g', cap, cur, h0, hge, _⟩
        · cases h0
        · injection h0 with h0; injection h0 with h0; injection h0 with h0; omega
      have cx0 := hcc2 j hlt
      have cx : wr.cell? ⟨g, o + j, none⟩ = some (.string (bs D.all[j])) := (hk'.cell (World.block_lt_of_cell? _ _ cx0) (by simp; omega)).trans cx0
      have hw1 := hg'.ok.weight D.all[j]
      have hw2 := hg'.ok.fits
      have hw3 := hg'.ok.room
      have hw4 := (lookF D.all[j] D'.files).weight_now
      have hw5 := (lookF D.all[j] D'.files).weight_sure
      have hlf := (lookF D.all[j] D'.files).left_le ch k
      have hcl := (hg'.clean.look D.all[j]).left ch k
      have hgp := hg'.put D.all[j] (f := ⟨(lookF D.all[j] D'.files).left ch k, (lookF D.all[j] D'.files).left ch k⟩) ⟨hcl, hcl⟩
      have HL := Lib.hid (fun W (hW : Keep [b, m] w W) => fleft_calls (lookF D.all[j] D'.files) v ch hb k (by omega) (by omega) (by omega) W (HV.out W hW))
      have HP := Lib.hid (fun W (hW : DiskAt W b m D') => put_lit hW hg'.ok D.all[j] ((lookF D.all[j] D'.files).left ch k).there ((lookF D.all[j] D'.files).left ch k).text ((lookF D.all[j] D'.files).left ch k).there ((lookF D.all[j] D'.files).left ch k).text (by omega) (by omega))
      rw [hdrop] at hcr
      simp only [crashL] at hcr
      unfold Fil.val at HL
      clear hdrop cx0 hcc2 hd' hk' hb hw1 hcl
      generalize D.all[j] = nm at *
      have HG' := Lib.hid hg'
      have HGP := Lib.hid hgp
      clear hg' hgp HCR
      generalize hff : lookF nm D'.files = f at *
      clear hff
      obtain ⟨⟨nt, nx⟩, ⟨st, sx⟩⟩ := f
      simp only at hcr hlk HL hw4 hw5
      by_cases hsame : nt = st ∧ nx = sx
      · obtain ⟨rfl, rfl⟩ := hsame
        rw [if_pos ⟨rfl, rfl⟩] at hcr
        have HCR := Lib.hid hcr
        clear hcr
        go_wp2_with (fail)
        go_roundw
        case rel => exact ⟨j + 1, k, D', by omega, by omega, by go_num, rfl, HCR.out, HG'.out, HD.out.alloc _, HKW.out.alloc _⟩
        case measure => simp [intOf]; omega
      · rw [if_neg hsame] at hcr
        have HCR := Lib.hid hcr
        clear hcr
        generalize hlf' : Fil.left ⟨⟨nt, nx⟩, ⟨st, sx⟩⟩ ch k = lf at *
        clear hlf'
        obtain ⟨lt, lx⟩ := lf
        simp only at HP HL HCR HGP
        by_cases hts : nt = st
        · subst hts
          have hne : ¬ (bs nx).toList = (bs sx).toList := by
            rw [ByteArray.toList_eq, ByteArray.toList_eq]
            intro he
            have he2 : lst (bs nx) = lst (bs sx) := he
            rw [lst_bs, lst_bs] at he2
            exact hsame ⟨rfl, he2⟩
          clear hsame
          go_wp2_with (first
            | (go_at_call 95; refine (HL.out _ (HKW0.out.alloc _)).mono ?_; rintro e w3 ⟨rfl, hk3⟩; have HK3 := Lib.hid hk3; clear hk3)
            | (go_at_call 96; refine (HP.out _ (((HD.out.alloc _).keep HK3.out (by simp) (by simp)).alloc _)).mono ?_; rintro e w4 ⟨rfl, hD4, hk4⟩; have HD4 := Lib.hid hD4; have HK4 := Lib.hid hk4; clear hD4 hk4))
          go_roundw
          case rel => exact ⟨j + 1, k + 1, _, by omega, by omega, by go_num, by go_num, HCR.out, HGP.out, HD4.out, (((HKW.out.alloc _).trans (HK3.out.nil_)).alloc _).trans HK4.out⟩
          case measure => simp [intOf]; omega
        · have hne : (nt == st) = false := by simpa using hts
          clear hsame hts
          go_wp2_with (first
            | (go_at_call 95; refine (HL.out _ (HKW0.out.alloc _)).mono ?_; rintro e w3 ⟨rfl, hk3⟩; have HK3 := Lib.hid hk3; clear hk3)
            | (go_at_call 96; refine (HP.out _ (((HD.out.alloc _).keep HK3.out (by simp) (by simp)).alloc _)).mono ?_; rintro e w4 ⟨rfl, hD4, hk4⟩; have HD4 := Lib.hid hD4; have HK4 := Lib.hid hk4; clear hD4 hk4))
          go_roundw
          case rel => exact ⟨j + 1, k + 1, _, by omega, by omega, by go_num, by go_num, HCR.out, HGP.out, HD4.out, (((HKW.out.alloc _).trans (HK3.out.nil_)).alloc _).trans HK4.out⟩
          case measure => simp [intOf]; omega
    · obtain rfl : j = D.all.length := by omega
      rw [List.drop_of_length_le (Nat.le_refl _)] at HCR
      clear hcr
      have d1 : decide ((D.all.length : Int) < (D.all.length : Int)) = false := by simp
      go_wp2
      go_end0
      have hfin := HCR.out
      simp only [crashL] at hfin
      rw [← hfin]
      exact ⟨rfl, HD.out, HKW0.out⟩

end Go.Proofs.YtnlcipocobmgiaaGreatDoor
