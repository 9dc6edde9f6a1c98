/- The contracts of package platter: Names; Remove and Sync of several files. -/
import Derived.Test.YtkplffkchanipaaGreatDoorKeys
import Derived.Test.YtkplffkchanipaaGreatDoorChLaws
import Derived.BigQuiet
namespace Go.Proofs.YtkplffkchanipaaGreatDoor
open Go.RowKit
attribute [local go_sem] size_bs bs_append

/-- A row of strings of a call's own. -/
structure OwnS (w : World) (base : Nat) (v : Value) (l : List (List UInt8)) : Prop where
  own : w.ownsRow base 9 1 v l.length (l.map encStr)
theorem OwnS.keep {M : List Nat} {w w' : World} {base : Nat} {v : Value} {l : List (List UInt8)} (h : OwnS w base v l) (hk : Keep M w w') (hM : ∀ x ∈ M, x < base) : OwnS w' base v l :=
  ⟨hk.owns h.own fun k hk' hm => by have h1 := (h.own.lt k hk').1; have := hM k hm; omega⟩
theorem OwnS.mono {w : World} {base b' : Nat} {v : Value} {l : List (List UInt8)} (h : OwnS w base v l) (hb : b' ≤ base) : OwnS w b' v l := ⟨own_mono_ h.own hb⟩
theorem OwnS.at_ {w : World} {base : Nat} {v : Value} {l : List (List UInt8)} (h : OwnS w base v l) : StrsAt w v l := own_strs h.own
theorem OwnS.slice {w : World} {base : Nat} {v : Value} {l : List (List UInt8)} (h : OwnS w base v l) : ∃ A c, v = .slice A l.length c := by
  obtain ⟨A, c, hv, _⟩ := h.at_
  exact ⟨A, c, hv⟩
theorem OwnS.nil (w : World) (base : Nat) : OwnS w base (.slice none 0 0) [] := ⟨World.ownsRow_nil _ _ _ _⟩
theorem names_len (D : Dk) : D.names.length ≤ D.files.length := by
  have := List.length_filter_le (fun n => (lookF n D.files).now.there) D.all
  rw [Dk.all_len] at this
  exact this
theorem field_now (w : World) (a c : Bool) (s t : ByteArray) : (Instr.field 115 (.agg #[.bool a, .string s, .bool c, .string t]) 0).run Tryz.prog w = .ok (.agg #[.bool a, .string s]) w := by kernel_rfl
theorem field_there (w : World) (a : Bool) (s : ByteArray) : (Instr.field 113 (.agg #[.bool a, .string s]) 0).run Tryz.prog w = .ok (.bool a) w := by kernel_rfl
def NamesRel (D : Dk) (w1 : World) (v x : Value) (wr : World) : Prop :=
  ∃ (j : Nat) (acc : List (List UInt8)), j ≤ D.all.length ∧ x = .int .i64 (j : Int) ∧ acc = (D.all.take j).filter (fun n => (lookF n D.files).now.there) ∧ OwnS wr w1.heap.size v acc ∧ acc.length ≤ j ∧ Keep [] w1 wr

set_option maxRecDepth 100000 in
set_option maxHeartbeats 2000000 in
theorem names_calls {w : World} {b m : Nat} {D : Dk} (h : DiskAt w b m D) (hok : D.Ok) (hn : D.files.length ≤ 1000000000) (hk : ∀ p ∈ D.files, p.1.length ≤ 1000000000) :
    Calls Tryz.prog 27 #[.pointer (some ⟨b, 0, none⟩)] w fun e w' => ∃ v, e = .returned (.tuple #[v, .int .i64 D.tries.2]) ∧ (D.tries.2 = 0 → OwnS w' w.heap.size v D.names) ∧ DiskAt w' b m D.tries.1 ∧ Keep [b] w w' := by
  obtain ⟨i0, hi, hz0, hz1, hz2⟩ := info_parts Tryz.info9
  have hf1 := field_now
  have hf2 := field_there
  have T := try_calls h hok.armed
  have hfl : D.tries.1.files = D.files := D.tries_alike.files
  have hnm : D.names = D.tries.1.names := by unfold Dk.names Dk.all; rw [hfl]
  rw [hnm]
  rw [← hfl] at hn hk
  have hbl := h.blk.lt
  clear h hok hfl hnm
  generalize D.tries = r at *
  obtain ⟨D1, e1⟩ := r
  simp only at T hn hk
  have TA := fun (W : World) (hW : DiskAt W b m D1) => all_calls hW hn hk
  have hal : D1.all.length ≤ 1000000000 := by rw [D1.all_len]; exact hn
  have HT := Lib.hid T
  have HTA := Lib.hid TA
  clear T TA hn hk
  by_cases he : e1 = 0
  · subst he
    go_enter Tryz.func27, Tryz.ntmps27
    go_wp2_with (first
      | (go_at_call 68; refine HT.out.mono ?_; rintro e w0 ⟨rfl, hD, hk, hsz⟩; have HD := Lib.hid hD; have HK := Lib.hid hk; have HZ := Lib.hid hsz; clear hD hk hsz)
      | (go_at_call 69; refine (HTA.out _ HD.out).mono ?_; rintro e w1 ⟨A, c, rfl, hown, hk⟩; have HO := Lib.hid (OwnS.mk (l := D1.all) hown); have HK1 := Lib.hid hk; have HD1 := Lib.hid (HD.out.keep hk (by simp) (by simp)); clear hown hk))
    go_loopw [5, 18] (fun v x wr => NamesRel D1 w1 v x wr) (fun _ x _ => D1.all.length - (intOf x).toNat)
    case atStart => exact ⟨0, [], Nat.zero_le _, rfl, rfl, OwnS.nil _ _, Nat.le_refl _, Keep.refl _ _⟩
    case round =>
      obtain ⟨j, acc, hj, rfl, hacc, hown, hlen, hkeep⟩ := hrel
      have HACC := Lib.hid hacc
      have HOWN := Lib.hid hown
      have HKR := Lib.hid hkeep
      have HDR := Lib.hid (HD1.out.keep hkeep (by simp) (by simp))
      obtain ⟨A1, c1, hv1⟩ := hown.slice
      clear hacc hown
      by_cases hlt : j < D1.all.length
      · have d1 : decide ((j : Int) < (D1.all.length : Int)) = true := by simp; omega
        have hsn := List.take_succ_eq_append_getElem hlt
        obtain ⟨A', c', hv', hcc⟩ := (HO.out.keep hkeep (by simp)).at_
        injection hv' with hA hz1' hz2'
        clear hz1' hz2'
        subst hA
        obtain ⟨g, o, rfl, hcc2⟩ := hcc (by intro h0; rw [h0] at hlt; simp at hlt)
        have cx := hcc2 j hlt
        have hc4 := HDR.out.c4
        have hlk := HDR.out.look_lit D1.all[j]
        have HSN : Hid ((D1.all.take (j + 1)).filter (fun n => (lookF n D1.files).now.there) = acc ++ if (lookF D1.all[j] D1.files).now.there then [D1.all[j]] else []) := by
          show _ = _
          rw [hsn, List.filter_append, ← HACC.out]
          congr 1
          by_cases h : (lookF D1.all[j] D1.files).now.there = true <;> simp [h]
        clear hcc hcc2 hkeep hsn
        generalize D1.all[j] = nm at *
        generalize hth : (lookF nm D1.files).now.there = th at *
        clear hth
        cases th with
        | true =>
          have HS2 : Hid ((D1.all.take (j + 1)).filter (fun n => (lookF n D1.files).now.there) = acc ++ [nm]) := by
            have := HSN.out
            simp only [if_true] at this
            exact this
          subst hv1
          go_wp2_with (at_builtin; refine wpList_append_own _ rfl _ _ 58 rfl w1.heap.size 9 i0 (.string ⟨#[]⟩) 1 16 Tryz.underlying58 hi hz0 hz1 hz2 rfl (by decide) _ _ _ rfl (HOWN.out.own.alloc _) ⟨_, 0, none⟩ 1 1 [.string (bs nm)] rfl rfl (cell_one_new _ _ _) ?c2 ?c3 ?c4 ?c5 ?_)
          case c2 => simp [Value.oneCell']
          case c3 => unfold maxLen; omega
          case c4 => omega
          case c5 => have := HKR.out.size; simp; omega
          intro v' w2 hown2 hgrow _
          have HOWN2 : Hid (OwnS w2 w1.heap.size v' (acc ++ [nm])) := (OwnS.mk (by simpa [encStr, bs] using hown2) : OwnS w2 w1.heap.size v' (acc ++ [nm]))
          have HKR2 : Hid (Keep [] w1 w2) := (HKR.out.alloc _).grown hgrow (fun g hg => .inr (HOWN.out.own.lt g hg).1)
          clear hown2 hgrow
          go_wp2
          go_roundw
          case rel => exact ⟨j + 1, acc ++ [nm], by omega, by go_num, HS2.out.symm, HOWN2.out, by simp; omega, HKR2.out⟩
          case measure => simp [intOf]; omega
        | false =>
          have HS2 : Hid ((D1.all.take (j + 1)).filter (fun n => (lookF n D1.files).now.there) = acc) := by
            have := HSN.out
            simp only [Bool.false_eq_true, if_false, List.append_nil] at this
            exact this
          clear hv1
          go_wp2
          go_roundw
          case rel => exact ⟨j + 1, acc, by omega, by go_num, HS2.out.symm, HOWN.out, by omega, HKR.out⟩
          case measure => simp [intOf]; omega
      · obtain rfl : j = D1.all.length := by omega
        have d1 : decide ((D1.all.length : Int) < (D1.all.length : Int)) = false := by simp
        subst hv1
        clear hkeep
        go_wp2
        go_ret2
        refine ⟨_, rfl, fun _ => ?_, HDR.out, (HK.out.trans (HK1.out.nil_)).trans HKR.out.nil_⟩
        have h := HOWN.out.mono (b' := w.heap.size) (by have h1 := HK.out.size; have h2 := HK1.out.size; omega)
        rw [HACC.out, List.take_of_length_le (Nat.le_refl _)] at h
        rw [HACC.out, List.take_of_length_le (Nat.le_refl _)]
        exact h
  · have hb : (e1 != 0) = true := by simpa using he
    have hb2 : (e1 == 0) = false := by simpa using he
    go_enter Tryz.func27, Tryz.ntmps27
    go_wp2_with (go_at_call 68; refine HT.out.mono ?_; rintro e w1 ⟨rfl, hD, hk, hsz⟩; have HD := Lib.hid hD; have HK := Lib.hid hk; clear hD hk hsz)
    go_ret2
    exact ⟨_, rfl, fun h => absurd h he, HD.out, HK.out⟩

theorem removeL_step (n : List UInt8) (ns : List (List UInt8)) (D : Dk) : Dk.removeL (n :: ns) D = Dk.removeL ns (D.put n ⟨St.none_, (lookF n D.files).sure⟩).1 := rfl
theorem syncL_step (n : List UInt8) (ns : List (List UInt8)) (D : Dk) : Dk.syncL (n :: ns) D = Dk.syncL ns (D.put n ⟨(lookF n D.files).now, (lookF n D.files).now⟩).1 := rfl
def RemRel (ns : List (List UInt8)) (DE : Dk) (w1 : World) (b m : Nat) (x : Value) (wr : World) : Prop :=
  ∃ (k : Nat) (D' : Dk), k ≤ ns.length ∧ x = .int .i64 (k : Int) ∧ Dk.removeL (ns.drop k) D' = DE ∧ D'.Good ∧ DiskAt wr b m D' ∧ Keep [b, m] w1 wr
def SynRel (ns : List (List UInt8)) (DE : Dk) (w1 : World) (b m : Nat) (x : Value) (wr : World) : Prop :=
  ∃ (k : Nat) (D' : Dk), k ≤ ns.length ∧ x = .int .i64 (k : Int) ∧ Dk.syncL (ns.drop k) D' = DE ∧ D'.Good ∧ DiskAt wr b m D' ∧ Keep [b, m] w1 wr

set_option maxRecDepth 100000 in
set_option maxHeartbeats 2000000 in
theorem remove_calls {w : World} {b m : Nat} {D : Dk} (h : DiskAt w b m D) (hg : D.Good) (v : Value) (ns : List (List UInt8)) (hv : ∀ W, Keep [b, m] w W → StrsAt W v ns) (hth : ∀ n ∈ ns, (lookF n D.files).now.there = true) (hl : ns.length ≤ 1000) :
    Calls Tryz.prog 67 #[.pointer (some ⟨b, 0, none⟩), v] w fun e w' => e = .returned (.int .i64 (D.remove ns).2) ∧ DiskAt w' b m (D.remove ns).1 ∧ Keep [b, m] w w' := by
  have hf1 := field_now
  have hf2 := field_there
  have T := try_calls h hg.ok.armed
  have hfl : D.tries.1.files = D.files := D.tries_alike.files
  have hg1 := hg.tries
  have hrem : D.remove ns = if D.tries.2 ≠ 0 then D.tries else (Dk.removeL ns D.tries.1, 0) := rfl
  rw [← hfl] at hth
  have hbl := h.blk.lt
  have hml := h.map.lt
  clear h hg hfl
  generalize D.tries = r at *
  obtain ⟨D1, e1⟩ := r
  generalize D.remove ns = R at *
  simp only at T hg1 hth hrem
  have HT := Lib.hid T
  have HTH := Lib.hid hth
  have HV := Lib.hid hv
  have HR := Lib.hid hrem
  have HG := Lib.hid hg1
  obtain ⟨A0, c0, hv0, _⟩ := hv w (Keep.refl _ _)
  clear T hth hv hrem hg1
  subst hv0
  by_cases he : e1 = 0
  · subst he
    go_enter Tryz.func67, Tryz.ntmps67
    go_wp2_with (go_at_call 68; refine HT.out.mono ?_; rintro e w0 ⟨rfl, hD, hk, hsz⟩; have HD := Lib.hid hD; have HK := Lib.hid hk; have hc4 := hD.c4; clear hD hk hsz)
    go_loop [20] (fun x => ∃ k : Nat, k ≤ ns.length ∧ x = .int .i64 (k : Int)) (fun x => ns.length - (intOf x).toNat)
    case atStart => exact ⟨0, Nat.zero_le _, rfl⟩
    case round =>
      obtain ⟨k, hk, rfl⟩ := hrel
      by_cases hlt : k < ns.length
      · have d1 : decide ((k : Int) < (ns.length : Int)) = true := by simp; omega
        obtain ⟨A', c', hv', hcc⟩ := HV.out w0 (HK.out.mono (by simp))
        injection hv' with hA hz1' hz2'
        clear hz1' hz2'
        subst hA
        obtain ⟨g, o, rfl, hcc2⟩ := hcc (by intro h0; rw [h0] at hlt; simp at hlt)
        have cx := hcc2 k hlt
        have hlk := HD.out.look_lit ns[k]
        have ht := HTH.out ns[k] (List.getElem_mem hlt)
        rw [ht] at hlk
        clear hcc hcc2 ht
        generalize ns[k] = nm at *
        go_wp2
        go_round
        case rel => exact ⟨k + 1, by omega, by go_num⟩
        case measure => simp [intOf]; omega
      · obtain rfl : k = ns.length := by omega
        have d1 : decide ((ns.length : Int) < (ns.length : Int)) = false := by simp
        clear hc4
        go_wp2
        have HDR : Hid (Dk.removeL (ns.drop 0) D1 = Dk.removeL ns D1) := (rfl : Dk.removeL (ns.drop 0) D1 = Dk.removeL ns D1)
        go_loopw [36] (fun x wr => RemRel ns (Dk.removeL ns D1) w0 b m x wr) (fun x _ => ns.length - (intOf x).toNat)
        case atStart => exact ⟨0, D1, Nat.zero_le _, rfl, HDR.out, HG.out, HD.out, Keep.refl _ _⟩
        case round =>
          obtain ⟨k, D', hk, rfl, hre, hg', hd', hk'⟩ := hrel
          have HRE := Lib.hid hre
          have HKR := Lib.hid hk'
          have HD' := Lib.hid hd'
          clear hre
          by_cases hlt : k < ns.length
          · have d1 : decide ((k : Int) < (ns.length : Int)) = true := by simp; omega
            have hdrop : ns.drop k = ns[k] :: ns.drop (k + 1) := List.drop_eq_getElem_cons hlt
            have hc4 := hd'.c4
            have hlk := hd'.look_lit ns[k]
            obtain ⟨A', c', hv', hcc⟩ := HV.out wr ((HK.out.mono (by simp)).trans hk')
            injection hv' with hA hz1' hz2'
            clear hz1' hz2'
            subst hA
            obtain ⟨g, o, rfl, hcc2⟩ := hcc (by intro h0; rw [h0] at hlt; simp at hlt)
            have cx := hcc2 k hlt
            have HRE2 : Hid (Dk.removeL (ns.drop (k + 1)) (D'.put ns[k] ⟨St.none_, (lookF ns[k] D'.files).sure⟩).1 = Dk.removeL ns D1) := by
              have := HRE.out
              rw [hdrop, removeL_step] at this
              exact this
            have hcl := (hg'.clean.look ns[k]).2
            have HGP := Lib.hid (hg'.put ns[k] (f := ⟨St.none_, (lookF ns[k] D'.files).sure⟩) ⟨fun _ => rfl, hcl⟩)
            have hw1 := hg'.ok.weight ns[k]
            have hw2 := hg'.ok.fits
            have hw3 := hg'.ok.room
            have hw5 := (lookF ns[k] D'.files).weight_sure
            have HP := Lib.hid (fun W (hW : DiskAt W b m D') => put_lit hW hg'.ok ns[k] false [] (lookF ns[k] D'.files).sure.there (lookF ns[k] D'.files).sure.text (by simp) (by omega))
            unfold St.none_ at HRE2 HGP
            clear hcc hcc2 hdrop hg' hd' hk' hw1 hw2 hw3 hw5 hcl HRE
            generalize ns[k] = nm at *
            go_wp2_with (go_at_call 71; refine (HP.out _ (HD'.out.alloc _)).mono ?_; rintro e w4 ⟨rfl, hD4, hk4⟩; have HD4 := Lib.hid hD4; have HK4 := Lib.hid hk4; clear hD4 hk4)
            go_roundw
            case rel => exact ⟨k + 1, _, by omega, by go_num, HRE2.out, HGP.out, HD4.out, (HKR.out.alloc _).trans HK4.out⟩
            case measure => simp [intOf]; omega
          · obtain rfl : k = ns.length := by omega
            have d1 : decide ((ns.length : Int) < (ns.length : Int)) = false := by simp
            have HFIN : Hid (D' = Dk.removeL ns D1) := by
              have := HRE.out
              rw [List.drop_of_length_le (Nat.le_refl _)] at this
              exact this
            clear hd' hk' hg' HRE
            go_wp2
            go_ret
            rw [HR.out, if_neg (by simp), ← HFIN.out]
            exact ⟨rfl, HD'.out, (HK.out.mono (by simp)).trans HKR.out⟩
  · have hb : (e1 != 0) = true := by simpa using he
    have hb2 : (e1 == 0) = false := by simpa using he
    go_enter Tryz.func67, Tryz.ntmps67
    go_wp2_with (go_at_call 68; refine HT.out.mono ?_; rintro e w1 ⟨rfl, hD, hk, hsz⟩; have HD := Lib.hid hD; have HK := Lib.hid hk; clear hD hk hsz)
    go_ret
    rw [HR.out, if_pos he]
    exact ⟨rfl, HD.out, HK.out.mono (by simp)⟩

set_option maxRecDepth 100000 in
set_option maxHeartbeats 2000000 in
theorem syncs_calls {w : World} {b m : Nat} {D : Dk} (h : DiskAt w b m D) (hg : D.Good) (v : Value) (ns : List (List UInt8)) (hv : ∀ W, Keep [b, m] w W → StrsAt W v ns) (hne : ns ≠ []) (hl : ns.length ≤ 1000) :
    Calls Tryz.prog 56 #[.pointer (some ⟨b, 0, none⟩), v] w fun e w' => e = .returned (.int .i64 (D.syncs ns).2) ∧ DiskAt w' b m (D.syncs ns).1 ∧ Keep [b, m] w w' := by
  have T := try_calls h hg.ok.armed
  have hg1 := hg.tries
  have hrem : D.syncs ns = if D.tries.2 ≠ 0 then D.tries else (Dk.syncL ns D.tries.1, 0) := rfl
  have hbl := h.blk.lt
  have hml := h.map.lt
  have hpos : 0 < ns.length := List.length_pos_iff.2 hne
  have b0 : ((ns.length : Int) == 0) = false := by rw [beq_eq_false_iff_ne]; omega
  clear h hg hne
  generalize D.tries = r at *
  obtain ⟨D1, e1⟩ := r
  generalize D.syncs ns = R at *
  simp only at T hg1 hrem
  have HT := Lib.hid T
  have HV := Lib.hid hv
  have HR := Lib.hid hrem
  have HG := Lib.hid hg1
  obtain ⟨A0, c0, hv0, _⟩ := hv w (Keep.refl _ _)
  clear T hv hrem hg1
  subst hv0
  by_cases he : e1 = 0
  · subst he
    go_enter Tryz.func56, Tryz.ntmps56
    go_wp2_with (go_at_call 68; refine HT.out.mono ?_; rintro e w0 ⟨rfl, hD, hk, hsz⟩; have HD := Lib.hid hD; have HK := Lib.hid hk; clear hD hk hsz)
    have HDR : Hid (Dk.syncL (ns.drop 0) D1 = Dk.syncL ns D1) := (rfl : Dk.syncL (ns.drop 0) D1 = Dk.syncL ns D1)
    go_loopw [23] (fun x wr => SynRel ns (Dk.syncL ns D1) w0 b m x wr) (fun x _ => ns.length - (intOf x).toNat)
    case atStart => exact ⟨0, D1, Nat.zero_le _, rfl, HDR.out, HG.out, HD.out, Keep.refl _ _⟩
    case round =>
      obtain ⟨k, D', hk, rfl, hre, hg', hd', hk'⟩ := hrel
      have HRE := Lib.hid hre
      have HKR := Lib.hid hk'
      have HD' := Lib.hid hd'
      clear hre
      by_cases hlt : k < ns.length
      · have d1 : decide ((k : Int) < (ns.length : Int)) = true := by simp; omega
        have hdrop : ns.drop k = ns[k] :: ns.drop (k + 1) := List.drop_eq_getElem_cons hlt
        have hc4 := hd'.c4
        have hlk := hd'.look_lit ns[k]
        obtain ⟨A', c', hv', hcc⟩ := HV.out wr ((HK.out.mono (by simp)).trans hk')
        injection hv' with hA hz1' hz2'
        clear hz1' hz2'
        subst hA
        obtain ⟨g, o, rfl, hcc2⟩ := hcc (by intro h0; rw [h0] at hlt; simp at hlt)
        have cx := hcc2 k hlt
        have HRE2 : Hid (Dk.syncL (ns.drop (k + 1)) (D'.put ns[k] ⟨(lookF ns[k] D'.files).now, (lookF ns[k] D'.files).now⟩).1 = Dk.syncL ns D1) := by
          have := HRE.out
          rw [hdrop, syncL_step] at this
          exact this
        have hcl := (hg'.clean.look ns[k]).1
        have HGP := Lib.hid (hg'.put ns[k] (f := ⟨(lookF ns[k] D'.files).now, (lookF ns[k] D'.files).now⟩) ⟨hcl, hcl⟩)
        have hw1 := hg'.ok.weight ns[k]
        have hw2 := hg'.ok.fits
        have hw3 := hg'.ok.room
        have hw5 := (lookF ns[k] D'.files).weight_now
        have HP := Lib.hid (fun W (hW : DiskAt W b m D') => put_lit hW hg'.ok ns[k] (lookF ns[k] D'.files).now.there (lookF ns[k] D'.files).now.text (lookF ns[k] D'.files).now.there (lookF ns[k] D'.files).now.text (by omega) (by omega))
        clear hcc hcc2 hdrop hg' hd' hk' hw1 hw2 hw3 hw5 hcl HRE
        generalize ns[k] = nm at *
        go_wp2_with (go_at_call 71; refine (HP.out _ (HD'.out.alloc _)).mono ?_; rintro e w4 ⟨rfl, hD4, hk4⟩; have HD4 := Lib.hid hD4; have HK4 := Lib.hid hk4; clear hD4 hk4)
        go_roundw
        case rel => exact ⟨k + 1, _, by omega, by go_num, HRE2.out, HGP.out, HD4.out, (HKR.out.alloc _).trans HK4.out⟩
        case measure => simp [intOf]; omega
      · obtain rfl : k = ns.length := by omega
        have d1 : decide ((ns.length : Int) < (ns.length : Int)) = false := by simp
        have HFIN : Hid (D' = Dk.syncL ns D1) := by
          have := HRE.out
          rw [List.drop_of_length_le (Nat.le_refl _)] at this
          exact this
        clear hd' hk' hg' HRE
        go_wp2
        go_ret
        rw [HR.out, if_neg (by simp), ← HFIN.out]
        exact ⟨rfl, HD'.out, (HK.out.mono (by simp)).trans HKR.out⟩
  · have hb : (e1 != 0) = true := by simpa using he
    have hb2 : (e1 == 0) = false := by simpa using he
    go_enter Tryz.func56, Tryz.ntmps56
    go_wp2_with (go_at_call 68; refine HT.out.mono ?_; rintro e w1 ⟨rfl, hD, hk, hsz⟩; have HD := Lib.hid hD; have HK := Lib.hid hk; clear hD hk hsz)
    go_ret
    rw [HR.out, if_pos he]
    exact ⟨rfl, HD.out, HK.out.mono (by simp)⟩

end Go.Proofs.YtkplffkchanipaaGreatDoor
