/- The contracts of package term that write: save, SaveTerm, Append, Rewrite, SaveSnap. -/
import Derived.Test.YtnlcipocobmgiaaGreatDoorFrameS
import Derived.Test.YtnlcipocobmgiaaGreatDoorDisks
import Derived.Test.YtnlcipocobmgiaaGreatDoorGood
namespace Go.Proofs.YtnlcipocobmgiaaGreatDoor
open Go.RowKit
attribute [local go_sem] size_bs bs_append

set_option maxRecDepth 100000 in
set_option maxHeartbeats 1000000 in
theorem save_calls {w : World} {b m : Nat} {D : Dk} (h : DiskAt w b m D) (hg : D.Good) (name : List UInt8) (hn : name ≠ []) (s : List UInt8) (hs : s.length ≤ 549755813888) :
    Calls Tryz.prog 73 #[.pointer (some ⟨b, 0, none⟩), .string (bs name), .string (bs s)] w fun e w' => e = .returned (.int .i64 (D.save name s).2) ∧ DiskAt w' b m (D.save name s).1 ∧ Keep [b, m] w w' := by
  have W1 := write_calls h hg.ok name hn s hs
  have hgd : (D.write name s).1.Good := hg.change _ _
  have hsv : D.save name s = if (D.write name s).2 ≠ 0 then D.write name s else (D.write name s).1.sync name := rfl
  generalize D.write name s = q at *
  obtain ⟨D1, e1⟩ := q
  simp only at W1 hgd
  have HW := Lib.hid W1
  have HS := Lib.hid hsv
  have HG := Lib.hid hgd
  clear W1 hsv hgd h
  by_cases he : e1 = 0
  · subst he
    go_enter Tryz.func73, Tryz.ntmps73
    go_wp2_with (first | (go_at_call 97; refine HW.out.mono ?_; rintro e w1 ⟨rfl, hD, hk⟩; have HD := Lib.hid hD; have HK := Lib.hid hk; clear hD hk) | (go_at_call 98; refine (sync_calls (HD.out.alloc _) HG.out.ok name (Blk.new _ _ _)).mono ?_; rintro e w2 ⟨rfl, hD2, hk2⟩; have HD2 := Lib.hid hD2; have HK2 := Lib.hid hk2; clear hD2 hk2))
    go_ret
    rw [HS.out, if_neg (by simp)]
    exact ⟨rfl, HD2.out, HK.out.trans (((Keep.refl _ _).alloc _).trans HK2.out)⟩
  · have hb : (e1 != 0) = true := by simpa using he
    have hb2 : (e1 == 0) = false := by simpa using he
    go_enter Tryz.func73, Tryz.ntmps73
    go_wp2_with (first | (go_at_call 97; refine HW.out.mono ?_; rintro e w1 ⟨rfl, hD, hk⟩; have HD := Lib.hid hD; have HK := Lib.hid hk; clear hD hk))
    go_ret
    rw [HS.out, if_pos (by simpa using he)]
    exact ⟨rfl, HD.out, HK.out⟩

/-- The files' names. -/
def nTerm : List UInt8 := [116, 101, 114, 109]
def nSnap : List UInt8 := [115, 110, 97, 112]
def nLog : List UInt8 := [108, 111, 103]
def Dk.saveTerm (D : Dk) (t v : Nat) : Dk × Int := D.save nTerm (frame (encU t ++ encU v))

set_option maxRecDepth 100000 in
set_option maxHeartbeats 1000000 in
theorem saveTerm_calls {w : World} {b m : Nat} {D : Dk} (h : DiskAt w b m D) (hg : D.Good) (hT : Tab w) (t v : Nat) (ht : t ≤ 4611686018427387904) (hv : v ≤ 4611686018427387904) :
    Calls Tryz.prog 40 #[.pointer (some ⟨b, 0, none⟩), .int .i64 (t : Int), .int .i64 (v : Int)] w fun e w' => e = .returned (.int .i64 (D.saveTerm t v).2) ∧ DiskAt w' b m (D.saveTerm t v).1 ∧ Keep [b, m] w w' := by
  have H := Lib.hid h
  have HT := Lib.hid hT
  clear h hT
  have h1 := encU_len t (by omega)
  have h2 := encU_len v (by omega)
  have hel : (encU t ++ encU v).length ≤ 22 := by rw [List.length_append]; omega
  go_enter Tryz.func40, Tryz.ntmps40
  go_wp2_with (first
    | (go_at_call 75; refine (i2_new (wr := w) (L := []) t v ht hv (Nat.zero_le _) (EncNew.start (((Keep.refl _ _).alloc _).alloc _) (Nat.le_refl _) ((Blk.new _ _ _).alloc _)) (by repeat (first | (refine Blk.here _ _ _ _ ?_; (focus simp)) | refine Blk.alloc ?_ _))).mono ?_; rintro e w2 ⟨rfl, hE2, hX2⟩; have HE2 := Lib.hid hE2; clear hE2 hX2)
    | (go_at_call 76; refine (bytes_new HE2.out).mono ?_; rintro e w' ⟨rfl, rfl⟩)
    | (go_at_call 74; refine (frame_calls (encU t ++ encU v) _ _ (HT.out.keep (HE2.out.alloc _).keep (by simp)) (by omega) (by omega) (Blk.new _ _ _)).mono ?_; rintro e w4 ⟨rfl, hk4⟩; have HK4 : Hid (Keep [] w w4) := (HE2.out.alloc _).keep.trans hk4; clear hk4)
    | (go_at_call 73; refine (save_calls (H.out.keep HK4.out (by simp) (by simp)) hg nTerm (by decide) (frame (encU t ++ encU v)) (by rw [frame_len]; omega)).mono ?_; rintro e w5 ⟨rfl, hD5, hk5⟩; have HD5 := Lib.hid hD5; have HK5 := Lib.hid hk5; clear hD5 hk5))
  go_ret
  exact ⟨rfl, HD5.out, HK4.out.nil_.trans HK5.out⟩

end Go.Proofs.YtnlcipocobmgiaaGreatDoor
/- The contracts of package term that write: Append, Rewrite, SaveSnap. -/
namespace Go.Proofs.YtnlcipocobmgiaaGreatDoor
open Go.RowKit
attribute [local go_sem] size_bs bs_append

theorem EntsAt.keep {M : List Nat} {w w' : World} {v : Value} {l : List En} (h : EntsAt w v l) (hk : Keep M w w') (hM : ∀ g o, g ∈ M → ∀ s, w.cell? ⟨g, o, none⟩ ≠ some (.string s)) : EntsAt w' v l := by
  obtain ⟨A, c, rfl, h2⟩ := h
  refine ⟨A, c, rfl, fun hne => ?_⟩
  obtain ⟨g, o, rfl, hc⟩ := h2 hne
  refine ⟨g, o, rfl, fun j u hu => ?_⟩
  have h0 := hc j u hu
  have hgM : g ∉ M := fun hg => by
    cases l with
    | nil => exact hne rfl
    | cons e l => exact hM g (o + 2) hg (bs e.cmd) (hc 2 (.string (bs e.cmd)) (by simp [entsV, En.cells]))
  exact (hk.cell (p := ⟨g, o + j, none⟩) (World.block_lt_of_cell? _ _ h0) hgM).trans h0
theorem EntsAt.disk {w w' : World} {b m : Nat} {D : Dk} {v : Value} {l : List En} (h : EntsAt w v l) (hD : DiskAt w b m D) (hk : Keep [b, m] w w') : EntsAt w' v l :=
  h.keep hk fun g o hg s hc => by
    simp only [List.mem_cons, List.not_mem_nil, or_false] at hg
    rcases hg with rfl | rfl
    · rw [hD.blk.cell] at hc
      match o, hc with
      | 0, hc | 1, hc | 2, hc | 3, hc | 4, hc => simp at hc
      | n + 5, hc => simp at hc
    · obtain ⟨es, c, hm, _⟩ := hD.map
      simp [World.cell?, hm] at hc
theorem EntsAt.keep_nil {w w' : World} {v : Value} {l : List En} (h : EntsAt w v l) (hk : Keep [] w w') : EntsAt w' v l := h.keep hk (by simp)

/-- What a call may be handed: entries in range, not too many. -/
structure EnsOk (l : List En) : Prop where
  len : l.length ≤ 5000
  ok : ∀ e ∈ l, e.Ok
theorem EnsOk.frs {l : List En} (h : EnsOk l) : (frs l).length ≤ 100000000000 := frs_len l h.ok h.len

def Dk.rewrite (D : Dk) (l : List En) : Dk × Int := D.save nLog (frs l)
def Dk.appendLog (D : Dk) (l : List En) : Dk × Int := if (D.append nLog (frs l)).2 ≠ 0 then D.append nLog (frs l) else (D.append nLog (frs l)).1.sync nLog
def Dk.saveSnap (D : Dk) (base t : Nat) (snap : List UInt8) (l : List En) : Dk × Int :=
  if (D.save nSnap (frame (encU base ++ (encU t ++ encS snap)))).2 ≠ 0 then D.save nSnap (frame (encU base ++ (encU t ++ encS snap))) else (D.save nSnap (frame (encU base ++ (encU t ++ encS snap)))).1.rewrite l
theorem Dk.Good.rewrite {D : Dk} (h : D.Good) (l : List En) : (D.rewrite l).1.Good := h.save _ _
theorem Dk.Good.appendLog {D : Dk} (h : D.Good) (l : List En) : (D.appendLog l).1.Good := by
  unfold Dk.appendLog
  split
  · exact h.change _ _
  · exact (h.change _ _).sync _
theorem Dk.Good.saveTerm {D : Dk} (h : D.Good) (t v : Nat) : (D.saveTerm t v).1.Good := h.save _ _
theorem Dk.Good.saveSnap {D : Dk} (h : D.Good) (base t : Nat) (snap : List UInt8) (l : List En) : (D.saveSnap base t snap l).1.Good := by
  unfold Dk.saveSnap
  split
  · exact h.save _ _
  · exact (h.save _ _).rewrite _

set_option maxRecDepth 100000 in
set_option maxHeartbeats 1000000 in
theorem rewrite_calls {w : World} {b m : Nat} {D : Dk} (h : DiskAt w b m D) (hg : D.Good) (hT : Tab w) (l : List En) (v : Value) (hv : EntsAt w v l) (hl : EnsOk l) :
    Calls Tryz.prog 78 #[.pointer (some ⟨b, 0, none⟩), v] w fun e w' => e = .returned (.int .i64 (D.rewrite l).2) ∧ DiskAt w' b m (D.rewrite l).1 ∧ Keep [b, m] w w' := by
  have H := Lib.hid h
  have hfl := hl.frs
  have HF := Lib.hid (frames_calls l v w hT hv hl.len hl.ok)
  clear h hT hv hl
  go_enter Tryz.func78, Tryz.ntmps78
  go_wp2_with (first
    | (go_at_call 103; refine HF.out.mono ?_; rintro e w2 ⟨rfl, hk2⟩; have HK2 := Lib.hid hk2; clear hk2)
    | (go_at_call 73; refine (save_calls (H.out.keep HK2.out (by simp) (by simp)) hg nLog (by decide) (frs l) (by omega)).mono ?_; rintro e w5 ⟨rfl, hD5, hk5⟩; have HD5 := Lib.hid hD5; have HK5 := Lib.hid hk5; clear hD5 hk5))
  go_ret
  exact ⟨rfl, HD5.out, HK2.out.nil_.trans HK5.out⟩

set_option maxRecDepth 100000 in
set_option maxHeartbeats 1000000 in
theorem appendLog_calls {w : World} {b m : Nat} {D : Dk} (h : DiskAt w b m D) (hg : D.Good) (hT : Tab w) (l : List En) (v : Value) (hv : EntsAt w v l) (hl : EnsOk l) :
    Calls Tryz.prog 82 #[.pointer (some ⟨b, 0, none⟩), v] w fun e w' => e = .returned (.int .i64 (D.appendLog l).2) ∧ DiskAt w' b m (D.appendLog l).1 ∧ Keep [b, m] w w' := by
  have H := Lib.hid h
  have hfl := hl.frs
  have HF := Lib.hid (frames_calls l v w hT hv hl.len hl.ok)
  have HA := Lib.hid (fun (W : World) (hW : DiskAt W b m D) => append_calls hW hg.ok nLog (by decide) (frs l) (by omega))
  have hgd : (D.append nLog (frs l)).1.Good := hg.change _ _
  have hsv : D.appendLog l = if (D.append nLog (frs l)).2 ≠ 0 then D.append nLog (frs l) else (D.append nLog (frs l)).1.sync nLog := rfl
  generalize D.append nLog (frs l) = q at *
  obtain ⟨D1, e1⟩ := q
  simp only at hgd
  have HS := Lib.hid hsv
  have HG := Lib.hid hgd
  clear hsv hgd h hT hv hl
  by_cases he : e1 = 0
  · subst he
    go_enter Tryz.func82, Tryz.ntmps82
    go_wp2_with (first
      | (go_at_call 103; refine HF.out.mono ?_; rintro e w2 ⟨rfl, hk2⟩; have HK2 := Lib.hid hk2; clear hk2)
      | (go_at_call 104; refine (HA.out _ (H.out.keep HK2.out (by simp) (by simp))).mono ?_; rintro e w3 ⟨rfl, hD3, hk3⟩; have HD3 := Lib.hid hD3; have HK3 := Lib.hid hk3; clear hD3 hk3)
      | (go_at_call 98; refine (sync_calls (HD3.out.alloc _) HG.out.ok nLog (Blk.new _ _ _)).mono ?_; rintro e w4 ⟨rfl, hD4, hk4⟩; have HD4 := Lib.hid hD4; have HK4 := Lib.hid hk4; clear hD4 hk4))
    go_ret
    rw [HS.out, if_neg (by simp)]
    exact ⟨rfl, HD4.out, HK2.out.nil_.trans (HK3.out.trans (((Keep.refl _ _).alloc _).trans HK4.out))⟩
  · have hb : (e1 != 0) = true := by simpa using he
    have hb2 : (e1 == 0) = false := by simpa using he
    go_enter Tryz.func82, Tryz.ntmps82
    go_wp2_with (first
      | (go_at_call 103; refine HF.out.mono ?_; rintro e w2 ⟨rfl, hk2⟩; have HK2 := Lib.hid hk2; clear hk2)
      | (go_at_call 104; refine (HA.out _ (H.out.keep HK2.out (by simp) (by simp))).mono ?_; rintro e w3 ⟨rfl, hD3, hk3⟩; have HD3 := Lib.hid hD3; have HK3 := Lib.hid hk3; clear hD3 hk3))
    go_ret
    rw [HS.out, if_pos (by simpa using he)]
    exact ⟨rfl, HD3.out, HK2.out.nil_.trans HK3.out⟩

set_option maxRecDepth 100000 in
set_option maxHeartbeats 1000000 in
theorem saveSnap_calls {w : World} {b m : Nat} {D : Dk} (h : DiskAt w b m D) (hg : D.Good) (hT : Tab w) (base t : Nat) (hb0 : base ≤ 4611686018427387904) (ht : t ≤ 4611686018427387904) (snap : List UInt8) (hs : snap.length ≤ 16777216) (l : List En) (v : Value) (hv : EntsAt w v l) (hl : EnsOk l) :
    Calls Tryz.prog 41 #[.pointer (some ⟨b, 0, none⟩), .int .i64 (base : Int), .int .i64 (t : Int), .string (bs snap), v] w fun e w' => e = .returned (.int .i64 (D.saveSnap base t snap l).2) ∧ DiskAt w' b m (D.saveSnap base t snap l).1 ∧ Keep [b, m] w w' := by
  have H := Lib.hid h
  have HT := Lib.hid hT
  have HV := Lib.hid hv
  have HL := Lib.hid hl
  have hel : (encU base ++ (encU t ++ encS snap)).length ≤ 16777300 := encE_len ⟨base, t, snap⟩ ⟨hb0, ht, hs⟩
  have hul : ([] ++ (encU base ++ encU t)).length ≤ 274877906944 := by
    have h1 := encU_len base (by omega)
    have h2 := encU_len t (by omega)
    simp only [List.nil_append, List.length_append]
    omega
  have hne0 : 0 ∉ ([] : List Nat) := by simp
  have HA := Lib.hid (fun (W : World) (hW : DiskAt W b m D) => save_calls hW hg nSnap (by decide) (frame (encU base ++ (encU t ++ encS snap))) (by rw [frame_len]; omega))
  have hgd : (D.save nSnap (frame (encU base ++ (encU t ++ encS snap)))).1.Good := hg.save _ _
  have hsv : D.saveSnap base t snap l = if (D.save nSnap (frame (encU base ++ (encU t ++ encS snap)))).2 ≠ 0 then D.save nSnap (frame (encU base ++ (encU t ++ encS snap))) else (D.save nSnap (frame (encU base ++ (encU t ++ encS snap)))).1.rewrite l := rfl
  generalize D.save nSnap (frame (encU base ++ (encU t ++ encS snap))) = q at *
  obtain ⟨D1, e1⟩ := q
  simp only at hgd
  have HS := Lib.hid hsv
  have HG := Lib.hid hgd
  clear hsv hgd h hT hv hl hne0
  by_cases he : e1 = 0
  · subst he
    go_enter Tryz.func41, Tryz.ntmps41
    go_wp2_with (first
      | (go_at_call 75; refine (i2_new (wr := w) (L := []) base t hb0 ht (Nat.zero_le _) (EncNew.start (((Keep.refl _ _).alloc _).alloc _) (Nat.le_refl _) ((Blk.new _ _ _).alloc _)) (by repeat (first | (refine Blk.here _ _ _ _ ?_; (focus simp)) | refine Blk.alloc ?_ _))).mono ?_; rintro e w2 ⟨rfl, hE2, hX2⟩; have HE2 := Lib.hid hE2; clear hE2 hX2)
      | (go_at_call 77; refine (s_new (wr := w) (L := [] ++ (encU base ++ encU t)) snap (by omega) hul (HE2.out.alloc _) (Blk.new _ _ _)).mono ?_; rintro e w3 ⟨rfl, hE3, hX3⟩; have HE3 := Lib.hid hE3; clear hE3 hX3)
      | (go_at_call 76; refine (bytes_new HE3.out).mono ?_; rintro e w' ⟨rfl, rfl⟩)
      | (go_at_call 74; refine (frame_calls (encU base ++ (encU t ++ encS snap)) _ _ (HT.out.keep (HE3.out.alloc _).keep (by simp)) (by omega) (by omega) (Blk.new _ _ _)).mono ?_; rintro e w4 ⟨rfl, hk4⟩; have HK4 : Hid (Keep [] w w4) := (HE3.out.alloc _).keep.trans hk4; clear hk4)
      | (go_at_call 73; refine (HA.out _ (H.out.keep HK4.out (by simp) (by simp))).mono ?_; rintro e w5 ⟨rfl, hD5, hk5⟩; have HD5 := Lib.hid hD5; have HK5 := Lib.hid hk5; clear hD5 hk5)
      | (go_at_call 78; refine (rewrite_calls HD5.out HG.out (HT.out.disk H.out (HK4.out.nil_.trans HK5.out)) l v (HV.out.disk H.out (HK4.out.nil_.trans HK5.out)) HL.out).mono ?_; rintro e w6 ⟨rfl, hD6, hk6⟩; have HD6 := Lib.hid hD6; have HK6 := Lib.hid hk6; clear hD6 hk6))
    go_ret
    rw [HS.out, if_neg (by simp)]
    exact ⟨rfl, HD6.out, HK4.out.nil_.trans (HK5.out.trans HK6.out)⟩
  · have hb : (e1 != 0) = true := by simpa using he
    have hb2 : (e1 == 0) = false := by simpa using he
    go_enter Tryz.func41, Tryz.ntmps41
    go_wp2_with (first
      | (go_at_call 75; refine (i2_new (wr := w) (L := []) base t hb0 ht (Nat.zero_le _) (EncNew.start (((Keep.refl _ _).alloc _).alloc _) (Nat.le_refl _) ((Blk.new _ _ _).alloc _)) (by repeat (first | (refine Blk.here _ _ _ _ ?_; (focus simp)) | refine Blk.alloc ?_ _))).mono ?_; rintro e w2 ⟨rfl, hE2, hX2⟩; have HE2 := Lib.hid hE2; clear hE2 hX2)
      | (go_at_call 77; refine (s_new (wr := w) (L := [] ++ (encU base ++ encU t)) snap (by omega) hul (HE2.out.alloc _) (Blk.new _ _ _)).mono ?_; rintro e w3 ⟨rfl, hE3, hX3⟩; have HE3 := Lib.hid hE3; clear hE3 hX3)
      | (go_at_call 76; refine (bytes_new HE3.out).mono ?_; rintro e w' ⟨rfl, rfl⟩)
      | (go_at_call 74; refine (frame_calls (encU base ++ (encU t ++ encS snap)) _ _ (HT.out.keep (HE3.out.alloc _).keep (by simp)) (by omega) (by omega) (Blk.new _ _ _)).mono ?_; rintro e w4 ⟨rfl, hk4⟩; have HK4 : Hid (Keep [] w w4) := (HE3.out.alloc _).keep.trans hk4; clear hk4)
      | (go_at_call 73; refine (HA.out _ (H.out.keep HK4.out (by simp) (by simp))).mono ?_; rintro e w5 ⟨rfl, hD5, hk5⟩; have HD5 := Lib.hid hD5; have HK5 := Lib.hid hk5; clear hD5 hk5))
    go_ret
    rw [HS.out, if_pos (by simpa using he)]
    exact ⟨rfl, HD5.out, HK4.out.nil_.trans HK5.out⟩

end Go.Proofs.YtnlcipocobmgiaaGreatDoor
