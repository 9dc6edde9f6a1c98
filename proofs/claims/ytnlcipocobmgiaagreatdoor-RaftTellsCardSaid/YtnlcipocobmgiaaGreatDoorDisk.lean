/- The contracts of package platter: New, Write, Append, Sync of one file, Read. -/
import Derived.Test.YtnlcipocobmgiaaGreatDoorPut
namespace Go.Proofs.YtnlcipocobmgiaaGreatDoor
open Go.RowKit
attribute [local go_sem] bs_append size_bs

theorem DiskAt.look_lit {w : World} {b m : Nat} {D : Dk} (h : DiskAt w b m D) (s : List UInt8) :
    (Instr.lookup 106 (.map (some m)) (.string (bs s)) false).run Tryz.prog w = .ok (.agg #[.bool (lookF s D.files).now.there, .string (bs (lookF s D.files).now.text), .bool (lookF s D.files).sure.there, .string (bs (lookF s D.files).sure.text)]) w := h.look s
theorem put_lit {w : World} {b m : Nat} {D : Dk} (h : DiskAt w b m D) (hok : D.Ok) (name : List UInt8) (a : Bool) (s : List UInt8) (c : Bool) (t : List UInt8) (hf1 : s.length ≤ 4398046511104) (hf2 : t.length ≤ 4398046511104) :
    Calls Tryz.prog 96 #[.pointer (some ⟨b, 0, none⟩), .string (bs name), .agg #[.bool a, .string (bs s), .bool c, .string (bs t)]] w fun e w' => e = .returned (.int .i64 (D.put name ⟨⟨a, s⟩, ⟨c, t⟩⟩).2) ∧ DiskAt w' b m (D.put name ⟨⟨a, s⟩, ⟨c, t⟩⟩).1 ∧ Keep [b, m] w w' :=
  put_calls h hok name ⟨⟨a, s⟩, ⟨c, t⟩⟩ hf1 hf2

/-- Write, Append: a file's bytes become what g makes of them. -/
def Dk.change (D : Dk) (name : List UInt8) (g : List UInt8 → List UInt8) : Dk × Int :=
  if D.tries.2 ≠ 0 then D.tries else if name = [] then (D.tries.1, 1) else
    D.tries.1.put name ⟨⟨true, g (lookF name D.tries.1.files).now.text⟩, (lookF name D.tries.1.files).sure⟩

theorem isEmpty_bs {name : List UInt8} (h : name ≠ []) : (bs name).toList.isEmpty = false := by
  rw [ByteArray.toList_eq]
  show (lst (bs name)).isEmpty = false
  rw [lst_bs]
  cases name with
  | nil => exact absurd rfl h
  | cons => rfl

set_option maxHeartbeats 400000 in
theorem write1_calls (x : ByteArray) (s : ByteArray) (p : Addr) (w : World) (hp : w.cell? p = some (.string s)) :
    Calls Tryz.prog 120 #[.string x, .pointer (some p)] w fun e w' => e = .returned (.string s) ∧ w = w' := by
  go_enter Tryz.func120, Tryz.ntmps120
  go_wp2
  go_ret
  exact ⟨rfl, rfl⟩

set_option maxHeartbeats 400000 in
theorem append1_calls (x : List UInt8) (s : List UInt8) (p : Addr) (w : World) (hp : w.cell? p = some (.string (bs s))) (hl : x.length + s.length ≤ 4611686018427387904) :
    Calls Tryz.prog 126 #[.string (bs x), .pointer (some p)] w fun e w' => e = .returned (.string (bs (x ++ s))) ∧ w = w' := by
  have hb1 : ¬ (9223372036854775807 < x.length + s.length) := by omega
  go_enter Tryz.func126, Tryz.ntmps126
  go_wp2
  go_ret
  exact ⟨rfl, rfl⟩


set_option maxRecDepth 100000 in
set_option maxHeartbeats 1000000 in
theorem change_write {w : World} {b m p : Nat} {D : Dk} (h : DiskAt w b m D) (hok : D.Ok) (name : List UInt8) (hn : name ≠ []) (s : List UInt8) (hs : s.length ≤ 549755813888) (hp : Blk w p 9 #[.string (bs s)]) :
    Calls Tryz.prog 119 #[.pointer (some ⟨b, 0, none⟩), .string (bs name), .func (.func 120) #[] #[.pointer (some ⟨p, 0, none⟩)]] w fun e w' => e = .returned (.int .i64 (D.change name (fun _ => s)).2) ∧ DiskAt w' b m (D.change name (fun _ => s)).1 ∧ Keep [b, m] w w' := by
  have hpb : p ≠ b := hp.ne_ h.blk (by decide)
  have hpm : m ≠ p := h.map.ne_ hp
  have hch : D.change name (fun _ => s) = if D.tries.2 ≠ 0 then D.tries else D.tries.1.put name ⟨⟨true, (fun _ => s) (lookF name D.tries.1.files).now.text⟩, (lookF name D.tries.1.files).sure⟩ := by simp [Dk.change, hn]
  have Hch := Lib.hid hch
  clear hch
  have hne := isEmpty_bs hn
  have hok1 := hok.tries
  have T := try_calls h hok.armed
  have HP := Lib.hid hp
  clear h hok hn hp
  generalize D.tries = r at *
  obtain ⟨D1, e1⟩ := r
  simp only at T hok1
  have HT := Lib.hid T
  clear T
  by_cases he : e1 = 0
  · subst he
    have hw0 := hok1.weight name
    have hw2 := hok1.fits
    have hw3 := hok1.room
    have hw4 := (lookF name D1.files).weight_now
    have hw5 := (lookF name D1.files).weight_sure
    go_enter Tryz.func119, Tryz.ntmps119
    go_wp2_with (go_at_call 121; refine HT.out.mono ?_; rintro e w1 ⟨rfl, hD, hk, hsz⟩; have HD := Lib.hid hD; have HK := Lib.hid hk; have HZ := Lib.hid hsz; have hlk := hD.look_lit name; have hc4 := hD.c4; have hp1 : w1.cell? ⟨p, 0, none⟩ = some (.string (bs s)) := (HP.out.keep hk (by simpa using hpb)).cell 0; clear hD hk hsz)
    go_wp2_with (first | (go_at_call 120; refine (write1_calls _ (bs s) ⟨p, 0, none⟩ _ (cell_alloc hp1 _)).mono ?_; rintro e w' ⟨rfl, rfl⟩) | (go_at_call 96; refine (put_lit (HD.out.alloc _) hok1 name true _ _ _ (by omega) (by omega)).mono ?_; rintro e w2 ⟨rfl, hD2, hK2⟩))
    go_ret
    rw [Hch.out, if_neg (by simp)]
    exact ⟨rfl, hD2, (HK.out.mono (by simp)).trans (((Keep.refl [b, m] w1).alloc _).trans hK2)⟩
  · have hb : (e1 != 0) = true := by simpa using he
    have hb2 : (e1 == 0) = false := by simpa using he
    go_enter Tryz.func119, Tryz.ntmps119
    go_wp2_with (go_at_call 121; refine HT.out.mono ?_; rintro e w1 ⟨rfl, hD, hk, hsz⟩; have HD := Lib.hid hD; have HK := Lib.hid hk; clear hD hk hsz)
    go_ret
    rw [Hch.out, if_pos he]
    exact ⟨rfl, HD.out, HK.out.mono (by simp)⟩
set_option maxRecDepth 100000 in
set_option maxHeartbeats 1000000 in
theorem change_append {w : World} {b m p : Nat} {D : Dk} (h : DiskAt w b m D) (hok : D.Ok) (name : List UInt8) (hn : name ≠ []) (s : List UInt8) (hs : s.length ≤ 549755813888) (hp : Blk w p 9 #[.string (bs s)]) :
    Calls Tryz.prog 119 #[.pointer (some ⟨b, 0, none⟩), .string (bs name), .func (.func 126) #[] #[.pointer (some ⟨p, 0, none⟩)]] w fun e w' => e = .returned (.int .i64 (D.change name (fun x => x ++ s)).2) ∧ DiskAt w' b m (D.change name (fun x => x ++ s)).1 ∧ Keep [b, m] w w' := by
  have hpb : p ≠ b := hp.ne_ h.blk (by decide)
  have hpm : m ≠ p := h.map.ne_ hp
  have hch : D.change name (fun x => x ++ s) = if D.tries.2 ≠ 0 then D.tries else D.tries.1.put name ⟨⟨true, (fun x => x ++ s) (lookF name D.tries.1.files).now.text⟩, (lookF name D.tries.1.files).sure⟩ := by simp [Dk.change, hn]
  have Hch := Lib.hid hch
  clear hch
  have hne := isEmpty_bs hn
  have hok1 := hok.tries
  have T := try_calls h hok.armed
  have HP := Lib.hid hp
  clear h hok hn hp
  generalize D.tries = r at *
  obtain ⟨D1, e1⟩ := r
  simp only at T hok1
  have HT := Lib.hid T
  clear T
  by_cases he : e1 = 0
  · subst he
    have hw0 := hok1.weight name
    have hw2 := hok1.fits
    have hw3 := hok1.room
    have hw4 := (lookF name D1.files).weight_now
    have hw5 := (lookF name D1.files).weight_sure
    go_enter Tryz.func119, Tryz.ntmps119
    go_wp2_with (go_at_call 121; refine HT.out.mono ?_; rintro e w1 ⟨rfl, hD, hk, hsz⟩; have HD := Lib.hid hD; have HK := Lib.hid hk; have HZ := Lib.hid hsz; have hlk := hD.look_lit name; have hc4 := hD.c4; have hp1 : w1.cell? ⟨p, 0, none⟩ = some (.string (bs s)) := (HP.out.keep hk (by simpa using hpb)).cell 0; clear hD hk hsz)
    go_wp2_with (first | (go_at_call 126; refine (append1_calls _ s ⟨p, 0, none⟩ _ (cell_alloc hp1 _) (by omega)).mono ?_; rintro e w' ⟨rfl, rfl⟩) | (go_at_call 96; refine (put_lit (HD.out.alloc _) hok1 name true _ _ _ (by simp; omega) (by omega)).mono ?_; rintro e w2 ⟨rfl, hD2, hK2⟩))
    go_ret
    rw [Hch.out, if_neg (by simp)]
    exact ⟨rfl, hD2, (HK.out.mono (by simp)).trans (((Keep.refl [b, m] w1).alloc _).trans hK2)⟩
  · have hb : (e1 != 0) = true := by simpa using he
    have hb2 : (e1 == 0) = false := by simpa using he
    go_enter Tryz.func119, Tryz.ntmps119
    go_wp2_with (go_at_call 121; refine HT.out.mono ?_; rintro e w1 ⟨rfl, hD, hk, hsz⟩; have HD := Lib.hid hD; have HK := Lib.hid hk; clear hD hk hsz)
    go_ret
    rw [Hch.out, if_pos he]
    exact ⟨rfl, HD.out, HK.out.mono (by simp)⟩

/-- Write. -/
def Dk.write (D : Dk) (name s : List UInt8) : Dk × Int := D.change name (fun _ => s)
/-- Append. -/
def Dk.append (D : Dk) (name s : List UInt8) : Dk × Int := D.change name (fun x => x ++ s)

set_option maxHeartbeats 400000 in
theorem write_calls {w : World} {b m : Nat} {D : Dk} (h : DiskAt w b m D) (hok : D.Ok) (name : List UInt8) (hn : name ≠ []) (s : List UInt8) (hs : s.length ≤ 549755813888) :
    Calls Tryz.prog 97 #[.pointer (some ⟨b, 0, none⟩), .string (bs name), .string (bs s)] w fun e w' => e = .returned (.int .i64 (D.write name s).2) ∧ DiskAt w' b m (D.write name s).1 ∧ Keep [b, m] w w' := by
  have H := Lib.hid h
  clear h
  go_enter Tryz.func97, Tryz.ntmps97
  go_wp2_with (go_at_call 119; refine (change_write (H.out.alloc _) hok name hn s hs (Blk.new _ _ _)).mono ?_; rintro e w' ⟨rfl, hD', hk'⟩)
  go_ret
  exact ⟨rfl, hD', ((Keep.refl _ _).alloc _).trans hk'⟩
set_option maxHeartbeats 400000 in
theorem append_calls {w : World} {b m : Nat} {D : Dk} (h : DiskAt w b m D) (hok : D.Ok) (name : List UInt8) (hn : name ≠ []) (s : List UInt8) (hs : s.length ≤ 549755813888) :
    Calls Tryz.prog 104 #[.pointer (some ⟨b, 0, none⟩), .string (bs name), .string (bs s)] w fun e w' => e = .returned (.int .i64 (D.append name s).2) ∧ DiskAt w' b m (D.append name s).1 ∧ Keep [b, m] w w' := by
  have H := Lib.hid h
  clear h
  go_enter Tryz.func104, Tryz.ntmps104
  go_wp2_with (go_at_call 119; refine (change_append (H.out.alloc _) hok name hn s hs (Blk.new _ _ _)).mono ?_; rintro e w' ⟨rfl, hD', hk'⟩)
  go_ret
  exact ⟨rfl, hD', ((Keep.refl _ _).alloc _).trans hk'⟩

/-- Sync of one file. -/
def Dk.sync (D : Dk) (name : List UInt8) : Dk × Int :=
  if D.tries.2 ≠ 0 then D.tries else ((D.tries.1.put name ⟨(lookF name D.tries.1.files).now, (lookF name D.tries.1.files).now⟩).1, 0)

set_option maxRecDepth 100000 in
set_option maxHeartbeats 1000000 in
theorem sync_calls {w : World} {b m p : Nat} {D : Dk} (h : DiskAt w b m D) (hok : D.Ok) (name : List UInt8) (hp : Blk w p 9 #[.string (bs name)]) :
    Calls Tryz.prog 98 #[.pointer (some ⟨b, 0, none⟩), .slice (some ⟨p, 0, none⟩) 1 1] w fun e w' => e = .returned (.int .i64 (D.sync name).2) ∧ DiskAt w' b m (D.sync name).1 ∧ Keep [b, m] w w' := by
  have hpb : p ≠ b := hp.ne_ h.blk (by decide)
  have hpm : m ≠ p := h.map.ne_ hp
  have hch : D.sync name = if D.tries.2 ≠ 0 then D.tries else ((D.tries.1.put name ⟨(lookF name D.tries.1.files).now, (lookF name D.tries.1.files).now⟩).1, 0) := rfl
  have Hch := Lib.hid hch
  clear hch
  have hok1 := hok.tries
  have T := try_calls h hok.armed
  have HP := Lib.hid hp
  clear h hok hp
  generalize D.tries = r at *
  obtain ⟨D1, e1⟩ := r
  simp only at T hok1
  have HT := Lib.hid T
  clear T
  by_cases he : e1 = 0
  · subst he
    have hw0 := hok1.weight name
    have hw2 := hok1.fits
    have hw3 := hok1.room
    have hw4 := (lookF name D1.files).weight_now
    have hw5 := (lookF name D1.files).weight_sure
    go_enter Tryz.func98, Tryz.ntmps98
    go_wp2_with (go_at_call 121; refine HT.out.mono ?_; rintro e w1 ⟨rfl, hD, hk, hsz⟩; have HD := Lib.hid hD; have HK := Lib.hid hk; have HZ := Lib.hid hsz; have hlk := hD.look_lit name; have hc4 := hD.c4; have hp1 : w1.cell? ⟨p, 0, none⟩ = some (.string (bs name)) := (HP.out.keep hk (by simpa using hpb)).cell 0; clear hD hk hsz)
    refine wp_loop_rounds 2 ?_
    rw [rounds_succ]
    go_wp2_with (go_at_call 96; refine (put_lit (HD.out.alloc _) hok1 name _ _ _ _ (by omega) (by omega)).mono ?_; rintro e w2 ⟨rfl, hD2, hK2⟩; have HD2 := Lib.hid hD2; have HK2 := Lib.hid hK2; clear hD2 hK2)
    rw [rounds_succ]
    go_wp2
    go_ret
    rw [Hch.out, if_neg (by simp)]
    exact ⟨rfl, HD2.out, (HK.out.mono (by simp)).trans (((Keep.refl [b, m] w1).alloc _).trans HK2.out)⟩
  · have hb : (e1 != 0) = true := by simpa using he
    have hb2 : (e1 == 0) = false := by simpa using he
    go_enter Tryz.func98, Tryz.ntmps98
    go_wp2_with (go_at_call 121; refine HT.out.mono ?_; rintro e w1 ⟨rfl, hD, hk, hsz⟩; have HD := Lib.hid hD; have HK := Lib.hid hk; clear hD hk hsz)
    go_ret
    rw [Hch.out, if_pos he]
    exact ⟨rfl, HD.out, HK.out.mono (by simp)⟩

/-- Read: the file's current contents, and the error. -/
def Dk.read (D : Dk) (name : List UInt8) : List UInt8 × Int :=
  if D.tries.2 ≠ 0 then ([], D.tries.2) else if (lookF name D.tries.1.files).now.there then ((lookF name D.tries.1.files).now.text, 0) else ([], 5)

set_option maxRecDepth 100000 in
set_option maxHeartbeats 1000000 in
theorem read_calls {w : World} {b m : Nat} {D : Dk} (h : DiskAt w b m D) (hok : D.Ok) (name : List UInt8) :
    Calls Tryz.prog 109 #[.pointer (some ⟨b, 0, none⟩), .string (bs name)] w fun e w' => e = .returned (.tuple #[.string (bs (D.read name).1), .int .i64 (D.read name).2]) ∧ DiskAt w' b m D.tries.1 ∧ Keep [b, m] w w' := by
  have hch : D.read name = if D.tries.2 ≠ 0 then ([], D.tries.2) else if (lookF name D.tries.1.files).now.there then ((lookF name D.tries.1.files).now.text, 0) else ([], 5) := rfl
  have Hch := Lib.hid hch
  clear hch
  have T := try_calls h hok.armed
  clear h hok
  generalize D.tries = r at *
  obtain ⟨D1, e1⟩ := r
  simp only at T
  have HT := Lib.hid T
  clear T
  by_cases he : e1 = 0
  · subst he
    by_cases hth : (lookF name D1.files).now.there = true
    all_goals
      go_enter Tryz.func109, Tryz.ntmps109
      go_wp2_with (go_at_call 121; refine HT.out.mono ?_; rintro e w1 ⟨rfl, hD, hk, hsz⟩; have HD := Lib.hid hD; have HK := Lib.hid hk; have HZ := Lib.hid hsz; have hlk := hD.look_lit name; have hc4 := hD.c4; clear hD hk hsz)
      go_ret2
      rw [Hch.out, if_neg (by simp)]
      first | rw [if_pos hth] | rw [if_neg (by simpa using hth)]
      exact ⟨rfl, HD.out.alloc _, (HK.out.mono (by simp)).alloc _⟩
  · have hb : (e1 != 0) = true := by simpa using he
    have hb2 : (e1 == 0) = false := by simpa using he
    go_enter Tryz.func109, Tryz.ntmps109
    go_wp2_with (go_at_call 121; refine HT.out.mono ?_; rintro e w1 ⟨rfl, hD, hk, hsz⟩; have HD := Lib.hid hD; have HK := Lib.hid hk; clear hD hk hsz)
    go_ret2
    rw [Hch.out, if_pos he]
    exact ⟨rfl, HD.out, HK.out.mono (by simp)⟩

end Go.Proofs.YtnlcipocobmgiaaGreatDoor
