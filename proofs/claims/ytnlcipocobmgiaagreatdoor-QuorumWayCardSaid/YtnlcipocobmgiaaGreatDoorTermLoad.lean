/- The contracts of package term that read: read, only, loadTerm, loadSnap. -/
import Derived.Test.YtnlcipocobmgiaaGreatDoorTermSaves
import Derived.Test.YtnlcipocobmgiaaGreatDoorSeals
import Derived.Test.YtnlcipocobmgiaaGreatDoorCodecs
namespace Go.Proofs.YtnlcipocobmgiaaGreatDoor
open Go.RowKit
attribute [local go_sem] size_bs bs_append

def Dk.readT (D : Dk) (name : List UInt8) : List UInt8 × Int := if (D.read name).2 = 5 then ([], 0) else D.read name
theorem Dk.Good.text_le {D : Dk} (h : D.Good) (name : List UInt8) : (lookF name D.files).now.text.length ≤ 274877906944 := by
  have h1 := h.ok.weight name
  have h2 := h.ok.fits
  have h3 := h.ok.room
  have h4 := (lookF name D.files).weight_now
  omega
theorem Dk.Good.read_le {D : Dk} (h : D.Good) (name : List UInt8) : (D.read name).1.length ≤ 274877906944 := by
  unfold Dk.read
  split
  · simp
  · split
    · exact h.tries.text_le name
    · simp
theorem Dk.Good.readT_le {D : Dk} (h : D.Good) (name : List UInt8) : (D.readT name).1.length ≤ 274877906944 := by
  unfold Dk.readT
  split
  · simp
  · exact h.read_le name

set_option maxRecDepth 100000 in
set_option maxHeartbeats 400000 in
theorem readT_calls {w : World} {b m : Nat} {D : Dk} (h : DiskAt w b m D) (hg : D.Good) (name : List UInt8) :
    Calls Tryz.prog 90 #[.pointer (some ⟨b, 0, none⟩), .string (bs name)] w fun e w' => e = .returned (.tuple #[.string (bs (D.readT name).1), .int .i64 (D.readT name).2]) ∧ DiskAt w' b m D.tries.1 ∧ Keep [b, m] w w' := by
  have R := read_calls h hg.ok name
  have hr : D.readT name = if (D.read name).2 = 5 then ([], 0) else D.read name := rfl
  generalize D.read name = q at *
  obtain ⟨t, e1⟩ := q
  simp only at R
  have HR := Lib.hid R
  have HE := Lib.hid hr
  clear R hr h
  by_cases he : e1 = 5
  · subst he
    go_enter Tryz.func90, Tryz.ntmps90
    go_wp2_with (go_at_call 109; refine HR.out.mono ?_; rintro e w1 ⟨rfl, hD, hk⟩; have HD := Lib.hid hD; have HK := Lib.hid hk; clear hD hk)
    go_ret2
    rw [HE.out, if_pos (by simp)]
    exact ⟨rfl, HD.out, HK.out⟩
  · have hb : (e1 == 5) = false := by simpa using he
    go_enter Tryz.func90, Tryz.ntmps90
    go_wp2_with (go_at_call 109; refine HR.out.mono ?_; rintro e w1 ⟨rfl, hD, hk⟩; have HD := Lib.hid hD; have HK := Lib.hid hk; clear hD hk)
    go_ret2
    rw [HE.out, if_neg he]
    exact ⟨rfl, HD.out, HK.out⟩

/-- only: the bytes in the one frame that a file is; whether there is one; the error. -/
def Dk.onlyT (D : Dk) (name : List UInt8) : List UInt8 × Bool × Int :=
  if (D.readT name).2 ≠ 0 then ([], false, (D.readT name).2)
  else if (OnlyF (D.readT name).1).2 = 2 then ([], false, 0)
  else if (OnlyF (D.readT name).1).2 ≠ 0 then ([], false, (OnlyF (D.readT name).1).2)
  else ((OnlyF (D.readT name).1).1, true, 0)
theorem OnlyF_le (s : List UInt8) : (OnlyF s).1.length ≤ s.length := by
  unfold OnlyF
  split
  · simp
  · rename_i h
    have := openF_ok (s := s) (by simpa using h)
    split
    · simp
    · exact this.2.2
theorem Dk.Good.onlyT_le {D : Dk} (h : D.Good) (name : List UInt8) : (D.onlyT name).1.length ≤ 1099511627776 := by
  have h1 := h.readT_le name
  have h2 := OnlyF_le (D.readT name).1
  unfold Dk.onlyT
  split
  · simp
  · split
    · simp
    · split
      · simp
      · simp only; omega

set_option maxRecDepth 100000 in
set_option maxHeartbeats 1000000 in
theorem onlyT_calls {w : World} {b m : Nat} {D : Dk} (h : DiskAt w b m D) (hg : D.Good) (hT : Tab w) (name : List UInt8) :
    Calls Tryz.prog 85 #[.pointer (some ⟨b, 0, none⟩), .string (bs name)] w fun e w' => e = .returned (.tuple #[.string (bs (D.onlyT name).1), .bool (D.onlyT name).2.1, .int .i64 (D.onlyT name).2.2]) ∧ DiskAt w' b m D.tries.1 ∧ Keep [b, m] w w' := by
  have R := readT_calls h hg name
  have hle := hg.readT_le name
  have H := Lib.hid h
  have HT := Lib.hid hT
  have hr : D.onlyT name = if (D.readT name).2 ≠ 0 then ([], false, (D.readT name).2)
    else if (OnlyF (D.readT name).1).2 = 2 then ([], false, 0)
    else if (OnlyF (D.readT name).1).2 ≠ 0 then ([], false, (OnlyF (D.readT name).1).2)
    else ((OnlyF (D.readT name).1).1, true, 0) := rfl
  generalize D.readT name = q at *
  obtain ⟨t, e1⟩ := q
  simp only at R hr hle
  have HR := Lib.hid R
  have HO := Lib.hid (fun (W : World) (hW : Tab W) => only_calls t W hW (by omega))
  generalize OnlyF t = q2 at *
  obtain ⟨t2, e2⟩ := q2
  have HE := Lib.hid hr
  clear R hr h hT
  by_cases he : e1 = 0
  · subst he
    by_cases h2 : e2 = 2
    · subst h2
      go_enter Tryz.func85, Tryz.ntmps85
      go_wp2_with (first | (go_at_call 90; refine HR.out.mono ?_; rintro e w1 ⟨rfl, hD, hk⟩; have HD := Lib.hid hD; have HK := Lib.hid hk; clear hD hk) | (go_at_call 105; refine (HO.out _ (HT.out.disk H.out HK.out)).mono ?_; rintro e w2 ⟨rfl, hk2⟩; have HK2 := Lib.hid hk2; clear hk2))
      go_ret3
      rw [HE.out, if_neg (by simp), if_pos (by simp)]
      exact ⟨rfl, HD.out.keep HK2.out (by simp) (by simp), HK.out.trans HK2.out.nil_⟩
    · have hb0 : (e2 == 2) = false := by simpa using h2
      by_cases h3 : e2 = 0
      · subst h3
        go_enter Tryz.func85, Tryz.ntmps85
        go_wp2_with (first | (go_at_call 90; refine HR.out.mono ?_; rintro e w1 ⟨rfl, hD, hk⟩; have HD := Lib.hid hD; have HK := Lib.hid hk; clear hD hk) | (go_at_call 105; refine (HO.out _ (HT.out.disk H.out HK.out)).mono ?_; rintro e w2 ⟨rfl, hk2⟩; have HK2 := Lib.hid hk2; clear hk2))
        go_ret3
        rw [HE.out, if_neg (by simp), if_neg (by simp), if_neg (by simp)]
        exact ⟨rfl, HD.out.keep HK2.out (by simp) (by simp), HK.out.trans HK2.out.nil_⟩
      · have hb : (e2 != 0) = true := by simpa using h3
        have hb2 : (e2 == 0) = false := by simpa using h3
        go_enter Tryz.func85, Tryz.ntmps85
        go_wp2_with (first | (go_at_call 90; refine HR.out.mono ?_; rintro e w1 ⟨rfl, hD, hk⟩; have HD := Lib.hid hD; have HK := Lib.hid hk; clear hD hk) | (go_at_call 105; refine (HO.out _ (HT.out.disk H.out HK.out)).mono ?_; rintro e w2 ⟨rfl, hk2⟩; have HK2 := Lib.hid hk2; clear hk2))
        go_ret3
        rw [HE.out, if_neg (by simp), if_neg h2, if_pos h3]
        exact ⟨rfl, HD.out.keep HK2.out (by simp) (by simp), HK.out.trans HK2.out.nil_⟩
  · have hb : (e1 != 0) = true := by simpa using he
    have hb2 : (e1 == 0) = false := by simpa using he
    go_enter Tryz.func85, Tryz.ntmps85
    go_wp2_with (first | (go_at_call 90; refine HR.out.mono ?_; rintro e w1 ⟨rfl, hD, hk⟩; have HD := Lib.hid hD; have HK := Lib.hid hk; clear hD hk) | (go_at_call 105; refine (HO.out _ (HT.out.disk H.out HK.out)).mono ?_; rintro e w2 ⟨rfl, hk2⟩; have HK2 := Lib.hid hk2; clear hk2))
    go_ret3
    rw [HE.out, if_pos he]
    exact ⟨rfl, HD.out, HK.out⟩

/-- What the bytes of 'term' and of 'snap' say. -/
def decTerm (s : List UInt8) : Nat × Nat × Int :=
  ((Ds.i ⟨s, 0, 0⟩ 1099511627776).1, ((Ds.i ⟨s, 0, 0⟩ 1099511627776).2.i 5).1, ((Ds.i ⟨s, 0, 0⟩ 1099511627776).2.i 5).2.done.err)
def Dk.loadTerm (D : Dk) : Nat × Nat × Int :=
  if (D.onlyT nTerm).2.2 ≠ 0 then (0, 0, (D.onlyT nTerm).2.2) else if (D.onlyT nTerm).2.1 = false then (0, 0, 0) else decTerm (D.onlyT nTerm).1

set_option maxRecDepth 100000 in
set_option maxHeartbeats 1000000 in
theorem loadTerm_calls {w : World} {b m sb : Nat} {D : Dk} (h : DiskAt w b m D) (hg : D.Good) (hT : Tab w) (c2 c3 c4 c5 : Value) (hS : Blk w sb 46 #[.int .i64 0, .int .i64 0, c2, c3, c4, c5]) :
    Calls Tryz.prog 49 #[.pointer (some ⟨sb, 0, none⟩), .pointer (some ⟨b, 0, none⟩)] w fun e w' => e = .returned (.int .i64 D.loadTerm.2.2) ∧ Blk w' sb 46 #[.int .i64 (D.loadTerm.1 : Int), .int .i64 (D.loadTerm.2.1 : Int), c2, c3, c4, c5] ∧ DiskAt w' b m D.tries.1 ∧ Keep [b, m, sb] w w' := by
  have R := onlyT_calls h hg hT nTerm
  have hle := hg.onlyT_le nTerm
  have hsb : sb ≠ b := hS.ne_ h.blk (by decide)
  have hsm : m ≠ sb := h.map.ne_ hS
  have H := Lib.hid h
  have HS := Lib.hid hS
  have hr : D.loadTerm = if (D.onlyT nTerm).2.2 ≠ 0 then (0, 0, (D.onlyT nTerm).2.2) else if (D.onlyT nTerm).2.1 = false then (0, 0, 0) else decTerm (D.onlyT nTerm).1 := rfl
  generalize D.onlyT nTerm = q at *
  obtain ⟨t, th, e1⟩ := q
  simp only at R hr hle
  have HR := Lib.hid R
  have HE := Lib.hid hr
  clear R hr h hT hS
  by_cases he : e1 = 0
  · subst he
    cases th with
    | false =>
      go_enter Tryz.func49, Tryz.ntmps49
      go_wp2_with (first | (go_at_call 85; refine HR.out.mono ?_; rintro e w1 ⟨rfl, hD, hk⟩; have HD := Lib.hid hD; have HK := Lib.hid hk; clear hD hk) | fail)
      go_ret
      rw [HE.out, if_neg (by simp), if_pos (by simp)]
      exact ⟨rfl, HS.out.keep HK.out (by simpa using ⟨hsb, hsm.symm⟩), HD.out, HK.out.mono (by simp)⟩
    | true =>
      have hdt : decTerm t = ((Ds.i ⟨t, 0, 0⟩ 1099511627776).1, ((Ds.i ⟨t, 0, 0⟩ 1099511627776).2.i 5).1, ((Ds.i ⟨t, 0, 0⟩ 1099511627776).2.i 5).2.done.err) := rfl
      have HDT := Lib.hid hdt
      have C1 := fun (W : World) (g : Nat) (hW : DecAt W g ⟨t, 0, 0⟩) => di_calls hW (Nat.zero_le _) (by simp only; omega) 1099511627776 (by omega)
      obtain ⟨a1, a2, a3⟩ := Ds.i_at (d := ⟨t, 0, 0⟩) (Nat.zero_le _) 1099511627776
      generalize Ds.i ⟨t, 0, 0⟩ 1099511627776 = q1 at *
      obtain ⟨n1, d1⟩ := q1
      simp only at C1 a1 a2 a3
      have hl1 : d1.s.length ≤ 4611686018427387904 := by rw [a2]; omega
      have C2 := fun (W : World) (g : Nat) (hW : DecAt W g d1) => di_calls hW a1 hl1 5 (by omega)
      obtain ⟨b1, b2, b3⟩ := Ds.i_at (d := d1) a1 5
      generalize d1.i 5 = q2 at *
      obtain ⟨n2, d2⟩ := q2
      simp only at C2 b1 b2 b3
      have hl2 : d2.s.length ≤ 4611686018427387904 := by rw [b2]; exact hl1
      have HC1 := Lib.hid C1
      have HC2 := Lib.hid C2
      clear C1 C2 hdt a2 b2
      have hslt := HS.out.lt
      have tok1 : True := trivial
      go_enter Tryz.func49, Tryz.ntmps49
      go_wp2_with (first
        | (go_at_call 85; refine HR.out.mono ?_; rintro e w1 ⟨rfl, hD, hk⟩; have HD := Lib.hid hD; have HK := Lib.hid hk; have hdb : w1.heap.size ≠ sb := (by have := hk.size; omega); clear hD hk)
        | (go_at_call 86; refine (from_calls t _).mono ?_; rintro e w2 ⟨rfl, hF, hk2⟩; have HF := Lib.hid hF; have HK2 := Lib.hid hk2; clear hF hk2)
        | (go_at_call 87; have _t := tok1; refine (HC1.out _ _ HF.out).mono ?_; rintro e w3 ⟨rfl, hD3, hk3⟩; have hB3 : Blk w3 sb 46 #[.int .i64 0, .int .i64 0, c2, c3, c4, c5] := (((HS.out.keep HK.out (by simpa using ⟨hsb, hsm.symm⟩)).keep HK2.out (by simp)).keep hk3 (by simpa using hdb.symm)); have s0 : w3.cell? ⟨sb, 0, none⟩ = some (.int .i64 0) := hB3.cell 0; have f0 := hB3.frozen 0; have HD3 := Lib.hid hD3; have HK3 := Lib.hid hk3; have HB3 := Lib.hid hB3; clear hD3 hk3 hB3 tok1)
        | (go_at_call 87; refine (HC2.out _ _ ⟨HD3.out.blk.far (p := ⟨sb, 0, none⟩) hdb _⟩).mono ?_; rintro e w4 ⟨rfl, hD4, hk4⟩; have hB4 : Blk w4 sb 46 #[.int .i64 (n1 : Int), .int .i64 0, c2, c3, c4, c5] := ((HB3.out.set_ 0 (.int .i64 (n1 : Int))).keep hk4 (by simpa using hdb.symm)); have s1 : w4.cell? ⟨sb, 1, none⟩ = some (.int .i64 0) := hB4.cell 1; have f1 := hB4.frozen 1; have HD4 := Lib.hid hD4; have HK4 := Lib.hid hk4; have HB4 := Lib.hid hB4; clear hD4 hk4 hB4)
        | (go_at_call 88; refine (done_calls ⟨HD4.out.blk.far (p := ⟨sb, 1, none⟩) hdb _⟩ b1 hl2).mono ?_; rintro e w5 ⟨rfl, hD5, hk5⟩; have HK5 := Lib.hid hk5; clear hD5 hk5))
      go_ret
      have hnew : w.heap.size ≤ w1.heap.size := HK.out.size
      have k3 : Keep [b, m, sb] w w3 := ((HK.out.mono (by simp)).trans HK2.out.nil_).trans' HK3.out (fun x hx => by simp only [List.mem_cons, List.not_mem_nil, or_false] at hx; subst hx; exact .inr hnew)
      have k4 : Keep [b, m, sb] w w4 := (k3.setCell (p := ⟨sb, 0, none⟩) (.inl (by simp)) (.int .i64 (n1 : Int))).trans' HK4.out (fun x hx => by simp only [List.mem_cons, List.not_mem_nil, or_false] at hx; subst hx; exact .inr hnew)
      have k5 : Keep [b, m, sb] w w5 := (k4.setCell (p := ⟨sb, 1, none⟩) (.inl (by simp)) (.int .i64 (n2 : Int))).trans' HK5.out (fun x hx => by simp only [List.mem_cons, List.not_mem_nil, or_false] at hx; subst hx; exact .inr hnew)
      rw [HE.out, if_neg (by simp), if_neg (by simp), HDT.out]
      have x2 := HD.out.keep HK2.out (by simp) (by simp)
      have nb : ∀ W : World, DiskAt W b m D.tries.1 → b ≠ w1.heap.size ∧ m ≠ w1.heap.size := fun W _ => ⟨by have := HD.out.blk.lt; omega, by have := HD.out.map.lt; omega⟩
      have nbm := nb w2 x2
      have x3 := x2.keep HK3.out (by simpa using nbm.1) (by simpa using nbm.2)
      have x3' : DiskAt (w3.setCell ⟨sb, 0, none⟩ (.int .i64 (n1 : Int))) b m D.tries.1 := x3.keep ((Keep.refl [sb] _).setCell (.inl (by simp)) _) (by simpa using hsb.symm) (by simpa using hsm)
      have x4 := x3'.keep HK4.out (by simpa using nbm.1) (by simpa using nbm.2)
      have x4' : DiskAt (w4.setCell ⟨sb, 1, none⟩ (.int .i64 (n2 : Int))) b m D.tries.1 := x4.keep ((Keep.refl [sb] _).setCell (.inl (by simp)) _) (by simpa using hsb.symm) (by simpa using hsm)
      exact ⟨rfl, (HB4.out.set_ 1 (.int .i64 (n2 : Int))).keep HK5.out (by simpa using hdb.symm), x4'.keep HK5.out (by simpa using nbm.1) (by simpa using nbm.2), k5⟩
  · have hb : (e1 != 0) = true := by simpa using he
    have hb2 : (e1 == 0) = false := by simpa using he
    go_enter Tryz.func49, Tryz.ntmps49
    go_wp2_with (first | (go_at_call 85; refine HR.out.mono ?_; rintro e w1 ⟨rfl, hD, hk⟩; have HD := Lib.hid hD; have HK := Lib.hid hk; clear hD hk) | fail)
    go_ret
    rw [HE.out, if_pos he]
    exact ⟨rfl, HS.out.keep HK.out (by simpa using ⟨hsb, hsm.symm⟩), HD.out, HK.out.mono (by simp)⟩

def decSnap (s : List UInt8) : Nat × Nat × List UInt8 × Int :=
  ((Ds.i ⟨s, 0, 0⟩ 1099511627776).1, ((Ds.i ⟨s, 0, 0⟩ 1099511627776).2.i 1099511627776).1, (((Ds.i ⟨s, 0, 0⟩ 1099511627776).2.i 1099511627776).2.str 1000000).1, (((Ds.i ⟨s, 0, 0⟩ 1099511627776).2.i 1099511627776).2.str 1000000).2.done.err)
def Dk.loadSnap (D : Dk) : Nat × Nat × List UInt8 × Int :=
  if (D.onlyT nSnap).2.2 ≠ 0 then (0, 0, [], (D.onlyT nSnap).2.2) else if (D.onlyT nSnap).2.1 = false then (0, 0, [], 0) else decSnap (D.onlyT nSnap).1

set_option maxRecDepth 100000 in
set_option maxHeartbeats 1000000 in
theorem loadSnap_calls {w : World} {b m sb : Nat} {D : Dk} (h : DiskAt w b m D) (hg : D.Good) (hT : Tab w) (c0 c1 c5 : Value) (hS : Blk w sb 46 #[c0, c1, .int .i64 0, .int .i64 0, .string (bs []), c5]) :
    Calls Tryz.prog 50 #[.pointer (some ⟨sb, 0, none⟩), .pointer (some ⟨b, 0, none⟩)] w fun e w' => e = .returned (.int .i64 D.loadSnap.2.2.2) ∧ Blk w' sb 46 #[c0, c1, .int .i64 (D.loadSnap.1 : Int), .int .i64 (D.loadSnap.2.1 : Int), .string (bs D.loadSnap.2.2.1), c5] ∧ DiskAt w' b m D.tries.1 ∧ Keep [b, m, sb] w w' := by
  have R := onlyT_calls h hg hT nSnap
  have hle := hg.onlyT_le nSnap
  have hsb : sb ≠ b := hS.ne_ h.blk (by decide)
  have hsm : m ≠ sb := h.map.ne_ hS
  have H := Lib.hid h
  have HS := Lib.hid hS
  have hr : D.loadSnap = if (D.onlyT nSnap).2.2 ≠ 0 then (0, 0, [], (D.onlyT nSnap).2.2) else if (D.onlyT nSnap).2.1 = false then (0, 0, [], 0) else decSnap (D.onlyT nSnap).1 := rfl
  generalize D.onlyT nSnap = q at *
  obtain ⟨t, th, e1⟩ := q
  simp only at R hr hle
  have HR := Lib.hid R
  have HE := Lib.hid hr
  clear R hr h hT hS
  by_cases he : e1 = 0
  · subst he
    cases th with
    | false =>
      go_enter Tryz.func50, Tryz.ntmps50
      go_wp2_with (first | (go_at_call 85; refine HR.out.mono ?_; rintro e w1 ⟨rfl, hD, hk⟩; have HD := Lib.hid hD; have HK := Lib.hid hk; clear hD hk) | fail)
      go_ret
      rw [HE.out, if_neg (by simp), if_pos (by simp)]
      exact ⟨rfl, HS.out.keep HK.out (by simpa using ⟨hsb, hsm.symm⟩), HD.out, HK.out.mono (by simp)⟩
    | true =>
      have hdt : decSnap t = ((Ds.i ⟨t, 0, 0⟩ 1099511627776).1, ((Ds.i ⟨t, 0, 0⟩ 1099511627776).2.i 1099511627776).1, (((Ds.i ⟨t, 0, 0⟩ 1099511627776).2.i 1099511627776).2.str 1000000).1, (((Ds.i ⟨t, 0, 0⟩ 1099511627776).2.i 1099511627776).2.str 1000000).2.done.err) := rfl
      have HDT := Lib.hid hdt
      have C1 := fun (W : World) (g : Nat) (hW : DecAt W g ⟨t, 0, 0⟩) => di_calls hW (Nat.zero_le _) (by simp only; omega) 1099511627776 (by omega)
      obtain ⟨a1, a2, a3⟩ := Ds.i_at (d := ⟨t, 0, 0⟩) (Nat.zero_le _) 1099511627776
      generalize Ds.i ⟨t, 0, 0⟩ 1099511627776 = q1 at *
      obtain ⟨n1, d1⟩ := q1
      simp only at C1 a1 a2 a3
      have hl1 : d1.s.length ≤ 4611686018427387904 := by rw [a2]; omega
      have C2 := fun (W : World) (g : Nat) (hW : DecAt W g d1) => di_calls hW a1 hl1 1099511627776 (by omega)
      obtain ⟨b1, b2, b3⟩ := Ds.i_at (d := d1) a1 1099511627776
      generalize d1.i 1099511627776 = q2 at *
      obtain ⟨n2, d2⟩ := q2
      simp only at C2 b1 b2 b3
      have hl2 : d2.s.length ≤ 4611686018427387904 := by rw [b2]; exact hl1
      have C3 := fun (W : World) (g : Nat) (hW : DecAt W g d2) => ds_calls hW b1 hl2 1000000 (by omega)
      obtain ⟨e1, e2⟩ := Ds.str_at (d := d2) b1 1000000
      generalize d2.str 1000000 = q3 at *
      obtain ⟨n3, d3⟩ := q3
      simp only at C3 e1 e2
      have hl3 : d3.s.length ≤ 4611686018427387904 := by rw [e2]; exact hl2
      have HC1 := Lib.hid C1
      have HC2 := Lib.hid C2
      have HC3 := Lib.hid C3
      clear C1 C2 C3 hdt a2 b2 e2
      have hslt := HS.out.lt
      have tok1 : True := trivial
      go_enter Tryz.func50, Tryz.ntmps50
      go_wp2_with (first
        | (go_at_call 85; refine HR.out.mono ?_; rintro e w1 ⟨rfl, hD, hk⟩; have HD := Lib.hid hD; have HK := Lib.hid hk; have hdb : w1.heap.size ≠ sb := (by have := hk.size; omega); clear hD hk)
        | (go_at_call 86; refine (from_calls t _).mono ?_; rintro e w2 ⟨rfl, hF, hk2⟩; have HF := Lib.hid hF; have HK2 := Lib.hid hk2; clear hF hk2)
        | (go_at_call 87; have _t := tok1; refine (HC1.out _ _ HF.out).mono ?_; rintro e w3 ⟨rfl, hD3, hk3⟩; have hB3 : Blk w3 sb 46 #[c0, c1, .int .i64 0, .int .i64 0, .string (bs []), c5] := (((HS.out.keep HK.out (by simpa using ⟨hsb, hsm.symm⟩)).keep HK2.out (by simp)).keep hk3 (by simpa using hdb.symm)); have s2 : w3.cell? ⟨sb, 2, none⟩ = some (.int .i64 0) := hB3.cell 2; have f2 := hB3.frozen 2; have HD3 := Lib.hid hD3; have HK3 := Lib.hid hk3; have HB3 := Lib.hid hB3; clear hD3 hk3 hB3 tok1)
        | (go_at_call 87; refine (HC2.out _ _ ⟨HD3.out.blk.far (p := ⟨sb, 2, none⟩) hdb _⟩).mono ?_; rintro e w4 ⟨rfl, hD4, hk4⟩; have hB4 : Blk w4 sb 46 #[c0, c1, .int .i64 (n1 : Int), .int .i64 0, .string (bs []), c5] := ((HB3.out.set_ 2 (.int .i64 (n1 : Int))).keep hk4 (by simpa using hdb.symm)); have s3 : w4.cell? ⟨sb, 3, none⟩ = some (.int .i64 0) := hB4.cell 3; have f3 := hB4.frozen 3; have HD4 := Lib.hid hD4; have HK4 := Lib.hid hk4; have HB4 := Lib.hid hB4; clear hD4 hk4 hB4)
        | (go_at_call 89; refine (HC3.out _ _ ⟨HD4.out.blk.far (p := ⟨sb, 3, none⟩) hdb _⟩).mono ?_; rintro e w5 ⟨rfl, hD5, hk5⟩; have hB5 : Blk w5 sb 46 #[c0, c1, .int .i64 (n1 : Int), .int .i64 (n2 : Int), .string (bs []), c5] := ((HB4.out.set_ 3 (.int .i64 (n2 : Int))).keep hk5 (by simpa using hdb.symm)); have s4 : w5.cell? ⟨sb, 4, none⟩ = some (.string (bs [])) := hB5.cell 4; have f4 := hB5.frozen 4; have HD5 := Lib.hid hD5; have HK5 := Lib.hid hk5; have HB5 := Lib.hid hB5; clear hD5 hk5 hB5)
        | (go_at_call 88; refine (done_calls ⟨HD5.out.blk.far (p := ⟨sb, 4, none⟩) hdb _⟩ e1 hl3).mono ?_; rintro e w6 ⟨rfl, hD6, hk6⟩; have HK6 := Lib.hid hk6; clear hD6 hk6))
      go_ret
      have hnew : w.heap.size ≤ w1.heap.size := HK.out.size
      have hx : ∀ x, x ∈ [w1.heap.size] → x ∈ [b, m, sb] ∨ w.heap.size ≤ x := fun x hx => by simp only [List.mem_cons, List.not_mem_nil, or_false] at hx; subst hx; exact .inr hnew
      have k3 : Keep [b, m, sb] w w3 := ((HK.out.mono (by simp)).trans HK2.out.nil_).trans' HK3.out hx
      have k4 : Keep [b, m, sb] w w4 := (k3.setCell (p := ⟨sb, 2, none⟩) (.inl (by simp)) (.int .i64 (n1 : Int))).trans' HK4.out hx
      have k5 : Keep [b, m, sb] w w5 := (k4.setCell (p := ⟨sb, 3, none⟩) (.inl (by simp)) (.int .i64 (n2 : Int))).trans' HK5.out hx
      have k6 : Keep [b, m, sb] w w6 := (k5.setCell (p := ⟨sb, 4, none⟩) (.inl (by simp)) (.string (bs n3))).trans' HK6.out hx
      rw [HE.out, if_neg (by simp), if_neg (by simp), HDT.out]
      have x2 := HD.out.keep HK2.out (by simp) (by simp)
      have nbm : b ≠ w1.heap.size ∧ m ≠ w1.heap.size := ⟨by have := HD.out.blk.lt; omega, by have := HD.out.map.lt; omega⟩
      have x3 := x2.keep HK3.out (by simpa using nbm.1) (by simpa using nbm.2)
      have far : ∀ (W : World) (i : Nat) (u : Value), DiskAt W b m D.tries.1 → DiskAt (W.setCell ⟨sb, i, none⟩ u) b m D.tries.1 := fun W i u hW => hW.keep ((Keep.refl [sb] _).setCell (.inl (by simp)) _) (by simpa using hsb.symm) (by simpa using hsm)
      have x4 := (far _ 2 (.int .i64 (n1 : Int)) x3).keep HK4.out (by simpa using nbm.1) (by simpa using nbm.2)
      have x5 := (far _ 3 (.int .i64 (n2 : Int)) x4).keep HK5.out (by simpa using nbm.1) (by simpa using nbm.2)
      have x6 := (far _ 4 (.string (bs n3)) x5).keep HK6.out (by simpa using nbm.1) (by simpa using nbm.2)
      exact ⟨rfl, (HB5.out.set_ 4 (.string (bs n3))).keep HK6.out (by simpa using hdb.symm), x6, k6⟩
  · have hb : (e1 != 0) = true := by simpa using he
    have hb2 : (e1 == 0) = false := by simpa using he
    go_enter Tryz.func50, Tryz.ntmps50
    go_wp2_with (first | (go_at_call 85; refine HR.out.mono ?_; rintro e w1 ⟨rfl, hD, hk⟩; have HD := Lib.hid hD; have HK := Lib.hid hk; clear hD hk) | fail)
    go_ret
    rw [HE.out, if_pos he]
    exact ⟨rfl, HS.out.keep HK.out (by simpa using ⟨hsb, hsm.symm⟩), HD.out, HK.out.mono (by simp)⟩

end Go.Proofs.YtnlcipocobmgiaaGreatDoor
