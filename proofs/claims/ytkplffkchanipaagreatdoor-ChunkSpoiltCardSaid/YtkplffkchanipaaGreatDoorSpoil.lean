/- The contract of (*platter.Disk).Spoil. -/
import Derived.Test.YtkplffkchanipaaGreatDoorSpoils
import Derived.Lib.ConvBytes
import Derived.Laws.IdiomStrings
namespace Go.Proofs.YtkplffkchanipaaGreatDoor
open Go.RowKit
attribute [local go_sem] size_bs bs_append ba_self

theorem xor8 (a b : Nat) (ha : a < 256) (hb : b < 256) : bits .xor .u8 (a : Int) (b : Int) = ((a ^^^ b : Nat) : Int) := by
  show IntKind.u8.wrap (((BitVec.ofInt 8 (a : Int)) ^^^ (BitVec.ofInt 8 (b : Int))).toNat : Int) = _
  have h1 : (BitVec.ofInt 8 (a : Int)) = BitVec.ofNat 8 a := by simp
  have h2 : (BitVec.ofInt 8 (b : Int)) = BitVec.ofNat 8 b := by simp
  have h3 : a ^^^ b < 256 := Nat.xor_lt_two_pow (n := 8) (by omega) (by omega)
  rw [h1, h2, BitVec.toNat_xor, BitVec.toNat_ofNat, BitVec.toNat_ofNat, Nat.mod_eq_of_lt (by omega), Nat.mod_eq_of_lt (by omega), IntKind.wrap_u8]
  omega
theorem Dk.put_even {D : Dk} (h : D.Good) (name : List UInt8) (f : Fil) (hw : f.weight = (lookF name D.files).weight) (hth : (f.now.there || f.sure.there) = true) : D.put name f = ({ D with files := putF name f D.files }, 0) := by
  have hf := h.ok.fits
  unfold Dk.put
  rw [if_neg (by omega)]
  unfold Dk.store
  rw [hw, hth]
  simp
def SpoilPost (D : Dk) (name : List UInt8) (at_ : Int) (v : UInt8) (b m : Nat) (w : World) (e : Ending) (w' : World) : Prop := e = .returned (.bool (D.spoil name at_ v).2) ∧ DiskAt w' b m (D.spoil name at_ v).1 ∧ Keep [b, m] w w'

set_option maxRecDepth 100000 in
set_option maxHeartbeats 2000000 in
theorem spoil_calls {w : World} {b m : Nat} {D : Dk} (h : DiskAt w b m D) (hg : D.Good) (name : List UInt8) (at_ : Int) (hb1 : -9223372036854775808 ≤ at_) (hb2 : at_ ≤ 9223372036854775807) (v : UInt8) :
    Calls Tryz.prog 23 #[.pointer (some ⟨b, 0, none⟩), .string (bs name), .int .i64 at_, .int .u8 (v.toNat : Int)] w (SpoilPost D name at_ v b m w) := by
  have hlk := h.look_lit name
  have hc4 := h.c4
  have H := Lib.hid h
  have hsp : D.spoil name at_ v = if ¬ ((lookF name D.files).now.there = (lookF name D.files).sure.there ∧ (lookF name D.files).now.text = (lookF name D.files).sure.text) ∨ at_ < 0 ∨ ((lookF name D.files).now.text.length : Int) ≤ at_ then (D, false)
    else ((D.put name ⟨D.other name at_ v, D.other name at_ v⟩).1, true) := rfl
  have hot : D.other name at_ v = ⟨true, (lookF name D.files).now.text.set at_.toNat ((lookF name D.files).now.text.getD at_.toNat 0 ^^^ v)⟩ := rfl
  have hcl := (hg.clean.look name).1
  have hpe := fun f hw hth => Dk.put_even hg name f hw hth
  have hwt := hg.ok.weight name
  have hf1 := hg.ok.fits
  have hf2 := hg.ok.room
  have hwn := (lookF name D.files).weight_now
  unfold SpoilPost
  generalize D.spoil name at_ v = R at *
  rw [hot] at hsp
  generalize lookF name D.files = f at *
  obtain ⟨⟨nt, nx⟩, ⟨st, sx⟩⟩ := f
  simp only at hlk hsp hcl hpe hwn
  clear h hg hot
  by_cases hsame : nt = st ∧ nx = sx
  · obtain ⟨rfl, rfl⟩ := hsame
    by_cases hneg : at_ < 0
    · rw [if_pos (.inr (.inl hneg))] at hsp
      have dn : decide (at_ < 0) = true := by simpa using hneg
      have HSP := Lib.hid hsp
      clear hsp hcl hpe
      go_enter Tryz.func23, Tryz.ntmps23
      go_wp2
      go_ret
      rw [HSP.out]
      exact ⟨rfl, H.out.alloc _, (Keep.refl _ _).alloc _⟩
    · by_cases hge : (nx.length : Int) ≤ at_
      · rw [if_pos (.inr (.inr hge))] at hsp
        have dn : decide (at_ < 0) = false := by simpa using hneg
        have dg : decide ((nx.length : Int) ≤ at_) = true := by simpa using hge
        have HSP := Lib.hid hsp
        clear hsp hcl hpe
        go_enter Tryz.func23, Tryz.ntmps23
        go_wp2
        go_ret
        rw [HSP.out]
        exact ⟨rfl, H.out.alloc _, (Keep.refl _ _).alloc _⟩
      · obtain ⟨k, rfl⟩ : ∃ k : Nat, at_ = (k : Int) := ⟨at_.toNat, by omega⟩
        have hk : k < nx.length := by omega
        have dn : decide ((k : Int) < 0) = false := by simp
        have dg : decide ((nx.length : Int) ≤ (k : Int)) = false := by simp; omega
        rw [if_neg (by simp; omega)] at hsp
        have hnt : nt = true := by
          cases nt with
          | false => have h0 : nx = [] := hcl rfl; rw [h0] at hk; simp at hk
          | true => rfl
        subst hnt
        rw [Int.toNat_natCast] at hsp
        have hgd : nx.getD k 0 = nx[k] := by simp [List.getD, hk]
        rw [hgd, hpe _ (by simp [Fil.weight]) rfl] at hsp
        have hv := v.toNat_lt
        have hx := xor8 nx[k].toNat v.toNat nx[k].toNat_lt hv
        have hxe : ((nx[k].toNat ^^^ v.toNat : Nat) : Int) = ((nx[k] ^^^ v).toNat : Int) := by rw [UInt8.toNat_xor]
        rw [hxe] at hx
        have HSP := Lib.hid hsp
        clear hsp hcl hpe
        go_enter Tryz.func23, Tryz.ntmps23
        go_upto_region 4 with fail
        have hmb : m < w.heap.size ∧ b < w.heap.size := ⟨H.out.map.lt, H.out.blk.lt⟩
        have HB1 : Hid (Blk (w.alloc (.cells #[.bool true, .string (bs nx), .bool true, .string (bs nx)] 115)) w.heap.size 115 #[.bool true, .string (bs nx), .bool true, .string (bs nx)]) := Blk.new _ _ _
        have HD1 : Hid (DiskAt (w.alloc (.cells #[.bool true, .string (bs nx), .bool true, .string (bs nx)] 115)) b m D) := H.out.alloc _
        have HK1 : Hid (Keep [b, m] w (w.alloc (.cells #[.bool true, .string (bs nx), .bool true, .string (bs nx)] 115))) := (Keep.refl _ _).alloc _
        have y1 : (w.alloc (.cells #[.bool true, .string (bs nx), .bool true, .string (bs nx)] 115)).cell? ⟨w.heap.size, 1, none⟩ = some (.string (bs nx)) := HB1.out.cell 1
        have hsz1 : (w.alloc (.cells #[.bool true, .string (bs nx), .bool true, .string (bs nx)] 115)).heap.size = w.heap.size + 1 := by simp
        clear hlk hc4
        generalize (w.alloc (.cells #[.bool true, .string (bs nx), .bool true, .string (bs nx)] 115)) = W1 at *
        have hcv := Lib.run_convert_string_bytes (P := Tryz.prog) W1 9 116 5 (bs nx) Tryz.underlying9 Tryz.underlying116 Tryz.underlying5
        rw [size_bs] at hcv
        go_upto_region 5 with fail
        have HK2 : Hid (Keep [] W1 (Lib.bytesWorld W1 5 (bs nx))) := ⟨rfl, rfl, rfl, by rw [Lib.bytesWorld_size]; omega, fun j hj _ => Lib.bytesWorld_at_old W1 _ _ j hj⟩
        have HC2 : Hid (∀ j (hj : j < nx.length), (Lib.bytesWorld W1 5 (bs nx)).cell? ⟨W1.heap.size, j, none⟩ = some (.int .u8 (nx[j].toNat : Int))) := fun j hj => by
          have h1 := Lib.bytesWorld_cell W1 5 (bs nx) j (by rw [size_bs]; exact hj)
          rw [h1]
          simp [bs, List.getD, hj]
        have HF2 : Hid ((Lib.bytesWorld W1 5 (bs nx)).frozen? ⟨W1.heap.size, k, none⟩ = false) := by
          have h1 := Lib.bytesWorld_at_new W1 5 (bs nx)
          have h2 : nx.length ≤ (Lib.bytesCells W1 5 (bs nx)).size := by simp [Lib.bytesCells, bs]
          show World.frozen? _ _ = false
          simp only [World.frozen?, h1]
          simp
          omega
        have hsz2 := HK2.out.size
        have hq2 : W1.heap.size < (Lib.bytesWorld W1 5 (bs nx)).heap.size := by rw [Lib.bytesWorld_size]; omega
        clear y1 hcv
        generalize Lib.bytesWorld W1 5 (bs nx) = W2 at *
        have z0 := HC2.out k hk
        have f0 := HF2.out
        rw [hsz1] at z0 f0 HC2 HF2 hq2
        go_upto_region 6 with fail
        have HK3 : Hid (Keep [w.heap.size + 1] W2 (W2.setCell ⟨w.heap.size + 1, k, none⟩ (.int .u8 ((nx[k] ^^^ v).toNat : Int)))) := (Keep.refl _ _).setCell (.inl (by simp)) _
        have HC3 : Hid (∀ j (hj : j < (nx.set k (nx[k] ^^^ v)).length), (W2.setCell ⟨w.heap.size + 1, k, none⟩ (.int .u8 ((nx[k] ^^^ v).toNat : Int))).cell? ⟨w.heap.size + 1, j, none⟩ = some (.int .u8 ((nx.set k (nx[k] ^^^ v))[j].toNat : Int))) := fun j hj => by
          have hj' : j < nx.length := by simpa using hj
          by_cases e : j = k
          · subst e
            refine (World.cell?_setCell_same (h := z0) ..).trans ?_
            simp
          · refine (World.cell?_setCell_other (h := fun h => e (Addr.mk.inj h).2.1.symm) ..).trans ((HC2.out j hj').trans ?_)
            simp [Ne.symm e]
        clear z0 f0
        generalize (W2.setCell ⟨w.heap.size + 1, k, none⟩ (.int .u8 ((nx[k] ^^^ v).toNat : Int))) = W3 at *
        have hcv2 := run_convert_bytes_back (P := Tryz.prog) W3 116 9 5 ⟨w.heap.size + 1, 0, none⟩ (grownCap W1 nx.length 0 5) (nx.set k (nx[k] ^^^ v)) Tryz.underlying116 Tryz.underlying5 Tryz.underlying9 (fun j hj => by rw [Go.WideShapes.add_plain, Nat.zero_add]; exact HC3.out j hj)
        rw [List.length_set] at hcv2
        have hcv3 : (convert 116 9 (.slice (some ⟨w.heap.size + 1, 0, none⟩) nx.length (grownCap W1 nx.length 0 5))).run Tryz.prog W3 = .ok (.string (bs (nx.set k (nx[k] ^^^ v)))) W3 := hcv2
        clear hcv2
        obtain ⟨ny, hny⟩ : ∃ ny, ny = nx.set k (nx[k] ^^^ v) := ⟨_, rfl⟩
        rw [← hny] at hcv3 HC3 HSP
        clear hny
        have HB3 : Hid (Blk W3 w.heap.size 115 #[.bool true, .string (bs nx), .bool true, .string (bs nx)]) := (HB1.out.keep HK2.out (by simp)).keep HK3.out (by simp)
        have HD3 : Hid (DiskAt W3 b m D) := (HD1.out.keep HK2.out (by simp) (by simp)).keep HK3.out (by simp; omega) (by simp; omega)
        have p1 : W3.cell? ⟨w.heap.size, 1, none⟩ = some (.string (bs nx)) := HB3.out.cell 1
        have pf : ∀ i, W3.frozen? ⟨w.heap.size, i, none⟩ = false := fun i => HB3.out.frozen i
        clear HC3
        go_upto_region 7 with fail
        clear p1 pf hcv3
        have HB4 : Hid (Blk (W3.setCell ⟨w.heap.size, 1, none⟩ (.string (bs ny))) w.heap.size 115 #[.bool true, .string (bs ny), .bool true, .string (bs nx)]) := HB3.out.set_ 1 _
        have HK4 : Hid (Keep [w.heap.size] W3 (W3.setCell ⟨w.heap.size, 1, none⟩ (.string (bs ny)))) := (Keep.refl _ _).setCell (.inl (by simp)) _
        generalize (W3.setCell ⟨w.heap.size, 1, none⟩ (.string (bs ny))) = W4 at *
        have p0 : W4.cell? ⟨w.heap.size, 0, none⟩ = some (.bool true) := HB4.out.cell 0
        have p1 : W4.cell? ⟨w.heap.size, 1, none⟩ = some (.string (bs ny)) := HB4.out.cell 1
        have p2 : W4.cell? ⟨w.heap.size, 2, none⟩ = some (.bool true) := HB4.out.cell 2
        have p3 : W4.cell? ⟨w.heap.size, 3, none⟩ = some (.string (bs nx)) := HB4.out.cell 3
        have pf : ∀ i, W4.frozen? ⟨w.heap.size, i, none⟩ = false := fun i => HB4.out.frozen i
        go_upto_region 8 with fail
        clear p0 p1 p2 p3 pf
        have HB5 : Hid (Blk ((W4.setCell ⟨w.heap.size, 2, none⟩ (.bool true)).setCell ⟨w.heap.size, 3, none⟩ (.string (bs ny))) w.heap.size 115 #[.bool true, .string (bs ny), .bool true, .string (bs ny)]) := (HB4.out.set_ 2 (.bool true)).set_ 3 (.string (bs ny))
        have HK5 : Hid (Keep [w.heap.size] W4 ((W4.setCell ⟨w.heap.size, 2, none⟩ (.bool true)).setCell ⟨w.heap.size, 3, none⟩ (.string (bs ny)))) := ((Keep.refl _ _).setCell (.inl (by simp)) _).setCell (.inl (by simp)) _
        generalize ((W4.setCell ⟨w.heap.size, 2, none⟩ (.bool true)).setCell ⟨w.heap.size, 3, none⟩ (.string (bs ny))) = W5 at *
        have HD5 : Hid (DiskAt W5 b m D) := (HD3.out.keep HK4.out (by simp; omega) (by simp; omega)).keep HK5.out (by simp; omega) (by simp; omega)
        have HKE : Hid (Keep [b, m] w W5) := (((HK1.out.trans HK2.out.nil_).trans' HK3.out (by simp)).trans' HK4.out (by simp)).trans' HK5.out (by simp)
        have c4 : W5.cell? ⟨b, 4, none⟩ = some (.map (some m)) := HD5.out.c4
        have p0 : W5.cell? ⟨w.heap.size, 0, none⟩ = some (.bool true) := HB5.out.cell 0
        have p1 : W5.cell? ⟨w.heap.size, 1, none⟩ = some (.string (bs ny)) := HB5.out.cell 1
        have p2 : W5.cell? ⟨w.heap.size, 2, none⟩ = some (.bool true) := HB5.out.cell 2
        have p3 : W5.cell? ⟨w.heap.size, 3, none⟩ = some (.string (bs ny)) := HB5.out.cell 3
        obtain ⟨w7, hmu, hM7, hK7, -⟩ := HD5.out.map.drew.put (P := Tryz.prog) Tryz.underlying42 Tryz.underlying9 name (.agg #[.bool true, .string (bs ny), .bool true, .string (bs ny)])
        have HM7 := Lib.hid hM7
        have HK7 := Lib.hid hK7
        have hmb2 : m ≠ b := HD5.out.ne_
        clear hM7 hK7
        go_region
        go_wp2
        go_ret
        rw [HSP.out]
        refine ⟨rfl, ⟨HD5.out.blk.drew.keep HK7.out (by simp; exact fun e => hmb2 e.symm), ?_⟩, HKE.out.drew.trans (HK7.out.mono (by simp))⟩
        have h := HM7.out
        have h2 := put_vals name ⟨⟨true, ny⟩, ⟨true, ny⟩⟩ D.files
        unfold Fil.val at h2
        simp only at h2
        rw [h2] at h
        exact h
  · rw [if_pos (.inl hsame)] at hsp
    have HSP := Lib.hid hsp
    clear hsp hcl hpe
    by_cases hts : nt = st
    · subst hts
      have hne : ¬ (bs nx).toList = (bs sx).toList := by
        rw [ByteArray.toList_eq, ByteArray.toList_eq]
        intro he
        have he2 : lst (bs nx) = lst (bs sx) := he
        rw [lst_bs, lst_bs] at he2
        exact hsame ⟨rfl, he2⟩
      clear hsame
      go_enter Tryz.func23, Tryz.ntmps23
      go_wp2
      go_ret
      rw [HSP.out]
      exact ⟨rfl, H.out.alloc _, (Keep.refl _ _).alloc _⟩
    · have hne : (nt == st) = false := by simpa using hts
      clear hsame hts
      go_enter Tryz.func23, Tryz.ntmps23
      go_wp2
      go_ret
      rw [HSP.out]
      exact ⟨rfl, H.out.alloc _, (Keep.refl _ _).alloc _⟩

end Go.Proofs.YtkplffkchanipaaGreatDoor
