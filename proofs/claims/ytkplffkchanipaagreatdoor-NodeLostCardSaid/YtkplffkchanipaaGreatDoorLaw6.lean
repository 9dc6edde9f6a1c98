/- The contract of glacierlaw06.Is. -/
import Derived.Test.YtkplffkchanipaaGreatDoorStoresD
import Derived.Test.YtkplffkchanipaaGreatDoorChRef
namespace Go.Proofs.YtkplffkchanipaaGreatDoor
open Go.RowKit
attribute [local go_sem] size_bs bs_append ba_self
variable {w w' : World} {s b m g : Nat} {C C' : Ck} {D D' : Dk}

theorem OwnX.keep2 {M : List Nat} {base : Nat} {v : Value} {l : List (Nat × List UInt8)} (h : OwnX w base v l) (hk : Keep M w w') (hM : ∀ k, v.ownBlock = some k → k ∉ M) : OwnX w' base v l := ⟨hk.owns h.own hM⟩
theorem OwnX.ne_map {base k : Nat} {v : Value} {l : List (Nat × List UInt8)} {L : List (List UInt8 × Value)} (h : OwnX w base v l) (hm : MapIs w k L) : v.ownBlock ≠ some k := fun e => by
  rcases h.own.2 with ⟨rfl, _⟩ | ⟨g', cap, cur, rfl, _, hh, _⟩
  · simp [Value.ownBlock] at e
  · have : g' = k := by simpa [Value.ownBlock] using e
    subst this
    obtain ⟨es, c, hm, _⟩ := hm
    rw [hm] at hh
    cases hh
theorem OwnX.ne_mapN {base k : Nat} {q : IntKind} {v : Value} {l : List (Nat × List UInt8)} {L : List (Int × Value)} (h : OwnX w base v l) (hm : MapN q w k L) : v.ownBlock ≠ some k := fun e => by
  rcases h.own.2 with ⟨rfl, _⟩ | ⟨g', cap, cur, rfl, _, hh, _⟩
  · simp [Value.ownBlock] at e
  · have : g' = k := by simpa [Value.ownBlock] using e
    subst this
    obtain ⟨es, c, hm, _⟩ := hm
    rw [hm] at hh
    cases hh
theorem OwnX.disk {base : Nat} {v : Value} {l : List (Nat × List UInt8)} (h : OwnX w base v l) (hd : DiskAt w b m D) (hk : Keep [b, m] w w') : OwnX w' base v l := h.keep2 hk fun k e hm => by
  simp only [List.mem_cons, List.not_mem_nil, or_false] at hm
  rcases hm with rfl | rfl
  · exact own_blk_ne h.own hd.blk (by decide) e
  · exact h.ne_map hd.map e
theorem OwnX.store {base : Nat} {v : Value} {l : List (Nat × List UInt8)} (h : OwnX w base v l) (hs : StoreAt w s b m g C D) (hk : Keep [s, b, m, g] w w') : OwnX w' base v l := h.keep2 hk fun k e hm => by
  simp only [List.mem_cons, List.not_mem_nil, or_false] at hm
  rcases hm with rfl | rfl | rfl | rfl
  · exact own_blk_ne h.own hs.blk (by decide) e
  · exact own_blk_ne h.own hs.disk.blk (by decide) e
  · exact h.ne_map hs.disk.map e
  · exact h.ne_mapN hs.map e
def IsRel (X : List (Nat × List UInt8)) (C : Ck) (D : Dk) (w1 : World) (s b m g : Nat) (x : Value) (wr : World) : Prop :=
  ∃ k : Nat, k ≤ X.length ∧ x = .int .i64 (k : Int) ∧ StoreAt wr s b m g C D ∧ Keep [b, m] w1 wr

set_option maxRecDepth 100000 in
set_option maxHeartbeats 4000000 in
theorem is_calls (h : StoreAt w s b m g C D) (hC : C.Ok) (hD : D.Still) {X : List (Nat × List UInt8)} (hsay : Says D C.map X) (ha : Asc X) {v : Value} {base : Nat} (hv : OwnX w base v X) (hX : X.length ≤ 1000) :
    Calls Tryz.prog 18 #[.pointer (some ⟨s, 0, none⟩), v] w fun e w' => e = .returned (.int .i64 0) ∧ StoreAt w' s b m g C D ∧ Keep [b, m] w w' := by
  have hids := hsay.ids hC.map ha
  have hcast : rising (C.map.map (·.1)) = X.map fun p => (p.1 : Int) := by
    have h := Ck.ids_cast hC.map
    rw [hids, List.map_map] at h
    exact h
  have hlen : C.map.length = X.length := by
    have h2 := C.ids_len
    rw [hids, List.length_map] at h2
    exact h2.symm
  have TI := ids_calls h hC (by omega)
  rw [hcast] at TI
  have TG : ∀ (W : World) (i : Nat) (d : List UInt8), lookX i X = some d → StoreAt W s b m g C D → Calls Tryz.prog 25 #[.pointer (some ⟨s, 0, none⟩), .int .u64 (i : Int)] W fun e w' => e = .returned (.tuple #[.string (bs d), .int .i64 0]) ∧ StoreAt w' s b m g C D ∧ Keep [b, m] W w' := fun W i d hi hW => by
    have h := sget_calls hW hC hD.good i
    rw [hsay.get hD hi, Ck.got_still hD] at h
    exact h
  have TH : ∀ (W : World) (i : Nat) (d : List UInt8), lookX i X = some d → StoreAt W s b m g C D → Calls Tryz.prog 49 #[.pointer (some ⟨s, 0, none⟩), .int .u64 (i : Int)] W fun e w' => e = .returned (.bool true) ∧ Keep [] W w' := fun W i d hi hW => by
    have h := has_calls hW hC (i : Int)
    have h2 : (lookC (i : Int) C.map).isSome = true := by
      cases hl : lookC (i : Int) C.map with
      | none => rw [hsay.none_ i hl] at hi; cases hi
      | some _ => rfl
    rw [h2] at h
    exact h
  have H := Lib.hid h
  have HV := Lib.hid hv
  have HA := Lib.hid ha
  have HTI := Lib.hid TI
  have HTG := Lib.hid TG
  have HTH := Lib.hid TH
  obtain ⟨A, c, rfl⟩ := hv.slice
  clear h hsay hv hids hcast hlen TI TG TH ha
  go_enter Tryz.func18, Tryz.ntmps18
  go_wp2_with (go_at_call 22; refine HTI.out.mono ?_; rintro e w1 ⟨vi, rfl, hvi, hk1⟩; have HVI := Lib.hid hvi; have HK1 := Lib.hid hk1; obtain ⟨Ai, ci, rfl, -⟩ := hvi; clear hk1)
  go_loopw [19] (fun x wr => IsRel X C D w1 s b m g x wr) (fun x _ => X.length - (intOf x).toNat)
  case atStart => exact ⟨0, Nat.zero_le _, rfl, H.out.grow HK1.out, Keep.refl _ _⟩
  case round =>
    obtain ⟨k, hk, rfl, hSr, hKr⟩ := hrel
    have HSR := Lib.hid hSr
    have HKR := Lib.hid hKr
    by_cases hlt : k < X.length
    · have d1 : decide ((k : Int) < (X.length : Int)) = true := by simp; omega
      have hlook := look_ofX HA.out (List.getElem_mem hlt)
      obtain ⟨A', c', hv', hcc⟩ := ((HV.out.keep2 HK1.out (by simp)).disk (H.out.grow HK1.out).disk hKr).at_
      injection hv' with hA hz1' hz2'
      clear hz1' hz2'
      subst hA
      obtain ⟨gx, o, rfl, hcc2⟩ := hcc (by intro h0; rw [h0] at hlt; simp at hlt)
      obtain ⟨cx0, cx1⟩ := hcc2 k hlt
      obtain ⟨A', c', hv', hcc⟩ := HVI.out.others (othersU_disk (H.out.grow HK1.out).disk hKr)
      injection hv' with hA hz1' hz2'
      clear hz1' hz2'
      subst hA
      obtain ⟨gi, rfl, hcc3⟩ := hcc (by intro h0; rw [List.map_eq_nil_iff] at h0; rw [h0] at hlt; simp at hlt)
      have HCI : Hid (∀ W, Keep [b, m] wr W → W.cell? ⟨gi, k, none⟩ = some (.int .u64 (X[k].1 : Int))) := fun W hW => by
        have hc := hcc3 k (by rw [List.length_map]; exact hlt)
        rw [List.getElem_map] at hc
        have h0 := hcc3 0 (by rw [List.length_map]; omega)
        exact (World.cell?_of_block (othersU_disk HSR.out.disk hW gi _ h0)).trans hc
      clear hcc hcc2 hcc3 hSr hKr
      generalize X[k] = pr at *
      obtain ⟨i, d⟩ := pr
      simp only at cx0 cx1 hlook HCI
      go_upto_region 7 with fail
      have HB1 : Hid (Blk (wr.alloc (.cells #[.int .u64 (i : Int), .string (bs d)] 32)) wr.heap.size 32 #[.int .u64 (i : Int), .string (bs d)]) := Blk.new _ _ _
      have HS1 := Lib.hid (HSR.out.grow ((Keep.refl [] wr).alloc (.cells #[.int .u64 (i : Int), .string (bs d)] 32)))
      have HK1' : Hid (Keep [b, m] w1 (wr.alloc (.cells #[.int .u64 (i : Int), .string (bs d)] 32))) := HKR.out.alloc _
      have HCI1 : Hid (∀ W, Keep [b, m] (wr.alloc (.cells #[.int .u64 (i : Int), .string (bs d)] 32)) W → W.cell? ⟨gi, k, none⟩ = some (.int .u64 (i : Int))) := fun W hW => HCI.out W (((Keep.refl [b, m] wr).alloc _).trans hW)
      have y0 : (wr.alloc (.cells #[.int .u64 (i : Int), .string (bs d)] 32)).cell? ⟨wr.heap.size, 0, none⟩ = some (.int .u64 (i : Int)) := HB1.out.cell 0
      have hpb : wr.heap.size ≠ b ∧ wr.heap.size ≠ m := by have := HSR.out.disk.blk.lt; have := HSR.out.disk.map.lt; omega
      have HPB := Lib.hid hpb
      clear hpb cx0 cx1
      generalize wr.alloc (.cells #[.int .u64 (i : Int), .string (bs d)] 32) = W1 at *
      go_upto_region 8 with (go_at_call 25; refine (HTG.out _ i d hlook HS1.out).mono ?_; rintro e w5 ⟨rfl, hS5, hk5⟩; have HS5 := Lib.hid hS5; have HK5 := Lib.hid hk5; clear hS5 hk5)
      have HC8 : Hid (∀ W, Keep [] w5 W → W.cell? ⟨gi, k, none⟩ = some (.int .u64 (i : Int)) ∧ W.cell? ⟨wr.heap.size, 0, none⟩ = some (.int .u64 (i : Int)) ∧ W.cell? ⟨wr.heap.size, 1, none⟩ = some (.string (bs d))) := fun W hW => by
        have hb := (HB1.out.keep HK5.out (by simp; exact HPB.out)).keep hW (by simp)
        exact ⟨HCI1.out W (HK5.out.trans hW.nil_), hb.cell 0, hb.cell 1⟩
      clear y0
      go_region_held3 (fun w' => w'.cell? ⟨gi, k, none⟩ = some (.int .u64 (i : Int)) ∧ w'.cell? ⟨wr.heap.size, 0, none⟩ = some (.int .u64 (i : Int)) ∧ w'.cell? ⟨wr.heap.size, 1, none⟩ = some (.string (bs d)))
        (first
          | (exact (HC8.out _ (by repeat (first | exact Keep.refl _ _ | exact HK6.out | refine Keep.drew ?_ | refine Keep.drewN ?_ _ | refine Keep.alloc ?_ _))))
          | fail)
        (first
          | (go_at_call 49; refine (HTH.out _ i d hlook (HS5.out.grow (by repeat (first | exact Keep.refl _ _ | exact HK6.out | refine Keep.drew ?_ | refine Keep.drewN ?_ _ | refine Keep.alloc ?_ _)))).mono ?_; rintro e w6 ⟨rfl, hk6⟩; have HK6 : Hid (Keep [] w5 w6) := Keep.trans' (M := []) (by repeat (first | exact Keep.refl _ _ | exact HK6.out | refine Keep.drew ?_ | refine Keep.drewN ?_ _ | refine Keep.alloc ?_ _)) hk6 (by simp); clear hk6)
          | fail)
      all_goals
        go_wp2
        go_roundw
        case rel => exact ⟨k + 1, by omega, by go_num, HS5.out.grow HK6.out, (HK1'.out.trans HK5.out).trans HK6.out.nil_⟩
        case measure => simp [intOf]; omega
    · obtain rfl : k = X.length := by omega
      have d1 : decide ((X.length : Int) < (X.length : Int)) = false := by simp
      clear hSr hKr
      go_wp2
      go_ret
      exact ⟨rfl, HSR.out, HK1.out.nil_.trans HKR.out⟩

end Go.Proofs.YtkplffkchanipaaGreatDoor
