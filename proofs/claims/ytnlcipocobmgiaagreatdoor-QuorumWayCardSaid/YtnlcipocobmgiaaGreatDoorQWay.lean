/- The contract of (*quorum.Net).Way, of messages without entries. -/
import Derived.Test.YtnlcipocobmgiaaGreatDoorQNetD
import Derived.Deep.MidRow
namespace Go.Proofs.YtnlcipocobmgiaaGreatDoor
open Go.RowKit
attribute [local go_sem] size_bs bs_append bs_extract

section
variable {w0 : Bs} {w w' : World} {q : Nat} {P : List Pq} {way : List Mg}
theorem setA_lo : ∀ (vs : List Value) (cs : Array Value) (o k : Nat), k < o → (setA cs o vs)[k]? = cs[k]?
  | [], _, _, _, _ => rfl
  | v :: r, cs, o, k, h => by
    rw [setA, setA_lo r _ _ _ (by omega), Array.getElem?_setIfInBounds_ne (by omega)]
theorem setA_at (vs : List Value) (cs : Array Value) (o m : Nat) (h : o + vs.length ≤ cs.size) (hm : m < vs.length) : (setA cs o vs)[o + m]? = vs[m]? := by
  rw [← Array.getElem?_toList, setA_list vs cs o h, List.append_assoc, List.getElem?_append_right (by rw [List.length_take, Array.length_toList]; omega)]
  have e1 : o + m - (cs.toList.take o).length = m := by rw [List.length_take, Array.length_toList]; omega
  rw [e1, List.getElem?_append_left hm]
/-- Messages that are copied. -/
def WayOk (cs : Array Value) (way : List Mg) (j : Nat) : Prop := ∀ (i : Nat) (y : Mg), i < j → way[i]? = some y → ∃ A c, ∀ m u, m < 10 → (y.cells (.slice A 0 c))[m]? = some u → cs[i * 10 + m]? = some u
theorem WayOk.more {cs : Array Value} {j : Nat} {y : Mg} (h : WayOk cs way j) (hy : way[j]? = some y) (hs : (j + 1) * 10 ≤ cs.size) (A : Option Addr) (c : Nat) : WayOk (setA cs (j * 10) (y.cells (.slice A 0 c))) way (j + 1) := by
  intro i z hi hz
  have hl : (y.cells (.slice A 0 c)).length = 10 := rfl
  by_cases hij : i = j
  · subst hij
    rw [hy] at hz
    obtain rfl := Option.some.inj hz
    refine ⟨A, c, fun m u hm hu => ?_⟩
    rw [setA_at _ _ _ _ (by omega) (by omega)]
    exact hu
  · obtain ⟨A2, c2, h2⟩ := h i z (by omega) hz
    refine ⟨A2, c2, fun m u hm hu => ?_⟩
    rw [setA_lo _ _ _ _ (by omega)]
    exact h2 m u hm hu
theorem msg_slots {n j : Nat} {cs : Array Value} {g : Nat} (hB : Blk w g 56 cs) (hs : cs.size = n * 10) (hj : j < n) : ∀ m, m < 10 → ∃ u, w.cell? ⟨g, j * 10 + m, none⟩ = some u := fun m hm => by
  rw [hB.cell, Array.getElem?_eq_getElem (by omega)]
  exact ⟨_, rfl⟩
set_option maxRecDepth 100000 in
set_option maxHeartbeats 4000000 in
theorem qway_calls (h : NetIn w0 w q P way) (he : ∀ y ∈ way, y.ents = []) (hl : way.length ≤ 200) :
    Calls Tryz.prog 31 #[.pointer (some ⟨q, 0, none⟩)] w fun e w' => e = .returned (.slice (some ⟨w.heap.size, 0, none⟩) way.length way.length) ∧ (∃ cs, Blk w' w.heap.size 56 cs ∧ WayOk cs way way.length) ∧ Keep [] w w' := by
  obtain ⟨⟨Q, L, hA, rfl, -, rfl, -⟩, -⟩ := h
  have HMS : Hid (∀ j, j < Q.ms.length → ∃ y, (Q.ms.map Prod.fst)[j]? = some y ∧ y.ents = []) := fun j hj => by
    have h1 : j < (Q.ms.map Prod.fst).length := by rw [List.length_map]; exact hj
    exact ⟨_, List.getElem?_eq_getElem h1, he _ (List.getElem_mem h1)⟩
  obtain ⟨Aw, cw, hws⟩ := own_slice hA.wy
  have z2 : w.cell? ⟨Q.q, 2, none⟩ = some (.slice Aw Q.ms.length cw) := hws ▸ hA.qb.cell 2
  have HWS := Lib.hid hws
  have hql := hA.qb.lt
  obtain ⟨i0, hi, hz0, hz1, hz2⟩ := info_parts Tryz.info56
  rw [List.length_map] at hl ⊢
  obtain ⟨n, hn⟩ : ∃ n, n = Q.ms.length := ⟨_, rfl⟩
  rw [← hn] at z2 hl ⊢
  have HN := Lib.hid hn
  have HA := Lib.hid hA
  have hmk := fun (W : World) => run_make (P := Tryz.prog) W 59 56 i0 _ Tryz.underlying59 hi hz0 .i64 .i64 n n (by omega) (by omega) (by rw [hz2]; omega) (by omega)
  rw [hz1] at hmk
  simp only [Int.toNat_natCast] at hmk
  have HI : Hid (Blk (w.alloc (.cells (madeCells (.agg mgZ.toArray : Value).cells (n * 10)) 56)) w.heap.size 56 (madeCells (.agg mgZ.toArray : Value).cells (n * 10))) := Blk.new _ _ _
  clear hA hws hn he hi hz0 hz1 hz2
  go_enter Tryz.func31, Tryz.ntmps31
  go_wp2_with fail
  go_loopw [4, 5, 17] (fun _ _ vi wr => ∃ (j : Nat) (cs : Array Value), j ≤ n ∧ vi = .int .i64 (j : Int) ∧ cs.size = n * 10 ∧ Blk wr w.heap.size 56 cs ∧ WayOk cs (Q.ms.map Prod.fst) j ∧ Keep [] w wr) (fun _ _ vi _ => n - (intOf vi).toNat)
  case atStart => exact ⟨0, _, Nat.zero_le _, rfl, size_madeCells _ _, Blk.new _ _ _, (fun i y h => absurd h (Nat.not_lt_zero _)), (Keep.refl [] w).alloc _⟩
  case round =>
    obtain ⟨j, cs, hj, rfl, hsz, hB, hW, hk⟩ := hrel
    by_cases hlt : j < n
    · have dj : decide ((j : Int) < (n : Int)) = true := decide_eq_true (by omega)
      have hjn : (j : Int) < (n : Int) := by omega
      have wj : IntKind.i64.wrap ((j : Int) + 1) = (j : Int) + 1 := IntWalk.i64_in _ (by omega)
      obtain ⟨y, hy, hye⟩ := HMS.out j (HN.out ▸ hlt)
      obtain ⟨hkl, A, ec, g, c, hpe, hg, hgl, hc, -⟩ := (HA.out.grow hk).msg j y hy
      rw [HWS.out] at hg
      injection hg with hg1 _ hg3
      subst hg1 hg3
      have hel : y.ents.length = 0 := by rw [hye]; rfl
      rw [hel] at hc
      have HTH : Hid (∀ w5, Keep [] wr w5 → w5.there w.heap.size (j * 10) 10) := fun w5 hk5 m hm => by
        obtain ⟨u, hu⟩ := msg_slots (hB.keep hk5 (by simp)) hsz hlt m hm
        exact ⟨by rw [hu]; rfl, (hB.keep hk5 (by simp)).frozen _⟩
      have HO := Lib.hid (fun W => own_calls (w := W) y A ec)
      have HB := Lib.hid hB
      have HW := Lib.hid hW
      have HK := Lib.hid hk
      have HSZ := Lib.hid hsz
      have HY := Lib.hid hy
      have HLT := Lib.hid hlt
      have hbl := hB.lt
      have s0 : wr.cell? ⟨g, j * 10, none⟩ = some (.int .i64 y.kind) := hc 0 _ (by omega) rfl
      have s1 : wr.cell? ⟨g, j * 10 + 1, none⟩ = some (.int .i64 y.frm) := hc 1 _ (by omega) rfl
      have s2 : wr.cell? ⟨g, j * 10 + 2, none⟩ = some (.int .i64 y.to_) := hc 2 _ (by omega) rfl
      have s3 : wr.cell? ⟨g, j * 10 + 3, none⟩ = some (.int .i64 y.term) := hc 3 _ (by omega) rfl
      have s4 : wr.cell? ⟨g, j * 10 + 4, none⟩ = some (.int .i64 y.index) := hc 4 _ (by omega) rfl
      have s5 : wr.cell? ⟨g, j * 10 + 5, none⟩ = some (.int .i64 y.logTerm) := hc 5 _ (by omega) rfl
      have s6 : wr.cell? ⟨g, j * 10 + 6, none⟩ = some (.int .i64 y.commit) := hc 6 _ (by omega) rfl
      have s7 : wr.cell? ⟨g, j * 10 + 7, none⟩ = some (.bool y.ok) := hc 7 _ (by omega) rfl
      have s8 : wr.cell? ⟨g, j * 10 + 8, none⟩ = some (.slice A 0 ec) := hc 8 _ (by omega) rfl
      have s9 : wr.cell? ⟨g, j * 10 + 9, none⟩ = some (.string (bs y.snap)) := hc 9 _ (by omega) rfl
      have HS9 : Hid (∀ {A' c'}, (setA cs (j * 10) (y.cells (.slice A' 0 c'))).size = n * 10) := fun {A' c'} => by rw [setA_size]; exact hsz
      have HW9 : Hid (∀ A' c', WayOk (setA cs (j * 10) (y.cells (.slice A' 0 c'))) (Q.ms.map Prod.fst) (j + 1)) := fun A' c' => hW.more hy (by omega) A' c'
      have HF9 : Hid (∀ w5 A' c', Keep [] wr w5 → Blk (w5.setCells w.heap.size (j * 10) (Array.toList #[.int .i64 y.kind, .int .i64 y.frm, .int .i64 y.to_, .int .i64 y.term, .int .i64 y.index, .int .i64 y.logTerm, .int .i64 y.commit, .bool y.ok, .slice A' 0 c', .string (bs y.snap)])) w.heap.size 56 (setA cs (j * 10) (y.cells (.slice A' 0 c'))) ∧ Keep [] w (w5.setCells w.heap.size (j * 10) (Array.toList #[.int .i64 y.kind, .int .i64 y.frm, .int .i64 y.to_, .int .i64 y.term, .int .i64 y.index, .int .i64 y.logTerm, .int .i64 y.commit, .bool y.ok, .slice A' 0 c', .string (bs y.snap)]))) := fun w5 A' c' hk5 => by
        have e : Array.toList #[.int .i64 y.kind, .int .i64 y.frm, .int .i64 y.to_, .int .i64 y.term, .int .i64 y.index, .int .i64 y.logTerm, .int .i64 y.commit, .bool y.ok, .slice A' 0 c', .string (bs y.snap)] = y.cells (.slice A' 0 c') := rfl
        rw [e]
        exact ⟨Blk.setCells (y.cells (.slice A' 0 c')) (j * 10) (hB.keep hk5 (by simp)), Keep.setCells (.inr (Nat.le_refl _)) (y.cells (.slice A' 0 c')) (j * 10) (hk.trans hk5)⟩
      clear hB hW hk hsz hy hye hkl hpe hc hel hlt hj
      go_wp2_with (first | (go_at_call 66; refine (HO.out _).mono ?_; rintro e w5 ⟨A', c', rfl, -, h2⟩; have hk5 : Keep [] wr w5 := Keep.trans (M := []) (by repeat (first | exact Keep.refl _ _ | refine Keep.drew ?_ | refine Keep.drewN ?_ _ | refine Keep.alloc ?_ _)) h2; have HK5 := Lib.hid hk5; have hB5 := HB.out.keep hk5 (by simp); have fr : ∀ i, w5.frozen? ⟨w.heap.size, i, none⟩ = false := fun i => hB5.frozen i; obtain ⟨v0, t0⟩ := msg_slots hB5 HSZ.out HLT.out 0 (by omega); obtain ⟨v1, t1⟩ := msg_slots hB5 HSZ.out HLT.out 1 (by omega); obtain ⟨v2, t2⟩ := msg_slots hB5 HSZ.out HLT.out 2 (by omega); obtain ⟨v3, t3⟩ := msg_slots hB5 HSZ.out HLT.out 3 (by omega); obtain ⟨v4, t4⟩ := msg_slots hB5 HSZ.out HLT.out 4 (by omega); obtain ⟨v5, t5⟩ := msg_slots hB5 HSZ.out HLT.out 5 (by omega); obtain ⟨v6, t6⟩ := msg_slots hB5 HSZ.out HLT.out 6 (by omega); obtain ⟨v7, t7⟩ := msg_slots hB5 HSZ.out HLT.out 7 (by omega); obtain ⟨v8, t8⟩ := msg_slots hB5 HSZ.out HLT.out 8 (by omega); obtain ⟨v9, t9⟩ := msg_slots hB5 HSZ.out HLT.out 9 (by omega); have t0' : w5.cell? ⟨w.heap.size, j * 10, none⟩ = some v0 := t0; clear t0 hB5; clear h2 hk5) | fail)
      go_roundw
      case rel => exact ⟨j + 1, setA cs (j * 10) (y.cells (.slice A' 0 c')), HLT.out, by go_num, HS9.out, (HF9.out w5 A' c' HK5.out).1, HW9.out A' c', (HF9.out w5 A' c' HK5.out).2⟩
      case measure => have hlt := HLT.out; simp [intOf]; omega
    · have dj : decide ((j : Int) < (n : Int)) = false := decide_eq_false (by omega)
      have HB := Lib.hid hB
      have HW := Lib.hid hW
      have HK := Lib.hid hk
      have HJ := Lib.hid (Nat.le_antisymm (Nat.not_lt.1 hlt) hj)
      clear hB hW hk hsz hj
      go_wp2_with fail
      go_ret
      refine ⟨rfl, ⟨cs, HB.out, ?_⟩, HK.out⟩
      rw [HJ.out]
      exact HW.out
end

end Go.Proofs.YtnlcipocobmgiaaGreatDoor
