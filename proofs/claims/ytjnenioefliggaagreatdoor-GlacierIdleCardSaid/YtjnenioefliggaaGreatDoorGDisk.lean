/- The contract of command.Disk at any numbers: the library's sort, its Compact. -/
import Derived.Test.YtjnenioefliggaaGreatDoorGoodA
import Derived.Test.YtjnenioefliggaaGreatDoorEncI
import Derived.Test.YtjnenioefliggaaGreatDoorShelfS
import Derived.Lib.Hide
namespace Go.Proofs.YtjnenioefliggaaGreatDoor
open Go.RowKit Go.Sort Go.Lib

section
variable {α : Type} [Inhabited α] {enc : α → Value} {w w' : World} {g o m : Nat} {d dk : Array α} {t : TypeId} {cs : Array Value} {os : Array Obj}
theorem heap_putRow (w : World) (blk off : Nat) (d : Array α) (k : Nat) (hk : k ≠ blk) : (putRow enc w blk off d).heap[k]? = w.heap[k]? := by
  unfold putRow mapBlock
  simp only [Array.getElem?_modify]
  rw [if_neg (Ne.symm hk)]
theorem size_putRow (w : World) (blk off : Nat) (d : Array α) : (putRow enc w blk off d).heap.size = w.heap.size := by simp [putRow, mapBlock]
theorem prow_keep (w : World) (m g o : Nat) (dk : Array α) (os : Array Obj) : Keep [g] w (grow (putRow enc (Sort.ahead w m) g o dk) os) := by
  refine ⟨rfl, rfl, rfl, ?_, fun k hk hm => ?_⟩
  · rw [size_grow, size_putRow]
    exact Nat.le_add_right _ _
  · rw [heap_grow_old _ _ (by rw [size_putRow]; exact hk), heap_putRow _ _ _ _ _ (by simpa using hm)]
    rfl
theorem prow_blk (h : Blk w g t cs) (m o : Nat) (dk : Array α) (os : Array Obj) : Blk (grow (putRow enc (Sort.ahead w m) g o dk) os) g t (putCells enc o dk cs) := by
  have hlt := h.lt
  unfold Blk at h ⊢
  rw [heap_grow_old _ _ (by rw [size_putRow]; exact hlt)]
  unfold putRow mapBlock
  simp only [Array.getElem?_modify, if_true]
  have h2 : (Sort.ahead w m).heap[g]? = some (.cells cs t (0, 0)) := h
  rw [h2]
  rfl
theorem putCells_at (d : Array α) (c : Array Value) (k : Nat) (hk : k < d.size) (hc : k < c.size) : (putCells enc 0 d c)[k]? = some (enc d[k]!) := by
  simp only [putCells, Array.getElem?_mapIdx, Array.getElem?_eq_getElem hc, Option.map_some]
  rw [if_pos ⟨by omega, by omega⟩, show k - 0 = k by omega]
end
/-- A slice from a block's start that says these numbers; the block is none of the first B. -/
def ISl (B : Nat) (w : World) (v : Value) (rs : List Int) : Prop :=
  (rs = [] ∧ v = .slice none 0 0) ∨ ∃ g cap cs, v = .slice (some ⟨g, 0, none⟩) rs.length cap ∧ Blk w g 3 cs ∧ B ≤ g ∧ rs.length ≤ cap ∧ rs.length ≤ cs.size ∧ ∀ j (h : j < rs.length), cs[j]? = some (.int .i64 rs[j])
theorem ISl.of_own {w : World} {B : Nat} {v : Value} {rs : List Int} (h : w.ownsRow B 3 1 v rs.length (rs.map (Value.int .i64))) : ISl B w v rs := by
  rcases h.2 with ⟨rfl, h2⟩ | ⟨g, cap, cur, rfl, h1, h3, h4, h5, h6, h7⟩
  · exact .inl ⟨List.length_eq_zero_iff.1 h2, rfl⟩
  · refine .inr ⟨g, cap, cur, rfl, h3, h1, h4, by omega, fun j hj => ?_⟩
    have h8 : (cur.toList.take (rs.length * 1))[j]? = (rs.map (Value.int .i64))[j]? := by rw [h7]
    rw [List.getElem?_take_of_lt (by omega)] at h8
    rw [← Array.getElem?_toList, h8]
    simp [hj]
theorem ISl.at_ {w : World} {B : Nat} {v : Value} {rs : List Int} (h : ISl B w v rs) : ∃ A cap, v = .slice A rs.length cap ∧ ∀ k (hk : k < rs.length), ∃ g o, A = some ⟨g, o, none⟩ ∧ w.cell? ⟨g, o + k, none⟩ = some (.int .i64 rs[k]) ∧ g < w.heap.size := by
  rcases h with ⟨rfl, rfl⟩ | ⟨g, cap, cs, rfl, hb, -, -, -, hc⟩
  · exact ⟨none, 0, rfl, fun k hk => by simp at hk⟩
  · exact ⟨_, cap, rfl, fun k hk => ⟨g, 0, rfl, by rw [hb.cell, Nat.zero_add]; exact hc k hk, hb.lt⟩⟩
theorem ISl.holds {w : World} {g : Nat} {cs : Array Value} {rs : List Int} (hb : Blk w g 3 cs) (hc : ∀ j (h : j < rs.length), cs[j]? = some (.int .i64 rs[j])) : Holds (Value.int .i64) w g 0 rs.toArray := fun j hj => by
  have hj' : j < rs.length := by simpa using hj
  refine ⟨?_, hb.frozen _⟩
  rw [hb.cell, Nat.zero_add, hc j hj', getElem!_pos _ j hj]
  simp
theorem ISl.row {w : World} {g B cap : Nat} {cs : Array Value} {rs zs : List Int} {m : Nat} {os : Array Obj} {d : Array Int} (hb : Blk w g 3 cs) (hB : B ≤ g) (h1 : rs.length ≤ cap) (h2 : rs.length ≤ cs.size) (_hd : d.size ≤ cs.size) (hz : zs.length ≤ d.size) (hzr : zs.length ≤ rs.length) (hj : ∀ j (h : j < zs.length), d[j]! = zs[j]) :
    ISl B (grow (putRow (Value.int .i64) (Sort.ahead w m) g 0 d) os) (.slice (some ⟨g, 0, none⟩) zs.length cap) zs := by
  refine .inr ⟨g, cap, _, rfl, prow_blk hb m 0 d os, hB, by omega, ?_, fun j h => ?_⟩
  · simp only [putCells, Array.size_mapIdx]; omega
  · rw [putCells_at d cs j (by omega) (by omega), hj j h]
theorem isort_calls {w : World} {B : Nat} {v : Value} {rs : List Int} (h : ISl B w v rs) (hlen : rs.length ≤ 17592186043904) : Calls Tryz.prog 28 #[v] w fun e w' => e = .returned (.tuple #[]) ∧ ISl B w' v (rs.mergeSort fun x y => decide (x ≤ y)) ∧ Keep v.ownBlock.toList w w' := by
  rcases h with ⟨rfl, rfl⟩ | ⟨g, cap, cs, rfl, hb, hB, h1, h2, hc⟩
  · refine (Tryz.slices_Sort_int_none none 0 w).mono ?_
    rintro e w' ⟨rfl, rfl⟩
    exact ⟨rfl, .inl ⟨by simp, rfl⟩, Keep.refl _ _⟩
  · refine (Tryz.slices_Sort_int g 0 cap rs w (ISl.holds hb hc) hb.lt (by omega)).mono ?_
    rintro e w' ⟨rfl, m, os, rfl⟩
    have hp := (List.mergeSort_perm rs fun x y => decide (x ≤ y)).length_eq
    generalize (rs.mergeSort fun x y => decide (x ≤ y)) = z at *
    refine ⟨rfl, ?_, prow_keep w m g 0 _ os⟩
    rw [← hp]
    exact ISl.row hb hB (rs := rs) h1 h2 (by simp; omega) (by simp) (by omega) fun j h => by rw [getElem!_pos _ j (by simpa using h)]; simp
theorem compact_len {zs : List Int} : (Lib.compact zs).length ≤ zs.length := by
  unfold Lib.compact Lib.compactUpTo
  rw [List.length_map]
  exact Nat.le_trans (List.length_filter_le _ _) (by simp)
theorem icompact_calls {w : World} {B : Nat} {v : Value} {rs : List Int} (h : ISl B w v rs) (hlen : rs.length ≤ 17592186043904) : Calls Tryz.prog 29 #[v] w fun e w' => ∃ v', e = .returned v' ∧ ISl B w' v' (Lib.compact rs) ∧ Keep v.ownBlock.toList w w' := by
  rcases h with ⟨rfl, rfl⟩ | ⟨g, cap, cs, rfl, hb, hB, h1, h2, hc⟩
  · refine (Tryz.slices_Compact_int_empty none 0 w).mono ?_
    rintro e w' ⟨rfl, rfl⟩
    exact ⟨_, rfl, .inl ⟨rfl, rfl⟩, Keep.refl _ _⟩
  · refine (Tryz.slices_Compact_int g 0 cap rs w (ISl.holds hb hc) (by omega) h1).mono ?_
    rintro e w' ⟨rfl, m, rfl⟩
    have hp := compact_len (zs := rs)
    generalize Lib.compact rs = z at *
    rw [← grow_empty (putRow _ _ _ _ _)]
    refine ⟨_, rfl, ISl.row hb hB (rs := rs) h1 h2 (by simp; omega) (by simp) hp fun j h => ?_, prow_keep w m g 0 _ #[]⟩
    rw [getElem!_pos _ j (by simp; omega)]
    simp [List.getElem_append_left h]
theorem infoI : (Tryz.prog.info? 3).map (fun i => (i.zero, i.size, i.bytes)) = some (some (.int .i64 0), 1, 8) := by kernel_rfl
theorem own_keep {w w' : World} {B : Nat} {v : Value} {n : Nat} {xs : List Value} {W : World} (hk : Keep [] W w) (hB : W.heap.size ≤ B) (ho : w.ownsRow B 3 1 v n xs) (h : Keep v.ownBlock.toList w w') : Keep [] W w' := by
  refine ⟨h.os.trans hk.os, h.tape.trans hk.tape, h.output.trans hk.output, Nat.le_trans hk.size h.size, fun k hlt _ => ?_⟩
  rw [h.block k (Nat.lt_of_lt_of_le hlt hk.size) (fun hm => by
    have := (ho.lt k (by simpa using hm)).1
    omega), hk.block k hlt (by simp)]
theorem isl_keep {w w' : World} {B : Nat} {v : Value} {rs : List Int} {W : World} (hk : Keep [] W w) (hB : W.heap.size ≤ B) (ho : ISl B w v rs) (h : Keep v.ownBlock.toList w w') : Keep [] W w' := by
  refine ⟨h.os.trans hk.os, h.tape.trans hk.tape, h.output.trans hk.output, Nat.le_trans hk.size h.size, fun k hlt _ => ?_⟩
  rw [h.block k (Nat.lt_of_lt_of_le hlt hk.size) (fun hm => by
    rcases ho with ⟨-, rfl⟩ | ⟨g, cap, cs, rfl, -, h1, -⟩
    · simp [Value.ownBlock] at hm
    · simp [Value.ownBlock] at hm
      omega), hk.block k hlt (by simp)]
/-- What Disk says of numbers. -/
def diskF (ds : List Int) : List Int := Lib.compact ((ds.filter fun d => decide (0 ≤ d) && decide (d ≤ 5)).mergeSort fun x y => decide (x ≤ y))
set_option maxRecDepth 100000 in
set_option maxHeartbeats 2000000 in
theorem disk_calls (ds : List Int) (hn : ds.length ≤ 17592186043904) (A : Option Addr) (cap : Nat) (w : World) (hcell : ∀ k (hk : k < ds.length), ∃ g o, A = some ⟨g, o, none⟩ ∧ w.cell? ⟨g, o + k, none⟩ = some (.int .i64 ds[k]) ∧ g < w.heap.size) :
    Calls Tryz.prog 10 #[.slice A ds.length cap] w fun e w' => ∃ v, e = .returned v ∧ ISl w.heap.size w' v (diskF ds) ∧ Keep [] w w' := by
  have HCL := Lib.hid hcell
  obtain ⟨i0, hi, hz0, hz1, hz2⟩ := info_parts infoI
  clear hcell
  go_enter Tryz.func10, Tryz.ntmps10
  go_wp2_with fail
  go_loopw [3, 8] (fun vr vi wr => ∃ (k : Nat) (rs : List Int), k ≤ ds.length ∧ vi = .int .i64 (k : Int) ∧ rs = (ds.take k).filter (fun d => decide (0 ≤ d) && decide (d ≤ 5)) ∧ wr.ownsRow w.heap.size 3 1 vr rs.length (rs.map (Value.int .i64)) ∧ Keep [] w wr) (fun _ vi _ => ds.length - (intOf vi).toNat)
  case atStart => exact ⟨0, [], Nat.zero_le _, rfl, rfl, World.ownsRow_nil _ _ _ _, Keep.refl _ _⟩
  case round =>
    obtain ⟨k, rs, hk, rfl, hrs, hown, hkeep⟩ := hrel
    have hrk : rs.length ≤ k := by rw [hrs]; exact Nat.le_trans (List.length_filter_le _ _) (by simp; omega)
    have HRS := Lib.hid hrs
    clear hrs
    have HO := Lib.hid hown
    have HK := Lib.hid hkeep
    clear hown hkeep
    by_cases hlt : k < ds.length
    · have hli : (k : Int) < (ds.length : Int) := by omega
      obtain ⟨g, o, rfl, hcw, hgl⟩ := HCL.out k hlt
      have hcw2 : wr.cell? ⟨g, o + k, none⟩ = some (.int .i64 ds[k]) := by rw [HK.out.cell (p := ⟨g, o + k, none⟩) hgl (by simp)]; exact hcw
      have hw2 : IntKind.i64.wrap ((k : Int) + 1) = (k : Int) + 1 := IntWalk.i64_in _ (by omega)
      have HTK : Hid ((ds.take (k + 1)).filter (fun d => decide (0 ≤ d) && decide (d ≤ 5)) = (ds.take k).filter (fun d => decide (0 ≤ d) && decide (d ≤ 5)) ++ [ds[k]].filter (fun d => decide (0 ≤ d) && decide (d ≤ 5))) := Lib.hid (by rw [List.take_succ_eq_append_getElem hlt, List.filter_append])
      generalize ds[k] = d at *
      by_cases hd5 : 0 ≤ d ∧ d ≤ 5
      · go_wp2_with (first
          | (go_at_call 27; refine (upTo_yes _ _ (by omega) (by omega) _).mono ?_; rintro e w1 ⟨rfl, rfl⟩)
          | (at_builtin; refine wpList_append_own _ rfl _ _ 39 rfl w.heap.size 3 i0 (.int .i64 0) 1 8 Tryz.underlying39 hi hz0 hz1 hz2 rfl (by decide) _ _ _ rfl (HO.out.alloc _) ⟨_, 0, none⟩ 1 1 [.int .i64 d] rfl rfl (cell_one_new _ _ _) ?c2 ?c3 ?c4 ?c5 ?_))
        case c2 => simp [Value.oneCell']
        case c3 => unfold maxLen; omega
        case c4 => omega
        case c5 => have := HK.out.size; simp; omega
        intro v' w3 hown3 hgrow _
        have HO3 : Hid (w3.ownsRow w.heap.size 3 1 v' (rs ++ [d]).length ((rs ++ [d]).map (Value.int .i64))) := Lib.hid (by simpa using hown3)
        have HK3 : Hid (Keep [] w w3) := Lib.hid ((HK.out.alloc _).grown hgrow (fun g hg => .inr (HO.out.lt g hg).1))
        clear hown3 hgrow
        go_wp2
        go_roundw
        case rel => exact ⟨k + 1, rs ++ [d], hlt, by go_num, by rw [HTK.out, HRS.out]; simp [hd5.1, hd5.2], HO3.out, HK3.out⟩
        case measure => simp [intOf]; omega
      · go_wp2_with (go_at_call 27; refine (upTo_no _ _ (by omega) _).mono ?_; rintro e w1 ⟨rfl, rfl⟩)
        go_roundw
        case rel => exact ⟨k + 1, rs, hlt, by go_num, by rw [HTK.out, HRS.out]; simp; omega, HO.out, HK.out⟩
        case measure => simp [intOf]; omega
    · have hli : ¬ (k : Int) < (ds.length : Int) := by omega
      have HS := Lib.hid (ISl.of_own HO.out)
      go_wp2_with (first
        | (go_at_call 28; refine (isort_calls HS.out (by omega)).mono ?_; rintro e w2 ⟨rfl, hs, hk2⟩; have HS2 := Lib.hid hs; have HK2 := Lib.hid hk2; clear hs hk2)
        | (go_at_call 29; refine (icompact_calls HS2.out (by rw [List.length_mergeSort]; omega)).mono ?_; rintro e w3 ⟨v3, rfl, hs3, hk3⟩; have HS3 := Lib.hid hs3; have HK3 := Lib.hid hk3; clear hs3 hk3))
      go_ret
      have hkl : k = ds.length := by omega
      have hrs := HRS.out
      rw [hkl, List.take_of_length_le (Nat.le_refl _)] at hrs
      subst hrs
      exact ⟨_, rfl, HS3.out, isl_keep (isl_keep HK.out (Nat.le_refl _) HS.out HK2.out) (Nat.le_refl _) HS2.out HK3.out⟩
end Go.Proofs.YtjnenioefliggaaGreatDoor
