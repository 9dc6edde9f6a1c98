/- The contracts of term.Load, (*State).Last. -/
import Derived.Test.YtnlcipocobmgiaaGreatDoorTermLogs
import Derived.Test.YtnlcipocobmgiaaGreatDoorNew
namespace Go.Proofs.YtnlcipocobmgiaaGreatDoor
open Go.RowKit
attribute [local go_sem] size_bs bs_append bs_extract

/-- What a disk keeps. -/
structure Ts where
  term : Nat
  vote : Nat
  base : Nat
  baseTerm : Nat
  snap : List UInt8
  log : List En
def Ts.zero : Ts := ⟨0, 0, 0, 0, [], []⟩
def Ts.agg (s : Ts) (lg : Value) : Value := .agg #[.int .i64 (s.term : Int), .int .i64 (s.vote : Int), .int .i64 (s.base : Int), .int .i64 (s.baseTerm : Int), .string (bs s.snap), lg]
def Dk.load (D : Dk) : Dk × Ts × Int :=
  if D.loadTerm.2.2 ≠ 0 then (D.tries.1, Ts.zero, D.loadTerm.2.2)
  else if D.tries.1.loadSnap.2.2.2 ≠ 0 then (D.tries.1.tries.1, Ts.zero, D.tries.1.loadSnap.2.2.2)
  else if (D.tries.1.tries.1.loadLog D.tries.1.loadSnap.1).2.2 ≠ 0 then ((D.tries.1.tries.1.loadLog D.tries.1.loadSnap.1).1, Ts.zero, (D.tries.1.tries.1.loadLog D.tries.1.loadSnap.1).2.2)
  else ((D.tries.1.tries.1.loadLog D.tries.1.loadSnap.1).1, ⟨D.loadTerm.1, D.loadTerm.2.1, D.tries.1.loadSnap.1, D.tries.1.loadSnap.2.1, D.tries.1.loadSnap.2.2.1, (D.tries.1.tries.1.loadLog D.tries.1.loadSnap.1).2.1⟩, 0)

def LoadPost (D : Dk) (w : World) (b m : Nat) (e : Ending) (w' : World) : Prop :=
  ∃ lg, e = .returned (.tuple #[D.load.2.1.agg lg, .int .i64 D.load.2.2]) ∧ w'.ownsRow w.heap.size 62 3 lg D.load.2.1.log.length (entsV D.load.2.1.log) ∧ DiskAt w' b m D.load.1 ∧ Keep [b, m] w w'

theorem loadSnap_base (D : Dk) : D.loadSnap.1 ≤ 1099511627776 := by
  unfold Dk.loadSnap
  split
  · simp
  · split
    · simp
    · exact (Ds.i_at (d := ⟨_, 0, 0⟩) (Nat.zero_le _) 1099511627776).2.2

/-- Load on its way: its result's block, its state's block. -/
structure LdMid (w W : World) (b m : Nat) (D : Dk) (cs : Array Value) : Prop where
  res : Blk W w.heap.size 46 #[.int .i64 0, .int .i64 0, .int .i64 0, .int .i64 0, .string (bs []), .slice none 0 0]
  st : Blk W (w.heap.size + 1) 46 cs
  disk : DiskAt W b m D
  keep : Keep [b, m] w W
  tab : Tab W
/-- .. and behind its last call, where the state's block isn't told. -/
structure LdEnd (w W : World) (b m : Nat) (D : Dk) : Prop where
  res : Blk W w.heap.size 46 #[.int .i64 0, .int .i64 0, .int .i64 0, .int .i64 0, .string (bs []), .slice none 0 0]
  disk : DiskAt W b m D
  keep : Keep [b, m] w W
theorem LdMid.step3 {w W W' : World} {b m : Nat} {D D' : Dk} {cs : Array Value} (h : LdMid w W b m D cs) (hb : b < w.heap.size) (hm : m < w.heap.size) (hk : Keep [b, m, w.heap.size + 1] W W') (hD : DiskAt W' b m D') : LdEnd w W' b m D' :=
  ⟨h.res.keep hk (by simp; omega), hD, h.keep.trans' hk (by simp)⟩
theorem LdMid.step {w W W' : World} {b m : Nat} {D D' : Dk} {cs cs' : Array Value} (h : LdMid w W b m D cs) (hb : b < w.heap.size) (hm : m < w.heap.size) (hk : Keep [b, m, w.heap.size + 1] W W') (hB : Blk W' (w.heap.size + 1) 46 cs') (hD : DiskAt W' b m D') (h0 : 0 < w.heap.size := by omega) : LdMid w W' b m D' cs' :=
  ⟨h.res.keep hk (by simp; omega), hB, hD, h.keep.trans' hk (by simp), h.tab.keep hk (by
    simp only [List.mem_cons, List.not_mem_nil, or_false, not_or]
    exact ⟨h.tab.ne_blk h.disk.blk (by simp), h.tab.ne_map h.disk.map, by omega⟩)⟩

theorem own_mono {w : World} {B B' : Nat} {e : TypeId} {size n : Nat} {v : Value} {xs : List Value} (h : w.ownsRow B e size v n xs) (hB : B' ≤ B) : w.ownsRow B' e size v n xs := by
  refine ⟨h.1, ?_⟩
  rcases h.2 with h2 | ⟨g, cap, cur, hv, hg, r⟩
  · exact .inl h2
  · exact .inr ⟨g, cap, cur, hv, Nat.le_trans hB hg, r⟩
theorem six_cells {W : World} {r : Nat} {t : TypeId} {y0 y1 y2 y3 y4 y5 : Value} (h : Blk W r t #[y0, y1, y2, y3, y4, y5]) (x0 x1 x2 x3 x4 x5 : Value) :
    Blk ((((((W.setCell ⟨r, 0, none⟩ x0).setCell ⟨r, 1, none⟩ x1).setCell ⟨r, 2, none⟩ x2).setCell ⟨r, 3, none⟩ x3).setCell ⟨r, 4, none⟩ x4).setCell ⟨r, 5, none⟩ x5) r t #[x0, x1, x2, x3, x4, x5] ∧
      Keep [r] W ((((((W.setCell ⟨r, 0, none⟩ x0).setCell ⟨r, 1, none⟩ x1).setCell ⟨r, 2, none⟩ x2).setCell ⟨r, 3, none⟩ x3).setCell ⟨r, 4, none⟩ x4).setCell ⟨r, 5, none⟩ x5) := by
  refine ⟨(((((h.set_ 0 x0).set_ 1 x1).set_ 2 x2).set_ 3 x3).set_ 4 x4).set_ 5 x5, ?_⟩
  have hi : r ∈ [r] ∨ W.heap.size ≤ r := .inl (by simp)
  exact ((((((Keep.refl [r] W).setCell (p := ⟨r, 0, none⟩) hi x0).setCell (p := ⟨r, 1, none⟩) hi x1).setCell (p := ⟨r, 2, none⟩) hi x2).setCell (p := ⟨r, 3, none⟩) hi x3).setCell (p := ⟨r, 4, none⟩) hi x4).setCell (p := ⟨r, 5, none⟩) hi x5

theorem load_ret {W : World} {r : Nat} {x0 x1 x2 x3 x4 x5 : Value} {e : Int} {t : Array Value} {R : Ending → World → Prop} (h2 : t[2]? = some (.pointer (some ⟨r, 0, none⟩))) (h3 : t[3]? = some (.int .i64 e))
    (hB : Blk W r 46 #[x0, x1, x2, x3, x4, x5]) (hR : R (.returned (.tuple #[.agg #[x0, x1, x2, x3, x4, x5], .int .i64 e])) W) : bodyPost Tryz.prog Tryz.f17 R .ret { tmps := t, defers := [] } W := by
  have k0 : W.cell? ⟨r, 0, none⟩ = some x0 := hB.cell 0
  have k1 : W.cell? ⟨r, 1, none⟩ = some x1 := hB.cell 1
  have k2 : W.cell? ⟨r, 2, none⟩ = some x2 := hB.cell 2
  have k3 : W.cell? ⟨r, 3, none⟩ = some x3 := hB.cell 3
  have k4 : W.cell? ⟨r, 4, none⟩ = some x4 := hB.cell 4
  have k5 : W.cell? ⟨r, 5, none⟩ = some x5 := hB.cell 5
  refine bodyPost_ret (v := .tuple #[.agg #[x0, x1, x2, x3, x4, x5], .int .i64 e]) ?_ rfl hR
  simp [results, Tryz.results17, go_sem, h2, h3, k0, k1, k2, k3, k4, k5]

set_option maxRecDepth 100000 in
set_option maxHeartbeats 2000000 in
theorem load_calls {w : World} {b m : Nat} {D : Dk} (h : DiskAt w b m D) (hg : D.Good) (hT : Tab w) :
    Calls Tryz.prog 17 #[.pointer (some ⟨b, 0, none⟩)] w (LoadPost D w b m) := by
  have hl : D.load = if D.loadTerm.2.2 ≠ 0 then (D.tries.1, Ts.zero, D.loadTerm.2.2)
    else if D.tries.1.loadSnap.2.2.2 ≠ 0 then (D.tries.1.tries.1, Ts.zero, D.tries.1.loadSnap.2.2.2)
    else if (D.tries.1.tries.1.loadLog D.tries.1.loadSnap.1).2.2 ≠ 0 then ((D.tries.1.tries.1.loadLog D.tries.1.loadSnap.1).1, Ts.zero, (D.tries.1.tries.1.loadLog D.tries.1.loadSnap.1).2.2)
    else ((D.tries.1.tries.1.loadLog D.tries.1.loadSnap.1).1, ⟨D.loadTerm.1, D.loadTerm.2.1, D.tries.1.loadSnap.1, D.tries.1.loadSnap.2.1, D.tries.1.loadSnap.2.2.1, (D.tries.1.tries.1.loadLog D.tries.1.loadSnap.1).2.1⟩, 0) := rfl
  have hp : ∀ e w', LoadPost D w b m e w' = ∃ lg, e = .returned (.tuple #[D.load.2.1.agg lg, .int .i64 D.load.2.2]) ∧ w'.ownsRow w.heap.size 62 3 lg D.load.2.1.log.length (entsV D.load.2.1.log) ∧ DiskAt w' b m D.load.1 ∧ Keep [b, m] w w' := fun _ _ => rfl
  have HP := Lib.hid hp
  have hbase := loadSnap_base D.tries.1
  have T1 := fun (W : World) (sb : Nat) (hW : DiskAt W b m D) (hTW : Tab W) (c2 c3 c4 c5 : Value) hS => loadTerm_calls (sb := sb) hW hg hTW c2 c3 c4 c5 hS
  have T2 := fun (W : World) (sb : Nat) (hW : DiskAt W b m D.tries.1) (hTW : Tab W) (c0 c1 c5 : Value) hS => loadSnap_calls (sb := sb) hW hg.tries hTW c0 c1 c5 hS
  have T3 := fun (W : World) (sb : Nat) (hW : DiskAt W b m D.tries.1.tries.1) (hTW : Tab W) (c0 c1 c3 c4 : Value) hS => loadLog_calls (sb := sb) hW hg.tries.tries hTW D.tries.1.loadSnap.1 (by omega) c0 c1 c3 c4 hS
  unfold LogPost at T3
  generalize D.loadTerm = r1 at *
  generalize D.tries.1.loadSnap = r2 at *
  generalize D.tries.1.tries.1.loadLog r2.1 = r3 at *
  generalize D.tries.1.tries.1 = D2 at *
  generalize D.tries.1 = D1 at *
  obtain ⟨t1, v1, e1⟩ := r1
  obtain ⟨b2, bt2, sn2, e2⟩ := r2
  obtain ⟨D3, lg3, e3⟩ := r3
  simp only at T1 T2 T3 hl hbase
  have HT1 := Lib.hid T1
  have HT2 := Lib.hid T2
  have HT3 := Lib.hid T3
  have HL := Lib.hid hl
  have H := Lib.hid h
  have HT := Lib.hid hT
  have hblt := h.blk.lt
  have hmlt := h.map.lt
  clear T1 T2 T3 hl hp h hT
  have hM0 : LdMid w ((w.alloc (.cells #[.int .i64 0, .int .i64 0, .int .i64 0, .int .i64 0, .string (bs []), .slice none 0 0] 46)).alloc (.cells #[.int .i64 0, .int .i64 0, .int .i64 0, .int .i64 0, .string (bs []), .slice none 0 0] 46)) b m D #[.int .i64 0, .int .i64 0, .int .i64 0, .int .i64 0, .string (bs []), .slice none 0 0] :=
    ⟨(Blk.new _ _ _).alloc _, Blk.here _ _ _ _ (by simp), (H.out.alloc _).alloc _, ((Keep.refl _ _).alloc _).alloc _, HT.out.keep (((Keep.refl [] w).alloc _).alloc _) (by simp)⟩
  have HM0 := Lib.hid hM0
  have h00 : 0 < w.heap.size := by have := World.block_lt_of_cell? _ _ (HT.out 0 (by omega)); simpa using this
  clear hM0
  by_cases he1 : e1 = 0
  · subst he1
    by_cases he2 : e2 = 0
    · subst he2
      by_cases he3 : e3 = 0
      · subst he3
        rw [if_neg (by simp), if_neg (by simp), if_neg (by simp)] at HL
        go_enter Tryz.func17, Tryz.ntmps17
        go_wp2_with (first
          | (go_at_call 49; refine (HT1.out _ _ HM0.out.disk HM0.out.tab _ _ _ _ HM0.out.st).mono ?_; rintro e w1 ⟨rfl, hB1, hD1, hk1⟩; have hM := HM0.out.step hblt hmlt hk1 hB1 hD1; have r0 : w1.cell? ⟨w.heap.size, 0, none⟩ = some (.int .i64 0) := hM.res.cell 0; have r1 : w1.cell? ⟨w.heap.size, 1, none⟩ = some (.int .i64 0) := hM.res.cell 1; have r2 : w1.cell? ⟨w.heap.size, 2, none⟩ = some (.int .i64 0) := hM.res.cell 2; have r3 : w1.cell? ⟨w.heap.size, 3, none⟩ = some (.int .i64 0) := hM.res.cell 3; have r4 : w1.cell? ⟨w.heap.size, 4, none⟩ = some (.string (bs [])) := hM.res.cell 4; have r5 : w1.cell? ⟨w.heap.size, 5, none⟩ = some (.slice none 0 0) := hM.res.cell 5; have q0 : ∀ i, w1.frozen? ⟨w.heap.size, i, none⟩ = false := fun i => hM.res.frozen i; have HM1 := Lib.hid hM; clear hM hB1 hD1 hk1)
          | (go_at_call 50; refine (HT2.out _ _ HM1.out.disk HM1.out.tab _ _ _ HM1.out.st).mono ?_; rintro e w2 ⟨rfl, hB2, hD2, hk2⟩; clear r0 r1 r2 r3 r4 r5 q0; have hM := HM1.out.step hblt hmlt hk2 hB2 hD2; have r0 : w2.cell? ⟨w.heap.size, 0, none⟩ = some (.int .i64 0) := hM.res.cell 0; have r1 : w2.cell? ⟨w.heap.size, 1, none⟩ = some (.int .i64 0) := hM.res.cell 1; have r2 : w2.cell? ⟨w.heap.size, 2, none⟩ = some (.int .i64 0) := hM.res.cell 2; have r3 : w2.cell? ⟨w.heap.size, 3, none⟩ = some (.int .i64 0) := hM.res.cell 3; have r4 : w2.cell? ⟨w.heap.size, 4, none⟩ = some (.string (bs [])) := hM.res.cell 4; have r5 : w2.cell? ⟨w.heap.size, 5, none⟩ = some (.slice none 0 0) := hM.res.cell 5; have q0 : ∀ i, w2.frozen? ⟨w.heap.size, i, none⟩ = false := fun i => hM.res.frozen i; have HM2 := Lib.hid hM; clear hM hB2 hD2 hk2)
          | (go_at_call 51; refine (HT3.out _ _ HM2.out.disk HM2.out.tab _ _ _ _ HM2.out.st).mono ?_; rintro e w3 ⟨rfl, hD3, hk3, hlg⟩; clear r0 r1 r2 r3 r4 r5 q0; have hM := HM2.out.step3 hblt hmlt hk3 hD3; have r0 : w3.cell? ⟨w.heap.size, 0, none⟩ = some (.int .i64 0) := hM.res.cell 0; have r1 : w3.cell? ⟨w.heap.size, 1, none⟩ = some (.int .i64 0) := hM.res.cell 1; have r2 : w3.cell? ⟨w.heap.size, 2, none⟩ = some (.int .i64 0) := hM.res.cell 2; have r3 : w3.cell? ⟨w.heap.size, 3, none⟩ = some (.int .i64 0) := hM.res.cell 3; have r4 : w3.cell? ⟨w.heap.size, 4, none⟩ = some (.string (bs [])) := hM.res.cell 4; have r5 : w3.cell? ⟨w.heap.size, 5, none⟩ = some (.slice none 0 0) := hM.res.cell 5; have q0 : ∀ i, w3.frozen? ⟨w.heap.size, i, none⟩ = false := fun i => hM.res.frozen i; obtain ⟨lg, hLA⟩ := hlg (by simp); obtain ⟨A, cc, rfl⟩ := own_slice hLA.own; have s0 : w3.cell? ⟨w.heap.size + 1, 0, none⟩ = some (.int .i64 (t1 : Int)) := hLA.blk.cell 0; have s1 : w3.cell? ⟨w.heap.size + 1, 1, none⟩ = some (.int .i64 (v1 : Int)) := hLA.blk.cell 1; have s2 : w3.cell? ⟨w.heap.size + 1, 2, none⟩ = some (.int .i64 (b2 : Int)) := hLA.blk.cell 2; have s3 : w3.cell? ⟨w.heap.size + 1, 3, none⟩ = some (.int .i64 (bt2 : Int)) := hLA.blk.cell 3; have s4 : w3.cell? ⟨w.heap.size + 1, 4, none⟩ = some (.string (bs sn2)) := hLA.blk.cell 4; have s5 : w3.cell? ⟨w.heap.size + 1, 5, none⟩ = some (.slice A lg3.length cc) := hLA.blk.cell 5; have HLA := Lib.hid hLA; have HSZ : Hid (w.heap.size ≤ w2.heap.size) := HM2.out.keep.size; have HM3 := Lib.hid hM; clear hM hD3 hk3 hlg hLA))
        obtain ⟨hB6, hK6⟩ := six_cells HM3.out.res (.int .i64 (t1 : Int)) (.int .i64 (v1 : Int)) (.int .i64 (b2 : Int)) (.int .i64 (bt2 : Int)) (.string (bs sn2)) (.slice A lg3.length cc)
        have hk7 : Keep [b, m] w _ := HM3.out.keep.trans' hK6 (by simp)
        refine load_ret rfl rfl hB6 ?_
        rw [HP.out, HL.out]
        refine ⟨.slice A lg3.length cc, rfl, own_mono (hK6.owns HLA.out.own (fun k hk => ?_)) HSZ.out, HM3.out.disk.keep hK6 (by simp; omega) (by simp; omega), hk7⟩
        have h1 := (HLA.out.own.lt k hk).1
        have h2 := HM2.out.st.lt
        simp; omega
      · rw [if_neg (by simp), if_neg (by simp), if_pos he3] at HL
        have hb : (e3 != 0) = true := by simpa using he3
        have hb2 : (e3 == 0) = false := by simpa using he3
        go_enter Tryz.func17, Tryz.ntmps17
        go_wp2_with (first
          | (go_at_call 49; refine (HT1.out _ _ HM0.out.disk HM0.out.tab _ _ _ _ HM0.out.st).mono ?_; rintro e w1 ⟨rfl, hB1, hD1, hk1⟩; have hM := HM0.out.step hblt hmlt hk1 hB1 hD1; have r0 : w1.cell? ⟨w.heap.size, 0, none⟩ = some (.int .i64 0) := hM.res.cell 0; have r1 : w1.cell? ⟨w.heap.size, 1, none⟩ = some (.int .i64 0) := hM.res.cell 1; have r2 : w1.cell? ⟨w.heap.size, 2, none⟩ = some (.int .i64 0) := hM.res.cell 2; have r3 : w1.cell? ⟨w.heap.size, 3, none⟩ = some (.int .i64 0) := hM.res.cell 3; have r4 : w1.cell? ⟨w.heap.size, 4, none⟩ = some (.string (bs [])) := hM.res.cell 4; have r5 : w1.cell? ⟨w.heap.size, 5, none⟩ = some (.slice none 0 0) := hM.res.cell 5; have q0 : ∀ i, w1.frozen? ⟨w.heap.size, i, none⟩ = false := fun i => hM.res.frozen i; have HM1 := Lib.hid hM; clear hM hB1 hD1 hk1)
          | (go_at_call 50; refine (HT2.out _ _ HM1.out.disk HM1.out.tab _ _ _ HM1.out.st).mono ?_; rintro e w2 ⟨rfl, hB2, hD2, hk2⟩; clear r0 r1 r2 r3 r4 r5 q0; have hM := HM1.out.step hblt hmlt hk2 hB2 hD2; have r0 : w2.cell? ⟨w.heap.size, 0, none⟩ = some (.int .i64 0) := hM.res.cell 0; have r1 : w2.cell? ⟨w.heap.size, 1, none⟩ = some (.int .i64 0) := hM.res.cell 1; have r2 : w2.cell? ⟨w.heap.size, 2, none⟩ = some (.int .i64 0) := hM.res.cell 2; have r3 : w2.cell? ⟨w.heap.size, 3, none⟩ = some (.int .i64 0) := hM.res.cell 3; have r4 : w2.cell? ⟨w.heap.size, 4, none⟩ = some (.string (bs [])) := hM.res.cell 4; have r5 : w2.cell? ⟨w.heap.size, 5, none⟩ = some (.slice none 0 0) := hM.res.cell 5; have q0 : ∀ i, w2.frozen? ⟨w.heap.size, i, none⟩ = false := fun i => hM.res.frozen i; have HM2 := Lib.hid hM; clear hM hB2 hD2 hk2)
          | (go_at_call 51; refine (HT3.out _ _ HM2.out.disk HM2.out.tab _ _ _ _ HM2.out.st).mono ?_; rintro e w3 ⟨rfl, hD3, hk3, hlg⟩; clear r0 r1 r2 r3 r4 r5 q0; have hM := HM2.out.step3 hblt hmlt hk3 hD3; have r0 : w3.cell? ⟨w.heap.size, 0, none⟩ = some (.int .i64 0) := hM.res.cell 0; have r1 : w3.cell? ⟨w.heap.size, 1, none⟩ = some (.int .i64 0) := hM.res.cell 1; have r2 : w3.cell? ⟨w.heap.size, 2, none⟩ = some (.int .i64 0) := hM.res.cell 2; have r3 : w3.cell? ⟨w.heap.size, 3, none⟩ = some (.int .i64 0) := hM.res.cell 3; have r4 : w3.cell? ⟨w.heap.size, 4, none⟩ = some (.string (bs [])) := hM.res.cell 4; have r5 : w3.cell? ⟨w.heap.size, 5, none⟩ = some (.slice none 0 0) := hM.res.cell 5; have q0 : ∀ i, w3.frozen? ⟨w.heap.size, i, none⟩ = false := fun i => hM.res.frozen i; have HM3 := Lib.hid hM; clear hM hD3 hk3 hlg))
        obtain ⟨hB6, hK6⟩ := six_cells HM3.out.res (.int .i64 0) (.int .i64 0) (.int .i64 0) (.int .i64 0) (.string (bs [])) (.slice none 0 0)
        have hk7 : Keep [b, m] w _ := HM3.out.keep.trans' hK6 (by simp)
        refine load_ret rfl rfl hB6 ?_
        rw [HP.out, HL.out]
        exact ⟨.slice none 0 0, rfl, World.ownsRow_nil _ _ _ _, HM3.out.disk.keep hK6 (by simp; omega) (by simp; omega), hk7⟩
    · rw [if_neg (by simp), if_pos he2] at HL
      have hb : (e2 != 0) = true := by simpa using he2
      have hb2 : (e2 == 0) = false := by simpa using he2
      go_enter Tryz.func17, Tryz.ntmps17
      go_wp2_with (first
        | (go_at_call 49; refine (HT1.out _ _ HM0.out.disk HM0.out.tab _ _ _ _ HM0.out.st).mono ?_; rintro e w1 ⟨rfl, hB1, hD1, hk1⟩; have hM := HM0.out.step hblt hmlt hk1 hB1 hD1; have r0 : w1.cell? ⟨w.heap.size, 0, none⟩ = some (.int .i64 0) := hM.res.cell 0; have r1 : w1.cell? ⟨w.heap.size, 1, none⟩ = some (.int .i64 0) := hM.res.cell 1; have r2 : w1.cell? ⟨w.heap.size, 2, none⟩ = some (.int .i64 0) := hM.res.cell 2; have r3 : w1.cell? ⟨w.heap.size, 3, none⟩ = some (.int .i64 0) := hM.res.cell 3; have r4 : w1.cell? ⟨w.heap.size, 4, none⟩ = some (.string (bs [])) := hM.res.cell 4; have r5 : w1.cell? ⟨w.heap.size, 5, none⟩ = some (.slice none 0 0) := hM.res.cell 5; have q0 : ∀ i, w1.frozen? ⟨w.heap.size, i, none⟩ = false := fun i => hM.res.frozen i; have HM1 := Lib.hid hM; clear hM hB1 hD1 hk1)
        | (go_at_call 50; refine (HT2.out _ _ HM1.out.disk HM1.out.tab _ _ _ HM1.out.st).mono ?_; rintro e w2 ⟨rfl, hB2, hD2, hk2⟩; clear r0 r1 r2 r3 r4 r5 q0; have hM := HM1.out.step hblt hmlt hk2 hB2 hD2; have r0 : w2.cell? ⟨w.heap.size, 0, none⟩ = some (.int .i64 0) := hM.res.cell 0; have r1 : w2.cell? ⟨w.heap.size, 1, none⟩ = some (.int .i64 0) := hM.res.cell 1; have r2 : w2.cell? ⟨w.heap.size, 2, none⟩ = some (.int .i64 0) := hM.res.cell 2; have r3 : w2.cell? ⟨w.heap.size, 3, none⟩ = some (.int .i64 0) := hM.res.cell 3; have r4 : w2.cell? ⟨w.heap.size, 4, none⟩ = some (.string (bs [])) := hM.res.cell 4; have r5 : w2.cell? ⟨w.heap.size, 5, none⟩ = some (.slice none 0 0) := hM.res.cell 5; have q0 : ∀ i, w2.frozen? ⟨w.heap.size, i, none⟩ = false := fun i => hM.res.frozen i; have HM2 := Lib.hid hM; clear hM hB2 hD2 hk2))
      obtain ⟨hB6, hK6⟩ := six_cells HM2.out.res (.int .i64 0) (.int .i64 0) (.int .i64 0) (.int .i64 0) (.string (bs [])) (.slice none 0 0)
      have hk7 : Keep [b, m] w _ := HM2.out.keep.trans' hK6 (by simp)
      refine load_ret rfl rfl hB6 ?_
      rw [HP.out, HL.out]
      exact ⟨.slice none 0 0, rfl, World.ownsRow_nil _ _ _ _, HM2.out.disk.keep hK6 (by simp; omega) (by simp; omega), hk7⟩
  · rw [if_pos he1] at HL
    have hb : (e1 != 0) = true := by simpa using he1
    have hb2 : (e1 == 0) = false := by simpa using he1
    go_enter Tryz.func17, Tryz.ntmps17
    go_wp2_with (first
      | (go_at_call 49; refine (HT1.out _ _ HM0.out.disk HM0.out.tab _ _ _ _ HM0.out.st).mono ?_; rintro e w1 ⟨rfl, hB1, hD1, hk1⟩; have hM := HM0.out.step hblt hmlt hk1 hB1 hD1; have r0 : w1.cell? ⟨w.heap.size, 0, none⟩ = some (.int .i64 0) := hM.res.cell 0; have r1 : w1.cell? ⟨w.heap.size, 1, none⟩ = some (.int .i64 0) := hM.res.cell 1; have r2 : w1.cell? ⟨w.heap.size, 2, none⟩ = some (.int .i64 0) := hM.res.cell 2; have r3 : w1.cell? ⟨w.heap.size, 3, none⟩ = some (.int .i64 0) := hM.res.cell 3; have r4 : w1.cell? ⟨w.heap.size, 4, none⟩ = some (.string (bs [])) := hM.res.cell 4; have r5 : w1.cell? ⟨w.heap.size, 5, none⟩ = some (.slice none 0 0) := hM.res.cell 5; have q0 : ∀ i, w1.frozen? ⟨w.heap.size, i, none⟩ = false := fun i => hM.res.frozen i; have HM1 := Lib.hid hM; clear hM hB1 hD1 hk1))
    obtain ⟨hB6, hK6⟩ := six_cells HM1.out.res (.int .i64 0) (.int .i64 0) (.int .i64 0) (.int .i64 0) (.string (bs [])) (.slice none 0 0)
    have hk7 : Keep [b, m] w _ := HM1.out.keep.trans' hK6 (by simp)
    refine load_ret rfl rfl hB6 ?_
    rw [HP.out, HL.out]
    exact ⟨.slice none 0 0, rfl, World.ownsRow_nil _ _ _ _, HM1.out.disk.keep hK6 (by simp; omega) (by simp; omega), hk7⟩

end Go.Proofs.YtnlcipocobmgiaaGreatDoor
