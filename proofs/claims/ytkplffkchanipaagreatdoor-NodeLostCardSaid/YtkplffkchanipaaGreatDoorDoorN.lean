/- A slice of chunks that came in, as the walks want it. -/
import Derived.Test.YtkplffkchanipaaGreatDoorChRef
import Derived.Test.YtkplffkchanipaaGreatDoorDoor
import Derived.Deep.Slices
import Derived.ChangeSame
import Derived.Test.YtkplffkchanipaaGreatDoorIntsAt
import Derived.Test.YtkplffkchanipaaGreatDoorNacts
namespace Go.Proofs.YtkplffkchanipaaGreatDoor
open Go.ChangeShapes Go.WideShapes Go.ChangeAt Go.RowKit
set_option maxRecDepth 100000

theorem bounds_u64 {k : Int} (h : (Lit.int .u64 k).wf = true) : 0 ≤ k ∧ k < 18446744073709551616 := by
  have h1 : IntKind.u64.min = 0 := by decide +kernel
  have h2 : IntKind.u64.max = 18446744073709551615 := by decide +kernel
  simp only [Lit.wf, h1, h2, Bool.and_eq_true, decide_eq_true_eq] at h
  omega
theorem ch_cells {H : Type} {enc : TypeId × Value → H} {W : World} {b off : Nat} {n i : Nat} {cs : List Value} {x : DataW H × List MemPlace}
    (h1 : W.cells? 0 ((⟨b, off, none⟩ : Addr).add (i * 2)) 2 = some cs) (h2 : DataW.trod enc Tryz.prog W 0 (fun _ => true) true n 32 cs = some x) :
    ∃ p : Nat × List UInt8, W.cell? ⟨b, off + i * 2, none⟩ = some (.int .u64 (p.1 : Int)) ∧ W.cell? ⟨b, off + i * 2 + 1, none⟩ = some (.string (bs p.2)) ∧ p.1 < 18446744073709551616 := by
  obtain ⟨_, hlen, hcell⟩ := World.cells?_some h1
  obtain ⟨xs, k, hk, hxy, _, hxl, hf⟩ := DataW.trod_struct Tryz.underlying32 h2
  have ci : Tryz.prog.cellsOf 30 = 1 := by kernel_rfl
  have cs_ : Tryz.prog.cellsOf 9 = 1 := by kernel_rfl
  match xs, hxl, cs, hlen with
  | [y0, y1], _, [v0, v1], _ =>
    have g0 := hf 0 _ rfl
    have g1 := hf 1 _ rfl
    simp [ci, cs_] at g0 g1
    have e0 := hcell 0 (by omega)
    have e1 := hcell 1 (by omega)
    simp only [Go.WideShapes.add_plain, List.getElem?_cons_zero, List.getElem?_cons_succ, Nat.add_zero] at e0 e1
    obtain ⟨z0, q0, _, wz⟩ := DataW.trod_int Tryz.underlying30 g0
    obtain ⟨z1, q1, _, _⟩ := DataW.trod_string Tryz.underlying9 g1
    simp at q0 q1
    subst q0 q1
    have hb := bounds_u64 wz
    refine ⟨⟨z0.toNat, lst z1⟩, ?_, by rw [bs_lst]; exact e1, by simp only; omega⟩
    simp only
    rw [show ((z0.toNat : Nat) : Int) = z0 by omega]
    exact e0
theorem chs_at {H : Type} {enc : TypeId × Value → H} {W : World} {v : Value} {d : DataW H} {p : List MemPlace} {base : Nat} (hv : Value.okWide Tryz.prog W .any base 22 v)
    (h : DataW.Trod enc Tryz.prog W 0 (fun _ => true) true 22 v d p) : ∃ l : List (Nat × List UInt8), ChsAt W v l ∧ ∀ q ∈ l, q.1 < 18446744073709551616 := by
  obtain ⟨a0, len, cap, rfl⟩ := okWide_slice Tryz.underlying22 hv
  obtain ⟨fuel, hf⟩ := h
  have c2 : Tryz.prog.cellsOf 32 = 2 := by kernel_rfl
  rcases Go.Deep.open_slice Tryz.underlying22 hf with ⟨hcs, hx⟩ | ⟨a, len', cap', m, n, D, Pl, hcs, _, hl, hm, hmm, hx, each⟩
  · simp [Value.cells] at hcs
    obtain ⟨rfl, rfl, rfl⟩ := hcs
    exact ⟨[], ⟨none, 0, rfl, fun h => absurd rfl h⟩, by simp⟩
  · simp [Value.cells] at hcs
    obtain ⟨rfl, rfl, rfl⟩ := hcs
    simp only [if_true] at hmm
    rw [c2] at each
    obtain ⟨b, off, spot⟩ := a
    by_cases hz : len = 0
    · subst hz
      exact ⟨[], ⟨_, _, rfl, fun h => absurd rfl h⟩, by simp⟩
    have hspot : spot = none := by
      obtain ⟨cs', h1, _⟩ := each 0 (by omega)
      obtain ⟨_, hlen, hcell⟩ := World.cells?_some h1
      have h0 := hcell 0 (by omega)
      have : ∃ u, cs'[0]? = some u := ⟨cs'[0]'(by omega), by simp⟩
      obtain ⟨u, hu⟩ := this
      rw [hu] at h0
      simpa [Addr.add] using World.cell?_spot h0
    subst hspot
    have hex : ∀ i, i < len → ∃ q : Nat × List UInt8, W.cell? ⟨b, off + i * 2, none⟩ = some (.int .u64 (q.1 : Int)) ∧ W.cell? ⟨b, off + i * 2 + 1, none⟩ = some (.string (bs q.2)) ∧ q.1 < 18446744073709551616 := fun i hi => by
      obtain ⟨cs', h1, h2⟩ := each i (by omega)
      exact ch_cells h1 h2
    obtain ⟨f, hf⟩ : ∃ f : Nat → Nat × List UInt8, ∀ i, i < len → W.cell? ⟨b, off + i * 2, none⟩ = some (.int .u64 ((f i).1 : Int)) ∧ W.cell? ⟨b, off + i * 2 + 1, none⟩ = some (.string (bs (f i).2)) ∧ (f i).1 < 18446744073709551616 :=
      ⟨fun i => if h : i < len then Classical.choose (hex i h) else (0, []), fun i hi => by simp only [hi, dif_pos]; exact Classical.choose_spec (hex i hi)⟩
    refine ⟨(List.range len).map f, ⟨some ⟨b, off, none⟩, cap, by simp, fun _ => ⟨b, off, rfl, fun j hj => ?_⟩⟩, fun q hq => ?_⟩
    · simp only [List.length_map, List.length_range] at hj
      rw [List.getElem_map, List.getElem_range]
      exact ⟨(hf j hj).1, (hf j hj).2.1⟩
    · obtain ⟨i, hi, rfl⟩ := List.mem_map.1 hq
      exact (hf i (List.mem_range.1 hi)).2.2

end Go.Proofs.YtkplffkchanipaaGreatDoor
/- A slice of ints that came in, as the walks want it. -/
namespace Go.Proofs.YtkplffkchanipaaGreatDoor
open Go.ChangeShapes Go.WideShapes Go.ChangeAt Go.RowKit
set_option maxRecDepth 100000

theorem ints_at_ {H : Type} {enc : TypeId × Value → H} {W : World} {v : Value} {d : DataW H} {p : List MemPlace} {base : Nat} (hv : Value.okWide Tryz.prog W .any base 62 v)
    (h : DataW.Trod enc Tryz.prog W 0 (fun _ => true) true 62 v d p) : ∃ l : List Int, IntsAt W v l ∧ ∀ x ∈ l, -9223372036854775808 ≤ x ∧ x ≤ 9223372036854775807 := by
  obtain ⟨a0, len, cap, rfl⟩ := okWide_slice Tryz.underlying62 hv
  obtain ⟨fuel, hf⟩ := h
  have c1 : Tryz.prog.cellsOf 3 = 1 := by kernel_rfl
  rcases open_ints Tryz.underlying62 Tryz.underlying3 c1 hf with ⟨hcs, hx⟩ | ⟨a, len', cap', ss, hcs, _, hl, hm, hz, hx, hcell, hws⟩
  · simp [Value.cells] at hcs
    obtain ⟨rfl, rfl, rfl⟩ := hcs
    exact ⟨[], ⟨none, 0, rfl, fun h => absurd rfl h⟩, by simp⟩
  · simp [Value.cells] at hcs
    obtain ⟨rfl, rfl, rfl⟩ := hcs
    simp only [if_true] at hz
    have hlen : (ss.take len).length = len := by rw [List.length_take]; omega
    refine ⟨ss.take len, ⟨some a, cap, by rw [hlen], fun hne => ?_⟩, fun x hx => bounds_i64 (hws x (List.mem_of_mem_take hx))⟩
    have hpos : 0 < len := by rw [← hlen]; exact List.length_pos_iff.2 hne
    obtain ⟨b, off, spot⟩ := a
    have hspot : spot = none := by simpa [Addr.add] using World.cell?_spot (hcell 0 (by omega))
    subst hspot
    refine ⟨b, off, rfl, fun j hj => ?_⟩
    rw [hlen] at hj
    have h1 := hcell j (by omega)
    rw [Go.WideShapes.add_plain] at h1
    rw [h1]
    simp [List.getD, show j < ss.length by omega]

end Go.Proofs.YtkplffkchanipaaGreatDoor
/- A slice of a node law's acts that came in, as the walk wants it. -/
namespace Go.Proofs.YtkplffkchanipaaGreatDoor
open Go.ChangeShapes Go.WideShapes Go.ChangeAt Go.RowKit
set_option maxRecDepth 100000

theorem ints_cell {H : Type} {enc : TypeId × Value → H} {W : World} {v : Value} {fuel : Nat} {x : DataW H × List MemPlace}
    (hf : DataW.trod enc Tryz.prog W 0 (fun _ => true) true fuel 62 [v] = some x) : ∃ l : List Int, IntsAt W v l ∧ ∀ x ∈ l, -9223372036854775808 ≤ x ∧ x ≤ 9223372036854775807 := by
  have c1 : Tryz.prog.cellsOf 3 = 1 := by kernel_rfl
  rcases open_ints Tryz.underlying62 Tryz.underlying3 c1 hf with ⟨hcs, hx⟩ | ⟨a, len, cap, ss, hcs, _, hl, hm, hz, hx, hcell, hws⟩
  · simp at hcs
    subst hcs
    exact ⟨[], ⟨none, 0, rfl, fun h => absurd rfl h⟩, by simp⟩
  · simp at hcs
    subst hcs
    simp only [if_true] at hz
    have hlen : (ss.take len).length = len := by rw [List.length_take]; omega
    refine ⟨ss.take len, ⟨some a, cap, by rw [hlen], fun hne => ?_⟩, fun x hx => bounds_i64 (hws x (List.mem_of_mem_take hx))⟩
    have hpos : 0 < len := by rw [← hlen]; exact List.length_pos_iff.2 hne
    obtain ⟨b, off, spot⟩ := a
    have hspot : spot = none := by simpa [Addr.add] using World.cell?_spot (hcell 0 (by omega))
    subst hspot
    refine ⟨b, off, rfl, fun j hj => ?_⟩
    rw [hlen] at hj
    have h1 := hcell j (by omega)
    rw [Go.WideShapes.add_plain] at h1
    rw [h1]
    simp [List.getD, show j < ss.length by omega]

theorem nact_cells {H : Type} {enc : TypeId × Value → H} {W : World} {b off : Nat} {n i : Nat} {cs : List Value} {x : DataW H × List MemPlace}
    (h1 : W.cells? 0 ((⟨b, off, none⟩ : Addr).add (i * 5)) 5 = some cs) (h2 : DataW.trod enc Tryz.prog W 0 (fun _ => true) true n 75 cs = some x) :
    ∃ a vc, NActAt W b (off + i * 5) a vc := by
  obtain ⟨_, hlen, hcell⟩ := World.cells?_some h1
  obtain ⟨xs, k, hk, hxy, _, hxl, hf⟩ := DataW.trod_struct Tryz.underlying75 h2
  have ci : Tryz.prog.cellsOf 3 = 1 := by kernel_rfl
  have cs_ : Tryz.prog.cellsOf 9 = 1 := by kernel_rfl
  have cl : Tryz.prog.cellsOf 30 = 1 := by kernel_rfl
  have cm : Tryz.prog.cellsOf 62 = 1 := by kernel_rfl
  match xs, hxl, cs, hlen with
  | [y0, y1, y2, y3, y4], _, [v0, v1, v2, v3, v4], _ =>
    have g0 := hf 0 _ rfl
    have g1 := hf 1 _ rfl
    have g2 := hf 2 _ rfl
    have g3 := hf 3 _ rfl
    have g4 := hf 4 _ rfl
    simp [ci, cs_, cl, cm] at g0 g1 g2 g3 g4
    have e0 := hcell 0 (by omega)
    have e1 := hcell 1 (by omega)
    have e2 := hcell 2 (by omega)
    have e3 := hcell 3 (by omega)
    have e4 := hcell 4 (by omega)
    simp only [Go.WideShapes.add_plain, List.getElem?_cons_zero, List.getElem?_cons_succ, Nat.add_zero] at e0 e1 e2 e3 e4
    obtain ⟨z0, q0, _, _⟩ := DataW.trod_int Tryz.underlying3 g0
    obtain ⟨z1, q1, _, w1⟩ := DataW.trod_int Tryz.underlying3 g1
    obtain ⟨z2, q2, _, w2⟩ := DataW.trod_int Tryz.underlying30 g2
    obtain ⟨z3, q3, _, w3⟩ := DataW.trod_string Tryz.underlying9 g3
    simp at q0 q1 q2 q3
    subst q0 q1 q2 q3
    have hb := bounds_u64 w2
    obtain ⟨l4, hl4, hb4⟩ := ints_cell g4
    exact ⟨⟨z0, z1, z2.toNat, lst z3, l4⟩, v4, e0, e1, by rw [show ((z2.toNat : Nat) : Int) = z2 by omega]; exact e2, by rw [bs_lst]; exact e3, e4, hl4, hb4, (show z2.toNat < 18446744073709551616 by omega), (show (lst z3).length ≤ 9223372036854775807 by rw [← size_bs, bs_lst]; exact w3), bounds_i64 w1⟩

theorem nacts_at {H : Type} {enc : TypeId × Value → H} {W : World} {v : Value} {d : DataW H} {p : List MemPlace} {base : Nat} (hv : Value.okWide Tryz.prog W .any base 73 v)
    (h : DataW.Trod enc Tryz.prog W 0 (fun _ => true) true 73 v d p) : ∃ l : List Na, NActsAt W v l := by
  obtain ⟨a0, len, cap, rfl⟩ := okWide_slice Tryz.underlying73 hv
  obtain ⟨fuel, hf⟩ := h
  have c5 : Tryz.prog.cellsOf 75 = 5 := by kernel_rfl
  rcases Go.Deep.open_slice Tryz.underlying73 hf with ⟨hcs, hx⟩ | ⟨a, len', cap', m, n, D, Pl, hcs, _, hl, hm, hmm, hx, each⟩
  · simp [Value.cells] at hcs
    obtain ⟨rfl, rfl, rfl⟩ := hcs
    exact ⟨[], none, 0, rfl, fun h => absurd rfl h⟩
  · simp [Value.cells] at hcs
    obtain ⟨rfl, rfl, rfl⟩ := hcs
    simp only [if_true] at hmm
    rw [c5] at each
    obtain ⟨b, off, spot⟩ := a
    by_cases hz : len = 0
    · subst hz
      exact ⟨[], _, _, rfl, fun h => absurd rfl h⟩
    have hspot : spot = none := by
      obtain ⟨cs', h1, _⟩ := each 0 (by omega)
      obtain ⟨_, hlen, hcell⟩ := World.cells?_some h1
      have h0 := hcell 0 (by omega)
      have : ∃ u, cs'[0]? = some u := ⟨cs'[0]'(by omega), by simp⟩
      obtain ⟨u, hu⟩ := this
      rw [hu] at h0
      simpa [Addr.add] using World.cell?_spot h0
    subst hspot
    have hex : ∀ i, i < len → ∃ q : Na × Value, NActAt W b (off + i * 5) q.1 q.2 := fun i hi => by
      obtain ⟨cs', h1, h2⟩ := each i (by omega)
      obtain ⟨a, vc, h⟩ := nact_cells h1 h2
      exact ⟨(a, vc), h⟩
    obtain ⟨f, hf⟩ : ∃ f : Nat → Na × Value, ∀ i, i < len → NActAt W b (off + i * 5) (f i).1 (f i).2 :=
      ⟨fun i => if h : i < len then Classical.choose (hex i h) else (⟨0, 0, 0, [], []⟩, .slice none 0 0), fun i hi => by simp only [hi, dif_pos]; exact Classical.choose_spec (hex i hi)⟩
    refine ⟨(List.range len).map fun i => (f i).1, some ⟨b, off, none⟩, cap, by simp, fun _ => ⟨b, off, rfl, fun j hj => ⟨(f j).2, ?_⟩⟩⟩
    simp only [List.length_map, List.length_range] at hj
    rw [List.getElem_map, List.getElem_range]
    exact hf j hj

end Go.Proofs.YtkplffkchanipaaGreatDoor
