/- A slice of ints that came in, as the walks want it. -/
import Derived.Test.YtnlcipocobmgiaaGreatDoorArrsAt
import Derived.Test.YtnlcipocobmgiaaGreatDoorDoor
import Derived.Test.YtnlcipocobmgiaaGreatDoorWacts
import Derived.Deep.Slices
import Derived.ChangeSame
namespace Go.Proofs.YtnlcipocobmgiaaGreatDoor
open Go.ChangeShapes Go.WideShapes Go.ChangeAt Go.RowKit
set_option maxRecDepth 100000

theorem ints_at_ {H : Type} {enc : TypeId × Value → H} {W : World} {v : Value} {d : DataW H} {p : List MemPlace} {base : Nat} (hv : Value.okWide Tryz.prog W .any base 22 v)
    (h : DataW.Trod enc Tryz.prog W 0 (fun _ => true) true 22 v d p) : ∃ l : List Int, IntsAt W v l ∧ ∀ x ∈ l, -9223372036854775808 ≤ x ∧ x ≤ 9223372036854775807 := by
  obtain ⟨a0, len, cap, rfl⟩ := okWide_slice Tryz.underlying22 hv
  obtain ⟨fuel, hf⟩ := h
  have c1 : Tryz.prog.cellsOf 3 = 1 := by kernel_rfl
  rcases open_ints Tryz.underlying22 Tryz.underlying3 c1 hf with ⟨hcs, hx⟩ | ⟨a, len', cap', ss, hcs, _, hl, hm, hz, hx, hcell, hws⟩
  · simp [Value.cells] at hcs
    obtain ⟨rfl, rfl, rfl⟩ := hcs
    exact ⟨[], ⟨none, 0, rfl, fun h => absurd rfl h⟩, by simp⟩
  · simp [Value.cells] at hcs
    obtain ⟨rfl, rfl, rfl⟩ := hcs
    simp only [if_true] at hz
    have hlen : (ss.take len).length = len := by rw [List.length_take]; omega
    refine ⟨ss.take len, ⟨some a, cap, by rw [hlen], fun hne => ?_⟩, fun x hx => bounds_i64 (hws x (List.mem_of_mem_take hx))⟩
    have hpos : 0 < len := by rw [← hlen]; exact List.length_pos_iff.2 hne
    obtain ⟨b, off, spot⟩ := a
    have hspot : spot = none := by simpa [Addr.add] using World.cell?_spot (hcell 0 (by omega))
    subst hspot
    refine ⟨b, off, rfl, fun j hj => ?_⟩
    rw [hlen] at hj
    have h1 := hcell j (by omega)
    rw [Go.WideShapes.add_plain] at h1
    rw [h1]
    simp [List.getD, show j < ss.length by omega]

end Go.Proofs.YtnlcipocobmgiaaGreatDoor
/- A slice of glacierlaw11's acts that came in, as the walk wants it. -/
namespace Go.Proofs.YtnlcipocobmgiaaGreatDoor
open Go.ChangeShapes Go.WideShapes Go.ChangeAt Go.RowKit
set_option maxRecDepth 100000

theorem wact_cells {H : Type} {enc : TypeId × Value → H} {W : World} {b off : Nat} {n i : Nat} {cs : List Value} {x : DataW H × List MemPlace}
    (h1 : W.cells? 0 ((⟨b, off, none⟩ : Addr).add (i * 5)) 5 = some cs) (h2 : DataW.trod enc Tryz.prog W 0 (fun _ => true) true n 70 cs = some x) :
    ∃ a, WActAt W b (off + i * 5) a := by
  obtain ⟨_, hlen, hcell⟩ := World.cells?_some h1
  obtain ⟨xs, k, hk, hxy, _, hxl, hf⟩ := DataW.trod_struct Tryz.underlying70 h2
  have ci : Tryz.prog.cellsOf 3 = 1 := by kernel_rfl
  have cs_ : Tryz.prog.cellsOf 9 = 1 := by kernel_rfl
  have cm : Tryz.prog.cellsOf 22 = 1 := by kernel_rfl
  match xs, hxl, cs, hlen with
  | [y0, y1, y2, y3, y4], _, [v0, v1, v2, v3, v4], _ =>
    have g0 := hf 0 _ rfl
    have g1 := hf 1 _ rfl
    simp [ci] at g0 g1
    have e0 := hcell 0 (by omega)
    have e1 := hcell 1 (by omega)
    simp only [Go.WideShapes.add_plain, List.getElem?_cons_zero, List.getElem?_cons_succ, Nat.add_zero] at e0 e1
    obtain ⟨z0, q0, _, _⟩ := DataW.trod_int Tryz.underlying3 g0
    obtain ⟨z1, q1, _, w1⟩ := DataW.trod_int Tryz.underlying3 g1
    simp at q0 q1
    subst q0 q1
    exact ⟨⟨z0, z1⟩, e0, e1, bounds_i64 w1⟩

theorem wacts_at {H : Type} {enc : TypeId × Value → H} {W : World} {v : Value} {d : DataW H} {p : List MemPlace} {base : Nat} (hv : Value.okWide Tryz.prog W .any base 64 v)
    (h : DataW.Trod enc Tryz.prog W 0 (fun _ => true) true 64 v d p) : ∃ l : List Wa, WActsAt W v l := by
  obtain ⟨a0, len, cap, rfl⟩ := okWide_slice Tryz.underlying64 hv
  obtain ⟨fuel, hf⟩ := h
  have c5 : Tryz.prog.cellsOf 70 = 5 := by kernel_rfl
  rcases Go.Deep.open_slice Tryz.underlying64 hf with ⟨hcs, hx⟩ | ⟨a, len', cap', m, n, D, Pl, hcs, _, hl, hm, hmm, hx, each⟩
  · simp [Value.cells] at hcs
    obtain ⟨rfl, rfl, rfl⟩ := hcs
    exact ⟨[], none, 0, rfl, fun h => absurd rfl h⟩
  · simp [Value.cells] at hcs
    obtain ⟨rfl, rfl, rfl⟩ := hcs
    simp only [if_true] at hmm
    rw [c5] at each
    obtain ⟨b, off, spot⟩ := a
    by_cases hz : len = 0
    · subst hz
      exact ⟨[], _, _, rfl, fun h => absurd rfl h⟩
    have hspot : spot = none := by
      obtain ⟨cs', h1, _⟩ := each 0 (by omega)
      obtain ⟨_, hlen, hcell⟩ := World.cells?_some h1
      have h0 := hcell 0 (by omega)
      have : ∃ u, cs'[0]? = some u := ⟨cs'[0]'(by omega), by simp⟩
      obtain ⟨u, hu⟩ := this
      rw [hu] at h0
      simpa [Addr.add] using World.cell?_spot h0
    subst hspot
    have hex : ∀ i, i < len → ∃ q : Wa, WActAt W b (off + i * 5) q := fun i hi => by
      obtain ⟨cs', h1, h2⟩ := each i (by omega)
      exact wact_cells h1 h2
    obtain ⟨f, hf⟩ : ∃ f : Nat → Wa, ∀ i, i < len → WActAt W b (off + i * 5) (f i) :=
      ⟨fun i => if h : i < len then Classical.choose (hex i h) else ⟨0, 0⟩, fun i hi => by simp only [hi, dif_pos]; exact Classical.choose_spec (hex i hi)⟩
    refine ⟨(List.range len).map f, some ⟨b, off, none⟩, cap, by simp, fun _ => ⟨b, off, rfl, fun j hj => ?_⟩⟩
    simp only [List.length_map, List.length_range] at hj
    rw [List.getElem_map, List.getElem_range]
    exact hf j hj

end Go.Proofs.YtnlcipocobmgiaaGreatDoor
