/- A slice of strings that came in, as the walks want it. -/
import Derived.Test.YtpcbhechfbibbaaDoorArrsAt
import Derived.Test.YtpcbhechfbibbaaDoorDoor
import Derived.Test.YtpcbhechfbibbaaDoorPlaysMids
import Derived.Deep.Slices
import Derived.ChangeSame
namespace Go.Proofs.YtpcbhechfbibbaaDoor
open Go.ChangeShapes Go.WideShapes Go.ChangeAt Go.RowKit
set_option maxRecDepth 100000

theorem strs_at {H : Type} {enc : TypeId × Value → H} {W : World} {v : Value} {d : DataW H} {p : List MemPlace} {base : Nat} (hv : Value.okWide Tryd.prog W .any base 22 v)
    (h : DataW.Trod enc Tryd.prog W 0 (fun _ => true) true 22 v d p) : ∃ l : List (List UInt8), StrsAt W v l := by
  obtain ⟨a0, len, cap, rfl⟩ := okWide_slice Tryd.underlying22 hv
  obtain ⟨fuel, hf⟩ := h
  have c1 : Tryd.prog.cellsOf 9 = 1 := by kernel_rfl
  rcases open_strings Tryd.underlying22 Tryd.underlying9 c1 hf with ⟨hcs, hx⟩ | ⟨a, len', cap', ss, hcs, _, hl, hm, hz, hx, hcell, hws⟩
  · simp [Value.cells] at hcs
    obtain ⟨rfl, rfl, rfl⟩ := hcs
    exact ⟨[], none, 0, rfl, fun h => absurd rfl h⟩
  · simp [Value.cells] at hcs
    obtain ⟨rfl, rfl, rfl⟩ := hcs
    simp only [if_true] at hz
    have hlen : ((ss.take len).map lst).length = len := by rw [List.length_map, List.length_take]; omega
    refine ⟨(ss.take len).map lst, some a, cap, by rw [hlen], fun hne => ?_⟩
    have hpos : 0 < len := by rw [← hlen]; exact List.length_pos_iff.2 hne
    obtain ⟨b, off, spot⟩ := a
    have hspot : spot = none := by simpa [Addr.add] using World.cell?_spot (hcell 0 (by omega))
    subst hspot
    refine ⟨b, off, rfl, fun j hj => ?_⟩
    rw [hlen] at hj
    have h1 := hcell j (by omega)
    rw [Go.WideShapes.add_plain] at h1
    rw [h1]
    simp [List.getD, show j < ss.length by omega]

end Go.Proofs.YtpcbhechfbibbaaDoor
/- A slice of ints that came in, as the walks want it. -/
namespace Go.Proofs.YtpcbhechfbibbaaDoor
open Go.ChangeShapes Go.WideShapes Go.ChangeAt Go.RowKit
set_option maxRecDepth 100000

theorem ints_at_ {H : Type} {enc : TypeId × Value → H} {W : World} {v : Value} {d : DataW H} {p : List MemPlace} {base : Nat} (hv : Value.okWide Tryd.prog W .any base 42 v)
    (h : DataW.Trod enc Tryd.prog W 0 (fun _ => true) true 42 v d p) : ∃ l : List Int, IntsAt W v l ∧ ∀ x ∈ l, -9223372036854775808 ≤ x ∧ x ≤ 9223372036854775807 := by
  obtain ⟨a0, len, cap, rfl⟩ := okWide_slice Tryd.underlying42 hv
  obtain ⟨fuel, hf⟩ := h
  have c1 : Tryd.prog.cellsOf 3 = 1 := by kernel_rfl
  rcases open_ints Tryd.underlying42 Tryd.underlying3 c1 hf with ⟨hcs, hx⟩ | ⟨a, len', cap', ss, hcs, _, hl, hm, hz, hx, hcell, hws⟩
  · simp [Value.cells] at hcs
    obtain ⟨rfl, rfl, rfl⟩ := hcs
    exact ⟨[], ⟨none, 0, rfl, fun h => absurd rfl h⟩, by simp⟩
  · simp [Value.cells] at hcs
    obtain ⟨rfl, rfl, rfl⟩ := hcs
    simp only [if_true] at hz
    have hlen : (ss.take len).length = len := by rw [List.length_take]; omega
    refine ⟨ss.take len, ⟨some a, cap, by rw [hlen], fun hne => ?_⟩, fun x hx => bounds_i64 (hws x (List.mem_of_mem_take hx))⟩
    have hpos : 0 < len := by rw [← hlen]; exact List.length_pos_iff.2 hne
    obtain ⟨b, off, spot⟩ := a
    have hspot : spot = none := by simpa [Addr.add] using World.cell?_spot (hcell 0 (by omega))
    subst hspot
    refine ⟨b, off, rfl, fun j hj => ?_⟩
    rw [hlen] at hj
    have h1 := hcell j (by omega)
    rw [Go.WideShapes.add_plain] at h1
    rw [h1]
    simp [List.getD, show j < ss.length by omega]

end Go.Proofs.YtpcbhechfbibbaaDoor
/- A slice of TermPlays' calls that came in, as the walk wants it. -/
namespace Go.Proofs.YtpcbhechfbibbaaDoor
open Go.ChangeShapes Go.WideShapes Go.ChangeAt Go.RowKit
set_option maxRecDepth 100000

theorem strs_cell {H : Type} {enc : TypeId × Value → H} {W : World} {v : Value} {fuel : Nat} {x : DataW H × List MemPlace}
    (hf : DataW.trod enc Tryd.prog W 0 (fun _ => true) true fuel 22 [v] = some x) : ∃ l : List (List UInt8), StrsAt W v l := by
  have c1 : Tryd.prog.cellsOf 9 = 1 := by kernel_rfl
  rcases open_strings Tryd.underlying22 Tryd.underlying9 c1 hf with ⟨hcs, hx⟩ | ⟨a, len, cap, ss, hcs, _, hl, hm, hz, hx, hcell, hws⟩
  · simp at hcs
    subst hcs
    exact ⟨[], none, 0, rfl, fun h => absurd rfl h⟩
  · simp at hcs
    subst hcs
    simp only [if_true] at hz
    have hlen : ((ss.take len).map lst).length = len := by rw [List.length_map, List.length_take]; omega
    refine ⟨(ss.take len).map lst, some a, cap, by rw [hlen], fun hne => ?_⟩
    have hpos : 0 < len := by rw [← hlen]; exact List.length_pos_iff.2 hne
    obtain ⟨b, off, spot⟩ := a
    have hspot : spot = none := by simpa [Addr.add] using World.cell?_spot (hcell 0 (by omega))
    subst hspot
    refine ⟨b, off, rfl, fun j hj => ?_⟩
    rw [hlen] at hj
    have h1 := hcell j (by omega)
    rw [Go.WideShapes.add_plain] at h1
    rw [h1]
    simp [List.getD, show j < ss.length by omega]
theorem ints_cell {H : Type} {enc : TypeId × Value → H} {W : World} {v : Value} {fuel : Nat} {x : DataW H × List MemPlace}
    (hf : DataW.trod enc Tryd.prog W 0 (fun _ => true) true fuel 42 [v] = some x) : ∃ l : List Int, IntsAt W v l ∧ ∀ x ∈ l, -9223372036854775808 ≤ x ∧ x ≤ 9223372036854775807 := by
  have c1 : Tryd.prog.cellsOf 3 = 1 := by kernel_rfl
  rcases open_ints Tryd.underlying42 Tryd.underlying3 c1 hf with ⟨hcs, hx⟩ | ⟨a, len, cap, ss, hcs, _, hl, hm, hz, hx, hcell, hws⟩
  · simp at hcs
    subst hcs
    exact ⟨[], ⟨none, 0, rfl, fun h => absurd rfl h⟩, by simp⟩
  · simp at hcs
    subst hcs
    simp only [if_true] at hz
    have hlen : (ss.take len).length = len := by rw [List.length_take]; omega
    refine ⟨ss.take len, ⟨some a, cap, by rw [hlen], fun hne => ?_⟩, fun x hx => bounds_i64 (hws x (List.mem_of_mem_take hx))⟩
    have hpos : 0 < len := by rw [← hlen]; exact List.length_pos_iff.2 hne
    obtain ⟨b, off, spot⟩ := a
    have hspot : spot = none := by simpa [Addr.add] using World.cell?_spot (hcell 0 (by omega))
    subst hspot
    refine ⟨b, off, rfl, fun j hj => ?_⟩
    rw [hlen] at hj
    have h1 := hcell j (by omega)
    rw [Go.WideShapes.add_plain] at h1
    rw [h1]
    simp [List.getD, show j < ss.length by omega]

theorem act_cells {H : Type} {enc : TypeId × Value → H} {W : World} {b off : Nat} {n i : Nat} {cs : List Value} {x : DataW H × List MemPlace}
    (h1 : W.cells? 0 ((⟨b, off, none⟩ : Addr).add (i * 6)) 6 = some cs) (h2 : DataW.trod enc Tryd.prog W 0 (fun _ => true) true n 57 cs = some x) :
    ∃ a vt vc, ActAt W b (off + i * 6) a vt vc := by
  obtain ⟨_, hlen, hcell⟩ := World.cells?_some h1
  obtain ⟨xs, k, hk, hxy, _, hxl, hf⟩ := DataW.trod_struct Tryd.underlying57 h2
  have ci : Tryd.prog.cellsOf 3 = 1 := by kernel_rfl
  have cs_ : Tryd.prog.cellsOf 9 = 1 := by kernel_rfl
  have cl : Tryd.prog.cellsOf 22 = 1 := by kernel_rfl
  have cm : Tryd.prog.cellsOf 42 = 1 := by kernel_rfl
  match xs, hxl, cs, hlen with
  | [y0, y1, y2, y3, y4, y5], _, [v0, v1, v2, v3, v4, v5], _ =>
    have g0 := hf 0 _ rfl
    have g1 := hf 1 _ rfl
    have g2 := hf 2 _ rfl
    have g3 := hf 3 _ rfl
    have g4 := hf 4 _ rfl
    have g5 := hf 5 _ rfl
    simp [ci, cs_, cl, cm] at g0 g1 g2 g3 g4 g5
    have e0 := hcell 0 (by omega)
    have e1 := hcell 1 (by omega)
    have e2 := hcell 2 (by omega)
    have e3 := hcell 3 (by omega)
    have e4 := hcell 4 (by omega)
    have e5 := hcell 5 (by omega)
    simp only [Go.WideShapes.add_plain, List.getElem?_cons_zero, List.getElem?_cons_succ, Nat.add_zero] at e0 e1 e2 e3 e4 e5
    obtain ⟨z0, q0, _, _⟩ := DataW.trod_int Tryd.underlying3 g0
    obtain ⟨z1, q1, _, _⟩ := DataW.trod_int Tryd.underlying3 g1
    obtain ⟨z2, q2, _, _⟩ := DataW.trod_int Tryd.underlying3 g2
    obtain ⟨z3, q3, _, _⟩ := DataW.trod_string Tryd.underlying9 g3
    simp at q0 q1 q2 q3
    subst q0 q1 q2 q3
    obtain ⟨l4, hl4⟩ := strs_cell g4
    obtain ⟨l5, hl5, hb5⟩ := ints_cell g5
    exact ⟨⟨z0, z1, z2, lst z3, l4, l5⟩, v4, v5, e0, e1, e2, by rw [bs_lst]; exact e3, e4, e5, hl4, hl5, hb5⟩

theorem acts_at {H : Type} {enc : TypeId × Value → H} {W : World} {v : Value} {d : DataW H} {p : List MemPlace} {base : Nat} (hv : Value.okWide Tryd.prog W .any base 54 v)
    (h : DataW.Trod enc Tryd.prog W 0 (fun _ => true) true 54 v d p) : ∃ l : List Ac, ActsAt W v l := by
  obtain ⟨a0, len, cap, rfl⟩ := okWide_slice Tryd.underlying54 hv
  obtain ⟨fuel, hf⟩ := h
  have c6 : Tryd.prog.cellsOf 57 = 6 := by kernel_rfl
  rcases Go.Deep.open_slice Tryd.underlying54 hf with ⟨hcs, hx⟩ | ⟨a, len', cap', m, n, D, Pl, hcs, _, hl, hm, hmm, hx, each⟩
  · simp [Value.cells] at hcs
    obtain ⟨rfl, rfl, rfl⟩ := hcs
    exact ⟨[], none, 0, rfl, fun h => absurd rfl h⟩
  · simp [Value.cells] at hcs
    obtain ⟨rfl, rfl, rfl⟩ := hcs
    simp only [if_true] at hmm
    rw [c6] at each
    obtain ⟨b, off, spot⟩ := a
    by_cases hz : len = 0
    · subst hz
      exact ⟨[], _, _, rfl, fun h => absurd rfl h⟩
    have hspot : spot = none := by
      obtain ⟨cs', h1, _⟩ := each 0 (by omega)
      obtain ⟨_, hlen, hcell⟩ := World.cells?_some h1
      have h0 := hcell 0 (by omega)
      have : ∃ u, cs'[0]? = some u := ⟨cs'[0]'(by omega), by simp⟩
      obtain ⟨u, hu⟩ := this
      rw [hu] at h0
      simpa [Addr.add] using World.cell?_spot h0
    subst hspot
    have hex : ∀ i, i < len → ∃ q : Ac × Value × Value, ActAt W b (off + i * 6) q.1 q.2.1 q.2.2 := fun i hi => by
      obtain ⟨cs', h1, h2⟩ := each i (by omega)
      obtain ⟨a, vt, vc, h⟩ := act_cells h1 h2
      exact ⟨(a, vt, vc), h⟩
    obtain ⟨f, hf⟩ : ∃ f : Nat → Ac × Value × Value, ∀ i, i < len → ActAt W b (off + i * 6) (f i).1 (f i).2.1 (f i).2.2 :=
      ⟨fun i => if h : i < len then Classical.choose (hex i h) else (⟨0, 0, 0, [], [], []⟩, .slice none 0 0, .slice none 0 0), fun i hi => by simp only [hi, dif_pos]; exact Classical.choose_spec (hex i hi)⟩
    refine ⟨(List.range len).map fun i => (f i).1, some ⟨b, off, none⟩, cap, by simp, fun _ => ⟨b, off, rfl, fun j hj => ⟨(f j).2.1, (f j).2.2, ?_⟩⟩⟩
    simp only [List.length_map, List.length_range] at hj
    rw [List.getElem_map, List.getElem_range]
    exact hf j hj

end Go.Proofs.YtpcbhechfbibbaaDoor
