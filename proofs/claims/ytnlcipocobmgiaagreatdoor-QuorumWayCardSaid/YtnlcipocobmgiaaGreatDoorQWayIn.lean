/- The net of glacierlaw11.QuorumWay, as the law walks with it: node 0 has stood, the others have done nothing. -/
import Derived.Test.YtnlcipocobmgiaaGreatDoorQRun
import Derived.Test.YtnlcipocobmgiaaGreatDoorQNetC
import Derived.Test.YtnlcipocobmgiaaGreatDoorQNetD
namespace Go.Proofs.YtnlcipocobmgiaaGreatDoor
open Go.RowKit
attribute [local go_sem] size_bs bs_append bs_extract

/-- The disk of a node that has done nothing. -/
def dZ : Dk := ⟨1048576, 0, false, 0, []⟩
/-- Node 0 of n behind so many ticks, and the messages on their way. -/
def tks (n : Nat) : Nat → Option (Rn × List Mg)
  | 0 => some (Rn.opened 0 n Ts.zero, [])
  | j + 1 => (tks n j).bind fun p => (tickP p.1).bind fun N => if N.broken = 0 ∧ p.2.length + N.out.length ≤ 200 then some ({ N with out := [] }, p.2 ++ N.out) else none
def wayOk (n : Nat) : Bool := match tks n 4 with
  | none => false
  | some p => decide (p.2.length = n - 1) && p.2.all fun y => decide (y.ents.length = 0) && decide (y.to_ = (y.to_.toNat : Int)) && decide (1 ≤ y.to_.toNat) && decide (y.to_.toNat < n)
theorem wayOk_2 : wayOk 2 = true := by decide +kernel
theorem wayOk_3 : wayOk 3 = true := by decide +kernel
theorem wayOk_4 : wayOk 4 = true := by decide +kernel
theorem wayOk_5 : wayOk 5 = true := by decide +kernel
theorem way_ok (n : Nat) (h2 : 2 ≤ n) (h5 : n ≤ 5) : wayOk n = true := by
  obtain rfl | rfl | rfl | rfl : n = 2 ∨ n = 3 ∨ n = 4 ∨ n = 5 := by omega
  · exact wayOk_2
  · exact wayOk_3
  · exact wayOk_4
  · exact wayOk_5
/-- A message of a law's way. -/
def MsgOk (n : Nat) (y : Mg) : Prop := y.ents = [] ∧ ∃ i : Nat, y.to_ = (i : Int) ∧ 1 ≤ i ∧ i < n
theorem tks_end (n : Nat) (h2 : 2 ≤ n) (h5 : n ≤ 5) : ∃ N way, tks n 4 = some (N, way) ∧ way.length = n - 1 ∧ ∀ y ∈ way, MsgOk n y := by
  have h := way_ok n h2 h5
  unfold wayOk at h
  split at h
  · cases h
  · rename_i p hp
    obtain ⟨N, way⟩ := p
    simp only [Bool.and_eq_true, decide_eq_true_eq, List.all_eq_true] at h
    refine ⟨N, way, hp, h.1, fun y hy => ?_⟩
    obtain ⟨⟨⟨a, b⟩, c⟩, d⟩ := h.2 y hy
    exact ⟨List.length_eq_zero_iff.1 a, _, b, c, d⟩
theorem tks_succ {n j : Nat} {p : Rn × List Mg} (h : tks n (j + 1) = some p) : ∃ N way N', tks n j = some (N, way) ∧ tickP N = some N' ∧ N'.broken = 0 ∧ way.length + N'.out.length ≤ 200 ∧ p = ({ N' with out := [] }, way ++ N'.out) := by
  rw [tks] at h
  obtain ⟨⟨N, way⟩, h1, h2⟩ := Option.bind_eq_some_iff.1 h
  obtain ⟨N', h3, h4⟩ := Option.bind_eq_some_iff.1 h2
  split at h4
  · rename_i hc
    exact ⟨N, way, N', h1, h3, hc.1, hc.2, (Option.some.inj h4).symm⟩
  · cases h4
theorem tks_some {n j : Nat} (h : (tks n (j + 1)).isSome) : (tks n j).isSome := by
  obtain ⟨p, hp⟩ := Option.isSome_iff_exists.1 h
  obtain ⟨N, way, _, h1, -⟩ := tks_succ hp
  rw [h1]; rfl
section
variable {w0 : Bs} {w w' : World} {q n j : Nat} {P : List Pq} {way : List Mg} {N : Rn}
/-- The others have done nothing. -/
def Rest (n : Nat) (P : List Pq) : Prop := P.length = n ∧ ∀ i, 1 ≤ i → i < n → P[i]? = some (dZ, some (Rn.opened i n Ts.zero))
theorem dz_load : ({ dZ with armed := 0 } : Dk).load = (dZ, Ts.zero, 0) := (Holds.start 1048576 (by omega)).load Ts.fit_zero
theorem dz_good : dZ.Good := (Holds.start 1048576 (by omega)).good
/-- Behind so many ticks of node 0. -/
structure TickIn (w0 : Bs) (w : World) (q n j : Nat) : Prop where
  is_ : ∃ P N way D, NetIn w0 w q P way ∧ Rest n P ∧ tks n j = some (N, way) ∧ P[0]? = some (D, some N) ∧ Holds D (1000000 - 200 * j) N.st
theorem TickIn.start (h : NetIn w0 w q (upN n n dZ) []) (h2 : 2 ≤ n) : TickIn w0 w q n 0 := by
  have hat : ∀ i, i < n → (upN n n dZ)[i]? = some (dZ, some (Rn.opened i n Ts.zero)) := fun i hi => by
    unfold upN
    rw [List.getElem?_append_left (by simpa using hi), List.getElem?_map, List.getElem?_range hi]
    rfl
  exact ⟨⟨_, _, _, dZ, h, ⟨upN_len n n dZ (Nat.le_refl _), fun i _ hi => hat i hi⟩, rfl, hat 0 (by omega), (Holds.start 1048576 (by omega)).mono (by omega)⟩⟩
theorem ticks_calls (h : TickIn w0 w q n j) (hj : j < 4) (h2 : 2 ≤ n) (h5 : n ≤ 5) :
    Calls Tryz.prog 29 #[.pointer (some ⟨q, 0, none⟩), .int .i64 0] w fun e w' => e = .returned (.tuple #[]) ∧ TickIn w0 w' q n (j + 1) := by
  obtain ⟨P, N, way, D, hN, hR, ht, h0, hD⟩ := h.is_
  obtain ⟨Nz, wz, hz, -⟩ := tks_end n h2 h5
  have hall : (tks n (j + 1)).isSome := by
    have h4 : (tks n 4).isSome := by rw [hz]; rfl
    have h3 := tks_some h4
    have h2 := tks_some h3
    have h1 := tks_some h2
    obtain rfl | rfl | rfl | rfl : j = 0 ∨ j = 1 ∨ j = 2 ∨ j = 3 := by omega
    · exact h1
    · exact h2
    · exact h3
    · exact h4
  obtain ⟨p, hp⟩ := Option.isSome_iff_exists.1 hall
  obtain ⟨N1, way1, N', e1, e2, e3, e4, rfl⟩ := tks_succ hp
  rw [ht] at e1
  obtain ⟨rfl, rfl⟩ := Prod.mk.inj (Option.some.inj e1)
  obtain ⟨D', h7, h8⟩ := tick_of e2 hD (by omega)
  refine (qtick_calls hN 0 h0 h8 e3 e4).mono ?_
  rintro e w' ⟨rfl, h9⟩
  refine ⟨rfl, ⟨_, _, _, D', h9, ⟨by rw [List.length_set]; exact hR.1, fun i h1 hi => ?_⟩, hp, ?_, h7.mono (by omega)⟩⟩
  · rw [List.getElem?_set_ne (by omega)]
    exact hR.2 i h1 hi
  · rw [List.getElem?_set_self (by have := hR.1; omega)]
/-- The net as the law's loop has it. -/
structure WayIn (w0 : Bs) (w : World) (q n : Nat) (way : List Mg) : Prop where
  is_ : ∃ P, NetIn w0 w q P way ∧ Rest n P
  ok : ∀ y ∈ way, MsgOk n y
theorem TickIn.end_ (h : TickIn w0 w q n 4) (h2 : 2 ≤ n) (h5 : n ≤ 5) : ∃ way, way.length = n - 1 ∧ WayIn w0 w q n way := by
  obtain ⟨P, N, way, D, hN, hR, ht, -⟩ := h.is_
  obtain ⟨Nz, wz, hz, h1, h2⟩ := tks_end n h2 h5
  rw [ht] at hz
  obtain ⟨rfl, rfl⟩ := Prod.mk.inj (Option.some.inj hz)
  exact ⟨way, h1, ⟨⟨P, hN, hR⟩, h2⟩⟩
theorem WayIn.grow (h : WayIn w0 w q n way) (hk : Keep [] w w') : WayIn w0 w' q n way := by
  obtain ⟨⟨P, h1, h2⟩, h3⟩ := h
  exact ⟨⟨P, h1.grow hk, h2⟩, h3⟩
theorem WayIn.keep (h : WayIn w0 w q n way) : Keep [] w0.w w := by
  obtain ⟨⟨P, h1, h2⟩, h3⟩ := h
  exact h1.keep
theorem WayIn.with_ (h : WayIn w0 w q n way) (hk : Keep [] w w') {b : Nat} {t : TypeId} {cs : Array Value} (hB : Blk w' b t cs) (hb : w.heap.size ≤ b) : WayIn ⟨w0.w, (b, t, cs) :: w0.M⟩ w' q n way := by
  obtain ⟨⟨P, h1, h2⟩, h3⟩ := h
  exact ⟨⟨P, h1.with_ hk hB hb, h2⟩, h3⟩
theorem WayIn.blk (h : WayIn w0 w q n way) {x : Nat × TypeId × Array Value} (hx : x ∈ w0.M) : Blk w x.1 x.2.1 x.2.2 := by
  obtain ⟨⟨P, h1, h2⟩, h3⟩ := h
  exact h1.blk hx
theorem WayIn.bare (h : WayIn w0 w q n way) : WayIn w0.w w q n way := by
  obtain ⟨⟨P, h1, h2⟩, h3⟩ := h
  exact ⟨⟨P, h1.bare, h2⟩, h3⟩
/-- A node is down; the others are as they were. -/
structure DownIn (w0 : Bs) (w : World) (q n i : Nat) (way : List Mg) : Prop where
  is_ : ∃ P, NetIn w0 w q (P.set i (dZ, none)) way ∧ Rest n P ∧ 1 ≤ i ∧ i < n
theorem DownIn.blk {i : Nat} (h : DownIn w0 w q n i way) {x : Nat × TypeId × Array Value} (hx : x ∈ w0.M) : Blk w x.1 x.2.1 x.2.2 := by
  obtain ⟨P, h1, h2⟩ := h
  exact h1.blk hx
theorem way_crash (h : WayIn w0 w q n way) (i : Nat) (h1 : 1 ≤ i) (hi : i < n) :
    Calls Tryz.prog 34 #[.pointer (some ⟨q, 0, none⟩), .int .i64 (i : Int), .slice none 0 0] w fun e w' => e = .returned (.int .i64 0) ∧ DownIn w0 w' q n i way := by
  obtain ⟨⟨P, hN, hR⟩, -⟩ := h
  refine (qcrash_calls hN i (hR.2 i h1 hi) dz_good rfl).mono ?_
  rintro e w' ⟨rfl, h9⟩
  exact ⟨rfl, ⟨P, h9, hR, h1, hi⟩⟩
theorem way_deliver {i : Nat} (h : DownIn w0 w q n i way) (k : Nat) (y : Mg) (hk : way[k]? = some y) (hy : y.to_ = (i : Int)) (hl : way.length ≤ 200) :
    Calls Tryz.prog 35 #[.pointer (some ⟨q, 0, none⟩), .int .i64 (k : Int)] w fun e w' => e = .returned (.tuple #[]) ∧ DownIn w0 w' q n i (way.eraseIdx k) := by
  obtain ⟨P, hN, hR, h1, hi⟩ := h
  refine (qdeliver_down hN k y hk i hy (by rw [List.getElem?_set_self (by have := hR.1; omega)]) hl).mono ?_
  rintro e w' ⟨rfl, h9⟩
  exact ⟨rfl, ⟨P, h9, hR, h1, hi⟩⟩
theorem down_on {i : Nat} (h : DownIn w0 w q n i way) : Calls Tryz.prog 30 #[.pointer (some ⟨q, 0, none⟩)] w fun e w' => e = .returned (.int .i64 (way.length : Int)) ∧ w = w' := by
  obtain ⟨P, hN, -⟩ := h
  exact qon_in hN
theorem down_node {i : Nat} (h : DownIn w0 w q n i way) :
    Calls Tryz.prog 36 #[.pointer (some ⟨q, 0, none⟩), .int .i64 (i : Int)] w fun e w' => e = .returned (.pointer none) ∧ w = w' := by
  obtain ⟨P, ⟨⟨Q, L, hA, rfl, hP, -, -⟩, -⟩, hR, h1, hi⟩ := h
  have hat : (L.map Qn.pl)[i]? = some (dZ, none) := by rw [hP, List.getElem?_set_self (by have := hR.1; omega)]
  obtain ⟨hi', hup, -⟩ := pl_down hat
  refine (qnode_calls hA i hi').mono ?_
  rintro e w' ⟨rfl, rfl⟩
  exact ⟨by unfold Qn.ptr; rw [hup], rfl⟩
theorem down_start {i : Nat} (h : DownIn w0 w q n i way) (h5 : n ≤ 5) (ho : ∀ y ∈ way, MsgOk n y) :
    Calls Tryz.prog 37 #[.pointer (some ⟨q, 0, none⟩), .int .i64 (i : Int)] w fun e w' => e = .returned (.int .i64 0) ∧ WayIn w0 w' q n way := by
  obtain ⟨P, hN, hR, h1, hi⟩ := h
  have hl := hR.1
  have hll : (P.set i (dZ, none)).length = n := by rw [List.length_set]; exact hl
  refine (qstart_calls hN i (by rw [List.getElem?_set_self (by omega)]) dz_good (by omega) dz_load).mono ?_
  rintro e w' ⟨rfl, h9⟩
  rw [hll, List.set_set] at h9
  have hs : P.set i (dZ, some (Rn.opened i n Ts.zero)) = P := by
    have := hR.2 i h1 hi
    obtain ⟨hx, hy⟩ := List.getElem?_eq_some_iff.1 this
    rw [← hy]
    exact List.set_getElem_self hx
  rw [hs] at h9
  exact ⟨rfl, ⟨⟨P, h9, hR⟩, ho⟩⟩
theorem way_on (h : WayIn w0 w q n way) : Calls Tryz.prog 30 #[.pointer (some ⟨q, 0, none⟩)] w fun e w' => e = .returned (.int .i64 (way.length : Int)) ∧ w = w' := by
  obtain ⟨⟨P, hN, -⟩, -⟩ := h
  exact qon_in hN
theorem way_drop (h : WayIn w0 w q n way) (k : Nat) (hk : k < way.length) (hl : way.length ≤ 200) :
    Calls Tryz.prog 32 #[.pointer (some ⟨q, 0, none⟩), .int .i64 (k : Int)] w fun e w' => e = .returned (.tuple #[]) ∧ WayIn w0 w' q n (way.eraseIdx k) := by
  obtain ⟨⟨P, hN, hR⟩, ho⟩ := h
  refine (qdrop_in hN k hk hl).mono ?_
  rintro e w' ⟨rfl, h9⟩
  exact ⟨rfl, ⟨⟨P, h9, hR⟩, fun y hy => ho y (List.mem_of_mem_eraseIdx hy)⟩⟩
theorem way_again (h : WayIn w0 w q n way) (k : Nat) (y : Mg) (hk : way[k]? = some y) (hl : way.length < 200) :
    Calls Tryz.prog 33 #[.pointer (some ⟨q, 0, none⟩), .int .i64 (k : Int)] w fun e w' => e = .returned (.tuple #[]) ∧ WayIn w0 w' q n (way ++ [y]) := by
  obtain ⟨⟨P, hN, hR⟩, ho⟩ := h
  have hm : y ∈ way := List.mem_of_getElem? hk
  refine (qagain_calls hN k y hk (ho y hm).1 hl).mono ?_
  rintro e w' ⟨rfl, h9⟩
  refine ⟨rfl, ⟨⟨P, h9, hR⟩, fun z hz => ?_⟩⟩
  rcases List.mem_append.1 hz with h | h
  · exact ho z h
  · rw [List.mem_singleton.1 h]; exact ho y hm
end

end Go.Proofs.YtnlcipocobmgiaaGreatDoor
