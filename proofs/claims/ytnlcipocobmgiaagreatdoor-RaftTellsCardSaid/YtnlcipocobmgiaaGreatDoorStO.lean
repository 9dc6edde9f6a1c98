/- The contracts of (*State).Last, at, From, TermAt for a state that is a part of another block. -/
import Derived.Test.YtnlcipocobmgiaaGreatDoorFrom
namespace Go.Proofs.YtnlcipocobmgiaaGreatDoor
open Go.RowKit
attribute [local go_sem] size_bs bs_append bs_extract

/-- A state's six cells, and its entries. -/
structure StO (w : World) (r o : Nat) (s : Ts) (lg : Value) : Prop where
  c0 : w.cell? ⟨r, o, none⟩ = some (.int .i64 (s.term : Int))
  c1 : w.cell? ⟨r, o + 1, none⟩ = some (.int .i64 (s.vote : Int))
  c2 : w.cell? ⟨r, o + 2, none⟩ = some (.int .i64 (s.base : Int))
  c3 : w.cell? ⟨r, o + 3, none⟩ = some (.int .i64 (s.baseTerm : Int))
  c4 : w.cell? ⟨r, o + 4, none⟩ = some (.string (bs s.snap))
  c5 : w.cell? ⟨r, o + 5, none⟩ = some lg
  ents : EntsAt w lg s.log
  room : ∀ A n c, lg = .slice A n c → n ≤ c

set_option maxRecDepth 100000 in
theorem lastO_nil_calls {w : World} {r o : Nat} (s : Ts) (lg : Value) (h : StO w r o s lg) (h0 : s.log = []) :
    Calls Tryz.prog 46 #[.pointer (some ⟨r, o, none⟩)] w fun e w' => e = .returned (.tuple #[.int .i64 (s.last.1 : Int), .int .i64 (s.last.2 : Int)]) ∧ ∃ k, w' = w.drewN k := by
  obtain ⟨q0, q1, c2, c3, q4, c5, ⟨A, c, rfl, -⟩, -⟩ := h
  have hlast : s.last = (s.base, s.baseTerm) := by simp [Ts.last, h0]
  rw [hlast]
  have hl0 : s.log.length = 0 := by simp [h0]
  rw [hl0] at c5
  clear q0 q1 q4 h0 hl0 hlast
  go_enter Tryz.func46, Tryz.ntmps46
  go_wp2
  go_quiet (fail)
  go_wp2
  go_ret2
  exact ⟨rfl, _, rfl⟩

set_option maxRecDepth 100000 in
theorem lastO_cons_calls {w : World} {r o : Nat} (s : Ts) (lg : Value) (h : StO w r o s lg) (h0 : s.log ≠ []) (hn : s.log.length ≤ 4611686018427387904) :
    Calls Tryz.prog 46 #[.pointer (some ⟨r, o, none⟩)] w fun e w' => e = .returned (.tuple #[.int .i64 (s.last.1 : Int), .int .i64 (s.last.2 : Int)]) ∧ ∃ k, w' = w.drewN k := by
  obtain ⟨q0, q1, c2, c3, q4, c5, ⟨A, c, rfl, hcc⟩, -⟩ := h
  obtain ⟨g, o', rfl, hc⟩ := hcc h0
  clear hcc
  have hpos : 0 < s.log.length := List.length_pos_iff.2 h0
  have hlast : s.last = ((s.log[s.log.length - 1]'(by omega)).index, (s.log[s.log.length - 1]'(by omega)).term) := by
    have : s.log.getLast? = some (s.log[s.log.length - 1]'(by omega)) := by rw [List.getLast?_eq_getElem?]; simp
    simp [Ts.last, this]
  obtain ⟨h1, h2, -⟩ := entsV_at s.log (s.log.length - 1) (by omega)
  rw [hlast]
  have k0 := hc _ _ h1
  have k1 := hc _ _ h2
  generalize (s.log[s.log.length - 1]'(by omega)).index = xi at *
  generalize (s.log[s.log.length - 1]'(by omega)).term = xt at *
  clear q0 q1 c2 c3 q4 h0 hlast hc h1 h2
  generalize s.log.length = n at *
  obtain ⟨k, hk⟩ : ∃ k, n = k + 1 := ⟨n - 1, by omega⟩
  have hk1 : n - 1 = k := by omega
  have hsub : IntKind.i64.wrap ((n : Int) - 1) = (k : Int) := by rw [IntWalk.i64_in _ (by omega)]; omega
  have hkn : k < n := by omega
  rw [hk1, Nat.mul_comm] at k0 k1
  rw [← Nat.add_assoc] at k1
  clear hk hk1
  have hd : decide ((0 : Int) < (n : Int)) = true := by simpa using hpos
  go_enter Tryz.func46, Tryz.ntmps46
  go_wp2
  go_quiet (fail)
  go_wp2
  go_ret2
  exact ⟨rfl, _, rfl⟩

set_option maxRecDepth 100000 in
theorem lastO_calls {w : World} {r o : Nat} (s : Ts) (lg : Value) (h : StO w r o s lg) (hn : s.log.length ≤ 4611686018427387904) :
    Calls Tryz.prog 46 #[.pointer (some ⟨r, o, none⟩)] w fun e w' => e = .returned (.tuple #[.int .i64 (s.last.1 : Int), .int .i64 (s.last.2 : Int)]) ∧ ∃ k, w' = w.drewN k := by
  by_cases h0 : s.log = []
  · exact lastO_nil_calls s lg h h0
  · exact lastO_cons_calls s lg h h0 hn

set_option maxRecDepth 100000 in
set_option maxHeartbeats 1000000 in
theorem atO_calls {w : World} {r o : Nat} (s : Ts) (lg : Value) (h : StO w r o s lg) (k : Nat) (hk : k ≤ 4611686018427387904) (hb : s.base ≤ 4611686018427387904) :
    Calls Tryz.prog 84 #[.pointer (some ⟨r, o, none⟩), .int .i64 (k : Int)] w fun e w' => e = .returned (.tuple #[.int .i64 (((s.at k).getD 0 : Nat) : Int), .bool (s.at k).isSome]) ∧ ∃ n, w' = w.drewN n := by
  obtain ⟨q0, q1, c2, c3, q4, c5, ⟨A, c, rfl, -⟩, -⟩ := h
  unfold Ts.at
  clear q0 q1 c3 q4
  by_cases h1 : k ≤ s.base
  · rw [if_pos h1]
    generalize s.base = b at *
    have d1 : decide ((k : Int) ≤ (b : Int)) = true := by simpa using h1
    go_enter Tryz.func84, Tryz.ntmps84
    go_wp2
    go_ret2
    exact ⟨rfl, 0, rfl⟩
  · rw [if_neg h1]
    generalize s.base = b at *
    generalize s.log.length = n at *
    have d1 : decide ((k : Int) ≤ (b : Int)) = false := by simpa using h1
    have hz : (((k - b - 1 : Nat)) : Int) = (k : Int) - (b : Int) - 1 := by omega
    have d2 : decide ((k : Int) - (b : Int) - 1 < 0) = false := by simp; omega
    by_cases h2 : n < k - b - 1
    · rw [if_pos h2]
      have d3 : decide ((n : Int) < (k : Int) - (b : Int) - 1) = true := by simp; omega
      go_enter Tryz.func84, Tryz.ntmps84
      go_wp2
      go_ret2
      exact ⟨rfl, 0, rfl⟩
    · rw [if_neg h2]
      have d3 : decide ((n : Int) < (k : Int) - (b : Int) - 1) = false := by simp; omega
      simp only [Option.getD_some, Option.isSome_some, hz]
      go_enter Tryz.func84, Tryz.ntmps84
      go_wp2
      go_ret2
      exact ⟨rfl, 0, rfl⟩

set_option maxRecDepth 100000 in
set_option maxHeartbeats 1000000 in
theorem fromO_calls {w : World} {r o : Nat} (s : Ts) (lg : Value) (h : StO w r o s lg) (k most : Nat) (hk : k ≤ 4611686018427387904) (hm : most ≤ 4611686018427387904) (hb : s.base ≤ 4611686018427387904) (hn : s.log.length ≤ 1000000000) :
    Calls Tryz.prog 45 #[.pointer (some ⟨r, o, none⟩), .int .i64 (k : Int), .int .i64 (most : Int)] w fun e w' => ∃ A c, e = .returned (.slice A (s.from_ k most).length c) ∧ w'.ownsRow w.heap.size 62 3 (.slice A (s.from_ k most).length c) (s.from_ k most).length (entsV (s.from_ k most)) ∧ Keep [] w w' := by
  have HA := Lib.hid (atO_calls s lg h k hk hb)
  unfold Ts.from_
  cases ha : s.at k with
  | none =>
    rw [ha] at HA
    clear h
    go_enter Tryz.func45, Tryz.ntmps45
    go_wp2_with (go_at_call 84; refine HA.out.mono ?_; rintro e w1 ⟨rfl, n1, rfl⟩)
    go_ret
    exact ⟨none, 0, rfl, World.ownsRow_nil _ _ _ _, (Keep.refl _ _).drewN _⟩
  | some i =>
    rw [ha] at HA
    simp only [Option.getD_some, Option.isSome_some] at HA
    have hi := Ts.at_le ha
    obtain ⟨q0, q1, c2, c3, q4, c5, ⟨A, c, rfl, hc⟩, hroom⟩ := h
    have hcap := hroom _ _ _ rfl
    clear hroom
    have hlen : ((s.log.drop i).take most).length = min most (s.log.length - i) := by rw [List.length_take, List.length_drop]
    obtain ⟨nn, hnn⟩ : ∃ nn : Nat, nn = min most (s.log.length - i) := ⟨_, rfl⟩
    have hz : min (most : Int) ((s.log.length : Int) - (i : Int)) = (nn : Int) := by omega
    have htk : (s.log.drop i).take most = (s.log.drop i).take nn := by
      rcases Nat.le_total most (s.log.length - i) with hle | hle
      · rw [hnn, Nat.min_eq_left hle]
      · rw [hnn, Nat.min_eq_right hle, List.take_of_length_le (by rw [List.length_drop]; exact hle), List.take_of_length_le (by rw [List.length_drop]; exact Nat.le_refl _)]
    simp only
    rw [htk]
    by_cases h0 : nn = 0
    · have d0 : decide ((nn : Int) ≤ 0) = true := by simp; omega
      have hnil : (s.log.drop i).take nn = [] := by rw [h0]; simp
      rw [hnil]
      clear q0 q1 c2 c3 q4 hc hlen htk hnil
      go_enter Tryz.func45, Tryz.ntmps45
      go_wp2_with (go_at_call 84; refine HA.out.mono ?_; rintro e w1 ⟨rfl, n1, rfl⟩)
      go_ret
      exact ⟨none, 0, rfl, World.ownsRow_nil _ _ _ _, (Keep.refl _ _).drewN _⟩
    · have d0 : decide ((nn : Int) ≤ 0) = false := by simp; omega
      have hne : s.log ≠ [] := by intro h; rw [h] at hnn; simp at hnn; omega
      obtain ⟨g, o', rfl, hcc⟩ := hc hne
      have hle : i + nn ≤ s.log.length := by omega
      have hL : ((s.log.drop i).take nn).length = nn := by rw [List.length_take, List.length_drop]; omega
      have HE := Lib.hid (fun (cc : Nat) (W : World) (hk : Keep [] w W) => (EntsAt.sub (c := cc) hcc hle).keep_nil hk)
      have HC := Lib.hid (fun (cc : Nat) (W : World) (hk : Keep [] w W) => clone_calls _ (HE.out cc W hk) (by intro h; rw [h] at hL; simp at hL; omega) (by omega))
      have HL := Lib.hid hL
      generalize (s.log.drop i).take nn = L at *
      generalize s.log.length = ln at *
      clear q0 q1 c2 c3 q4 hc hlen htk hcc hL HE
      rw [hnn] at HC
      go_enter Tryz.func45, Tryz.ntmps45
      go_wp2_with (first
        | (go_at_call 84; refine HA.out.mono ?_; rintro e w1 ⟨rfl, n1, rfl⟩)
        | (go_at_call 52; refine (HC.out _ _ ((Keep.refl _ _).drewN _)).mono ?_; rintro e w2 ⟨v', rfl, hown, hk2⟩))
      go_ret
      obtain ⟨A', c', rfl⟩ := own_slice hown
      exact ⟨A', c', rfl, hown, ((Keep.refl _ _).drewN _).trans hk2⟩

set_option maxRecDepth 100000 in
set_option maxHeartbeats 1000000 in
theorem termAtO_calls {w : World} {r o : Nat} (s : Ts) (lg : Value) (h : StO w r o s lg) (k : Nat) (hk : k ≤ 4611686018427387904) (hb : s.base ≤ 4611686018427387904) :
    Calls Tryz.prog 47 #[.pointer (some ⟨r, o, none⟩), .int .i64 (k : Int)] w fun e w' => e = .returned (.tuple #[.int .i64 (((s.termAt k).getD 0 : Nat) : Int), .bool (s.termAt k).isSome]) ∧ ∃ n, w' = w.drewN n := by
  have HA := Lib.hid (atO_calls s lg h k hk hb)
  obtain ⟨q0, q1, c2, c3, q4, c5, ⟨A, c, rfl, hc⟩, -⟩ := h
  unfold Ts.termAt
  by_cases h1 : k = s.base
  · rw [if_pos h1]
    simp only [Option.getD_some, Option.isSome_some]
    generalize s.base = b at *
    have d1 : ((k : Int) == (b : Int)) = true := by simp; omega
    clear q0 q1 q4 c5 hc HA
    go_enter Tryz.func47, Tryz.ntmps47
    go_wp2
    go_ret2
    exact ⟨rfl, 0, rfl⟩
  · rw [if_neg h1]
    have d1 : ((k : Int) == (s.base : Int)) = false := by simp; omega
    cases ha : s.at k with
    | none =>
      rw [ha] at HA
      clear q0 q1 c3 q4 hc
      go_enter Tryz.func47, Tryz.ntmps47
      go_wp2_with (go_at_call 84; refine HA.out.mono ?_; rintro e w1 ⟨rfl, n1, rfl⟩)
      go_ret2
      exact ⟨rfl, _, rfl⟩
    | some i =>
      rw [ha] at HA
      simp only [Option.getD_some, Option.isSome_some] at HA
      by_cases hi : i < s.log.length
      · have hne : s.log ≠ [] := by intro h; rw [h] at hi; simp at hi
        obtain ⟨g, o', rfl, hcc⟩ := hc hne
        have k1 := hcc _ _ (entsV_at s.log i hi).2.1
        rw [Nat.mul_comm, ← Nat.add_assoc] at k1
        simp only [List.getElem?_eq_getElem hi, Option.map_some, Option.getD_some, Option.isSome_some]
        generalize s.log[i].term = xt at *
        generalize s.log.length = ln at *
        have d2 : decide ((i : Int) < (ln : Int)) = true := by simp; omega
        clear q0 q1 c3 q4 hc hcc
        go_enter Tryz.func47, Tryz.ntmps47
        go_wp2_with (go_at_call 84; refine HA.out.mono ?_; rintro e w1 ⟨rfl, n1, rfl⟩)
        go_ret2
        exact ⟨rfl, _, rfl⟩
      · simp only [List.getElem?_eq_none (Nat.not_lt.1 hi), Option.map_none, Option.getD_none, Option.isSome_none]
        generalize s.log.length = ln at *
        have d2 : decide ((i : Int) < (ln : Int)) = false := by simp; omega
        clear q0 q1 c3 q4 hc
        go_enter Tryz.func47, Tryz.ntmps47
        go_wp2_with (go_at_call 84; refine HA.out.mono ?_; rintro e w1 ⟨rfl, n1, rfl⟩)
        go_ret2
        exact ⟨rfl, _, rfl⟩

end Go.Proofs.YtnlcipocobmgiaaGreatDoor
