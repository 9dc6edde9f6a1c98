/- The contracts of (*State).at, From, TermAt and of slices.Clone on entries. -/
import Derived.Test.YtnlcipocobmgiaaGreatDoorLast
import Derived.Lib.SliceRun
namespace Go.Proofs.YtnlcipocobmgiaaGreatDoor
open Go.RowKit
attribute [local go_sem] size_bs bs_append bs_extract

/-- A state's block and its entries. -/
structure StAt (w : World) (r : Nat) (s : Ts) (lg : Value) : Prop where
  blk : Blk w r 46 #[.int .i64 (s.term : Int), .int .i64 (s.vote : Int), .int .i64 (s.base : Int), .int .i64 (s.baseTerm : Int), .string (bs s.snap), lg]
  ents : EntsAt w lg s.log
  room : ∀ A n c, lg = .slice A n c → n ≤ c
theorem own_room {w : World} {B : Nat} {e : TypeId} {size n : Nat} {v : Value} {xs : List Value} (h : w.ownsRow B e size v n xs) : ∀ A k c, v = .slice A k c → k ≤ c := by
  rintro A k c rfl
  rcases h.2 with ⟨h1, rfl⟩ | ⟨g, cap, cur, h1, _, _, h2, _⟩
  · injection h1 with _ h3 h4; omega
  · injection h1 with _ h3 h4; omega
theorem StAt.keep {w w' : World} {r : Nat} {s : Ts} {lg : Value} (h : StAt w r s lg) (hk : Keep [] w w') : StAt w' r s lg := ⟨h.blk.keep hk (by simp), h.ents.keep_nil hk, h.room⟩

/-- The place of an entry, or of the next one. -/
def Ts.at (s : Ts) (k : Nat) : Option Nat := if k ≤ s.base then none else if s.log.length < k - s.base - 1 then none else some (k - s.base - 1)

set_option maxRecDepth 100000 in
set_option maxHeartbeats 1000000 in
theorem at_calls {w : World} {r : Nat} (s : Ts) (lg : Value) (h : StAt w r s lg) (k : Nat) (hk : k ≤ 4611686018427387904) (hb : s.base ≤ 4611686018427387904) :
    Calls Tryz.prog 84 #[.pointer (some ⟨r, 0, none⟩), .int .i64 (k : Int)] w fun e w' => e = .returned (.tuple #[.int .i64 (((s.at k).getD 0 : Nat) : Int), .bool (s.at k).isSome]) ∧ ∃ n, w' = w.drewN n := by
  obtain ⟨hB, ⟨A, c, rfl, -⟩, -⟩ := h
  have c2 : w.cell? ⟨r, 2, none⟩ = some (.int .i64 (s.base : Int)) := hB.cell 2
  have c5 : w.cell? ⟨r, 5, none⟩ = some (.slice A s.log.length c) := hB.cell 5
  unfold Ts.at
  clear hB
  by_cases h1 : k ≤ s.base
  · rw [if_pos h1]
    generalize s.base = b at *
    have d1 : decide ((k : Int) ≤ (b : Int)) = true := by simpa using h1
    go_enter Tryz.func84, Tryz.ntmps84
    go_wp2
    go_ret2
    exact ⟨rfl, 0, rfl⟩
  · rw [if_neg h1]
    generalize s.base = b at *
    generalize s.log.length = n at *
    have d1 : decide ((k : Int) ≤ (b : Int)) = false := by simpa using h1
    have hz : (((k - b - 1 : Nat)) : Int) = (k : Int) - (b : Int) - 1 := by omega
    have d2 : decide ((k : Int) - (b : Int) - 1 < 0) = false := by simp; omega
    by_cases h2 : n < k - b - 1
    · rw [if_pos h2]
      have d3 : decide ((n : Int) < (k : Int) - (b : Int) - 1) = true := by simp; omega
      go_enter Tryz.func84, Tryz.ntmps84
      go_wp2
      go_ret2
      exact ⟨rfl, 0, rfl⟩
    · rw [if_neg h2]
      have d3 : decide ((n : Int) < (k : Int) - (b : Int) - 1) = false := by simp; omega
      simp only [Option.getD_some, Option.isSome_some, hz]
      go_enter Tryz.func84, Tryz.ntmps84
      go_wp2
      go_ret2
      exact ⟨rfl, 0, rfl⟩

theorem entsV_app (a b : List En) : entsV (a ++ b) = entsV a ++ entsV b := by simp [entsV]
theorem entsV_len : ∀ l : List En, (entsV l).length = l.length * 3
  | [] => rfl
  | e :: l => by
    have ih := entsV_len l
    simp only [entsV, List.flatMap_cons, List.length_append, List.length_cons] at ih ⊢
    rw [ih]
    simp [En.cells]
    omega
/-- slices.Clone of entries, of which there is one at least. -/
theorem clone_calls {w : World} {v : Value} (l : List En) (hv : EntsAt w v l) (hne : l ≠ []) (hn : l.length ≤ 1000000000) :
    Calls Tryz.prog 52 #[v] w fun e w' => ∃ v', e = .returned v' ∧ w'.ownsRow w.heap.size 62 3 v' l.length (entsV l) ∧ Keep [] w w' := by
  obtain ⟨i0, hi, hz0, hz1, hz2⟩ := info_parts Tryz.info62
  obtain ⟨A, c, rfl, hcc⟩ := hv
  obtain ⟨g, o, rfl, hc⟩ := hcc hne
  clear hcc
  have qT : ∀ (w : World) (a : Option Addr) (n c n' c' : Nat), (binOp .eql 40 (.slice a n c) (.slice none n' c')).run Tryz.prog w = .ok (.bool a.isNone) w := fun w a n c n' c' => Lib.run_eql_slice_nil w _ _ a n c n' c' Tryz.underlying40
  have hlen := entsV_len l
  have hone : ∀ u ∈ entsV l, u.oneCell' = true := by
    intro u hu
    simp only [entsV, List.mem_flatMap, En.cells] at hu
    obtain ⟨e, _, he⟩ := hu
    simp only [List.mem_cons, List.not_mem_nil, or_false] at he
    rcases he with rfl | rfl | rfl <;> rfl
  have hown0 : (w.alloc (.cells #[] 62)).ownsRow w.heap.size 62 3 (.slice (some ⟨w.heap.size, 0, none⟩) 0 0) 0 [] :=
    ⟨rfl, .inr ⟨w.heap.size, 0, #[], rfl, Nat.le_refl _, heap_alloc_new _ _, Nat.le_refl _, Nat.zero_le _, rfl, by simp⟩⟩
  have HO := Lib.hid hown0
  have HC := Lib.hid hc
  have HLN := Lib.hid hlen
  have HON := Lib.hid hone
  clear hc hown0 hlen hone
  go_enter Tryz.func52, Tryz.ntmps52
  go_wp2_with (at_builtin; refine wpList_append_own _ rfl (.tmp 5) (.tmp 6) 40 rfl w.heap.size 62 i0 _ 3 32 Tryz.underlying40 hi hz0 hz1 hz2 rfl (by omega) _ _ _ rfl HO.out ⟨g, o, none⟩ l.length c (entsV l) rfl HLN.out ?c1 HON.out ?c3 ?c4 ?c5 ?_)
  case c1 =>
    intro j u hu
    have h0 := HC.out j u hu
    rw [Go.WideShapes.add_plain]
    exact cell_alloc h0 _
  case c3 => unfold maxLen; omega
  case c4 => omega
  case c5 => simp
  intro v' w2 hown2 hgrow _
  have hk2 : Keep [] w w2 := ((Keep.refl [] w).alloc _).grown hgrow (fun k hk => .inr (HO.out.lt k hk).1)
  go_wp2
  go_ret
  exact ⟨v', rfl, hown2, hk2⟩

/-- The entries from one on, at most so many. -/
def Ts.from_ (s : Ts) (k most : Nat) : List En := match s.at k with
  | some i => (s.log.drop i).take most
  | none => []
theorem Ts.at_le {s : Ts} {k i : Nat} (h : s.at k = some i) : i ≤ s.log.length := by
  unfold Ts.at at h
  split at h
  · cases h
  · split at h
    · cases h
    · injection h with h; omega
theorem EntsAt.sub {w : World} {g o c i n : Nat} {l : List En} (h : ∀ j u, (entsV l)[j]? = some u → w.cell? ⟨g, o + j, none⟩ = some u) (hi : i + n ≤ l.length) : EntsAt w (.slice (some ⟨g, o + i * 3, none⟩) n c) ((l.drop i).take n) := by
  have hl : ((l.drop i).take n).length = n := by rw [List.length_take, List.length_drop]; omega
  refine ⟨some ⟨g, o + i * 3, none⟩, c, by rw [hl], fun _ => ⟨g, o + i * 3, rfl, fun j u hu => ?_⟩⟩
  have hs : entsV l = entsV (l.take i) ++ (entsV ((l.drop i).take n) ++ entsV ((l.drop i).drop n)) := by
    rw [← entsV_app, List.take_append_drop, ← entsV_app, List.take_append_drop]
  have h1 : (entsV l)[i * 3 + j]? = some u := by
    have hj : j < (entsV ((l.drop i).take n)).length := by
      rcases Nat.lt_or_ge j (entsV ((l.drop i).take n)).length with hlt | hge
      · exact hlt
      · rw [List.getElem?_eq_none hge] at hu; cases hu
    have hx : (entsV (l.take i)).length = i * 3 := by rw [entsV_len, List.length_take]; congr 1; omega
    rw [hs, List.getElem?_append_right (by omega), hx, List.getElem?_append_left (by omega)]
    rw [← hu]
    congr 1
    omega
  have h2 := h _ _ h1
  rw [← Nat.add_assoc] at h2
  exact h2

set_option maxRecDepth 100000 in
set_option maxHeartbeats 1000000 in
theorem fromLog_calls {w : World} {r : Nat} (s : Ts) (lg : Value) (h : StAt w r s lg) (k most : Nat) (hk : k ≤ 4611686018427387904) (hm : most ≤ 4611686018427387904) (hb : s.base ≤ 4611686018427387904) (hn : s.log.length ≤ 1000000000) :
    Calls Tryz.prog 45 #[.pointer (some ⟨r, 0, none⟩), .int .i64 (k : Int), .int .i64 (most : Int)] w fun e w' => ∃ A c, e = .returned (.slice A (s.from_ k most).length c) ∧ w'.ownsRow w.heap.size 62 3 (.slice A (s.from_ k most).length c) (s.from_ k most).length (entsV (s.from_ k most)) ∧ Keep [] w w' := by
  have HA := Lib.hid (at_calls s lg h k hk hb)
  unfold Ts.from_
  cases ha : s.at k with
  | none =>
    rw [ha] at HA
    clear h
    go_enter Tryz.func45, Tryz.ntmps45
    go_wp2_with (go_at_call 84; refine HA.out.mono ?_; rintro e w1 ⟨rfl, n1, rfl⟩)
    go_ret
    exact ⟨none, 0, rfl, World.ownsRow_nil _ _ _ _, (Keep.refl _ _).drewN _⟩
  | some i =>
    rw [ha] at HA
    simp only [Option.getD_some, Option.isSome_some] at HA
    have hi := Ts.at_le ha
    obtain ⟨hB, ⟨A, c, rfl, hc⟩, hroom⟩ := h
    have hcap := hroom _ _ _ rfl
    clear hroom
    have c5 : w.cell? ⟨r, 5, none⟩ = some (.slice A s.log.length c) := hB.cell 5
    have hlen : ((s.log.drop i).take most).length = min most (s.log.length - i) := by rw [List.length_take, List.length_drop]
    obtain ⟨nn, hnn⟩ : ∃ nn : Nat, nn = min most (s.log.length - i) := ⟨_, rfl⟩
    have hz : min (most : Int) ((s.log.length : Int) - (i : Int)) = (nn : Int) := by omega
    have htk : (s.log.drop i).take most = (s.log.drop i).take nn := by
      rcases Nat.le_total most (s.log.length - i) with hle | hle
      · rw [hnn, Nat.min_eq_left hle]
      · rw [hnn, Nat.min_eq_right hle, List.take_of_length_le (by rw [List.length_drop]; exact hle), List.take_of_length_le (by rw [List.length_drop]; exact Nat.le_refl _)]
    simp only
    rw [htk]
    by_cases h0 : nn = 0
    · have d0 : decide ((nn : Int) ≤ 0) = true := by simp; omega
      have hnil : (s.log.drop i).take nn = [] := by rw [h0]; simp
      rw [hnil]
      clear hB hc hlen htk hnil
      go_enter Tryz.func45, Tryz.ntmps45
      go_wp2_with (go_at_call 84; refine HA.out.mono ?_; rintro e w1 ⟨rfl, n1, rfl⟩)
      go_ret
      exact ⟨none, 0, rfl, World.ownsRow_nil _ _ _ _, (Keep.refl _ _).drewN _⟩
    · have d0 : decide ((nn : Int) ≤ 0) = false := by simp; omega
      have hne : s.log ≠ [] := by intro h; rw [h] at hnn; simp at hnn; omega
      obtain ⟨g, o, rfl, hcc⟩ := hc hne
      have hle : i + nn ≤ s.log.length := by omega
      have hL : ((s.log.drop i).take nn).length = nn := by rw [List.length_take, List.length_drop]; omega
      have HE := Lib.hid (fun (cc : Nat) (W : World) (hk : Keep [] w W) => (EntsAt.sub (c := cc) hcc hle).keep_nil hk)
      have HC := Lib.hid (fun (cc : Nat) (W : World) (hk : Keep [] w W) => clone_calls _ (HE.out cc W hk) (by intro h; rw [h] at hL; simp at hL; omega) (by omega))
      have HL := Lib.hid hL
      generalize (s.log.drop i).take nn = L at *
      generalize s.log.length = ln at *
      clear hB hc hlen htk hcc hL HE
      rw [hnn] at HC
      go_enter Tryz.func45, Tryz.ntmps45
      go_wp2_with (first
        | (go_at_call 84; refine HA.out.mono ?_; rintro e w1 ⟨rfl, n1, rfl⟩)
        | (go_at_call 52; refine (HC.out _ _ ((Keep.refl _ _).drewN _)).mono ?_; rintro e w2 ⟨v', rfl, hown, hk2⟩))
      go_ret
      obtain ⟨A', c', rfl⟩ := own_slice hown
      exact ⟨A', c', rfl, hown, ((Keep.refl _ _).drewN _).trans hk2⟩

/-- The term of an entry that is known. -/
def Ts.termAt (s : Ts) (k : Nat) : Option Nat := if k = s.base then some s.baseTerm else match s.at k with
  | some i => (s.log[i]?).map En.term
  | none => none

set_option maxRecDepth 100000 in
set_option maxHeartbeats 1000000 in
theorem termAt_calls {w : World} {r : Nat} (s : Ts) (lg : Value) (h : StAt w r s lg) (k : Nat) (hk : k ≤ 4611686018427387904) (hb : s.base ≤ 4611686018427387904) :
    Calls Tryz.prog 47 #[.pointer (some ⟨r, 0, none⟩), .int .i64 (k : Int)] w fun e w' => e = .returned (.tuple #[.int .i64 (((s.termAt k).getD 0 : Nat) : Int), .bool (s.termAt k).isSome]) ∧ ∃ n, w' = w.drewN n := by
  have HA := Lib.hid (at_calls s lg h k hk hb)
  obtain ⟨hB, ⟨A, c, rfl, hc⟩, -⟩ := h
  have c2 : w.cell? ⟨r, 2, none⟩ = some (.int .i64 (s.base : Int)) := hB.cell 2
  have c3 : w.cell? ⟨r, 3, none⟩ = some (.int .i64 (s.baseTerm : Int)) := hB.cell 3
  have c5 : w.cell? ⟨r, 5, none⟩ = some (.slice A s.log.length c) := hB.cell 5
  unfold Ts.termAt
  by_cases h1 : k = s.base
  · rw [if_pos h1]
    simp only [Option.getD_some, Option.isSome_some]
    generalize s.base = b at *
    have d1 : ((k : Int) == (b : Int)) = true := by simp; omega
    clear hB hc HA
    go_enter Tryz.func47, Tryz.ntmps47
    go_wp2
    go_ret2
    exact ⟨rfl, 0, rfl⟩
  · rw [if_neg h1]
    have d1 : ((k : Int) == (s.base : Int)) = false := by simp; omega
    cases ha : s.at k with
    | none =>
      rw [ha] at HA
      clear hB hc
      go_enter Tryz.func47, Tryz.ntmps47
      go_wp2_with (go_at_call 84; refine HA.out.mono ?_; rintro e w1 ⟨rfl, n1, rfl⟩)
      go_ret2
      exact ⟨rfl, _, rfl⟩
    | some i =>
      rw [ha] at HA
      simp only [Option.getD_some, Option.isSome_some] at HA
      by_cases hi : i < s.log.length
      · have hne : s.log ≠ [] := by intro h; rw [h] at hi; simp at hi
        obtain ⟨g, o, rfl, hcc⟩ := hc hne
        have k1 := hcc _ _ (entsV_at s.log i hi).2.1
        rw [Nat.mul_comm, ← Nat.add_assoc] at k1
        simp only [List.getElem?_eq_getElem hi, Option.map_some, Option.getD_some, Option.isSome_some]
        generalize s.log[i].term = xt at *
        generalize s.log.length = ln at *
        have d2 : decide ((i : Int) < (ln : Int)) = true := by simp; omega
        clear hB hc hcc
        go_enter Tryz.func47, Tryz.ntmps47
        go_wp2_with (go_at_call 84; refine HA.out.mono ?_; rintro e w1 ⟨rfl, n1, rfl⟩)
        go_ret2
        exact ⟨rfl, _, rfl⟩
      · simp only [List.getElem?_eq_none (Nat.not_lt.1 hi), Option.map_none, Option.getD_none, Option.isSome_none]
        generalize s.log.length = ln at *
        have d2 : decide ((i : Int) < (ln : Int)) = false := by simp; omega
        clear hB hc
        go_enter Tryz.func47, Tryz.ntmps47
        go_wp2_with (go_at_call 84; refine HA.out.mono ?_; rintro e w1 ⟨rfl, n1, rfl⟩)
        go_ret2
        exact ⟨rfl, _, rfl⟩

end Go.Proofs.YtnlcipocobmgiaaGreatDoor
