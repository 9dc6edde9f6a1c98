/- The contracts of (*State).Last, at, From, TermAt for a state that is a part of another block. -/
import Derived.Test.YtnlcipocobmgiaaGreatDoorFrom
namespace Go.Proofs.YtnlcipocobmgiaaGreatDoor
open Go.RowKit
attribute [local go_sem] size_bs bs_append bs_extract

/-- A state's six cells, and its entries. -/
structure StO (w : World) (r o : Nat) (s : Ts) (lg : Value) : Prop where
  c0 : w.cell? ⟨r, o, none⟩ = some (.int .i64 (s.term : Int))
  c1 : w.cell? ⟨r, o + 1, none⟩ = some (.int .i64 (s.vote : Int))
  c2 : w.cell? ⟨r, o + 2, none⟩ = some (.int .i64 (s.base : Int))
  c3 : w.cell? ⟨r, o + 3, none⟩ = some (.int .i64 (s.baseTerm : Int))
  c4 : w.cell? ⟨r, o + 4, none⟩ = some (.string (bs s.snap))
  c5 : w.cell? ⟨r, o + 5, none⟩ = some lg
  ents : EntsAt w lg s.log
  room : ∀ A n c, lg = .slice A n c → n ≤ c

set_option maxRecDepth 100000 in
theorem lastO_nil_calls {w : World} {r o : Nat} (s : Ts) (lg : Value) (h : StO w r o s lg) (h0 : s.log = []) :
    Calls Tryz.prog 46 #[.pointer (some ⟨r, o, none⟩)] w fun e w' => e = .returned (.tuple #[.int .i64 (s.last.1 : Int), .int .i64 (s.last.2 : Int)]) ∧ ∃ k, w' = w.drewN k := by
  obtain ⟨q0, q1, c2, c3, q4, c5, ⟨A, c, rfl, -⟩, -⟩ := h
  have hlast : s.last = (s.base, s.baseTerm) := by simp [Ts.last, h0]
  rw [hlast]
  have hl0 : s.log.length = 0 := by simp [h0]
  rw [hl0] at c5
  clear q0 q1 q4 h0 hl0 hlast
  go_enter Tryz.func46, Tryz.ntmps46
  go_wp2
  go_quiet (fail)
  go_wp2
  go_ret2
  exact ⟨rfl, _, rfl⟩

set_option maxRecDepth 100000 in
theorem lastO_cons_calls {w : World} {r o : Nat} (s : Ts) (lg : Value) (h : StO w r o s lg) (h0 : s.log ≠ []) (hn : s.log.length ≤ 4611686018427387904) :
    Calls Tryz.prog 46 #[.pointer (some ⟨r, o, none⟩)] w fun e w' => e = .returned (.tuple #[.int .i64 (s.last.1 : Int), .int .i64 (s.last.2 : Int)]) ∧ ∃ k, w' = w.drewN k := by
  obtain ⟨q0, q1, c2, c3, q4, c5, ⟨A, c, rfl, hcc⟩, -⟩ := h
  obtain ⟨g, o', rfl, hc⟩ := hcc h0
  clear hcc
  have hpos : 0 < s.log.length := List.length_pos_iff.2 h0
  have hlast : s.last = ((s.log[s.log.length - 1]'(by omega)).index, (s.log[s.log.length - 1]'(by omega)).term) := by
    have : s.log.getLast? = some (s.log[s.log.length - 1]'(by omega)) := by rw [List.getLast?_eq_getElem?]; simp
    simp [Ts.last, this]
  obtain ⟨h1, h2, -⟩ := entsV_at s.log (s.log.length - 1) (by omega)
  rw [hlast]
  have k0 := hc _ _ h1
  have k1 := hc _ _ h2
  generalize (s.log[s.log.length - 1]'(by omega)).index = xi at *
  generalize (s.log[s.log.length - 1]'(by omega)).term = xt at *
  clear q0 q1 c2 c3 q4 h0 hlast hc h1 h2
  generalize s.log.length = n at *
  obtain ⟨k, hk⟩ : ∃ k, n = k + 1 := ⟨n - 1, by omega⟩
  have hk1 : n - 1 = k := by omega
  have hsub : IntKind.i64.wrap ((n : Int) - 1) = (k : Int) := by rw [IntWalk.i64_in _ (by omega)]; omega
  have hkn : k < n := by omega
  rw [hk1, Nat.mul_comm] at k0 k1
  rw [← Nat.add_assoc] at k1
  clear hk hk1
  have hd : decide ((0 : Int) < (n : Int)) = true := by simpa using hpos
  go_enter Tryz.func46, Tryz.ntmps46
  go_wp2
  go_quiet (fail)
  go_wp2
  go_ret2
  exact ⟨rfl, _, rfl⟩

set_option maxRecDepth 100000 in
theorem lastO_calls {w : World} {r o : Nat} (s : Ts) (lg : Value) (h : StO w r o s lg) (hn : s.log.length ≤ 4611686018427387904) :
    Calls Tryz.prog 46 #[.pointer (some ⟨r, o, none⟩)] w fun e w' => e = .returned (.tuple #[.int .i64 (s.last.1 : Int), .int .i64 (s.last.2 : Int)]) ∧ ∃ k, w' = w.drewN k := by
  by_cases h0 : s.log = []
  · exact lastO_nil_calls s lg h h0
  · exact lastO_cons_calls s lg h h0 hn

set_option maxRecDepth 100000 in
set_option maxHeartbeats 1000000 in
theorem atO_calls {w : World} {r o : Nat} (s : Ts) (lg : Value) (h : StO w r o s lg) (k : Nat) (hk : k ≤ 4611686018427387904) (hb : s.base ≤ 4611686018427387904) :
    Calls Tryz.prog 84 #[.pointer (some ⟨r, o, none⟩), .int .i64 (k : Int)] w fun e w' => e = .returned (.tuple #[.int .i64 (((s.at k).getD 0 : Nat) : Int), .bool (s.at k).isSome]) ∧ ∃ n, w' = w.drewN n := by
  obtain ⟨q0, q1, c2, c3, q4, c5, ⟨A, c, rfl, -⟩, -⟩ := h
  unfold Ts.at
  clear q0 q1 c3 q4
  by_cases h1 : k ≤ s.base
  · rw [if_pos h1]
    generalize s.base = b at *
    have d1 : decide ((k : Int) ≤ (b : Int)) = true := by simpa using h1
    go_enter Tryz.func84, Tryz.ntmps84
    go_wp2
    go_ret2
    exact ⟨rfl, 0, rfl⟩
  · rw [if_neg h1]
    generalize s.base = b at *
    generalize s.log.length = n at *
    have d1 : decide ((k : Int) ≤ (b : Int)) = false := by simpa using h1
    have hz : (((k - b - 1 : Nat)) : Int) = (k : Int) - (b : Int) - 1 := by omega
    have d2 : decide ((k : Int) - (b : Int) - 1 < 0) = false := by simp; omega
    by_cases h2 : n < k - b - 1
    · rw [if_pos h2]
      have d3 : decide ((n : Int) < (k : Int) - (b : Int) - 1) = true := by simp; omega
      go_enter Tryz.func84, Tryz.ntmps84
      go_wp2
      go_ret2
      exact ⟨rfl, 0, rfl⟩
    · rw [if_neg h2]
      have d3 : decide ((n : Int) < (k : Int) - (b : Int) - 1) = false := by simp; omega
      simp only [Option.getD_some, Option.isSome_some, hz]
      go_enter Tryz.func84, Tryz.ntmps84
      go_wp2
      go_ret2
      exact ⟨rfl, 0, rfl⟩

set_option maxRecDepth 100000 in
set_option maxHeartbeats 1000000 in
theorem fromO_calls {w : World} {r o : Nat} (s : Ts) (lg : Value) (h : StO w r o s lg) (k most : Nat) (hk : k ≤ 4611686018427387904) (hm : most ≤ 4611686018427387904) (hb : s.base ≤ 4611686018427387904) (hn : s.log.length ≤ 1000000000) :
    Calls Tryz.prog 45 #[.pointer (some ⟨r, o, none⟩), .int .i64 (k : Int), .int .i64 (most : Int)] w fun e w' => ∃ A c, e = .returned (.slice A (s.from_ k most).length c) ∧ w'.ownsRow w.heap.size 62 3 (.slice A (s.from_ k most).length c) (s.from_ k most).length (entsV (s.from_ k most)) ∧ Keep [] w w' := by
  have HA := Lib.hid (atO_calls s lg h k hk hb)
  unfold Ts.from_
  cases ha : s.at k with
  | none =>
    rw [ha] at HA
    clear h
    go_enter Tryz.func45, Tryz.ntmps45
    go_wp2_with (go_at_call 84; refine HA.out.mono ?_; rintro e w1 ⟨rfl, n1, rfl⟩)
    go_ret
    exact ⟨none, 0, rfl, World.ownsRow_nil _ _ _ _, (Keep.refl _ _).drewN _⟩
  | some i =>
    rw [ha] at HA
    simp only [Option.getD_some, Option.isSome_some] at HA
    have hi := Ts.at_le ha
    obtain ⟨q0, q1, c2, c3, q4, c5, ⟨A, c, rfl, hc⟩, hroom⟩ := h
    have hcap := hroom _ _ _ rfl
    clear hroom
    have hlen : ((s.log.drop i).take most).length = min most (s.log.length - i) := by rw [List.length_take, List.length_drop]
    obtain ⟨nn, hnn⟩ : ∃ nn : Nat, nn = min most (s.log.length - i) := ⟨_, rfl⟩
    have hz : min (most : Int) ((s.log.length : Int) - (i : Int)) = (nn : Int) := by omega
    have htk : (s.log.drop i).take most = (s.log.drop i).take nn := by
      rcases Nat.le_total most (s.log.length - i) with hle | hle
      · rw [hnn, Nat.min_eq_left hle]
      · rw [hnn, Nat.min_eq_right hle, List.take_of_length_le (by rw [List.length_drop]; exact hle), List.take_of_length_le (by rw [List.length_drop]; exact Nat.le_refl _)]
    simp only
    rw [htk]
    by_cases h0 : nn = 0
    · have d0 : decide ((nn : Int) ≤ 0) = true := by simp; omega
      have hnil : (s.log.drop i).take nn = [] := by rw [h0]; simp
      rw [hnil]
      clear q0 q1 c2 c3 q4 hc hlen htk hnil
      go_enter Tryz.func45, Tryz.ntmps45
      go_wp2_with (go_at_call 84; refine HA.out.mono ?_; rintro e w1 ⟨rfl, n1, rfl⟩)
      go_ret
      exact ⟨none, 0, rfl, World.ownsRow_nil _ _ _ _, (Keep.refl _ _).drewN _⟩
    · have d0 : decide ((nn : Int) ≤ 0) = false := by simp; omega
      have hne : s.log ≠ [] := by intro h; rw [h] at hnn; simp at hnn; omega
      obtain ⟨g, o', rfl, hcc⟩ := hc hne
      have hle : i + nn ≤ s.log.length := by omega
      have hL : ((s.log.drop i).take nn).length = nn := by rw [List.length_take, List.length_drop]; omega
      have HE := Lib.hid (fun (cc : Nat) (W : World) (hk : Keep [] w W) => (EntsAt.sub (c := cc) hcc hle).keep_nil hk)
      have HC := Lib.hid (fun (cc : Nat) (W : World) (hk : Keep [] w W) => clone_calls _ (HE.out cc W hk) (by intro h; rw [h] at hL; simp at hL; omega) (by omega))
      have HL := Lib.hid hL
      generalize (s.log.drop i).take nn = L at *
      generalize s.log.length = ln at *
      clear q0 q1 c2 c3 q4 hc hlen htk hcc hL HE
      rw [hnn] at HC
      go_enter Tryz.func45, Tryz.ntmps45
      go_wp2_with (first
        | (go_at_call 84; refine HA.out.mono ?_; rintro e w1 ⟨rfl, n1, rfl⟩)
        | (go_at_call 52; refine (HC.out _ _ ((Keep.refl _ _).drewN _)).mono ?_; rintro e w2 ⟨v', rfl, hown, hk2⟩))
      go_ret
      obtain ⟨A', c', rfl⟩ := own_slice hown
      exact ⟨A', c', rfl, hown, ((Keep.refl _ _).drewN _).trans hk2⟩

set_option maxRecDepth 100000 in
set_option maxHeartbeats 1000000 in
theorem termAtO_calls {w : World} {r o : Nat} (s : Ts) (lg : Value) (h : StO w r o s lg) (k : Nat) (hk : k ≤ 4611686018427387904) (hb : s.base ≤ 4611686018427387904) :
    Calls Tryz.prog 47 #[.pointer (some ⟨r, o, none⟩), .int .i64 (k : Int)] w fun e w' => e = .returned (.tuple #[.int .i64 (((s.termAt k).getD 0 : Nat) : Int), .bool (s.termAt k).isSome]) ∧ ∃ n, w' = w.drewN n := by
  have HA := Lib.hid (atO_calls s lg h k hk hb)
  obtain ⟨q0, q1, c2, c3, q4, c5, ⟨A, c, rfl, hc⟩, -⟩ := h
  unfold Ts.termAt
  by_cases h1 : k = s.base
  · rw [if_pos h1]
    simp only [Option.getD_some, Option.isSome_some]
    generalize s.base = b at *
    have d1 : ((k : Int) == (b : Int)) = true := by simp; omega
    clear q0 q1 q4 c5 hc HA
    go_enter Tryz.func47, Tryz.ntmps47
    go_wp2
    go_ret2
    exact ⟨rfl, 0, rfl⟩
  · rw [if_neg h1]
    have d1 : ((k : Int) == (s.base : Int)) = false := by simp; omega
    cases ha : s.at k with
    | none =>
      rw [ha] at HA
      clear q0 q1 c3 q4 hc
      go_enter Tryz.func47, Tryz.ntmps47
      go_wp2_with (go_at_call 84; refine HA.out.mono ?_; rintro e w1 ⟨rfl, n1, rfl⟩)
      go_ret2
      exact ⟨rfl, _, rfl⟩
    | some i =>
      rw [ha] at HA
      simp only [Option.getD_some, Option.isSome_some] at HA
      by_cases hi : i < s.log.length
      · have hne : s.log ≠ [] := by intro h; rw [h] at hi; simp at hi
        obtain ⟨g, o', rfl, hcc⟩ := hc hne
        have k1 := hcc _ _ (entsV_at s.log i hi).2.1
        rw [Nat.mul_comm, ← Nat.add_assoc] at k1
        simp only [List.getElem?_eq_getElem hi, Option.map_some, Option.getD_some, Option.isSome_some]
        generalize s.log[i].term = xt at *
        generalize s.log.length = ln at *
        have d2 : decide ((i : Int) < (ln : Int)) = true := by simp; omega
        clear q0 q1 c3 q4 hc hcc
        go_enter Tryz.func47, Tryz.ntmps47
        go_wp2_with (go_at_call 84; refine HA.out.mono ?_; rintro e w1 ⟨rfl, n1, rfl⟩)
        go_ret2
        exact ⟨rfl, _, rfl⟩
      · simp only [List.getElem?_eq_none (Nat.not_lt.1 hi), Option.map_none, Option.getD_none, Option.isSome_none]
        generalize s.log.length = ln at *
        have d2 : decide ((i : Int) < (ln : Int)) = false := by simp; omega
        clear q0 q1 c3 q4 hc
        go_enter Tryz.func47, Tryz.ntmps47
        go_wp2_with (go_at_call 84; refine HA.out.mono ?_; rintro e w1 ⟨rfl, n1, rfl⟩)
        go_ret2
        exact ⟨rfl, _, rfl⟩

end Go.Proofs.YtnlcipocobmgiaaGreatDoor
/- Words for a raft node: the plain node, where it lies in memory, what a call may change. -/
namespace Go.Proofs.YtnlcipocobmgiaaGreatDoor
open Go.RowKit

/-- A message. -/
structure Mg where
  kind : Int
  frm : Int
  to_ : Int
  term : Int
  index : Int
  logTerm : Int
  commit : Int
  ok : Bool
  ents : List En
  snap : List UInt8
def Mg.cells (m : Mg) (v : Value) : List Value := [.int .i64 m.kind, .int .i64 m.frm, .int .i64 m.to_, .int .i64 m.term, .int .i64 m.index, .int .i64 m.logTerm, .int .i64 m.commit, .bool m.ok, v, .string (bs m.snap)]
def msgsV (l : List (Mg × Value)) : List Value := l.flatMap fun p => p.1.cells p.2
theorem msgsV_app (a b : List (Mg × Value)) : msgsV (a ++ b) = msgsV a ++ msgsV b := by simp [msgsV]
theorem msgsV_len : ∀ l : List (Mg × Value), (msgsV l).length = l.length * 10
  | [] => rfl
  | p :: l => by
    have ih := msgsV_len l
    simp only [msgsV, List.flatMap_cons, List.length_append, List.length_cons] at ih ⊢
    rw [ih]
    simp [Mg.cells]
    omega
theorem msgsV_at (ps : List (Mg × Value)) (k : Nat) (h : k < ps.length) (i : Nat) (hi : i < 10) : (msgsV ps)[k * 10 + i]? = (ps[k].1.cells ps[k].2)[i]? := by
  induction ps generalizing k with
  | nil => simp at h
  | cons p ps ih =>
    have hl : (p.1.cells p.2).length = 10 := rfl
    cases k with
    | zero => simp only [msgsV, List.flatMap_cons, Nat.zero_mul, Nat.zero_add, List.getElem_cons_zero]; rw [List.getElem?_append_left (by omega)]
    | succ k =>
      simp only [msgsV, List.flatMap_cons, List.getElem_cons_succ]
      rw [List.getElem?_append_right (by omega), hl, show (k + 1) * 10 + i - 10 = k * 10 + i by omega]
      exact ih k (by simpa using h)

/-- A node: number, of how many, its state, its role .. -/
structure Rn where
  id : Nat
  n : Nat
  st : Ts
  role : Nat
  leader : Int
  commit : Nat
  applied : Nat
  timer : Nat
  votes : List Bool
  mt : List Nat
  nx : List Nat
  out : List Mg
  broken : Int

/-- Where it lies: its block, the disk's and its map's; the entries' slice, the three arrays, the messages' slice, the messages with the values of their entries. -/
structure Nv where
  r : Nat
  b : Nat
  m : Nat
  lg : Value
  vo : Option Nat
  ma : Option Nat
  ne : Option Nat
  ou : Value
  outs : List (Mg × Value)
def arrV (o : Option Nat) (n : Nat) : Value := match o with
  | none => .slice none 0 0
  | some g => .slice (some ⟨g, 0, none⟩) n n
def ArrAt (w : World) (t : TypeId) (o : Option Nat) (xs : List Value) : Prop := match o with
  | none => xs = []
  | some g => Blk w g t xs.toArray
def nums (l : List Nat) : List Value := l.map fun (k : Nat) => Value.int .i64 (k : Int)
def bools (l : List Bool) : List Value := l.map Value.bool
def Nv.fp (V : Nv) : List Nat := V.r :: V.b :: V.m :: (V.lg.ownBlock.toList ++ (V.vo.toList ++ (V.ma.toList ++ (V.ne.toList ++ V.ou.ownBlock.toList))))
def nodeCells (V : Nv) (N : Rn) : Array Value :=
  #[.pointer (some ⟨V.b, 0, none⟩), .int .i64 (N.id : Int), .int .i64 (N.n : Int), .int .i64 (N.st.term : Int), .int .i64 (N.st.vote : Int), .int .i64 (N.st.base : Int), .int .i64 (N.st.baseTerm : Int), .string (bs N.st.snap), V.lg,
    .int .i64 (N.role : Int), .int .i64 N.leader, .int .i64 (N.commit : Int), .int .i64 (N.applied : Int), .int .i64 (N.timer : Int), arrV V.vo N.votes.length, arrV V.ma N.mt.length, arrV V.ne N.nx.length, V.ou, .int .i64 N.broken]

/-- What lies beside the node's own block. -/
structure NRest (w : World) (V : Nv) (log : List En) (votes : List Bool) (mt nx : List Nat) (out : List Mg) (D : Dk) : Prop where
  disk : DiskAt w V.b V.m D
  log : w.ownsRow 0 62 3 V.lg log.length (entsV log)
  vo : ArrAt w 4 V.vo (bools votes)
  ma : ArrAt w 3 V.ma (nums mt)
  ne : ArrAt w 3 V.ne (nums nx)
  dis : ∀ g, V.ma = some g → V.ne ≠ some g
  ou : w.ownsRow 0 56 10 V.ou V.outs.length (msgsV V.outs)
  outs : V.outs.map Prod.fst = out
  es : ∀ p ∈ V.outs, EntsAt w p.2 p.1.ents ∧ ∀ k, p.2.ownBlock = some k → k < w.heap.size ∧ k ∉ V.fp
  tab : Tab w
  tn : 0 ∉ V.fp
structure NodeAt (w : World) (V : Nv) (N : Rn) (D : Dk) : Prop where
  blk : Blk w V.r 81 (nodeCells V N)
  rest : NRest w V N.st.log N.votes N.mt N.nx N.out D

theorem EntsAt.keepB {M : List Nat} {w w' : World} {v : Value} {l : List En} (h : EntsAt w v l) (hk : Keep M w w') (hM : ∀ k, v.ownBlock = some k → k ∉ M) : EntsAt w' v l := by
  obtain ⟨A, c, rfl, hc⟩ := h
  refine ⟨A, c, rfl, fun hne => ?_⟩
  obtain ⟨g, o, rfl, hcc⟩ := hc hne
  refine ⟨g, o, rfl, fun j u hu => ?_⟩
  have h1 := hcc j u hu
  have hlt := World.block_lt_of_cell? _ _ h1
  rw [hk.cell (p := ⟨g, o + j, none⟩) hlt (hM g rfl)]
  exact h1
theorem ArrAt.keep {M : List Nat} {w w' : World} {t : TypeId} {o : Option Nat} {xs : List Value} (h : ArrAt w t o xs) (hk : Keep M w w') (hM : ∀ g, o = some g → g ∉ M) : ArrAt w' t o xs := by
  cases o with
  | none => exact h
  | some g => exact Blk.keep h hk (hM g rfl)
theorem ArrAt.nil (w : World) (t : TypeId) : ArrAt w t none [] := rfl
theorem own_lt {w : World} {B : Nat} {e : TypeId} {size n : Nat} {v : Value} {xs : List Value} (h : w.ownsRow B e size v n xs) {k : Nat} (hk : v.ownBlock = some k) : k < w.heap.size := (h.lt k hk).2

section
variable {w w' : World} {V V' : Nv} {N N' : Rn} {D D' : Dk} {log : List En} {votes : List Bool} {mt nx : List Nat} {out : List Mg}
theorem Nv.mem {V : Nv} {x : Nat} : x ∈ V.fp ↔ x = V.r ∨ x = V.b ∨ x = V.m ∨ V.lg.ownBlock = some x ∨ V.vo = some x ∨ V.ma = some x ∨ V.ne = some x ∨ V.ou.ownBlock = some x := by
  simp [Nv.fp, Option.mem_toList]

/-- Blocks of the node's parts lie in memory. -/
theorem NodeAt.fp_lt (h : NodeAt w V N D) : ∀ x ∈ V.fp, x < w.heap.size := by
  intro x hx
  rcases Nv.mem.1 hx with rfl | rfl | rfl | hx | hx | hx | hx | hx
  · exact h.blk.lt
  · exact h.rest.disk.blk.lt
  · exact h.rest.disk.map.lt
  · exact own_lt h.rest.log hx
  · have := h.rest.vo; rw [hx] at this; exact Blk.lt this
  · have := h.rest.ma; rw [hx] at this; exact Blk.lt this
  · have := h.rest.ne; rw [hx] at this; exact Blk.lt this
  · exact own_lt h.rest.ou hx

/-- Another part of memory changes: the node doesn't. -/
theorem NodeAt.keep {M : List Nat} (h : NodeAt w V N D) (hk : Keep M w w') (hM : ∀ x ∈ M, x ∉ V.fp ∧ (∀ p ∈ V.outs, p.2.ownBlock ≠ some x) ∧ x ≠ 0) : NodeAt w' V N D := by
  have hn : ∀ x, x ∈ V.fp → x ∉ M := fun x hx hm => (hM x hm).1 hx
  have R := h.rest
  refine ⟨h.blk.keep hk (hn _ (Nv.mem.2 (.inl rfl))), R.disk.keep hk (hn _ (Nv.mem.2 (.inr (.inl rfl)))) (hn _ (Nv.mem.2 (.inr (.inr (.inl rfl))))), hk.owns R.log (fun k e => hn k (Nv.mem.2 (.inr (.inr (.inr (.inl e)))))), R.vo.keep hk (fun g e => hn g (Nv.mem.2 (.inr (.inr (.inr (.inr (.inl e))))))),
    R.ma.keep hk (fun g e => hn g (Nv.mem.2 (.inr (.inr (.inr (.inr (.inr (.inl e)))))))), R.ne.keep hk (fun g e => hn g (Nv.mem.2 (.inr (.inr (.inr (.inr (.inr (.inr (.inl e))))))))), R.dis, hk.owns R.ou (fun k e => hn k (Nv.mem.2 (.inr (.inr (.inr (.inr (.inr (.inr (.inr e))))))))), R.outs, ?_, R.tab.keep hk (fun hm => (hM _ hm).2.2 rfl), R.tn⟩
  intro p hp
  have hp2 := R.es p hp
  exact ⟨hp2.1.keepB hk (fun k e hm => (hM k hm).2.1 p hp e), fun k e => ⟨Nat.lt_of_lt_of_le (hp2.2 k e).1 hk.size, (hp2.2 k e).2⟩⟩
theorem NodeAt.grow (h : NodeAt w V N D) (hk : Keep [] w w') : NodeAt w' V N D := h.keep hk (by simp)

/-- The node's own block is none of the others. -/
theorem NodeAt.r_ne (h : NodeAt w V N D) : V.r ≠ V.b ∧ V.r ≠ V.m ∧ V.lg.ownBlock ≠ some V.r ∧ V.vo ≠ some V.r ∧ V.ma ≠ some V.r ∧ V.ne ≠ some V.r ∧ V.ou.ownBlock ≠ some V.r := by
  refine ⟨h.blk.ne_ h.rest.disk.blk (by decide), fun e => h.rest.disk.map.ne_ h.blk e.symm, own_blk_ne h.rest.log h.blk (by decide), fun e => ?_, fun e => ?_, fun e => ?_, own_blk_ne h.rest.ou h.blk (by decide)⟩
  · have := h.rest.vo; rw [e] at this; exact Blk.ne_ this h.blk (by decide) rfl
  · have := h.rest.ma; rw [e] at this; exact Blk.ne_ this h.blk (by decide) rfl
  · have := h.rest.ne; rw [e] at this; exact Blk.ne_ this h.blk (by decide) rfl

/-- The node's own block changes alone: what lies beside it stays. -/
theorem NodeAt.rest_keep (h : NodeAt w V N D) (hk : Keep [V.r] w w') : NRest w' V N.st.log N.votes N.mt N.nx N.out D := by
  obtain ⟨h1, h2, h3, h4, h5, h6, h7⟩ := h.r_ne
  have R := h.rest
  have hr : ∀ k, k ≠ V.r → k ∉ [V.r] := fun k hk => by simpa using hk
  refine ⟨R.disk.keep hk (hr _ (Ne.symm h1)) (hr _ (Ne.symm h2)), hk.owns R.log (fun k e => hr k (by rintro rfl; exact h3 e)), R.vo.keep hk (fun g e => hr g (by rintro rfl; exact h4 e)), R.ma.keep hk (fun g e => hr g (by rintro rfl; exact h5 e)), R.ne.keep hk (fun g e => hr g (by rintro rfl; exact h6 e)), R.dis, hk.owns R.ou (fun k e => hr k (by rintro rfl; exact h7 e)), R.outs, ?_, R.tab.keep hk (hr _ (fun e => R.tn (Nv.mem.2 (.inl e)))), R.tn⟩
  intro p hp
  have hp2 := R.es p hp
  exact ⟨hp2.1.keepB hk (fun k e => hr k (fun e' => (hp2.2 k e).2 (Nv.mem.2 (.inl e')))), fun k e => ⟨Nat.lt_of_lt_of_le (hp2.2 k e).1 hk.size, (hp2.2 k e).2⟩⟩
/-- .. so a change of the numbers in the node's block. -/
theorem NodeAt.setR (h : NodeAt w V N D) (hk : Keep [V.r] w w') (hB : Blk w' V.r 81 (nodeCells V N')) (h1 : N'.st.log = N.st.log) (h2 : N'.votes = N.votes) (h3 : N'.mt = N.mt) (h4 : N'.nx = N.nx) (h5 : N'.out = N.out) : NodeAt w' V N' D := by
  refine ⟨hB, ?_⟩
  rw [h1, h2, h3, h4, h5]
  exact h.rest_keep hk
/-- The disk changes. -/
theorem NodeAt.setDisk (h : NodeAt w V N D) (hk : Keep [V.b, V.m] w w') (hD : DiskAt w' V.b V.m D') : NodeAt w' V N D' := by
  obtain ⟨h1, h2, -⟩ := h.r_ne
  have R := h.rest
  have hb := R.disk.blk
  have hm := R.disk.map
  have hr : ∀ k, k ≠ V.b → k ≠ V.m → k ∉ [V.b, V.m] := fun k h1 h2 => by simp [h1, h2]
  have arr : ∀ {t : TypeId} {o : Option Nat} {xs : List Value}, t ≠ 108 → ArrAt w t o xs → ArrAt w' t o xs := by
    intro t o xs ht ha
    refine ha.keep hk (fun g e => ?_)
    subst e
    exact hr g (Blk.ne_ ha hb ht) (fun e => by subst e; exact hm.ne_ ha rfl)
  have own : ∀ {e : TypeId} {size n : Nat} {v : Value} {xs : List Value}, e ≠ 108 → w.ownsRow 0 e size v n xs → w'.ownsRow 0 e size v n xs := by
    intro e size n v xs ht ho
    refine hk.owns ho (fun k e => hr k (fun e' => own_blk_ne ho hb ht (e' ▸ e)) (fun e' => ?_))
    subst e'
    rcases ho.2 with ⟨rfl, _⟩ | ⟨g', cap, cur, rfl, _, hh, _⟩
    · simp [Value.ownBlock] at e
    · have : g' = V.m := by simpa [Value.ownBlock] using e
      subst this
      obtain ⟨es, c, h3, _⟩ := hm
      rw [h3] at hh
      cases hh
  refine ⟨h.blk.keep hk (hr _ h1 h2), hD, own (by decide) R.log, arr (by decide) R.vo, arr (by decide) R.ma, arr (by decide) R.ne, R.dis, own (by decide) R.ou, R.outs, ?_, R.tab.keep hk (hr _ (fun e => R.tn (Nv.mem.2 (.inr (.inl e)))) (fun e => R.tn (Nv.mem.2 (.inr (.inr (.inl e)))))), R.tn⟩
  intro p hp
  have hp2 := R.es p hp
  exact ⟨hp2.1.keepB hk (fun k e => hr k (fun e' => (hp2.2 k e).2 (Nv.mem.2 (.inr (.inl e')))) (fun e' => (hp2.2 k e).2 (Nv.mem.2 (.inr (.inr (.inl e')))))), fun k e => ⟨Nat.lt_of_lt_of_le (hp2.2 k e).1 hk.size, (hp2.2 k e).2⟩⟩

/-- A slice that fits. -/
def Roomy (v : Value) : Prop := ∀ A n c, v = .slice A n c → n ≤ c
theorem roomy_nil : Roomy (.slice none 0 0) := fun A n c e => by injection e; omega
/-- What a call of the node's may change; what the node is made of behind it. -/
structure NodeTo (V V' : Nv) (w w' : World) : Prop where
  keep : Keep V.fp w w'
  fp : ∀ x ∈ V'.fp, x ∈ V.fp ∨ w.heap.size ≤ x
  es : ∀ p ∈ V'.outs, p ∈ V.outs ∨ (∀ k, p.2.ownBlock = some k → w.heap.size ≤ k) ∧ Roomy p.2
  r : V'.r = V.r
  b : V'.b = V.b
  m : V'.m = V.m
theorem NodeTo.refl (V : Nv) (w : World) : NodeTo V V w w := ⟨Keep.refl _ _, fun _ h => .inl h, fun _ h => .inl h, rfl, rfl, rfl⟩
theorem NodeTo.trans {a b c : World} {U : Nv} (h : NodeTo U V a b) (k : NodeTo V V' b c) : NodeTo U V' a c :=
  ⟨h.keep.trans' k.keep h.fp, fun x hx => by
    rcases k.fp x hx with h1 | h1
    · exact h.fp x h1
    · exact .inr (Nat.le_trans h.keep.size h1), fun p hp => by
    rcases k.es p hp with h1 | h1
    · exact h.es p h1
    · exact .inr ⟨fun q hq => Nat.le_trans h.keep.size (h1.1 q hq), h1.2⟩, k.r.trans h.r, k.b.trans h.b, k.m.trans h.m⟩
theorem NodeTo.of_keep {M : List Nat} (V : Nv) (hk : Keep M w w') (hM : ∀ x ∈ M, x ∈ V.fp) : NodeTo V V w w' := ⟨hk.mono (fun x hx => .inl (hM x hx)), fun _ h => .inl h, fun _ h => .inl h, rfl, rfl, rfl⟩
theorem NodeTo.setR (V : Nv) (hk : Keep [V.r] w w') : NodeTo V V w w' := .of_keep V hk (fun x hx => by simp at hx; exact Nv.mem.2 (.inl hx))
theorem NodeTo.setDisk (V : Nv) (hk : Keep [V.b, V.m] w w') : NodeTo V V w w' := .of_keep V hk (fun x hx => by
  simp at hx
  rcases hx with h | h
  · exact Nv.mem.2 (.inr (.inl h))
  · exact Nv.mem.2 (.inr (.inr (.inl h))))
theorem NodeTo.grow (V : Nv) (hk : Keep [] w w') : NodeTo V V w w' := .of_keep V hk (by simp)

/-- The state that the node keeps, as its methods see it. -/
theorem NodeAt.sto (h : NodeAt w V N D) : StO w V.r 3 N.st V.lg :=
  ⟨h.blk.cell 3, h.blk.cell 4, h.blk.cell 5, h.blk.cell 6, h.blk.cell 7, h.blk.cell 8, own_ents h.rest.log, own_room h.rest.log⟩
end

end Go.Proofs.YtnlcipocobmgiaaGreatDoor
/- The plain raft node: what its methods make of it. -/
namespace Go.Proofs.YtnlcipocobmgiaaGreatDoor
open Go.RowKit

def Rn.send (N : Rn) (m : Mg) : Rn := { N with out := N.out ++ [{ m with frm := (N.id : Int), term := (N.st.term : Int) }] }
/-- What the leader sends to a node that lacks something. -/
def Rn.lack (N : Rn) (i : Nat) : Mg := match N.st.termAt (N.nx.getD i 0 - 1) with
  | some t => ⟨3, (N.id : Int), (i : Int), (N.st.term : Int), ((N.nx.getD i 0 - 1 : Nat) : Int), (t : Int), (N.commit : Int), false, N.st.from_ (N.nx.getD i 0) 4, []⟩
  | none => ⟨5, (N.id : Int), (i : Int), (N.st.term : Int), (N.st.base : Int), (N.st.baseTerm : Int), (N.commit : Int), false, [], N.st.snap⟩
def Rn.lacks (N : Rn) (i : Nat) : Rn := { N with out := N.out ++ [N.lack i] }
/-- All nodes below k but one. -/
def others (k id : Nat) : List Nat := (List.range k).filter (fun i => i != id)
theorem others_succ (k id : Nat) : others (k + 1) id = if k = id then others k id else others k id ++ [k] := by
  unfold others
  rw [List.range_succ, List.filter_append]
  split
  · rename_i h; simp [h]
  · rename_i h; simp [h]
def Rn.told (N : Rn) (k : Nat) : Rn := { N with out := N.out ++ (others k N.id).map N.lack }
def Rn.sendAll (N : Rn) : Rn := N.told N.n
theorem Rn.lack_out (N : Rn) (o : List Mg) (i : Nat) : ({ N with out := o } : Rn).lack i = N.lack i := rfl
/-- How many have an entry. -/
def cnt (l : List Nat) (k : Nat) : Nat := (l.filter (fun x => k ≤ x)).length
def Rn.adv (N : Rn) : List En → Nat
  | [] => N.commit
  | x :: l => if x.term ≠ N.st.term ∨ x.index ≤ N.commit then N.commit else if N.n < 2 * cnt N.mt x.index then x.index else N.adv l
def Rn.advance (N : Rn) : Rn := { N with commit := N.adv N.st.log.reverse }
/-- The entry that the leader appends. -/
def Rn.newEn (N : Rn) (cmd : List UInt8) : En := ⟨N.st.last.1 + 1, N.st.term, cmd⟩
def Rn.put1 (N : Rn) (cmd : List UInt8) : Rn := { N with st := { N.st with log := N.st.log ++ [N.newEn cmd] }, mt := N.mt.set N.id (N.newEn cmd).index }
def Rn.appended (N : Rn) (cmd : List UInt8) : Rn := (N.put1 cmd).sendAll.advance
def Rn.follow (N : Rn) (l : Int) : Rn := { N with role := 0, leader := l, votes := [], mt := [], nx := [] }
def Rn.keepTerm (N : Rn) (t v : Nat) : Rn := { N with st := { N.st with term := t, vote := v } }
def trues (l : List Bool) : Nat := (l.filter id).length
def Rn.lead (N : Rn) : Rn := { N with role := 2, leader := (N.id : Int), votes := [], mt := List.replicate N.n 0, nx := List.replicate N.n (N.st.last.1 + 1) }
def Rn.won (N : Rn) : Rn := N.lead.appended []
/-- What a candidate asks. -/
def Rn.ask (N : Rn) (i : Nat) : Mg := ⟨1, (N.id : Int), (i : Int), (N.st.term : Int), (N.st.last.1 : Int), (N.st.last.2 : Int), 0, false, [], []⟩
def Rn.stands (N : Rn) : Rn := { (N.keepTerm (N.st.term + 1) (N.id + 1)).follow (-1) with role := 1, timer := 0, votes := (List.replicate N.n false).set N.id true }
def Rn.asked (N : Rn) (k : Nat) : Rn := { N with out := N.out ++ (others k N.id).map N.ask }
/-- What is asked of a node's numbers, so that no sum is too great. -/
structure Rn.Sm (N : Rn) : Prop where
  n : N.n ≤ 5
  id : N.id < N.n
  term : N.st.term ≤ 2199023255552
  base : N.st.base ≤ 2199023255552
  baseTerm : N.st.baseTerm ≤ 2199023255552
  snap : N.st.snap.length ≤ 1000000
  log : N.st.log.length ≤ 1000000
  ents : ∀ e ∈ N.st.log, e.index ≤ 2199023255552 ∧ e.term ≤ 2199023255552 ∧ e.cmd.length ≤ 100000
  commit : N.commit ≤ 2199023255552
  applied : N.applied ≤ 2199023255552
  timer : N.timer ≤ 1000000
  out : N.out.length ≤ 1000000
  mt : N.mt.length = N.n ∨ N.mt = []
  nx : N.nx.length = N.n ∨ N.nx = []
  votes : N.votes.length = N.n ∨ N.votes = []
  nxs : ∀ x ∈ N.nx, 1 ≤ x ∧ x ≤ 2199023255553
  mts : ∀ x ∈ N.mt, x ≤ 2199023255552

theorem Ts.last_le {s : Ts} {K : Nat} (hb : s.base ≤ K) (he : ∀ e ∈ s.log, e.index ≤ K) : s.last.1 ≤ K := by
  unfold Ts.last
  split
  · rename_i e h
    exact he e (List.mem_of_getLast? h)
  · exact hb
theorem Ts.last_term_le {s : Ts} {K : Nat} (hb : s.baseTerm ≤ K) (he : ∀ e ∈ s.log, e.term ≤ K) : s.last.2 ≤ K := by
  unfold Ts.last
  split
  · rename_i e h
    exact he e (List.mem_of_getLast? h)
  · exact hb

end Go.Proofs.YtnlcipocobmgiaaGreatDoor
