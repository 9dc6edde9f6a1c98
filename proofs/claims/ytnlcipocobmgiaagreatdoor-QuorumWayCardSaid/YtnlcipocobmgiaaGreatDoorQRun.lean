/- A net in a quiet run; the contracts of Tick, Propose, Deliver and Round there. -/
import Derived.Test.YtnlcipocobmgiaaGreatDoorQPlain
namespace Go.Proofs.YtnlcipocobmgiaaGreatDoor
open Go.RowKit
attribute [local go_sem] size_bs bs_append bs_extract

structure NetRun (w0 w : World) (q : Nat) (s : Sn) : Prop where
  is_ : ∃ P, NetIn w0 w q P s.way ∧ P.length = s.ns.length ∧ ∀ (i : Nat) (N : Rn), s.ns[i]? = some N → ∃ D, P[i]? = some (D, some N) ∧ Holds D s.k N.st
section
variable {w0 w w' : World} {q : Nat} {P : List Pq} {way : List Mg} {N N' : Rn} {D D' : Dk} {s s' : Sn}
theorem NetRun.grow (h : NetRun w0 w q s) (hk : Keep [] w w') : NetRun w0 w' q s := by
  obtain ⟨P, h1, h2, h3⟩ := h.is_
  exact ⟨P, h1.grow hk, h2, h3⟩
theorem NetIn.cells (h : NetIn w0 w q P way) : (∃ na, w.cell? ⟨q, 0, none⟩ = some (.slice (some ⟨na, 0, none⟩) P.length P.length)) ∧ ∃ A c, w.cell? ⟨q, 2, none⟩ = some (.slice A way.length c) := by
  obtain ⟨⟨Q, L, hA, rfl, rfl, rfl, -⟩, -⟩ := h
  obtain ⟨A, c, hs⟩ := own_slice hA.wy
  refine ⟨⟨Q.na, ?_⟩, A, c, ?_⟩
  · rw [List.length_map]; exact hA.qb.cell 0
  · rw [List.length_map, ← hs]; exact hA.qb.cell 2
theorem Sn.put_run {i : Nat} {N : Rn} {way : List Mg} (h : s.put i N way = some s') (hi : i < s.ns.length) (hP : P.length = s.ns.length) (hH : ∀ (i : Nat) (N : Rn), s.ns[i]? = some N → ∃ D, P[i]? = some (D, some N) ∧ Holds D s.k N.st) (hD : Holds D (s.k - 200) N.st) (hN : NetIn w0 w q (P.set i (D, some { N with out := [] })) (way ++ N.out)) : NetRun w0 w q s' := by
  unfold Sn.put at h
  split at h
  · obtain rfl := Option.some.inj h
    refine ⟨_, hN, by simp [hP], fun j M hj => ?_⟩
    by_cases hij : i = j
    · subst hij
      rw [List.getElem?_set_self (by simpa using hi)] at hj
      obtain rfl := Option.some.inj hj
      exact ⟨D, by rw [List.getElem?_set_self (by omega)], hD⟩
    · rw [List.getElem?_set_ne hij] at hj
      obtain ⟨D2, h1, h2⟩ := hH j M hj
      exact ⟨D2, by rw [List.getElem?_set_ne hij]; exact h1, h2.mono (by simp)⟩
  · cases h
theorem Sn.put_ok {i : Nat} {N : Rn} {way : List Mg} (h : s.put i N way = some s') : N.broken = 0 ∧ s.way.length ≤ 200 ∧ 200 ≤ s.k ∧ s.way.length + N.out.length ≤ 200 := by
  unfold Sn.put at h
  split at h
  · rename_i hc
    exact ⟨hc.1, hc.2.2.1, hc.2.2.2.1, hc.2.2.2.2⟩
  · cases h
theorem rtick_calls (h : NetRun w0 w q s) (i : Nat) (hs : s.tick i = some s') :
    Calls Tryz.prog 29 #[.pointer (some ⟨q, 0, none⟩), .int .i64 (i : Int)] w fun e w' => e = .returned (.tuple #[]) ∧ NetRun w0 w' q s' := by
  obtain ⟨P, hA, hP, hH⟩ := h.is_
  unfold Sn.tick at hs
  obtain ⟨N', h1, h2⟩ := Option.bind_eq_some_iff.1 hs
  obtain ⟨N, h3, h4⟩ := Option.bind_eq_some_iff.1 h1
  obtain ⟨D, h5, h6⟩ := hH i N h3
  obtain ⟨b, b1, b2, b3⟩ := Sn.put_ok h2
  obtain ⟨D', h7, h8⟩ := tick_of h4 h6 b2
  refine (qtick_calls hA i h5 h8 b b3).mono ?_
  rintro e w' ⟨rfl, h9⟩
  exact ⟨rfl, Sn.put_run h2 (List.getElem?_eq_some_iff.1 h3).1 hP hH h7 h9⟩
theorem rprop_calls (h : NetRun w0 w q s) (i : Nat) (cmd : List UInt8) (hs : s.prop i cmd = some s') :
    Calls Tryz.prog 62 #[.pointer (some ⟨q, 0, none⟩), .int .i64 (i : Int), .string (bs cmd)] w fun e w' => ∃ a b, e = .returned (.tuple #[.int .i64 a, .int .i64 b, .int .i64 0]) ∧ NetRun w0 w' q s' := by
  obtain ⟨P, hA, hP, hH⟩ := h.is_
  unfold Sn.prop at hs
  obtain ⟨N', h1, h2⟩ := Option.bind_eq_some_iff.1 hs
  obtain ⟨N, h3, h4⟩ := Option.bind_eq_some_iff.1 h1
  obtain ⟨D, h5, h6⟩ := hH i N h3
  obtain ⟨b, b1, b2, b3⟩ := Sn.put_ok h2
  obtain ⟨D', x, y, h7, h8⟩ := prop_of h4 h6 b2
  refine (qpropose_calls hA i h5 cmd x y h8 b b3).mono ?_
  rintro e w' ⟨rfl, h9⟩
  exact ⟨x, y, rfl, Sn.put_run h2 (List.getElem?_eq_some_iff.1 h3).1 hP hH h7 h9⟩
theorem rdel_calls (h : NetRun w0 w q s) (hs : s.del = some s') :
    Calls Tryz.prog 35 #[.pointer (some ⟨q, 0, none⟩), .int .i64 0] w fun e w' => e = .returned (.tuple #[]) ∧ NetRun w0 w' q s' := by
  obtain ⟨P, hA, hP, hH⟩ := h.is_
  unfold Sn.del at hs
  obtain ⟨y, h0, h0'⟩ := Option.bind_eq_some_iff.1 hs
  obtain ⟨N', h1, h2⟩ := Option.bind_eq_some_iff.1 h0'
  obtain ⟨N, h3, h4⟩ := Option.bind_eq_some_iff.1 h1
  split at h4
  · rename_i hid
    obtain ⟨D, h5, h6⟩ := hH _ N h3
    obtain ⟨b, b1, b2, b3⟩ := Sn.put_ok h2
    obtain ⟨hto, D', h7, h8⟩ := step_of h4 h6 b2
    refine (qdeliver_up hA 0 y h0 y.to_.toNat (by rw [hto]; rfl) h5 h8 b b3).mono ?_
    rintro e w' ⟨rfl, h9⟩
    exact ⟨rfl, Sn.put_run h2 (List.getElem?_eq_some_iff.1 h3).1 hP hH h7 h9⟩
  · cases h4
theorem Sn.put_len {i : Nat} {N : Rn} {way : List Mg} (h : s.put i N way = some s') : s'.ns.length = s.ns.length := by
  unfold Sn.put at h
  split at h
  · obtain rfl := Option.some.inj h
    simp
  · cases h
theorem Sn.del_len (h : s.del = some s') : s'.ns.length = s.ns.length := by
  unfold Sn.del at h
  obtain ⟨y, h0, h0'⟩ := Option.bind_eq_some_iff.1 h
  obtain ⟨N', h1, h2⟩ := Option.bind_eq_some_iff.1 h0'
  exact Sn.put_len h2
theorem Sn.dels_len : ∀ (m : Nat) {s s' : Sn}, Sn.dels m s = some s' → s'.ns.length = s.ns.length
  | 0, s, s', h => by rw [Sn.dels] at h; rw [Option.some.inj h]
  | m + 1, s, s', h => by
    rw [Sn.dels] at h
    obtain ⟨s1, h1, h2⟩ := Option.bind_eq_some_iff.1 h
    rw [Sn.dels_len m h2, Sn.del_len h1]
theorem Sn.dels_succ {m : Nat} (h : Sn.dels (m + 1) s = some s') : ∃ s1, s.del = some s1 ∧ Sn.dels m s1 = some s' := Option.bind_eq_some_iff.1 h
theorem Sn.ticks_succ {m i : Nat} (h : Sn.ticks (m + 1) i s = some s') : ∃ s1, s.tick i = some s1 ∧ Sn.ticks m (i + 1) s1 = some s' := Option.bind_eq_some_iff.1 h
theorem Sn.rounds_succ {m : Nat} (h : Sn.rounds (m + 1) s = some s') : ∃ s1, s.round = some s1 ∧ Sn.rounds m s1 = some s' := Option.bind_eq_some_iff.1 h
theorem NetRun.len (h : NetRun w0 w q s) : (∃ na, w.cell? ⟨q, 0, none⟩ = some (.slice (some ⟨na, 0, none⟩) s.ns.length s.ns.length)) ∧ ∃ A c, w.cell? ⟨q, 2, none⟩ = some (.slice A s.way.length c) := by
  obtain ⟨P, h1, h2, -⟩ := h.is_
  have := h1.cells
  rwa [h2] at this
theorem Sn.del_some (h : s.del = some s') : s.way.length ≤ 200 := by
  unfold Sn.del at h
  obtain ⟨y, h0, h0'⟩ := Option.bind_eq_some_iff.1 h
  obtain ⟨N', h1, h2⟩ := Option.bind_eq_some_iff.1 h0'
  exact (Sn.put_ok h2).2.1
set_option maxRecDepth 100000 in
set_option maxHeartbeats 1000000 in
theorem rround_calls (h : NetRun w0 w q s) (hs : s.round = some s') (hw : s.way.length ≤ 200) (hn : s.ns.length ≤ 5) :
    Calls Tryz.prog 61 #[.pointer (some ⟨q, 0, none⟩)] w fun e w' => e = .returned (.tuple #[]) ∧ NetRun w0 w' q s' := by
  obtain ⟨s1, hd, ht⟩ := Option.bind_eq_some_iff.1 hs
  have hsl := Sn.dels_len _ hd
  obtain ⟨⟨na, z0⟩, A, c, z2⟩ := h.len
  obtain ⟨m, hm⟩ : ∃ m, m = s.way.length := ⟨_, rfl⟩
  obtain ⟨n, hn'⟩ : ∃ n, n = s.ns.length := ⟨_, rfl⟩
  rw [← hm] at z2 hd hw
  rw [← hn'] at z0 ht hn hsl
  have H := Lib.hid h
  have HD := Lib.hid hd
  have HT := Lib.hid ht
  have HSL := Lib.hid hsl
  clear h hd ht hs hm hn' hsl z0
  go_enter Tryz.func61, Tryz.ntmps61
  go_wp2_with fail
  clear z2
  go_loopw [8] (fun vi wr => ∃ (j : Nat) (t : Sn), j ≤ m ∧ vi = .int .i64 (j : Int) ∧ NetRun w0 wr q t ∧ Sn.dels (m - j) t = some s1) (fun vi _ => m - (intOf vi).toNat)
  case atStart => exact ⟨0, s, Nat.zero_le _, rfl, H.out, HD.out⟩
  case round =>
    obtain ⟨j, t, hj, rfl, hR, hdd⟩ := hrel
    by_cases hlt : j < m
    · have dj : decide ((j : Int) < (m : Int)) = true := decide_eq_true (by omega)
      have hjn : (j : Int) < (m : Int) := by omega
      rw [show m - j = (m - (j + 1)) + 1 by omega] at hdd
      obtain ⟨t1, h1, h2⟩ := Sn.dels_succ hdd
      have HC := Lib.hid (rdel_calls hR h1)
      have H2 := Lib.hid h2
      have HLT := Lib.hid hlt
      clear hR hdd h1 h2 hlt
      go_wp2_with (first | (go_at_call 35; refine HC.out.mono ?_; rintro e w6 ⟨rfl, h6⟩; have H6 := Lib.hid h6; clear h6) | fail)
      go_roundw
      case rel => exact ⟨j + 1, t1, HLT.out, by go_num, H6.out, H2.out⟩
      case measure => have hlt := HLT.out; simp [intOf]; omega
    · have dj : decide ((j : Int) < (m : Int)) = false := decide_eq_false (by omega)
      rw [show m - j = 0 by omega, Sn.dels] at hdd
      obtain rfl := Option.some.inj hdd
      obtain ⟨⟨na, z0⟩, -⟩ := hR.len
      rw [HSL.out] at z0
      have HR := Lib.hid hR
      clear hR hdd
      go_wp2_with fail
      clear z0 hlt
      go_loopw [2, 18] (fun _ vi wr => ∃ (i : Nat) (u : Sn), i ≤ n ∧ vi = .int .i64 (i : Int) ∧ NetRun w0 wr q u ∧ Sn.ticks (n - i) i u = some s') (fun _ vi _ => n - (intOf vi).toNat)
      case atStart => exact ⟨0, t, Nat.zero_le _, rfl, HR.out, HT.out⟩
      case round =>
        obtain ⟨i, u, hi, rfl, hR, htt⟩ := hrel
        by_cases hlt : i < n
        · have di : decide ((i : Int) < (n : Int)) = true := decide_eq_true (by omega)
          have hin : (i : Int) < (n : Int) := by omega
          rw [show n - i = (n - (i + 1)) + 1 by omega] at htt
          obtain ⟨t1, h1, h2⟩ := Sn.ticks_succ htt
          have HC := Lib.hid (rtick_calls hR i h1)
          have H2 := Lib.hid h2
          have HLT := Lib.hid hlt
          clear hR htt h1 h2 hlt
          go_wp2_with (first | (go_at_call 29; refine HC.out.mono ?_; rintro e w6 ⟨rfl, h6⟩; have H6 := Lib.hid h6; clear h6) | fail)
          go_roundw
          case rel => exact ⟨i + 1, t1, HLT.out, by go_num, H6.out, H2.out⟩
          case measure => have hlt := HLT.out; simp [intOf]; omega
        · have di : decide ((i : Int) < (n : Int)) = false := decide_eq_false (by omega)
          rw [show n - i = 0 by omega, Sn.ticks] at htt
          obtain rfl := Option.some.inj htt
          have HR := Lib.hid hR
          clear hR htt
          go_wp2_with fail
          go_end0
          exact ⟨rfl, HR.out⟩
end

end Go.Proofs.YtnlcipocobmgiaaGreatDoor
