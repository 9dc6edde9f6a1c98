/- The contracts of Leader and Up in a quiet run; glacierlaw11.awake. -/
import Derived.Test.YtnlcipocobmgiaaGreatDoorQRun
import Derived.Test.YtnlcipocobmgiaaGreatDoorQNetC
namespace Go.Proofs.YtnlcipocobmgiaaGreatDoor
open Go.RowKit
attribute [local go_sem] size_bs bs_append bs_extract

section
variable {w0 w w' : World} {q : Nat} {s s' s1 s2 : Sn} {N : Rn}
theorem NetRun.nodes (h : NetRun w0 w q s) : ∃ na, w.cell? ⟨q, 0, none⟩ = some (.slice (some ⟨na, 0, none⟩) s.ns.length s.ns.length) ∧ ∀ (i : Nat) (N : Rn), s.ns[i]? = some N → ∃ V D, w.cell? ⟨na, i, none⟩ = some (.pointer (some ⟨V.r, 0, none⟩)) ∧ NodeAt w V N D := by
  obtain ⟨P, ⟨⟨Q, L, hA, rfl, rfl, -, -⟩, -⟩, h2, h3⟩ := h.is_
  refine ⟨Q.na, ?_, fun i N hN => ?_⟩
  · rw [← h2, List.length_map]; exact hA.qb.cell 0
  · obtain ⟨D, hD, -⟩ := h3 i N hN
    obtain ⟨hi, V, hup, -⟩ := pl_at hD
    have hn := hA.nd _ (List.getElem_mem hi)
    unfold Qn.At at hn
    rw [hup] at hn
    refine ⟨V, _, ?_, hn.1⟩
    rw [hA.ptr i hi]
    unfold Qn.ptr
    rw [hup]
theorem rnode_calls (h : NetRun w0 w q s) (i : Nat) (hN : s.ns[i]? = some N) :
    Calls Tryz.prog 36 #[.pointer (some ⟨q, 0, none⟩), .int .i64 (i : Int)] w fun e w' => ∃ V D, e = .returned (.pointer (some ⟨V.r, 0, none⟩)) ∧ NodeAt w V N D ∧ w = w' := by
  obtain ⟨P, ⟨⟨Q, L, hA, rfl, rfl, -, -⟩, -⟩, h2, h3⟩ := h.is_
  obtain ⟨D, hD, -⟩ := h3 i N hN
  obtain ⟨hi, V, hup, -⟩ := pl_at hD
  have hn := hA.nd _ (List.getElem_mem hi)
  unfold Qn.At at hn
  rw [hup] at hn
  refine (qnode_calls hA i hi).mono ?_
  rintro e w' ⟨rfl, rfl⟩
  refine ⟨V, _, ?_, hn.1, rfl⟩
  unfold Qn.ptr
  rw [hup]
set_option maxRecDepth 100000 in
theorem rup_calls (h : NetRun w0 w q s) (hn : s.ns.length ≤ 5) :
    Calls Tryz.prog 64 #[.pointer (some ⟨q, 0, none⟩)] w fun e w' => e = .returned (.int .i64 (s.ns.length : Int)) ∧ w = w' := by
  obtain ⟨na, z0, hc⟩ := h.nodes
  have HC : Hid (∀ j, j < s.ns.length → ∃ r, w.cell? ⟨na, j, none⟩ = some (.pointer (some ⟨r, 0, none⟩))) := fun j hj => by
    obtain ⟨V, D, h1, -⟩ := hc j _ (List.getElem?_eq_getElem hj)
    exact ⟨V.r, h1⟩
  clear h hc
  generalize s.ns.length = n at *
  go_enter Tryz.func64, Tryz.ntmps64
  go_wp2_with fail
  go_loop [3, 5, 11] (fun vn _ vi => ∃ j : Nat, j ≤ n ∧ vi = .int .i64 (j : Int) ∧ vn = .int .i64 (j : Int)) (fun _ _ vi => n - (intOf vi).toNat)
  case atStart => exact ⟨0, Nat.zero_le _, rfl, rfl⟩
  case round =>
    obtain ⟨j, hj, rfl, rfl⟩ := hrel
    by_cases hlt : j < n
    · have dj : decide ((j : Int) < (n : Int)) = true := decide_eq_true (by omega)
      have hjn : (j : Int) < (n : Int) := by omega
      obtain ⟨r, zr⟩ := HC.out j hlt
      go_wp2_with fail
      go_round
      case rel => exact ⟨j + 1, hlt, by go_num, by go_num⟩
      case measure => simp [intOf]; omega
    · have dj : decide ((j : Int) < (n : Int)) = false := decide_eq_false (by omega)
      go_wp2_with fail
      go_ret
      have hjn : j = n := by omega
      subst hjn
      exact ⟨rfl, rfl⟩
/-- A net of which one node leads alone. -/
def Sn.Sole (s : Sn) (i0 : Nat) : Prop := i0 < s.ns.length ∧ ∀ (j : Nat) (N : Rn), s.ns[j]? = some N → (N.role = 2 ↔ j = i0)
set_option maxRecDepth 100000 in
set_option maxHeartbeats 1000000 in
theorem rleader_calls (h : NetRun w0 w q s) (i0 : Nat) (hs : s.Sole i0) (hn : s.ns.length ≤ 5) :
    Calls Tryz.prog 63 #[.pointer (some ⟨q, 0, none⟩)] w fun e w' => e = .returned (.int .i64 (i0 : Int)) ∧ Keep [] w w' := by
  obtain ⟨na, z0, hc⟩ := h.nodes
  have HC : Hid (∀ j, j < s.ns.length → ∃ r k : Nat, w.cell? ⟨na, j, none⟩ = some (.pointer (some ⟨r, 0, none⟩)) ∧ (k = 2 ↔ j = i0) ∧ ∀ W, Keep [] w W → Calls Tryz.prog 39 #[.pointer (some ⟨r, 0, none⟩)] W fun e w' => e = .returned (.int .i64 (k : Int)) ∧ W = w') := fun j hj => by
    obtain ⟨V, D, h1, h2⟩ := hc j _ (List.getElem?_eq_getElem hj)
    exact ⟨V.r, s.ns[j].role, h1, hs.2 j _ (List.getElem?_eq_getElem hj), fun W hk => role_calls (h2.grow hk)⟩
  have hi0 := hs.1
  clear h hc hs
  generalize s.ns.length = n at *
  go_enter Tryz.func63, Tryz.ntmps63
  go_wp2_with fail
  go_loopw [3, 4, 5, 11] (fun vb _ _ vi wr => ∃ j : Nat, j ≤ n ∧ vi = .int .i64 (j : Int) ∧ vb = .int .i64 (if j ≤ i0 then -1 else (i0 : Int)) ∧ Keep [] w wr) (fun _ _ _ vi _ => n - (intOf vi).toNat)
  case atStart => exact ⟨0, Nat.zero_le _, rfl, by simp, Keep.refl _ _⟩
  case round =>
    obtain ⟨j, hj, rfl, rfl, hk⟩ := hrel
    by_cases hlt : j < n
    · have dj : decide ((j : Int) < (n : Int)) = true := decide_eq_true (by omega)
      have hjn : (j : Int) < (n : Int) := by omega
      obtain ⟨r, k, zr0, hk2, hR⟩ := HC.out j hlt
      have zr := (hk.cell (p := ⟨na, j, none⟩) (World.block_lt_of_cell? _ _ zr0) (by simp)).trans zr0
      have HR := Lib.hid (hR wr hk)
      have HK := Lib.hid hk
      by_cases hji : j = i0
      · have e2 : ((k : Int) == 2) = true := by simp [hk2.2 hji]
        have HJ := Lib.hid hji
        rw [if_pos (by omega)]
        clear hR hk hk2 hji zr0
        go_wp2_with (first | (go_at_call 39; refine HR.out.mono ?_; rintro e w1 ⟨rfl, rfl⟩) | fail)
        go_region
        go_wp2_with fail
        go_roundw
        case rel => exact ⟨j + 1, hlt, by go_num, by rw [if_neg (by have := HJ.out; omega), HJ.out], HK.out.drew⟩
        case measure => simp [intOf]; omega
      · have e2 : ((k : Int) == 2) = false := by simp; omega
        have HJ := Lib.hid hji
        generalize hvb : (if j ≤ i0 then -1 else (i0 : Int)) = vb
        have hv1 : (if j + 1 ≤ i0 then -1 else (i0 : Int)) = vb := by
          rw [← hvb]
          by_cases h1 : j ≤ i0
          · rw [if_pos h1, if_pos (by omega)]
          · rw [if_neg h1, if_neg (by omega)]
        have HV := Lib.hid hv1
        clear hR hk hk2 hji zr0 hvb hv1
        go_wp2_with (first | (go_at_call 39; refine HR.out.mono ?_; rintro e w1 ⟨rfl, rfl⟩) | fail)
        go_roundw
        case rel => exact ⟨j + 1, hlt, by go_num, by rw [HV.out], HK.out⟩
        case measure => simp [intOf]; omega
    · have dj : decide ((j : Int) < (n : Int)) = false := decide_eq_false (by omega)
      rw [if_neg (by omega)]
      have HK := Lib.hid hk
      go_wp2_with fail
      go_ret
      exact ⟨rfl, HK.out⟩
theorem Sn.ticks_len : ∀ (m i : Nat) {s s' : Sn}, Sn.ticks m i s = some s' → s'.ns.length = s.ns.length
  | 0, i, s, s', h => by rw [Sn.ticks] at h; rw [Option.some.inj h]
  | m + 1, i, s, s', h => by
    obtain ⟨s1, h1, h2⟩ := Sn.ticks_succ h
    rw [Sn.ticks_len m (i + 1) h2]
    unfold Sn.tick at h1
    obtain ⟨N', h3, h4⟩ := Option.bind_eq_some_iff.1 h1
    exact Sn.put_len h4
theorem Sn.round_len (h : s.round = some s') : s'.ns.length = s.ns.length := by
  obtain ⟨s1, h1, h2⟩ := Option.bind_eq_some_iff.1 h
  rw [Sn.ticks_len _ _ h2, Sn.dels_len _ h1]
theorem Sn.prop_len {i : Nat} {cmd : List UInt8} (h : s.prop i cmd = some s') : s'.ns.length = s.ns.length := by
  unfold Sn.prop at h
  obtain ⟨N', h1, h2⟩ := Option.bind_eq_some_iff.1 h
  exact Sn.put_len h2
theorem Sn.round_way (h : s.round = some s') : s.way.length ≤ 200 := by
  obtain ⟨s1, h1, h2⟩ := Option.bind_eq_some_iff.1 h
  rcases Nat.eq_zero_or_pos s.way.length with h0 | h0
  · omega
  · rw [show s.way.length = (s.way.length - 1) + 1 by omega] at h1
    obtain ⟨s2, h3, h4⟩ := Sn.dels_succ h1
    have := Sn.del_some h3
    omega
theorem NetIn.run {n k : Nat} {D : Dk} (h : NetIn w0 w q (upN n n D) []) (hH : Holds D k Ts.zero) : NetRun w0 w q ⟨startN n, [], k⟩ := by
  refine ⟨⟨_, h, by simp [upN, startN], fun i N hN => ⟨D, ?_, ?_⟩⟩⟩
  · unfold startN at hN
    rw [List.getElem?_map, Option.map_eq_some_iff] at hN
    obtain ⟨j, hj, rfl⟩ := hN
    unfold upN
    rw [Nat.sub_self, List.replicate_zero, List.append_nil, List.getElem?_map, hj]
    rfl
  · unfold startN at hN
    rw [List.getElem?_map, Option.map_eq_some_iff] at hN
    obtain ⟨j, hj, rfl⟩ := hN
    exact hH
/-- What the run of awake shows. -/
theorem awake_run : ∃ s1 s2 s3 : Sn, Sn.rounds 6 ⟨startN 3, [], 90000⟩ = some s1 ∧ s1.prop 0 [120] = some s2 ∧ Sn.rounds 3 s2 = some s3 ∧ s3.Sole 0 ∧ s3.ns.length = 3 ∧ ∃ N, s3.ns[2]? = some N ∧ N.commit = 2 := by
  have h := awakeOk_true
  unfold awakeOk at h
  split at h
  · cases h
  · rename_i s3 hs
    unfold awakeN at hs
    obtain ⟨s2, h1, h2⟩ := Option.bind_eq_some_iff.1 hs
    obtain ⟨s1, h3, h4⟩ := Option.bind_eq_some_iff.1 h1
    simp only [Bool.and_eq_true, beq_iff_eq] at h
    obtain ⟨hr, hc⟩ := h
    have hl : s3.ns.length = 3 := by have := congrArg List.length hr; simpa using this
    obtain ⟨a, b, c, hns⟩ : ∃ a b c, s3.ns = [a, b, c] := by
      match hx : s3.ns with
      | [a, b, c] => exact ⟨a, b, c, rfl⟩
      | [] => rw [hx] at hl; cases hl
      | [_] => rw [hx] at hl; cases hl
      | [_, _] => rw [hx] at hl; cases hl
      | _ :: _ :: _ :: _ :: _ => rw [hx] at hl; simp at hl
    rw [hns] at hr hc
    simp only [List.map_cons, List.map_nil, List.cons.injEq, and_true] at hr hc
    refine ⟨s1, s2, s3, h3, h4, h2, ⟨by omega, fun j N hN => ?_⟩, hl, c, by rw [hns]; rfl, hc.2.2⟩
    rw [hns] at hN
    match j, hN with
    | 0, hN => obtain rfl := Option.some.inj hN; simp [hr.1]
    | 1, hN => obtain rfl := Option.some.inj hN; simp [hr.2.1]
    | 2, hN => obtain rfl := Option.some.inj hN; simp [hr.2.2]
    | j + 3, hN => simp at hN
set_option maxRecDepth 100000 in
set_option maxHeartbeats 2000000 in
theorem awake_calls (hT : Tab w) :
    Calls Tryz.prog 27 #[] w fun e w' => e = .returned (.bool true) ∧ Keep [] w w' := by
  obtain ⟨s1, s2, s3, h1, h2, h3, h4, h5, N, h6, h7⟩ := awake_run
  have HNW : Hid (Calls Tryz.prog 28 #[.int .i64 3, .int .i64 100000] w fun e w' => ∃ q, e = .returned (.tuple #[.pointer (some ⟨q, 0, none⟩), .int .i64 0]) ∧ NetRun w w' q ⟨startN 3, [], 90000⟩) := by
    refine (qnew_calls hT 3 (by omega) (by omega) 100000 (by omega)).mono ?_
    rintro e w' ⟨q, rfl, h⟩
    exact ⟨q, rfl, h.run ((Holds.start 100000 (by omega)).mono (by omega))⟩
  have HR1 := Lib.hid h1
  have HR3 := Lib.hid h3
  have hl1 : ∀ (m : Nat) {s s' : Sn}, Sn.rounds m s = some s' → s'.ns.length = s.ns.length := fun m => by
    induction m with
    | zero => intro s s' h; rw [Sn.rounds] at h; rw [Option.some.inj h]
    | succ m ih =>
      intro s s' h
      obtain ⟨t, h1, h2⟩ := Sn.rounds_succ h
      rw [ih h2, Sn.round_len h1]
  have HL2 : Hid (s2.ns.length = 3) := Lib.hid ((Sn.prop_len h2).trans (hl1 6 h1))
  have HRD : Hid (∀ W q t m sz, t.ns.length = 3 → NetRun w W q t → Sn.rounds (m + 1) t = some sz → Calls Tryz.prog 61 #[.pointer (some ⟨q, 0, none⟩)] W fun e w' => e = .returned (.tuple #[]) ∧ ∃ u, u.ns.length = 3 ∧ NetRun w w' q u ∧ Sn.rounds m u = some sz) := fun W q t m sz hl hR hr => by
    obtain ⟨u, hu1, hu2⟩ := Sn.rounds_succ hr
    refine (rround_calls hR hu1 (Sn.round_way hu1) (by omega)).mono ?_
    rintro e w' ⟨rfl, h⟩
    exact ⟨rfl, u, (Sn.round_len hu1).trans hl, h, hu2⟩
  have HPR : Hid (∀ W q, NetRun w W q s1 → Calls Tryz.prog 62 #[.pointer (some ⟨q, 0, none⟩), .int .i64 0, .string { data := #[120] }] W fun e w' => ∃ a b, e = .returned (.tuple #[.int .i64 a, .int .i64 b, .int .i64 0]) ∧ NetRun w w' q s2) := fun W q h => rprop_calls h 0 [120] h2
  have HND : Hid (∀ W q, NetRun w W q s3 → Calls Tryz.prog 36 #[.pointer (some ⟨q, 0, none⟩), .int .i64 2] W fun e w' => ∃ V D, e = .returned (.pointer (some ⟨V.r, 0, none⟩)) ∧ NodeAt W V N D ∧ W = w') := fun W q h => rnode_calls h 2 h6
  have HLD : Hid (∀ W q, NetRun w W q s3 → Calls Tryz.prog 63 #[.pointer (some ⟨q, 0, none⟩)] W fun e w' => e = .returned (.int .i64 0) ∧ Keep [] W w') := fun W q h => rleader_calls h 0 h4 (by omega)
  have HCM : Hid (∀ W V D, NodeAt W V N D → Calls Tryz.prog 25 #[.pointer (some ⟨V.r, 0, none⟩)] W fun e w' => e = .returned (.int .i64 2) ∧ W = w') := fun W V D h => by
    have := commit_calls h
    rw [h7] at this
    exact this
  have HUP : Hid (∀ W q, NetRun w W q s3 → Calls Tryz.prog 64 #[.pointer (some ⟨q, 0, none⟩)] W fun e w' => e = .returned (.int .i64 3) ∧ W = w') := fun W q h => by
    have := rup_calls h (by omega)
    rw [h5] at this
    exact this
  clear hT h1 h2 h3 h4 h5 h6 h7 hl1
  go_enter Tryz.func27, Tryz.ntmps27
  go_wp2_with (first | (go_at_call 28; refine HNW.out.mono ?_; rintro e w1 ⟨q, rfl, n1⟩; have N1 := Lib.hid n1; clear n1) | fail)
  go_loopw [3] (fun vi wr => ∃ (j : Nat) (t : Sn), j ≤ 6 ∧ vi = .int .i64 (j : Int) ∧ t.ns.length = 3 ∧ NetRun w wr q t ∧ Sn.rounds (6 - j) t = some s1) (fun vi _ => 6 - (intOf vi).toNat)
  case atStart => exact ⟨0, _, Nat.zero_le _, rfl, rfl, N1.out, HR1.out⟩
  case round =>
    obtain ⟨j, t, hj, rfl, hl, hR, hr⟩ := hrel
    by_cases hlt : j < 6
    · have dj : decide ((j : Int) < 6) = true := decide_eq_true (by omega)
      have hjn : (j : Int) < 6 := by omega
      rw [show 6 - j = (6 - (j + 1)) + 1 by omega] at hr
      have HC := Lib.hid (HRD.out _ _ _ _ _ hl hR hr)
      have HLT := Lib.hid hlt
      clear hl hR hr hlt
      go_wp2_with (first | (go_at_call 61; refine HC.out.mono ?_; rintro e w6 ⟨rfl, u, u1, u2, u3⟩; have U1 := Lib.hid u1; have U2 := Lib.hid u2; have U3 := Lib.hid u3; clear u1 u2 u3) | fail)
      go_roundw
      case rel => exact ⟨j + 1, u, HLT.out, by go_num, U1.out, U2.out, U3.out⟩
      case measure => have hlt := HLT.out; simp [intOf]; omega
    · have dj : decide ((j : Int) < 6) = false := decide_eq_false (by omega)
      rw [show 6 - j = 0 by omega, Sn.rounds] at hr
      obtain rfl := Option.some.inj hr
      have HR := Lib.hid hR
      clear hr hl hR
      go_wp2_with (first | (go_at_call 62; refine (HPR.out _ _ HR.out).mono ?_; rintro e w2 ⟨a, b, rfl, n2⟩; have N2 := Lib.hid n2; clear n2) | fail)
      clear hlt
      go_loopw [7] (fun vi wr => ∃ (j : Nat) (t : Sn), j ≤ 3 ∧ vi = .int .i64 (j : Int) ∧ t.ns.length = 3 ∧ NetRun w wr q t ∧ Sn.rounds (3 - j) t = some s3) (fun vi _ => 3 - (intOf vi).toNat)
      case atStart => exact ⟨0, _, Nat.zero_le _, rfl, HL2.out, N2.out, HR3.out⟩
      case round =>
        obtain ⟨i, t, hi, rfl, hl, hR, hr⟩ := hrel
        by_cases hlt : i < 3
        · have di : decide ((i : Int) < 3) = true := decide_eq_true (by omega)
          have hin : (i : Int) < 3 := by omega
          rw [show 3 - i = (3 - (i + 1)) + 1 by omega] at hr
          have HC := Lib.hid (HRD.out _ _ _ _ _ hl hR hr)
          have HLT := Lib.hid hlt
          clear hl hR hr hlt
          go_wp2_with (first | (go_at_call 61; refine HC.out.mono ?_; rintro e w6 ⟨rfl, u, u1, u2, u3⟩; have U1 := Lib.hid u1; have U2 := Lib.hid u2; have U3 := Lib.hid u3; clear u1 u2 u3) | fail)
          go_roundw
          case rel => exact ⟨i + 1, u, HLT.out, by go_num, U1.out, U2.out, U3.out⟩
          case measure => have hlt := HLT.out; simp [intOf]; omega
        · have di : decide ((i : Int) < 3) = false := decide_eq_false (by omega)
          rw [show 3 - i = 0 by omega, Sn.rounds] at hr
          obtain rfl := Option.some.inj hr
          have HR := Lib.hid hR
          clear hr hl hR
          go_wp2_with (first | (go_at_call 36; refine (HND.out _ _ HR.out).mono ?_; rintro e w7 ⟨V, D, rfl, v7, rfl⟩; have V7 := Lib.hid v7; clear v7) | (go_at_call 63; refine (HLD.out _ _ HR.out).mono ?_; rintro e w8 ⟨rfl, k8⟩; have K8 := Lib.hid k8; clear k8) | (go_at_call 25; refine (HCM.out _ _ _ (V7.out.grow K8.out)).mono ?_; rintro e w9 ⟨rfl, rfl⟩) | (go_at_call 64; refine (HUP.out _ _ (HR.out.grow K8.out)).mono ?_; rintro e w9 ⟨rfl, rfl⟩) | fail)
          go_ret
          obtain ⟨P, h8, -⟩ := HR.out.is_
          exact ⟨rfl, h8.keep.trans K8.out⟩
end

end Go.Proofs.YtnlcipocobmgiaaGreatDoor
