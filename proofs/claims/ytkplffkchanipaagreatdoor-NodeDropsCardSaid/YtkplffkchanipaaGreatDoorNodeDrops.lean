/- The contract of glacierlaw19.NodeDrops. -/
import Derived.Test.YtkplffkchanipaaGreatDoorNodesC
import Derived.Test.YtkplffkchanipaaGreatDoorStrsAt
namespace Go.Proofs.YtkplffkchanipaaGreatDoor
open Go.RowKit
attribute [local go_sem] size_bs bs_append ba_self
variable {w w' w0 : World} {n s b m g c k : Nat} {C C' : Ck} {D D' : Dk} {X : List (Nat × List UInt8)} {u : Bool}

/-- A node of 2000 bytes between two rounds. -/
structure DSt (w0 w : World) (n b m k : Nat) (sz us : Nat) (X : List (Nat × List UInt8)) (s g c : Nat) (C : Ck) (D : Dk) : Prop where
  up : NdUp w0 w n s b m g c C D
  hot : Hot C D X
  armed : D.armed = 0
  room : D.room = 2000
  limit : C.limit = 2000
  seg : C.seg ≤ k
  size : C.size ≤ sz
  used : D.used ≤ us
  c : c ≤ 1000
theorem DSt.put (h : DSt w0 w n b m k 0 100 [] s g c C D) (hk : k < 90) {i : Nat} (hi : i < 18446744073709551616) {d : List UInt8} (hd : d.length ≤ 100) :
    Calls Tryz.prog 32 #[.pointer (some ⟨n, 0, none⟩), .int .u64 (i : Int), .string (bs d)] w fun e w' => e = .returned (.int .i64 0) ∧ ∃ C' D', DSt w0 w' n b m k 150 250 [(i, d)] s g c C' D' := by
  refine (nput_new h.up h.hot (by have := h.seg; omega) hi (by omega) rfl).mono ?_
  rintro e w' ⟨hk1, C', D', ⟨rfl, q1, q2, q3, q4⟩ | ⟨rfl, q1, q2, q3, q4⟩ | ⟨rfl, q1, q2, q3⟩⟩
  · exact absurd h.armed q1
  · have := h.room
    have := h.used
    omega
  · have e1 := h.limit
    have e2 := h.size
    have e3 := h.used
    have e4 := h.seg
    have e5 := q3.used
    obtain ⟨e6, e7⟩ := q3.size (by omega)
    exact ⟨rfl, C', D', q1, q2, q3.luck h.armed, q3.room.trans h.room, q3.limit.trans e1, by omega, by omega, by omega, h.c⟩
theorem DSt.get (h : DSt w0 w n b m k 150 250 X s g c C D) {i : Nat} {d : List UInt8} (hi : lookX i X = some d) :
    Calls Tryz.prog 33 #[.pointer (some ⟨n, 0, none⟩), .int .u64 (i : Int)] w fun e w' => e = .returned (.tuple #[.string (bs d), .int .i64 0]) ∧ DSt w0 w' n b m k 150 250 X s g c C D := by
  refine (nget_calm h.up h.hot h.armed hi).mono ?_
  rintro e w' ⟨rfl, q1, _⟩
  exact ⟨rfl, q1, h.hot, h.armed, h.room, h.limit, h.seg, h.size, h.used, h.c⟩
theorem DSt.drop {i : Nat} {d : List UInt8} (h : DSt w0 w n b m k 150 250 [(i, d)] s g c C D) (hk : k < 90) (hi : i < 18446744073709551616) (hd : d.length ≤ 100) :
    Calls Tryz.prog 34 #[.pointer (some ⟨n, 0, none⟩), .int .u64 (i : Int)] w fun e w' => e = .returned (.int .i64 0) ∧ ∃ g c C' D', DSt w0 w' n b m (k + 2) 0 100 [] s g c C' D' := by
  have hfit : FitX [(i, d)] := fun p hp => by
    simp only [List.mem_cons, List.not_mem_nil, or_false] at hp
    subst hp
    exact ⟨hi, by simp only; omega⟩
  have hX1 : dropX i [(i, d)] = [] := by simp [dropX]
  have hsg := h.seg
  refine (ndrop_there h.up h.hot (by omega) hi (by simp [lookX]) hfit (by simp) h.c).mono ?_
  rintro e w' ⟨hk1, g', c', C', D', X', hc', ⟨rfl, q1, q2, q3, q4, q5⟩ | ⟨rfl, q1, q2, q3, q4⟩ | ⟨rfl, q1, q2, q3, q4, q5, q6, C2, D2, r1, r2, r3⟩⟩
  · exact absurd h.armed q1
  · have := h.room
    have := h.used
    omega
  · rw [hX1] at r1 r3 q2
    have e1 := h.limit
    have e2 := h.size
    have e3 := h.used
    have e4 := h.room
    have e5 := r2.used
    have e6 := r2.room
    obtain ⟨e7, e8⟩ := r2.size (by omega)
    have hle := exact_le (X := []) (fun _ h => (by cases h)) (fun _ h => (by cases h)) (by decide)
    simp only [List.length_nil, Nat.zero_mul, Nat.add_zero] at hle r3
    rcases r3 with ⟨r3, _⟩ | ⟨_, rfl, rfl⟩
    · omega
    · obtain ⟨p1, p2, p3, p4⟩ := r1.compact_ok (r2.luck h.armed) (fun _ h => (by cases h)) (by decide) (by omega) (by omega)
      exact ⟨rfl, g', c', _, _, q1, q2, q6 h.armed, q5.trans e4, q4.trans e1, by omega, by omega, by omega, hc'⟩

set_option maxRecDepth 100000 in
set_option maxHeartbeats 2000000 in
theorem nodeDrops_calls (w : World) (hT : Tab w) (v : Value) (l : List (List UInt8)) (hv : StrsAt w v l) :
    Calls Tryz.prog 8 #[v] w fun e w' => e = .returned (.bool true) ∧ Keep [] w w' := by
  have TN : Calls Tryz.prog 30 #[.int .i64 2000] w fun e w' => ∃ n b m s g C D, e = .returned (.pointer (some ⟨n, 0, none⟩)) ∧ DSt w w' n b m 1 0 100 [] s g 0 C D := by
    refine (nnew_calls (Keep.refl [] w) hT 2000 (by decide) (by decide)).mono ?_
    rintro e w' ⟨n, s, b, m, g, rfl, a1, a2⟩
    obtain ⟨_, _, q1, q2, q3, q4⟩ := (start_cold (room := 2000) (by decide) (by decide)).opens (by decide) (by decide)
    exact ⟨n, b, m, s, g, _, _, rfl, a1, q1, rfl, rfl, q3, q2, Nat.le_of_eq q4, (show (0 : Int) ≤ 100 by decide), by decide⟩
  have HTN := Lib.hid TN
  obtain ⟨A0, c0, rfl, hcc⟩ := hv
  have HCC := Lib.hid hcc
  clear TN hcc hT
  go_enter Tryz.func8, Tryz.ntmps8
  go_wp2_with (first
    | (go_at_call 30; refine HTN.out.mono ?_; rintro e w1 ⟨n, b, m, s1, g1, C1, D1, rfl, h⟩; have H1 := Lib.hid h; clear h)
    | (go_at_call 31; refine (nawake_calls _ H1.out.up.at_.tab).mono ?_; rintro e w2 ⟨rfl, hk⟩; have z0 : w2.cell? ⟨n, 0, none⟩ = some (.pointer (some ⟨b, 0, none⟩)) := (H1.out.up.grow hk).blk.cell 0; have H2 : Hid (DSt w w2 n b m 1 0 100 [] s1 g1 0 C1 D1) := ⟨H1.out.up.grow hk, H1.out.hot, H1.out.armed, H1.out.room, H1.out.limit, H1.out.seg, H1.out.size, H1.out.used, H1.out.c⟩; clear hk))
  go_loopw [4] (fun x wr => ∃ (k s g c : Nat) (C : Ck) (D : Dk), k ≤ l.length ∧ k ≤ 30 ∧ x = .int .i64 (k : Int) ∧ DSt w wr n b m (1 + 2 * k) 0 100 [] s g c C D) (fun x _ => l.length - (intOf x).toNat)
  case atStart => exact ⟨0, s1, g1, 0, C1, D1, Nat.zero_le _, Nat.zero_le _, rfl, H2.out⟩
  case round =>
    obtain ⟨k, s, g, c, C, D, hk, hk30, rfl, h⟩ := hrel
    have H := Lib.hid h
    by_cases hlt : k < l.length ∧ k < 30
    · obtain ⟨hlt, hlt30⟩ := hlt
      have d1 : decide ((k : Int) < (l.length : Int)) = true := decide_eq_true (by omega)
      have d2 : decide ((k : Int) < 30) = true := decide_eq_true (by omega)
      obtain ⟨gx, o, rfl, hc⟩ := HCC.out (by intro h; rw [h] at hlt; simp at hlt)
      have q := hc k hlt
      have x0 := (h.up.keep.cell (World.block_lt_of_cell? _ _ q) (by simp)).trans q
      have hlen : (l[k].take 100).length ≤ 100 := by rw [List.length_take]; omega
      clear h hc q
      generalize l[k] = d0 at *
      go_wp2_with (first
        | (go_at_call 15; refine (cut_calls d0 100 _).mono ?_; rintro e w3 ⟨rfl, rfl⟩)
        | (go_at_call 32; refine (H.out.put (by omega) (i := k) (by omega) hlen).mono ?_; rintro e w4 ⟨rfl, C4, D4, h⟩; have H4 := Lib.hid h; clear h)
        | (go_at_call 33; refine (H4.out.get (i := k) (d := d0.take 100) (by simp [lookX])).mono ?_; rintro e w5 ⟨rfl, h⟩; have H5 := Lib.hid h; clear h)
        | (go_at_call 34; refine (H5.out.drop (by omega) (by omega) hlen).mono ?_; rintro e w6 ⟨rfl, g6, c6, C6, D6, h⟩; have H6 := Lib.hid h; clear h)
        | (go_at_call 35; refine (nhas_calls H6.out.up H6.out.hot k).mono ?_; rintro e w7 ⟨rfl, h, -⟩; have H7 : Hid (DSt w w7 n b m (1 + 2 * k + 2) 0 100 [] s g6 c6 C6 D6) := ⟨h, H6.out.hot, H6.out.armed, H6.out.room, H6.out.limit, H6.out.seg, H6.out.size, H6.out.used, H6.out.c⟩; clear h))
      go_roundw
      case rel => exact ⟨k + 1, s, g6, c6, C6, D6, by omega, by omega, by go_num, H7.out⟩
      case measure => simp [intOf]; omega
    · have hcase : k = l.length ∨ k = 30 ∧ k < l.length := by omega
      have du : decide (D.used ≤ 2000) = true := decide_eq_true (by have := h.used; omega)
      clear h
      rcases hcase with rfl | ⟨hk8, hlt8⟩
      · have d1 : decide ((l.length : Int) < (l.length : Int)) = false := by simp
        go_wp2_with (first
          | (go_at_call 36; refine (nids_calls H.out.up H.out.hot (by decide)).mono ?_; rintro e w3 ⟨v3, rfl, ⟨A3, p3, rfl, -⟩, h, -⟩; have z3 : w3.cell? ⟨n, 0, none⟩ = some (.pointer (some ⟨b, 0, none⟩)) := h.blk.cell 0; have H3 := Lib.hid h; clear h)
          | (go_at_call 19; refine (used_calls H3.out.at_.disk).mono ?_; rintro e w4 ⟨rfl, rfl⟩))
        go_ret
        exact ⟨rfl, H3.out.keep⟩
      · have d1 : decide ((k : Int) < (l.length : Int)) = true := by simp; omega
        have d1n : decide (k < l.length) = true := by simpa using hlt8
        have d2 : decide ((k : Int) < 30) = false := by simp; omega
        have d2n : decide (k < 30) = false := by simp; omega
        go_wp2_with (first
          | (go_at_call 36; refine (nids_calls H.out.up H.out.hot (by decide)).mono ?_; rintro e w3 ⟨v3, rfl, ⟨A3, p3, rfl, -⟩, h, -⟩; have z3 : w3.cell? ⟨n, 0, none⟩ = some (.pointer (some ⟨b, 0, none⟩)) := h.blk.cell 0; have H3 := Lib.hid h; clear h)
          | (go_at_call 19; refine (used_calls H3.out.at_.disk).mono ?_; rintro e w4 ⟨rfl, rfl⟩))
        go_ret
        exact ⟨rfl, H3.out.keep⟩

end Go.Proofs.YtkplffkchanipaaGreatDoor
