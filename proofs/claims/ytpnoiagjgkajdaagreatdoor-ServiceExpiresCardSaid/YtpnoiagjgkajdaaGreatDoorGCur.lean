/- A decoder that stands ahead of known bytes: what each of its calls takes off. -/
import Derived.Test.YtpnoiagjgkajdaaGreatDoorIntSl
import Derived.Test.YtpnoiagjgkajdaaGreatDoorGPlain
namespace Go.Proofs.YtpnoiagjgkajdaaGreatDoor
open Go.RowKit
attribute [local go_sem] size_bs bs_append

/-- The decoder at block b, over s; the bytes r are left. -/
def Cur (w : World) (b : Nat) (s r : List UInt8) : Prop := s.length ≤ 4611686018427387904 ∧ ∃ a, s = a ++ r ∧ DecAt w b ⟨s, a.length, 0⟩
section
variable {w w' : World} {b : Nat} {s r : List UInt8} {M : List Nat}
theorem Cur.keep (h : Cur w b s r) (hk : Keep M w w') (hb : b ∉ M) : Cur w' b s r := by
  obtain ⟨h1, a, h2, h3⟩ := h
  exact ⟨h1, a, h2, h3.keep hk hb⟩
theorem Cur.grow (h : Cur w b s r) (hk : Keep [] w w') : Cur w' b s r := h.keep hk (by simp)
theorem Cur.lt (h : Cur w b s r) : b < w.heap.size := by
  obtain ⟨-, a, -, h3⟩ := h
  exact h3.blk.lt
theorem Cur.ne_ (h : Cur w b s r) {g : Nat} {t : TypeId} {cs : Array Value} (hg : Blk w g t cs) (ht : t ≠ 367) : g ≠ b := by
  obtain ⟨-, a, -, h3⟩ := h
  exact hg.ne_ h3.blk ht
theorem cur_from (s : List UInt8) (hs : s.length ≤ 4611686018427387904) (w : World) :
    Calls Tryz.prog 191 #[.string (bs s)] w fun e w' => e = .returned (.pointer (some ⟨w.heap.size, 0, none⟩)) ∧ Cur w' w.heap.size s s ∧ Keep [] w w' := by
  refine (from_calls s w).mono ?_
  rintro e w' ⟨rfl, h1, h2⟩
  exact ⟨rfl, ⟨hs, [], rfl, h1⟩, h2⟩
theorem cur_u {n : Nat} (h : Cur w b s (encU n ++ r)) (hn : n < 18446744073709551616) :
    Calls Tryz.prog 200 #[.pointer (some ⟨b, 0, none⟩)] w fun e w' => e = .returned (.int .u64 (n : Int)) ∧ Cur w' b s r ∧ Keep [b] w w' := by
  obtain ⟨hl, a, hs, hd⟩ := h
  have T := du_calls hd (by rw [hs]; simp) hl
  subst hs
  rw [Ds.un_enc hn] at T
  refine T.mono ?_
  rintro e w' ⟨rfl, h1, h2⟩
  exact ⟨rfl, ⟨hl, a ++ encU n, by simp, h1⟩, h2⟩
theorem cur_i {n most : Nat} (h : Cur w b s (encU n ++ r)) (hn : n < 18446744073709551616) (hm : n ≤ most) (hmm : most ≤ 4611686018427387904) :
    Calls Tryz.prog 192 #[.pointer (some ⟨b, 0, none⟩), .int .i64 (most : Int)] w fun e w' => e = .returned (.int .i64 (n : Int)) ∧ Cur w' b s r ∧ Keep [b] w w' := by
  obtain ⟨hl, a, hs, hd⟩ := h
  have T := di_calls hd (by rw [hs]; simp) hl most hmm
  subst hs
  rw [Ds.i_enc hn hm] at T
  refine T.mono ?_
  rintro e w' ⟨rfl, h1, h2⟩
  exact ⟨rfl, ⟨hl, a ++ encU n, by simp, h1⟩, h2⟩
theorem cur_s {x : List UInt8} {most : Nat} (h : Cur w b s (encS x ++ r)) (hn : x.length < 18446744073709551616) (hm : x.length ≤ most) (hmm : most ≤ 4611686018427387904) :
    Calls Tryz.prog 193 #[.pointer (some ⟨b, 0, none⟩), .int .i64 (most : Int)] w fun e w' => e = .returned (.string (bs x)) ∧ Cur w' b s r ∧ Keep [b] w w' := by
  obtain ⟨hl, a, hs, hd⟩ := h
  have T := ds_calls hd (by rw [hs]; simp) hl most hmm
  subst hs
  rw [Ds.str_enc hn hm] at T
  refine T.mono ?_
  rintro e w' ⟨rfl, h1, h2⟩
  exact ⟨rfl, ⟨hl, a ++ encS x, by simp, h1⟩, h2⟩
theorem cur_done (h : Cur w b s []) :
    Calls Tryz.prog 198 #[.pointer (some ⟨b, 0, none⟩)] w fun e w' => e = .returned (.int .i64 0) ∧ Keep [b] w w' := by
  obtain ⟨hl, a, hs, hd⟩ := h
  rw [List.append_nil] at hs
  subst hs
  have T := done_calls hd (Nat.le_refl _) hl
  rw [Ds.done_end] at T
  refine T.mono ?_
  rintro e w' ⟨rfl, h1, h2⟩
  exact ⟨rfl, h2⟩
theorem infoI : (Tryz.prog.info? 3).map (fun i => (i.zero, i.size, i.bytes)) = some (some (.int .i64 0), 1, 8) := by kernel_rfl
theorem encIs_cons (n : Nat) (l : List Nat) : encIs (n :: l) = encU n ++ encIs l := rfl
/-- What a list that was read looks like: at the head of a block; nil, if it has nothing. -/
def Fresh (v : Value) (n : Nat) : Prop := (n = 0 → v = .slice none 0 0) ∧ (n ≠ 0 → ∃ g c, v = .slice (some ⟨g, 0, none⟩) n c ∧ n ≤ c)
set_option maxRecDepth 100000 in
set_option maxHeartbeats 1000000 in
theorem cur_list {l : List Nat} {most each : Nat} (h : Cur w b s (encIs [l.length] ++ (encIs l ++ r))) (hm : l.length ≤ most) (hmm : most ≤ 1000000) (he : ∀ n ∈ l, n ≤ each) (hee : each ≤ 1000000) :
    Calls Tryz.prog 201 #[.pointer (some ⟨b, 0, none⟩), .int .i64 (most : Int), .int .i64 (each : Int)] w fun e w' => ∃ v, e = .returned v ∧ IntSl w' v l ∧ (∀ k, v.ownBlock = some k → w.heap.size ≤ k) ∧ Cur w' b s r ∧ Keep [b] w w' ∧ Fresh v l.length := by
  have HE := Lib.hid he
  have HB0 := Lib.hid h.lt
  obtain ⟨i0, hi, hz0, hz1, hz2⟩ := info_parts infoI
  have HC0 : Hid (Cur w b s (encU l.length ++ (encIs l ++ r))) := Lib.hid (by simpa [encIs] using h)
  clear h he
  go_enter Tryz.func201, Tryz.ntmps201
  go_wp2_with (go_at_call 192; refine (cur_i HC0.out (by omega) hm (by omega)).mono ?_; rintro e w1 ⟨rfl, hc1, hk1⟩; have HC1 := Lib.hid hc1; have HK1 := Lib.hid hk1; clear hc1 hk1)
  go_loopw [7, 8] (fun vl vn wr => ∃ k : Nat, k ≤ l.length ∧ vn = .int .i64 ((l.length - k : Nat) : Int) ∧ wr.ownsRow w.heap.size 3 1 vl k (ints (l.take k)) ∧ Cur wr b s (encIs (l.drop k) ++ r) ∧ Keep [b] w wr ∧ (k = 0 → vl = .slice none 0 0)) (fun _ vn _ => (intOf vn).toNat)
  case atStart => exact ⟨0, Nat.zero_le _, rfl, World.ownsRow_nil _ _ _ _, HC1.out, HK1.out, fun _ => rfl⟩
  case round =>
    obtain ⟨k, hk, rfl, hown, hcur, hkeep, hnil⟩ := hrel
    have HNIL := Lib.hid hnil
    clear hnil
    have HO := Lib.hid hown
    have HCU := Lib.hid hcur
    have HK := Lib.hid hkeep
    have hbl := hcur.lt
    have hsz := hkeep.size
    clear hown hcur hkeep
    by_cases hlt : k < l.length
    · have hgt : decide ((0 : Int) < ((l.length - k : Nat) : Int)) = true := decide_eq_true (by omega)
      have hw1 : IntKind.i64.wrap (((l.length - k : Nat) : Int) - 1) = ((l.length - (k + 1) : Nat) : Int) := by rw [IntWalk.i64_in _ (by omega)]; omega
      have hx := HE.out l[k] (List.getElem_mem hlt)
      have hcu : Cur wr b s (encU l[k] ++ (encIs (l.drop (k + 1)) ++ r)) := by
        have h1 := HCU.out
        rw [List.drop_eq_getElem_cons hlt, encIs_cons, List.append_assoc] at h1
        exact h1
      have HCV := Lib.hid hcu
      have HT : Hid (ints (l.take k) ++ [.int .i64 (l[k] : Int)] = ints (l.take (k + 1))) := by
        show _ = _
        rw [List.take_succ_eq_append_getElem hlt]
        unfold ints
        rw [List.map_append]
        rfl
      clear hcu
      generalize l[k] = x at *
      go_wp2_with (first
        | (go_at_call 192; refine (cur_i HCV.out (by omega) hx (by omega)).mono ?_; rintro e w2 ⟨rfl, hc2, hk2⟩; have HC2 := Lib.hid hc2; have HK2 := Lib.hid hk2; have HO2 : Hid (w2.ownsRow w.heap.size 3 1 _ k (ints (l.take k))) := Lib.hid (hk2.owns HO.out (fun g hg hm => by have := (HO.out.lt g hg).1; simp only [List.mem_singleton] at hm; have := HB0.out; omega)); have hE2 : w2.cell? ⟨b, 2, none⟩ = some (.int .i64 0) := (by obtain ⟨-, a, -, h3⟩ := hc2; exact h3.c2); clear hc2 hk2)
        | (at_builtin; refine wpList_append_own _ rfl _ _ 22 rfl w.heap.size 3 i0 (.int .i64 0) 1 8 Tryz.underlying22 hi hz0 hz1 hz2 rfl (by decide) _ _ _ rfl (HO2.out.alloc _) ⟨_, 0, none⟩ 1 1 [.int .i64 (x : Int)] rfl rfl (cell_one_new _ _ _) ?c2 ?c3 ?c4 ?c5 ?_))
      case c2 => simp [Value.oneCell']
      case c3 => unfold maxLen; omega
      case c4 => omega
      case c5 => have := HK2.out.size; simp; omega
      intro v' w3 hown3 hgrow _
      rw [HT.out] at hown3
      have HO3 := Lib.hid hown3
      have HK3 : Hid (Keep [b] w w3) := Lib.hid (((HK.out.trans HK2.out).alloc _).grown hgrow (fun g hg => .inr (HO2.out.lt g hg).1))
      have HC3 : Hid (Cur w3 b s (encIs (l.drop (k + 1)) ++ r)) := Lib.hid (HC2.out.keep (((Keep.refl (Option.toList _) w2).alloc _).grown hgrow (fun g hg => .inl (by simpa using hg))) (fun hm => by
        have h1 := (HO2.out.lt b (by simpa using hm)).1
        have h2 := HB0.out
        omega))
      clear hown3 hgrow
      go_wp2
      go_roundw
      case rel => exact ⟨k + 1, hlt, by go_num, HO3.out, HC3.out, HK3.out, fun h => absurd h (by omega)⟩
      case measure => simp [intOf]; omega
    · obtain rfl : k = l.length := by omega
      have hgt : decide ((0 : Int) < ((l.length - l.length : Nat) : Int)) = false := by simp
      go_wp2
      go_ret
      rw [List.take_of_length_le (Nat.le_refl _)] at HO
      refine ⟨_, rfl, IntSl.of_own HO.out, fun g hg => (HO.out.lt g hg).1, ?_, HK.out, HNIL.out, fun hne => ?_⟩
      rotate_left
      · rcases HO.out.2 with ⟨rfl, h2⟩ | ⟨g, cap, cur, rfl, h1, h3, h4, h5, h6, h7⟩
        · exact absurd h2 hne
        · exact ⟨g, cap, rfl, by omega⟩
      have h1 := HCU.out
      rw [List.drop_of_length_le (Nat.le_refl _)] at h1
      exact h1
end
end Go.Proofs.YtpnoiagjgkajdaaGreatDoor
