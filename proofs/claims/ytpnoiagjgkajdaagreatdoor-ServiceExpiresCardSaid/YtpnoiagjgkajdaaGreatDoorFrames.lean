/- The contract of term.frames. -/
import Derived.Test.YtpnoiagjgkajdaaGreatDoorFrame0
namespace Go.Proofs.YtpnoiagjgkajdaaGreatDoor
open Go.RowKit
attribute [local go_sem] size_bs bs_append

/-- An entry of a log. -/
structure En where
  index : Nat
  term : Nat
  cmd : List UInt8
def En.cells (e : En) : List Value := [.int .i64 (e.index : Int), .int .i64 (e.term : Int), .string (bs e.cmd)]
def entsV (l : List En) : List Value := l.flatMap En.cells
structure En.Ok (e : En) : Prop where
  index : e.index ≤ 4611686018427387904
  term : e.term ≤ 4611686018427387904
  cmd : e.cmd.length ≤ 16777216
/-- A slice value reads as entries. -/
def EntsAt (w : World) (v : Value) (l : List En) : Prop :=
  ∃ A c, v = .slice A l.length c ∧ (l ≠ [] → ∃ g o, A = some ⟨g, o, none⟩ ∧ ∀ j u, (entsV l)[j]? = some u → w.cell? ⟨g, o + j, none⟩ = some u)
theorem entsV_at (l : List En) (k : Nat) (h : k < l.length) : (entsV l)[3 * k]? = some (.int .i64 (l[k].index : Int)) ∧ (entsV l)[3 * k + 1]? = some (.int .i64 (l[k].term : Int)) ∧ (entsV l)[3 * k + 2]? = some (.string (bs l[k].cmd)) := by
  induction l generalizing k with
  | nil => simp at h
  | cons e l ih =>
    cases k with
    | zero => simp [entsV, En.cells]
    | succ k =>
      have := ih k (by simpa using h)
      have h1 : 3 * (k + 1) = (3 * k) + 1 + 1 + 1 := by omega
      simp only [entsV, List.flatMap_cons, En.cells, List.cons_append, List.nil_append, List.getElem_cons_succ, h1, List.getElem?_cons_succ] at this ⊢
      exact this
/-- What a log keeps of an entry. -/
def encE (e : En) : List UInt8 := encU e.index ++ (encU e.term ++ encS e.cmd)
def frs (l : List En) : List UInt8 := l.flatMap fun e => frame (encE e)

theorem i2_new {wr w : World} {b p : Nat} {L : List UInt8} (x y : Nat) (hx : x ≤ 4611686018427387904) (hy : y ≤ 4611686018427387904) (hL : L.length ≤ 549755813888) (h : EncNew wr w b L) (hp : Blk w p 3 #[.int .i64 (x : Int), .int .i64 (y : Int)]) :
    Calls Tryz.prog 110 #[.pointer (some ⟨b, 0, none⟩), .slice (some ⟨p, 0, none⟩) 2 2] w fun e w' => e = .returned (.pointer (some ⟨b, 0, none⟩)) ∧ EncNew wr w' b (L ++ (encU x ++ encU y)) ∧ OthersE w w' := by
  obtain ⟨v, hv, _⟩ := h.enc
  refine (i2_calls x y hx hy L hL b p v w hv hp).mono ?_
  rintro e w' ⟨rfl, v', h5, h6⟩
  exact ⟨rfl, h.step_one hv h5 h6⟩
theorem encE_len (e : En) (h : e.Ok) : (encE e).length ≤ 16777300 := by
  have h1 := encU_len e.index (by have := h.index; omega)
  have h2 := encU_len e.term (by have := h.term; omega)
  have h3 := encU_len e.cmd.length (by have := h.cmd; omega)
  have h4 := h.cmd
  simp only [encE, encS, List.length_append]
  omega
theorem frs_len (l : List En) (h : ∀ e ∈ l, e.Ok) (hl : l.length ≤ 5000) : (frs l).length ≤ 100000000000 := by
  have : (frs l).length ≤ l.length * 16777400 := by
    clear hl
    induction l with
    | nil => simp [frs]
    | cons e l ih =>
      have h1 := ih (fun x hx => h x (by simp [hx]))
      have h2 := encE_len e (h e (by simp))
      simp only [frs, List.flatMap_cons, List.length_append, frame_len, List.length_cons] at h1 ⊢
      omega
  omega

def FRel (l : List En) (w : World) (k_ : Value) (wr : World) : Prop :=
  ∃ k : Nat, k ≤ l.length ∧ k_ = .int .i64 (k : Int) ∧ Lib.IsBuilder 346 5 w.heap.size w.heap.size (Lib.byteCells (frs (l.take k))) wr ∧ Below w.heap.size w wr

set_option maxRecDepth 100000 in
set_option maxHeartbeats 1000000 in
theorem frames_calls (l : List En) (v : Value) (w : World) (hT : Tab w) (hv : EntsAt w v l) (hl : l.length ≤ 5000) (hok : ∀ e ∈ l, e.Ok) :
    Calls Tryz.prog 298 #[v] w fun e w' => e = .returned (.string (bs (frs l))) ∧ Keep [] w w' := by
  obtain ⟨A, c, rfl, hA⟩ := hv
  have HA := Lib.hid hA
  have HT := Lib.hid hT
  have HOK := Lib.hid hok
  clear hA hT hok
  go_enter Tryz.func298, Tryz.ntmps298
  go_wp2
  go_loopw [5, 8] (fun _ a wr => FRel l w a wr) (fun _ a _ => l.length - (intOf a).toNat)
  case atStart => exact ⟨0, Nat.zero_le _, rfl, Lib.fresh_isBuilder _ _ _, (Below.refl _ _).alloc (Nat.le_refl _) _⟩
  case round =>
    obtain ⟨k, hk, rfl, hB, hbl⟩ := hrel
    have HB := Lib.hid hB
    have HBL := Lib.hid hbl
    clear hB hbl
    by_cases hlt : k < l.length
    · obtain ⟨g, o, rfl, hc⟩ := HA.out (by intro h; simp [h] at hlt)
      obtain ⟨e1, e2, e3⟩ := entsV_at l k hlt
      have c1 := hc _ _ e1
      have c2 := hc _ _ e2
      have c3 := hc _ _ e3
      have hg := World.block_lt_of_cell? w _ c1
      simp only at hg
      have d1 : wr.cell? ⟨g, o + k * 3, none⟩ = some (.int .i64 (l[k].index : Int)) := by rw [show o + k * 3 = o + 3 * k from by omega]; exact (HBL.out.cell hg).trans c1
      have d2 : wr.cell? ⟨g, o + k * 3 + 1, none⟩ = some (.int .i64 (l[k].term : Int)) := by rw [show o + k * 3 + 1 = o + (3 * k + 1) from by omega]; exact (HBL.out.cell hg).trans c2
      have d3 : wr.cell? ⟨g, o + k * 3 + 2, none⟩ = some (.string (bs l[k].cmd)) := by rw [show o + k * 3 + 2 = o + (3 * k + 2) from by omega]; exact (HBL.out.cell hg).trans c3
      clear hc e1 e2 e3 c1 c2 c3
      have hEok := HOK.out l[k] (List.getElem_mem hlt)
      obtain ⟨hx1, hx2, hx3⟩ := hEok
      have HSN : Hid (l.take (k + 1) = l.take k ++ [l[k]]) := by show _ = _; rw [List.take_succ_eq_append_getElem hlt]
      generalize l[k] = x at *
      obtain ⟨xi, xt, xc⟩ := x
      simp only at *
      have HS : Hid (∀ W : World, Blk W wr.heap.size 194 #[.int .i64 (xi : Int), .int .i64 (xt : Int), .string (bs xc)] → Blk W wr.heap.size 194 #[.int .i64 (xi : Int), .int .i64 (xt : Int), .string (bs xc)] ∧ W.cell? ⟨wr.heap.size, 0, none⟩ = some (.int .i64 (xi : Int)) ∧ W.cell? ⟨wr.heap.size, 1, none⟩ = some (.int .i64 (xt : Int)) ∧ W.cell? ⟨wr.heap.size, 2, none⟩ = some (.string (bs xc))) := fun W h => ⟨h, h.cell 0, h.cell 1, h.cell 2⟩
      have hwlt : w.heap.size ≤ wr.heap.size := HBL.out.size
      have hlen : (frs (l.take k)).length ≤ 100000000000 := frs_len _ (fun e he => HOK.out e (List.mem_of_mem_take he)) (by simp; omega)
      have hel : (encU xi ++ (encU xt ++ encS xc)).length ≤ 16777300 := encE_len ⟨xi, xt, xc⟩ ⟨hx1, hx2, hx3⟩
      have hBne : w.heap.size ≠ wr.heap.size := by
        have := HB.out
        intro e
        rcases this with h | h <;> exact absurd h.lt (by omega)
      have hul : ([] ++ (encU xi ++ encU xt)).length ≤ 274877906944 := by
        have h1 := encU_len xi (by omega)
        have h2 := encU_len xt (by omega)
        simp only [List.nil_append, List.length_append]
        omega
      go_upto_region 5 with fail
      go_region_held3 (fun w' => Blk w' wr.heap.size 194 #[.int .i64 (xi : Int), .int .i64 (xt : Int), .string (bs xc)] ∧ w'.cell? ⟨wr.heap.size, 0, none⟩ = some (.int .i64 (xi : Int)) ∧ w'.cell? ⟨wr.heap.size, 1, none⟩ = some (.int .i64 (xt : Int)) ∧ w'.cell? ⟨wr.heap.size, 2, none⟩ = some (.string (bs xc)))
        (first
          | (exact HS.out _ (Blk.new _ _ _))
          | (go_split_ands; refine HS.out _ ?_; assumption)
          | (go_split_ands; refine HS.out _ (Blk.alloc ?_ _); assumption)
          | (go_split_ands; refine HS.out _ (Blk.drew (Blk.alloc ?_ _)); assumption)
          | (go_split_ands; refine HS.out _ (HX5.out _ _ _ ?_ hBne.symm (by decide)); assumption)
          | (go_split_ands; refine HS.out _ (Blk.keep ?_ HK4.out (by simp)); assumption)
          | (go_split_ands; refine HS.out _ (HX3.out _ _ _ ?_ (by decide) (by decide)); assumption)
          | (go_split_ands; refine HS.out _ (HX2.out _ _ _ ?_ (by decide) (by decide)); assumption))
        (first
          | (go_at_call 110; refine (i2_new (wr := wr) (L := []) xi xt hx1 hx2 (Nat.zero_le _) (EncNew.start (by repeat (first | exact Keep.refl _ _ | refine Keep.drew ?_ | refine Keep.alloc ?_ _)) (by omega) (by repeat (first | (refine Blk.here _ _ _ _ ?_; (focus simp)) | refine Blk.drew ?_ | refine Blk.alloc ?_ _))) (by repeat (first | (refine Blk.here _ _ _ _ ?_; (focus simp)) | refine Blk.drew ?_ | refine Blk.alloc ?_ _))).mono ?_; rintro e w2 ⟨rfl, hE2, hX2⟩; have HE2 := Lib.hid hE2; have HX2 := Lib.hid hX2; clear hE2 hX2)
          | (go_at_call 111; refine (s_new (wr := wr) (L := [] ++ (encU xi ++ encU xt)) xc (by omega) hul (by first | exact HE2.out | exact HE2.out.alloc _) (by first | exact Blk.new _ _ _ | exact HX2.out _ _ _ (by repeat (first | (refine Blk.here _ _ _ _ ?_; (focus simp)) | refine Blk.drew ?_ | refine Blk.alloc ?_ _)) (by decide) (by decide))).mono ?_; rintro e w3 ⟨rfl, hE3, hX3⟩; have HE3 := Lib.hid hE3; have HX3 := Lib.hid hX3; clear hE3 hX3)
          | (go_at_call 114; refine (bytes_new HE3.out).mono ?_; rintro e w' ⟨rfl, rfl⟩)
          | (go_at_call 286; refine (frame_calls (encU xi ++ (encU xt ++ encS xc)) _ _ (Tab.below_ HT.out (below_keep HBL.out hwlt (HE3.out.alloc _).keep)) (by omega) (by omega) (Blk.new _ _ _)).mono ?_; rintro e w4 ⟨rfl, hk4⟩; have HK4 := Lib.hid hk4; clear hk4)
          | (go_at_call 235; refine (wstr_calls w.heap.size w.heap.size (frs (l.take k)) (frame (encU xi ++ (encU xt ++ encS xc))) _ (isBuilder_keep HB.out ((HE3.out.alloc _).keep.trans HK4.out)) (by rw [frame_len]; omega) (Nat.le_trans hwlt ((HE3.out.alloc _).keep.trans HK4.out).size)).mono ?_; rintro e w5 ⟨⟨rr, rfl⟩, hB5, hb5, hX5⟩; have HB5 := Lib.hid hB5; have Hb5 := Lib.hid hb5; have HX5 := Lib.hid hX5; clear hB5 hb5 hX5)
          | fail)
      all_goals
        go_wp2
        go_roundw
        case rel =>
          refine ⟨k + 1, by omega, by go_num, ?_, (below_keep HBL.out hwlt ((HE3.out.alloc _).keep.trans HK4.out)).trans Hb5.out⟩
          have := HB5.out
          rw [HSN.out]
          simpa [frs, encE] using this
        case measure => simp [intOf]; omega
    · go_wp2_with (go_at_call 237; refine (Tryz.Builder_String_any w.heap.size w.heap.size (frs (l.take k)) wr HB.out HBL.out.size).mono ?_; rintro e w5 ⟨rfl, hb5⟩; have Hb5 := Lib.hid hb5; clear hb5)
      go_ret
      rw [List.take_of_length_le (by omega)]
      exact ⟨rfl, Keep.of_below (HBL.out.trans Hb5.out)⟩

end Go.Proofs.YtpnoiagjgkajdaaGreatDoor
