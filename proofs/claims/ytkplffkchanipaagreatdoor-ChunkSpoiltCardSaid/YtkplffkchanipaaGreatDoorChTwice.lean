/- The contract of glacierlaw06.ChunkTwice. -/
import Derived.Test.YtkplffkchanipaaGreatDoorLawsB
import Derived.Test.YtkplffkchanipaaGreatDoorChQuiet
namespace Go.Proofs.YtkplffkchanipaaGreatDoor
open Go.RowKit
attribute [local go_sem] size_bs bs_append ba_self
variable {w w' w0 : World} {s b m g : Nat} {C C' : Ck} {D D' : Dk} {X : List (Nat × List UInt8)}

/-- A durable store over a disk that doesn't fail, among a law's own blocks. -/
structure ChS (w0 w : World) (s b m g : Nat) (C : Ck) (D : Dk) (X : List (Nat × List UInt8)) : Prop where
  at_ : StoreAt w s b m g C D
  sure : Sure C D X
  quiet : D.Quiet
  lo : w0.heap.size ≤ s ∧ w0.heap.size ≤ b ∧ w0.heap.size ≤ m ∧ w0.heap.size ≤ g
  keep : Keep [] w0 w
theorem ChS.grow (h : ChS w0 w s b m g C D X) (hk : Keep [] w w') : ChS w0 w' s b m g C D X := ⟨h.at_.grow hk, h.sure, h.quiet, h.lo, h.keep.trans hk⟩
theorem ChS.still (h : ChS w0 w s b m g C D X) : D.Still := h.quiet.still h.sure.here.good
theorem Filled.data {l : List (Nat × List UInt8)} {lim : Int} {v : Value} (h : Filled l w w' s b m g lim v C D X) : ∀ p ∈ X, p.2.length ≤ 40 := fun p hp => by
  obtain ⟨k, hk, _, _, e⟩ := h.all p.1 p.2 (look_ofX h.at_.inv.asc hp)
  rw [← e, List.length_take]
  omega
theorem Filled.chS {l : List (Nat × List UInt8)} {lim : Int} {v : Value} (h : Filled l w w' s b m g lim v C D X) : ChS w w' s b m g C D X :=
  ⟨h.at_.at_, h.at_.inv.sure h.clean, ⟨h.at_.still.lost, h.at_.still.armed⟩, h.at_.lo, h.at_.keep⟩
theorem ChS.sub (h : ChS w0 w s b m g C D X) : ∀ x ∈ [s, b, m], x ∈ ([] : List Nat) ∨ w0.heap.size ≤ x := fun x hx => by
  have := h.lo
  simp only [List.mem_cons, List.not_mem_nil, or_false] at hx
  rcases hx with rfl | rfl | rfl
  · exact .inr this.1
  · exact .inr this.2.1
  · exact .inr this.2.2.1
theorem ChS.compact (h : ChS w0 w s b m g C D X) (hf : FitX X) (hd : ∀ p ∈ X, p.2.length ≤ 40) (hl : X.length ≤ 8) (hs : C.seg + 2 < 100) (hr : D.used + 900 ≤ D.room) :
    Calls Tryz.prog 26 #[.pointer (some ⟨s, 0, none⟩)] w fun e w' => ∃ g' C' D', e = .returned (.int .i64 0) ∧ ChS w0 w' s b m g' C' D' X ∧ Keep [s, b, m] w w' ∧ C'.seg = C.seg + 2 ∧ D'.segs = [C.seg + 1] ∧ D'.used = (frames (exactC X)).length ∧ D'.room = D.room := by
  have hle := exact_le hf hd (by omega)
  obtain ⟨a1, a2, a3, a4, a5, a6, a7, a8, a9⟩ := h.sure.compact_ok h.quiet hf (by omega) hs (by omega)
  refine (compact_calls h.at_ h.sure hf (by omega) hs).mono ?_
  rintro e w' ⟨g', rfl, h1, h2, h3⟩
  have hlo := h.lo
  have hsz := h.keep.size
  exact ⟨g', _, _, by rw [a1], ⟨h1, a2, a8, ⟨hlo.1, hlo.2.1, hlo.2.2.1, by rcases h2 with rfl | h2 <;> omega⟩, h.keep.trans' h3 h.sub⟩, h3, a3, a6, a7, a9⟩
theorem ChS.is_ (h : ChS w0 w s b m g C D X) {v : Value} {base : Nat} (hv : OwnX w base v X) (hX : X.length ≤ 1000) :
    Calls Tryz.prog 18 #[.pointer (some ⟨s, 0, none⟩), v] w fun e w' => e = .returned (.int .i64 0) ∧ ChS w0 w' s b m g C D X ∧ Keep [b, m] w w' := by
  refine (is_calls h.at_ h.sure.ok h.still h.sure.says h.sure.asc hv hX).mono ?_
  rintro e w' ⟨rfl, h1, h2⟩
  exact ⟨rfl, ⟨h1, h.sure, h.quiet, h.lo, h.keep.trans' h2 fun x hx => h.sub x (by simp at hx ⊢; rcases hx with hx | hx <;> simp [hx])⟩, h2⟩
theorem ChS.names (h : ChS w0 w s b m g C D X) {i : Nat} (hi : D.segs = [i]) :
    Calls Tryz.prog 27 #[.pointer (some ⟨b, 0, none⟩)] w fun e w' => ∃ A c, e = .returned (.tuple #[.slice A 1 c, .int .i64 0]) ∧ ChS w0 w' s b m g C D X ∧ Keep [b, m] w w' := by
  have hN := h.sure.here.names
  have T := names_calls h.at_.disk h.sure.here.good.ok (by have := hN.files_len; omega) hN.keys
  rw [h.still.tries] at T
  refine T.mono ?_
  rintro e w' ⟨v, rfl, h1, h2, h3⟩
  have hO := h1 rfl
  have hl : D.names.length = 1 := by rw [Dk.names_segs hN, hi]; rfl
  obtain ⟨A, c, rfl⟩ := hO.slice
  rw [hl]
  have h4 : Keep [b, m] w w' := h3.mono (by simp)
  exact ⟨A, c, rfl, ⟨h.at_.setDisk h4 h2, h.sure, h.quiet, h.lo, h.keep.trans' h4 fun x hx => h.sub x (by simp at hx ⊢; rcases hx with hx | hx <;> simp [hx])⟩, h4⟩
theorem OwnX.sbm {base : Nat} {v : Value} {l : List (Nat × List UInt8)} (h : OwnX w base v l) (hs : StoreAt w s b m g C D) (hk : Keep [s, b, m] w w') : OwnX w' base v l := h.store hs (hk.mono (by simp))

set_option maxRecDepth 100000 in
set_option maxHeartbeats 2000000 in
theorem chunkTwice_calls (w : World) (hT : Tab w) (v : Value) (l : List (Nat × List UInt8)) (hv : ChsAt w v l) (hl : ∀ q ∈ l, q.1 < 18446744073709551616) (lim : Int) (_hlm : -9223372036854775808 ≤ lim) (hlim : lim ≤ 9223372036854775807) :
    Calls Tryz.prog 6 #[v, .int .i64 lim] w fun e w' => e = .returned (.bool true) ∧ Keep [] w w' := by
  have HTF := Lib.hid (filled_calls w hT v l hv hl lim (by omega))
  have HTW := Lib.hid hT
  clear hv hT
  go_enter Tryz.func6, Tryz.ntmps6
  go_upto_region 4 with (first
    | (go_at_call 20; refine HTF.out.mono ?_; rintro e w1 ⟨s, b, m, g, C, D, X, vx, rfl, hF⟩; have HF := Lib.hid hF; have H1 := Lib.hid hF.chS; have hseg := hF.seg; have hused := hF.used; have hroom := hF.room; have HD := Lib.hid hF.data; clear hF)
    | (go_at_call 12; refine (awake6_calls _ H1.out.at_.tab).mono ?_; rintro e w2 ⟨rfl, hk2⟩; have H2 := Lib.hid (H1.out.grow hk2); have HO2 := Lib.hid (HF.out.own.keep2 hk2 (by simp)); clear hk2)
    | (go_at_call 26; refine (H2.out.compact HF.out.fit HD.out HF.out.len (by omega) (by omega)).mono ?_; rintro e w3 ⟨g3, C3, D3, rfl, h3, hk3, hs3, hg3, hu3, hr3⟩; have H3 := Lib.hid h3; have HO3 := Lib.hid (HO2.out.sbm H2.out.at_ hk3); clear h3 hk3))
  have hle := exact_le HF.out.fit HD.out (by have := HF.out.len; omega)
  have hxl := HF.out.len
  go_upto_region 7 with (first
    | (go_at_call 19; refine (used_calls H3.out.at_.disk).mono ?_; rintro e w4 ⟨rfl, rfl⟩; rw [hu3])
    | (go_at_call 26; refine (H3.out.compact HF.out.fit HD.out HF.out.len (by omega) (by omega)).mono ?_; rintro e w5 ⟨g5, C5, D5, rfl, h5, hk5, hs5, hg5, hu5, hr5⟩; have H5 := Lib.hid h5; have HO5 := Lib.hid (HO3.out.sbm H3.out.at_ hk5); clear h5 hk5))
  go_wp2_with (first
    | (go_at_call 27; refine (H5.out.names hg5).mono ?_; rintro e w6 ⟨A6, c6, rfl, h6, hk6⟩; have H6 := Lib.hid h6; have HO6 := Lib.hid (HO5.out.disk H5.out.at_.disk hk6); clear h6 hk6)
    | (go_at_call 19; refine (used_calls H6.out.at_.disk).mono ?_; rintro e w7 ⟨rfl, rfl⟩; rw [hu5])
    | (go_at_call 18; refine (H6.out.is_ HO6.out (by omega)).mono ?_; rintro e w8 ⟨rfl, h8, -⟩; have H8 := Lib.hid h8; clear h8))
  go_ret
  exact ⟨rfl, H8.out.keep⟩

end Go.Proofs.YtkplffkchanipaaGreatDoor
