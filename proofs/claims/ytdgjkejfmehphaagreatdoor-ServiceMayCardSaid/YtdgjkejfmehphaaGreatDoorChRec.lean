/- A store's records: their frames; a frame's head. -/
import Derived.Test.YtdgjkejfmehphaaGreatDoorEncU2
import Derived.Test.YtdgjkejfmehphaaGreatDoorBase
import Derived.Test.YtdgjkejfmehphaaGreatDoorSeal
import Derived.Lib.AppendIntMem
import Derived.Test.YtdgjkejfmehphaaGreatDoorShelf
import Derived.Deep.QuietTactic
import Derived.BigQuiet
import Derived.IntWalk
namespace Go.Proofs.YtdgjkejfmehphaaGreatDoor
open Go.RowKit
attribute [local go_sem] size_bs bs_append

/-- What a record's frame contains. -/
def encRec (k n : Nat) (s : List UInt8) : List UInt8 := encU k ++ (encU n ++ encS s)
theorem encRec_len (k n : Nat) (s : List UInt8) (hk : k < 18446744073709551616) (hn : n < 18446744073709551616) (hs : s.length ≤ 1000000) : (encRec k n s).length ≤ 1000100 := by
  have h1 := encU_len k hk
  have h2 := encU_len n hn
  have h3 := encU_len s.length (by omega)
  simp only [encRec, encS, List.length_append]
  omega
theorem u2_new {wr w : World} {b p : Nat} {L : List UInt8} (x y : Nat) (hx : x < 18446744073709551616) (hy : y < 18446744073709551616) (hL : L.length ≤ 549755813888) (h : EncNew wr w b L) (hp : Blk w p 50 #[.int .u64 (x : Int), .int .u64 (y : Int)]) :
    Calls Tryz.prog 89 #[.pointer (some ⟨b, 0, none⟩), .slice (some ⟨p, 0, none⟩) 2 2] w fun e w' => e = .returned (.pointer (some ⟨b, 0, none⟩)) ∧ EncNew wr w' b (L ++ (encU x ++ encU y)) ∧ OthersE w w' := by
  obtain ⟨v, hv, _⟩ := h.enc
  refine (u2_calls x y hx hy L hL b p v w hv hp).mono ?_
  rintro e w' ⟨rfl, v', h5, h6⟩
  exact ⟨rfl, h.step_one hv h5 h6⟩

set_option maxRecDepth 100000 in
set_option maxHeartbeats 1000000 in
theorem recFrame_calls (k n : Nat) (s : List UInt8) (hk : k < 18446744073709551616) (hn : n < 18446744073709551616) (hs : s.length ≤ 1000000) (w : World) (hT : Tab w) :
    Calls Tryz.prog 238 #[.agg #[.int .u64 (k : Int), .int .u64 (n : Int), .string (bs s)]] w fun e w' => e = .returned (.string (bs (frame (encRec k n s)))) ∧ Keep [] w w' := by
  have HT := Lib.hid hT
  have hel : (encU k ++ (encU n ++ encS s)).length ≤ 1000100 := encRec_len k n s hk hn hs
  have hul : ([] ++ (encU k ++ encU n)).length ≤ 274877906944 := by
    have h1 := encU_len k hk
    have h2 := encU_len n hn
    simp only [List.nil_append, List.length_append]
    omega
  have HS : Hid (∀ W : World, Blk W w.heap.size 295 #[.int .u64 (k : Int), .int .u64 (n : Int), .string (bs s)] → Blk W w.heap.size 295 #[.int .u64 (k : Int), .int .u64 (n : Int), .string (bs s)] ∧ W.cell? ⟨w.heap.size, 0, none⟩ = some (.int .u64 (k : Int)) ∧ W.cell? ⟨w.heap.size, 1, none⟩ = some (.int .u64 (n : Int)) ∧ W.cell? ⟨w.heap.size, 2, none⟩ = some (.string (bs s))) := fun W h => ⟨h, h.cell 0, h.cell 1, h.cell 2⟩
  clear hT
  go_enter Tryz.func238, Tryz.ntmps238
  go_upto_region 1 with fail
  go_region_held3 (fun w' => Blk w' w.heap.size 295 #[.int .u64 (k : Int), .int .u64 (n : Int), .string (bs s)] ∧ w'.cell? ⟨w.heap.size, 0, none⟩ = some (.int .u64 (k : Int)) ∧ w'.cell? ⟨w.heap.size, 1, none⟩ = some (.int .u64 (n : Int)) ∧ w'.cell? ⟨w.heap.size, 2, none⟩ = some (.string (bs s)))
    (first
      | (exact HS.out _ (Blk.new _ _ _))
      | (go_split_ands; refine HS.out _ ?_; assumption)
      | (go_split_ands; refine HS.out _ (Blk.alloc ?_ _); assumption)
      | (go_split_ands; refine HS.out _ (Blk.drew (Blk.alloc ?_ _)); assumption)
      | (go_split_ands; refine HS.out _ (Blk.keep ?_ HK4.out (by simp)); assumption)
      | (go_split_ands; refine HS.out _ (HX3.out _ _ _ ?_ (by decide) (by decide)); assumption)
      | (go_split_ands; refine HS.out _ (HX2.out _ _ _ ?_ (by decide) (by decide)); assumption))
    (first
      | (go_at_call 89; refine (u2_new (wr := w) (L := []) k n hk hn (Nat.zero_le _) (EncNew.start (by repeat (first | exact Keep.refl _ _ | refine Keep.drew ?_ | refine Keep.alloc ?_ _)) (by omega) (by repeat (first | (refine Blk.here _ _ _ _ ?_; (focus simp)) | refine Blk.drew ?_ | refine Blk.alloc ?_ _))) (by repeat (first | (refine Blk.here _ _ _ _ ?_; (focus simp)) | refine Blk.drew ?_ | refine Blk.alloc ?_ _))).mono ?_; rintro e w2 ⟨rfl, hE2, hX2⟩; have HE2 := Lib.hid hE2; have HX2 := Lib.hid hX2; clear hE2 hX2)
      | (go_at_call 86; refine (s_new (wr := w) (L := [] ++ (encU k ++ encU n)) s (by omega) hul (by first | exact HE2.out | exact HE2.out.alloc _) (by first | exact Blk.new _ _ _ | exact HX2.out _ _ _ (by repeat (first | (refine Blk.here _ _ _ _ ?_; (focus simp)) | refine Blk.drew ?_ | refine Blk.alloc ?_ _)) (by decide) (by decide))).mono ?_; rintro e w3 ⟨rfl, hE3, hX3⟩; have HE3 := Lib.hid hE3; have HX3 := Lib.hid hX3; clear hE3 hX3)
      | (go_at_call 90; refine (bytes_new HE3.out).mono ?_; rintro e w' ⟨rfl, rfl⟩)
      | (go_at_call 272; refine (frame_calls (encU k ++ (encU n ++ encS s)) _ _ (Tab.keep HT.out (HE3.out.alloc _).keep (by simp)) (by omega) (by omega) (Blk.new _ _ _)).mono ?_; rintro e w4 ⟨rfl, hk4⟩; have HK4 := Lib.hid hk4; clear hk4)
      | fail)
  all_goals
    go_wp2
    go_ret
    exact ⟨rfl, (HE3.out.alloc _).keep.trans HK4.out⟩

end Go.Proofs.YtdgjkejfmehphaaGreatDoor
