/- The contracts of wire's decoder: From, next, Fail, Left, U. -/
import Derived.Test.YtpnoiagjgkajdaaGreatDoorProg
import Derived.Test.YtpnoiagjgkajdaaGreatDoorBase
import Derived.WalkLawsBesides
import Derived.Deep.QuietTactic
import Derived.BigQuiet
import Derived.Deep.RegionHeld3
import Derived.Deep.DeepCutAuto
namespace Go.Proofs.YtpnoiagjgkajdaaGreatDoor
open Go.RowKit
attribute [local go_sem] size_bs bs_append

/-- A decoder: its bytes, how many are consumed, its error. -/
structure Ds where
  s : List UInt8
  at_ : Nat
  err : Int
structure DecAt (w : World) (b : Nat) (d : Ds) : Prop where
  blk : Blk w b 367 #[.string (bs d.s), .int .i64 (d.at_ : Int), .int .i64 d.err]
theorem DecAt.drewN {w : World} {b : Nat} {d : Ds} (h : DecAt w b d) (n : Nat) : DecAt (w.drewN n) b d := ⟨h.blk⟩
theorem DecAt.keep {M : List Nat} {w w' : World} {b : Nat} {d : Ds} (h : DecAt w b d) (hk : Keep M w w') (hb : b ∉ M) : DecAt w' b d := ⟨h.blk.keep hk hb⟩
section
variable {w : World} {b : Nat} {d : Ds} (h : DecAt w b d)
include h
theorem DecAt.c0 : w.cell? ⟨b, 0, none⟩ = some (.string (bs d.s)) := h.blk.cell 0
theorem DecAt.c1 : w.cell? ⟨b, 1, none⟩ = some (.int .i64 (d.at_ : Int)) := h.blk.cell 1
theorem DecAt.c2 : w.cell? ⟨b, 2, none⟩ = some (.int .i64 d.err) := h.blk.cell 2
theorem DecAt.err_ (e : Int) : DecAt (w.setCell ⟨b, 2, none⟩ (.int .i64 e)) b { d with err := e } := ⟨h.blk.set_ 2 _⟩
theorem DecAt.at__ (n : Nat) : DecAt (w.setCell ⟨b, 1, none⟩ (.int .i64 (n : Int))) b { d with at_ := n } := ⟨h.blk.set_ 1 _⟩
end

set_option maxHeartbeats 400000 in
theorem from_calls (s : List UInt8) (w : World) :
    Calls Tryz.prog 191 #[.string (bs s)] w fun e w' => e = .returned (.pointer (some ⟨w.heap.size, 0, none⟩)) ∧ DecAt w' w.heap.size ⟨s, 0, 0⟩ ∧ Keep [] w w' := by
  go_enter Tryz.func191, Tryz.ntmps191
  go_wp2
  go_ret
  exact ⟨rfl, ⟨Blk.new _ _ _⟩, (Keep.refl _ _).alloc _⟩

def Ds.fail (d : Ds) (e : Int) : Ds := { d with err := if d.err = 0 then e else d.err }
set_option maxHeartbeats 400000 in
theorem dfail_calls {w : World} {b : Nat} {d : Ds} (h : DecAt w b d) (e : Int) :
    Calls Tryz.prog 197 #[.pointer (some ⟨b, 0, none⟩), .int .i64 e] w fun r w' => r = .returned (.tuple #[]) ∧ DecAt w' b (d.fail e) ∧ Keep [b] w w' := by
  have hf : d.fail e = { d with err := if d.err = 0 then e else d.err } := rfl
  have HF := Lib.hid hf
  clear hf
  have c2 := h.c2
  have f2 := h.blk.frozen 2
  have H := Lib.hid h
  clear h
  by_cases h0 : d.err = 0
  · have hb : (d.err == 0) = true := by simpa using h0
    have H0 := Lib.hid h0
    clear h0
    go_enter Tryz.func197, Tryz.ntmps197
    go_wp2
    go_end0
    rw [HF.out, if_pos H0.out]
    exact ⟨rfl, H.out.err_ e, (Keep.refl _ _).setCell (.inl (by simp)) _⟩
  · have hb : (d.err == 0) = false := by simpa using h0
    have H0 := Lib.hid h0
    clear h0
    go_enter Tryz.func197, Tryz.ntmps197
    go_wp2
    go_end0
    rw [HF.out, if_neg H0.out]
    exact ⟨rfl, H.out, Keep.refl _ _⟩

set_option maxHeartbeats 400000 in
theorem left_calls {w : World} {b : Nat} {d : Ds} (h : DecAt w b d) (ha : d.at_ ≤ d.s.length) (hl : d.s.length ≤ 4611686018427387904) :
    Calls Tryz.prog 255 #[.pointer (some ⟨b, 0, none⟩)] w fun r w' => r = .returned (.int .i64 ((d.s.length : Int) - (d.at_ : Int))) ∧ DecAt w' b d ∧ Keep [b] w w' := by
  have c0 := h.c0
  have c1 := h.c1
  have H := Lib.hid h
  clear h
  go_enter Tryz.func255, Tryz.ntmps255
  go_wp2
  go_quiet (fail)
  go_wp2
  go_ret
  exact ⟨rfl, H.out.drewN _, (Keep.refl _ _).drewN _⟩

set_option maxRecDepth 100000 in
set_option maxHeartbeats 400000 in
theorem next_err {w : World} {b : Nat} {d : Ds} (h : DecAt w b d) (h0 : d.err ≠ 0) :
    Calls Tryz.prog 258 #[.pointer (some ⟨b, 0, none⟩)] w fun r w' => r = .returned (.tuple #[.int .u8 0, .bool false]) ∧ DecAt w' b d ∧ Keep [b] w w' := by
  have c2 := h.c2
  have hb : (d.err == 0) = false := by simpa using h0
  have hb2 : (d.err != 0) = true := by simpa using h0
  have H := Lib.hid h
  have H0 := Lib.hid h0
  clear h h0
  go_enter Tryz.func258, Tryz.ntmps258
  go_wp2
  go_quiet (fail)
  go_wp2
  go_ret2
  exact ⟨rfl, H.out.drewN _, (Keep.refl _ _).drewN _⟩

set_option maxRecDepth 100000 in
set_option maxHeartbeats 400000 in
theorem next_end {w : World} {b : Nat} {d : Ds} (h : DecAt w b d) (h0 : d.err = 0) (ha : d.at_ = d.s.length) (hl : d.s.length ≤ 4611686018427387904) :
    Calls Tryz.prog 258 #[.pointer (some ⟨b, 0, none⟩)] w fun r w' => r = .returned (.tuple #[.int .u8 0, .bool false]) ∧ DecAt w' b { d with err := 2 } ∧ Keep [b] w w' := by
  obtain ⟨s, a, er⟩ := d
  simp only at h0 ha
  subst h0 ha
  have c0 := h.c0
  have c1 := h.c1
  have c2 := h.c2
  have f2 := h.blk.frozen 2
  have H := Lib.hid h
  clear h
  simp only at *
  go_enter Tryz.func258, Tryz.ntmps258
  go_wp2
  go_quiet (fail)
  go_wp2
  go_ret2
  exact ⟨rfl, (H.out.drewN _).err_ 2, ((Keep.refl _ _).drewN _).setCell (.inl (by simp)) _⟩

set_option maxRecDepth 100000 in
set_option maxHeartbeats 400000 in
theorem next_ok {w : World} {b : Nat} {d : Ds} (h : DecAt w b d) (h0 : d.err = 0) (ha : d.at_ < d.s.length) (hl : d.s.length ≤ 4611686018427387904) :
    Calls Tryz.prog 258 #[.pointer (some ⟨b, 0, none⟩)] w fun r w' => r = .returned (.tuple #[.int .u8 (d.s[d.at_].toNat : Int), .bool true]) ∧ DecAt w' b { d with at_ := d.at_ + 1 } ∧ Keep [b] w w' := by
  obtain ⟨s, a, er⟩ := d
  simp only at h0 ha hl
  subst h0
  have c0 := h.c0
  have c1 := h.c1
  have c2 := h.c2
  have f1 := h.blk.frozen 1
  have H := Lib.hid h
  clear h
  simp only at *
  go_enter Tryz.func258, Tryz.ntmps258
  go_wp2
  go_quiet (fail)
  go_wp2
  have hcast : ((a : Int) + 1) = ((a + 1 : Nat) : Int) := by omega
  rw [hcast]
  have hD : DecAt ((w.drewN nq).setCell ⟨b, 1, none⟩ (.int .i64 ((a + 1 : Nat) : Int))) b ⟨s, a + 1, 0⟩ := (H.out.drewN nq).at__ (a + 1)
  have HK : Hid (Keep [b] w ((w.drewN nq).setCell ⟨b, 1, none⟩ (.int .i64 ((a + 1 : Nat) : Int)))) := ((Keep.refl _ _).drewN _).setCell (.inl (by simp)) _
  clear hcast c0 c1 c2 f1
  generalize (w.drewN nq).setCell ⟨b, 1, none⟩ (.int .i64 ((a + 1 : Nat) : Int)) = W at *
  have d0 : W.cell? ⟨b, 0, none⟩ = some (.string (bs s)) := hD.c0
  have d1 : W.cell? ⟨b, 1, none⟩ = some (.int .i64 ((a : Int) + 1)) := by rw [hD.c1]; simp
  have HD := Lib.hid hD
  clear hD
  have hwr : IntKind.i64.wrap ((a : Int) + 1 - 1) = (a : Int) := by rw [IntWalk.i64_in _ (by omega)]; omega
  have i0 : (0 : Int) ≤ (a : Int) := by omega
  have i1 : (a : Int) < (s.length : Int) := by omega
  go_quiet (fail)
  go_wp2
  go_ret2
  exact ⟨rfl, HD.out.drewN _, HK.out.drewN _⟩

end Go.Proofs.YtpnoiagjgkajdaaGreatDoor
