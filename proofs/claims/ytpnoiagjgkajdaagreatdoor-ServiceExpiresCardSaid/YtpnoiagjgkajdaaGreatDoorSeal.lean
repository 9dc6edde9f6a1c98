/- The contracts of package seal: number, value, Frame, Open, Only, Scan. -/
import Derived.Test.YtpnoiagjgkajdaaGreatDoorSum
namespace Go.Proofs.YtpnoiagjgkajdaaGreatDoor
open Go.RowKit
attribute [local go_sem] size_bs bs_append

theorem conv4 (w : World) (x0 x1 x2 x3 : Int) : (convert 228 9 (.slice (some ⟨w.heap.size, 0, none⟩) 4 4)).run Tryz.prog (w.alloc (.cells #[.int .u8 x0, .int .u8 x1, .int .u8 x2, .int .u8 x3] 5)) = .ok (.string (strOfNums [x0, x1, x2, x3])) (w.alloc (.cells #[.int .u8 x0, .int .u8 x1, .int .u8 x2, .int .u8 x3] 5)) :=
  run_convert_bytes_arg _ 228 5 Tryz.underlying228 Tryz.underlying5 w.heap.size 0 4 4 [x0, x1, x2, x3] rfl (fun i hi => by
    rw [Nat.zero_add, World.cell?_alloc_new]
    match i, hi with
    | 0, _ => rfl
    | 1, _ => rfl
    | 2, _ => rfl
    | 3, _ => rfl) 9 Tryz.underlying9

/-- The four bytes of a number. -/
def be4 (n : Int) : List UInt8 := [UInt8.ofNat (n / 16777216).toNat, UInt8.ofNat (n / 65536 % 256).toNat, UInt8.ofNat (n / 256 % 256).toNat, UInt8.ofNat (n % 256).toNat]
/-- The number that four bytes are. -/
def val4 (a b c d : UInt8) : Int := (a.toNat : Int) * 16777216 + (b.toNat : Int) * 65536 + (c.toNat : Int) * 256 + (d.toNat : Int)
theorem val4_bd (a b c d : UInt8) : 0 ≤ val4 a b c d ∧ val4 a b c d ≤ 4294967295 := by
  have := a.toNat_lt; have := b.toNat_lt; have := c.toNat_lt; have := d.toNat_lt
  unfold val4
  omega
theorem ofNat_byte (n : Int) (h0 : 0 ≤ n) (h1 : n < 256) : ((UInt8.ofNat n.toNat).toNat : Int) = n := by
  rw [UInt8.toNat_ofNat']
  omega
theorem val4_be4 (n : Int) (h0 : 0 ≤ n) (h1 : n ≤ 4294967295) : val4 (UInt8.ofNat (n / 16777216).toNat) (UInt8.ofNat (n / 65536 % 256).toNat) (UInt8.ofNat (n / 256 % 256).toNat) (UInt8.ofNat (n % 256).toNat) = n := by
  unfold val4
  rw [ofNat_byte _ (by omega) (by omega), ofNat_byte _ (by omega) (by omega), ofNat_byte _ (by omega) (by omega), ofNat_byte _ (by omega) (by omega)]
  omega
theorem val4_bits (a b c d : UInt8) : bits .or .u32 (bits .or .u32 (bits .or .u32 ((a.toNat : Int) % 4294967296 * 16777216 % 4294967296) ((b.toNat : Int) % 4294967296 * 65536 % 4294967296)) ((c.toNat : Int) % 4294967296 * 256 % 4294967296)) ((d.toNat : Int) % 4294967296) = val4 a b c d := by
  have ha := a.toNat_lt; have hb := b.toNat_lt; have hc := c.toNat_lt; have hd := d.toNat_lt
  have hw : ∀ n : Int, 0 ≤ n → n < 2 ^ 32 → IntKind.u32.wrap n = n := fun n h0 h1 => by rw [IntKind.wrap_u32]; omega
  have e1 := bits_join .u32 32 (by decide) hw 24 ((a.toNat : Int) % 4294967296 * 16777216 % 4294967296) ((b.toNat : Int) % 4294967296 * 65536 % 4294967296) (by omega) (by omega) (by omega) (by omega) (by omega) (by omega)
  rw [e1]
  have e2 := bits_join .u32 32 (by decide) hw 16 ((a.toNat : Int) % 4294967296 * 16777216 % 4294967296 + (b.toNat : Int) % 4294967296 * 65536 % 4294967296) ((c.toNat : Int) % 4294967296 * 256 % 4294967296) (by omega) (by omega) (by omega) (by omega) (by omega) (by omega)
  rw [e2]
  have e3 := bits_join .u32 32 (by decide) hw 8 ((a.toNat : Int) % 4294967296 * 16777216 % 4294967296 + (b.toNat : Int) % 4294967296 * 65536 % 4294967296 + (c.toNat : Int) % 4294967296 * 256 % 4294967296) ((d.toNat : Int) % 4294967296) (by omega) (by omega) (by omega) (by omega) (by omega) (by omega)
  rw [e3]
  unfold val4
  omega

set_option maxRecDepth 100000 in
set_option maxHeartbeats 400000 in
theorem number_calls (n : Int) (h0 : 0 ≤ n) (h1 : n ≤ 4294967295) (w : World) :
    Calls Tryz.prog 314 #[.int .u32 n] w fun e w' => e = .returned (.string (bs (be4 n))) ∧ Keep [] w w' := by
  have hcv := conv4 w
  go_enter Tryz.func314, Tryz.ntmps314
  go_wp2
  go_ret
  exact ⟨rfl, (Keep.refl _ _).alloc _⟩

set_option maxRecDepth 100000 in
set_option maxHeartbeats 400000 in
theorem value_calls (s : List UInt8) (a b c d : UInt8) (hs : s = [a, b, c, d]) (w : World) :
    Calls Tryz.prog 296 #[.string (bs s)] w fun e w' => e = .returned (.int .u32 (val4 a b c d)) ∧ ∃ n, w' = w.drewN n := by
  subst hs
  have hv := val4_bits a b c d
  have Hv := Lib.hid hv
  clear hv
  go_enter Tryz.func296, Tryz.ntmps296
  go_wp2
  go_quiet (fail)
  go_wp2
  go_ret
  rw [← Hv.out]
  exact ⟨rfl, _, rfl⟩

set_option maxRecDepth 100000 in
set_option maxHeartbeats 400000 in
theorem join_calls (s : ByteArray) (p : Nat) (t : ByteArray) (w : World) (hp : w.cell? ⟨p, 0, none⟩ = some (.string s)) :
    Calls Tryz.prog 313 #[.slice (some ⟨p, 0, none⟩) 1 1, .string t] w fun e w' => e = .returned (.string s) ∧ w = w' := by
  go_enter Tryz.func313, Tryz.ntmps313
  go_wp2
  go_ret
  exact ⟨rfl, rfl⟩

theorem be4_len (n : Int) : (be4 n).length = 4 := rfl
attribute [local go_sem] be4_len List.length_append
/-- A frame. -/
def frame (s : List UInt8) : List UInt8 := be4 s.length ++ (be4 (crc (be4 s.length ++ s)) ++ s)

theorem Tab.keep {M : List Nat} {w w' : World} (h : Tab w) (hk : Keep M w w') (h0 : TOff M) : Tab w' := by
  refine ⟨fun i hi => (hk.cell (p := ⟨0, i, none⟩) (World.block_lt_of_cell? _ _ (h.s i hi)) h0.1).trans (h.s i hi), ?_⟩
  obtain ⟨t, f, h1⟩ := (tabP_iff w).1 h.p
  exact (tabP_iff w').2 ⟨t, f, (hk.block _ h.lt.2 h0.2).trans h1⟩
theorem Tab.below {B : Nat} {w w' : World} (h : Tab w) (hb : ∀ k, k < B → w'.heap[k]? = w.heap[k]?) (h1 : 0 < B) (h2 : 1 < B) : Tab w' := by
  refine ⟨fun i hi => (World.cell?_of_block (hb _ h1)).trans (h.s i hi), ?_⟩
  obtain ⟨t, f, h3⟩ := (tabP_iff w).1 h.p
  exact (tabP_iff w').2 ⟨t, f, (hb _ h2).trans h3⟩

theorem sum2_calls (x y : List UInt8) (p : Nat) (w : World) (hT : Tab w) (hp : Blk w p 9 #[.string (bs x), .string (bs y)]) (hx : x.length ≤ 4611686018427387904) (hy : y.length ≤ 4611686018427387904) :
    Calls Tryz.prog 30 #[.slice (some ⟨p, 0, none⟩) 2 2] w fun e w' => e = .returned (.int .u32 (crc (x ++ y))) ∧ w = w' := by
  have h := sum_calls [x, y] p w hT (fun i hi => by
    rw [hp.cell]
    match i, hi with
    | 0, _ => rfl
    | 1, _ => rfl) (by simp) (fun z hz => by
    simp only [List.mem_cons, List.not_mem_nil, or_false] at hz
    rcases hz with rfl | rfl <;> assumption)
  simpa using h
theorem sum1_calls (x : List UInt8) (p : Nat) (w : World) (hT : Tab w) (hp : Blk w p 9 #[.string (bs x)]) (hx : x.length ≤ 4611686018427387904) :
    Calls Tryz.prog 30 #[.slice (some ⟨p, 0, none⟩) 1 1] w fun e w' => e = .returned (.int .u32 (crc x)) ∧ w = w' := by
  have h := sum_calls [x] p w hT (fun i hi => by
    rw [hp.cell]
    match i, hi with
    | 0, _ => rfl) (by simp) (fun z hz => by
    simp only [List.mem_cons, List.not_mem_nil, or_false] at hz
    subst hz
    assumption)
  simpa using h

set_option maxRecDepth 100000 in
set_option maxHeartbeats 400000 in
theorem frame_calls (s : List UInt8) (p : Nat) (w : World) (hT : Tab w) (hs : s.length ≤ 1099511627776) (hs2 : s.length ≤ 4294967295) (hp : Blk w p 9 #[.string (bs s)]) :
    Calls Tryz.prog 286 #[.slice (some ⟨p, 0, none⟩) 1 1] w fun e w' => e = .returned (.string (bs (frame s))) ∧ Keep [] w w' := by
  have hc0 : w.cell? ⟨p, 0, none⟩ = some (.string (bs s)) := hp.cell 0
  have HT := Lib.hid hT
  clear hT hp
  have hcb := crc_bd (be4 s.length ++ s)
  go_enter Tryz.func286, Tryz.ntmps286
  go_wp2_with (first
    | (go_at_call 313; refine (join_calls _ _ _ _ hc0).mono ?_; rintro e w' ⟨rfl, rfl⟩)
    | (go_at_call_of 314 (Value.int .u32 (s.length : Int)); refine (number_calls _ (by omega) (by omega) _).mono ?_; rintro e w1 ⟨rfl, hk1⟩; have HK1 := Lib.hid hk1; clear hk1))
  refine (sum2_calls (be4 s.length) s _ _ ?_ (Blk.new _ _ _) (by simp [be4]) (by omega)).mono ?_
  · exact HT.out.keep ((HK1.out).alloc _) (by simp)
  rintro e w' ⟨rfl, rfl⟩
  go_wp2_with (go_at_call 314; refine (number_calls _ hcb.1 hcb.2 _).mono ?_; rintro e w2 ⟨rfl, hk2⟩; have HK2 := Lib.hid hk2; clear hk2)
  go_ret
  refine ⟨?_, ((HK1.out.alloc _).trans HK2.out)⟩
  simp [frame]

end Go.Proofs.YtpnoiagjgkajdaaGreatDoor
