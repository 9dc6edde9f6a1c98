/- The checksum: seal.Sum. -/
import Derived.Test.YtnlcipocobmgiaaGreatDoorProg
import Derived.Test.YtnlcipocobmgiaaGreatDoorBase
import Derived.WalkLawsBesides
import Derived.Deep.QuietTactic
import Derived.BigQuiet
import Derived.Deep.RegionHeld3
import Derived.Deep.DeepCutAuto
namespace Go.Proofs.YtnlcipocobmgiaaGreatDoor
open Go.RowKit
attribute [local go_sem] size_bs

/-- The table that four steps of the register go by. -/
def tab (i : Nat) : Int := match i with
  | 0 => 0 | 1 => 498536548 | 2 => 997073096 | 3 => 651767980 | 4 => 1994146192 | 5 => 1802195444 | 6 => 1303535960 | 7 => 1342533948
  | 8 => 3988292384 | 9 => 4027552580 | 10 => 3604390888 | 11 => 3412177804 | 12 => 2607071920 | 13 => 2262029012 | 14 => 2685067896 | _ => 3183342108
/-- The variable holds the table. -/
def Tab (w : World) : Prop := ∀ i, i < 16 → w.cell? ⟨0, i, none⟩ = some (.int .u32 (tab i))

theorem wrap_u32_bd (n : Int) : 0 ≤ IntKind.u32.wrap n ∧ IntKind.u32.wrap n ≤ 4294967295 := by rw [IntKind.wrap_u32]; omega
theorem bits_u32_bd (o : BinOp) (a b : Int) : 0 ≤ bits o .u32 a b ∧ bits o .u32 a b ≤ 4294967295 := by
  unfold bits
  exact wrap_u32_bd _
theorem and15 (x : Int) : 0 ≤ bits .and .u32 x 15 ∧ bits .and .u32 x 15 < 16 := by
  have h := bits_u32_bd .and x 15
  refine ⟨h.1, ?_⟩
  show IntKind.u32.wrap ((BitVec.ofInt 32 x &&& BitVec.ofInt 32 15).toNat : Int) < 16
  have h2 : (BitVec.ofInt 32 x &&& BitVec.ofInt 32 15).toNat ≤ 15 := by
    rw [BitVec.toNat_and]
    exact Nat.and_le_right
  rw [IntKind.wrap_u32]
  omega
/-- Four steps of the register. -/
def nib (x : Int) : Int := bits .xor .u32 (x / 16) (tab (bits .and .u32 x 15).toNat)
/-- A byte more. -/
def crcB (r : Int) (c : UInt8) : Int := nib (nib (bits .xor .u32 r ((c.toNat : Int) % 4294967296)))
def crcR (l : List UInt8) : Int := l.foldl crcB 4294967295
theorem crcB_bd (r : Int) (c : UInt8) : 0 ≤ crcB r c ∧ crcB r c ≤ 4294967295 := by unfold crcB nib; exact bits_u32_bd _ _ _
/-- The checksum of bytes. -/
def crc (l : List UInt8) : Int := bits .xor .u32 IntKind.u32.max (crcR l)
theorem crc_bd (l : List UInt8) : 0 ≤ crc l ∧ crc l ≤ 4294967295 := bits_u32_bd _ _ _
theorem crcR_bd (l : List UInt8) : 0 ≤ crcR l ∧ crcR l ≤ 4294967295 := by
  unfold crcR
  rcases List.eq_nil_or_concat l with rfl | ⟨l, c, rfl⟩
  · simp
  · rw [List.concat_eq_append, List.foldl_append]; exact crcB_bd _ _
theorem crcR_snoc (l : List UInt8) (c : UInt8) : crcR (l ++ [c]) = crcB (crcR l) c := by simp [crcR]
theorem getElem_bs (l : List UInt8) (i : Nat) (h : i < (bs l).size) (h' : i < l.length) : (bs l)[i]'h = l[i]'h' := rfl

set_option maxHeartbeats 1000000 in
theorem sum_calls (l : List (List UInt8)) (p : Nat) (w : World) (hT : Tab w) (hp : ∀ i, (h : i < l.length) → w.cell? ⟨p, i, none⟩ = some (.string (bs l[i]))) (hl : l.length ≤ 100) (hlen : ∀ x ∈ l, x.length ≤ 4611686018427387904) :
    Calls Tryz.prog 101 #[.slice (some ⟨p, 0, none⟩) l.length l.length] w fun e w' => e = .returned (.int .u32 (crc l.flatten)) ∧ w = w' := by
  have HT := Lib.hid hT
  have HP := Lib.hid hp
  have HL := Lib.hid hlen
  clear hT hp hlen
  go_enter Tryz.func101, Tryz.ntmps101
  go_wp2
  go_loop [3, 5, 6, 9] (fun r s i k => ∃ (rr : Int) (kk : Nat), kk ≤ l.length ∧ r = .int .u32 rr ∧ rr = crcR (l.take kk).flatten ∧ k = .int .i64 kk) (fun _ _ _ k => l.length - (intOf k).toNat)
  case atStart => exact ⟨_, 0, Nat.zero_le _, rfl, rfl, rfl⟩
  case round =>
    obtain ⟨rr, k, hk, rfl, hrr, rfl⟩ := hrel
    by_cases hlt : k < l.length
    · have hc := HP.out k hlt
      have hsl : l[k].length ≤ 4611686018427387904 := HL.out _ (List.getElem_mem hlt)
      have HR : Hid (rr = crcR (l.take k).flatten) := hrr
      have HF : Hid (l.take (k + 1) = l.take k ++ [l[k]]) := by show _ = _; rw [List.take_succ_eq_append_getElem hlt]
      clear hrr
      generalize l[k] = s at *
      go_wp2
      go_loop [3, 6] (fun r i => ∃ (r2 : Int) (j : Nat), j ≤ s.length ∧ r = .int .u32 r2 ∧ r2 = crcR ((l.take k).flatten ++ s.take j) ∧ i = .int .i64 j) (fun _ i => s.length - (intOf i).toNat)
      case atStart => exact ⟨_, 0, Nat.zero_le _, rfl, by rw [HR.out]; simp, rfl⟩
      case round =>
        obtain ⟨r2, j, hj, rfl, hr2, rfl⟩ := hrel
        have HR2 : Hid (r2 = crcR ((l.take k).flatten ++ s.take j)) := hr2
        clear hr2
        by_cases hlt2 : j < s.length
        · have hsz : j < (bs s).size := by simpa using hlt2
          have b1 := and15 (bits .xor .u32 r2 (((bs s)[j].toNat : Int) % 4294967296))
          have t1 := HT.out (bits .and .u32 (bits .xor .u32 r2 (((bs s)[j].toNat : Int) % 4294967296)) 15).toNat (by omega)
          obtain ⟨b1a, b1b⟩ := b1
          have b2 := and15 (nib (bits .xor .u32 r2 (((bs s)[j].toNat : Int) % 4294967296)))
          have t2 := HT.out (bits .and .u32 (nib (bits .xor .u32 r2 (((bs s)[j].toNat : Int) % 4294967296))) 15).toNat (by omega)
          obtain ⟨b2a, b2b⟩ := b2
          unfold nib at b2a b2b t2
          go_wp2
          go_round
          case rel =>
            refine ⟨_, j + 1, by omega, rfl, ?_, by go_num⟩
            rw [List.take_succ_eq_append_getElem hlt2, ← List.append_assoc, crcR_snoc, ← HR2.out]
            rfl
          case measure => simp [intOf]; omega
        · go_wp2
          go_round
          case rel =>
            refine ⟨_, k + 1, by omega, rfl, ?_, by go_num⟩
            rw [HF.out, HR2.out, List.take_of_length_le (l := s) (by omega)]
            simp
          case measure => simp [intOf]; omega
    · go_wp2
      go_ret
      rw [List.take_of_length_le (by omega)]
      exact ⟨rfl, rfl⟩

end Go.Proofs.YtnlcipocobmgiaaGreatDoor
/- The contracts of package seal: number, value, Frame, Open, Only, Scan. -/
namespace Go.Proofs.YtnlcipocobmgiaaGreatDoor
open Go.RowKit
attribute [local go_sem] size_bs bs_append

theorem conv4 (w : World) (x0 x1 x2 x3 : Int) : (convert 113 9 (.slice (some ⟨w.heap.size, 0, none⟩) 4 4)).run Tryz.prog (w.alloc (.cells #[.int .u8 x0, .int .u8 x1, .int .u8 x2, .int .u8 x3] 5)) = .ok (.string (strOfNums [x0, x1, x2, x3])) (w.alloc (.cells #[.int .u8 x0, .int .u8 x1, .int .u8 x2, .int .u8 x3] 5)) :=
  run_convert_bytes_arg _ 113 5 Tryz.underlying113 Tryz.underlying5 w.heap.size 0 4 4 [x0, x1, x2, x3] rfl (fun i hi => by
    rw [Nat.zero_add, World.cell?_alloc_new]
    match i, hi with
    | 0, _ => rfl
    | 1, _ => rfl
    | 2, _ => rfl
    | 3, _ => rfl) 9 Tryz.underlying9

/-- The four bytes of a number. -/
def be4 (n : Int) : List UInt8 := [UInt8.ofNat (n / 16777216).toNat, UInt8.ofNat (n / 65536 % 256).toNat, UInt8.ofNat (n / 256 % 256).toNat, UInt8.ofNat (n % 256).toNat]
/-- The number that four bytes are. -/
def val4 (a b c d : UInt8) : Int := (a.toNat : Int) * 16777216 + (b.toNat : Int) * 65536 + (c.toNat : Int) * 256 + (d.toNat : Int)
theorem val4_bd (a b c d : UInt8) : 0 ≤ val4 a b c d ∧ val4 a b c d ≤ 4294967295 := by
  have := a.toNat_lt; have := b.toNat_lt; have := c.toNat_lt; have := d.toNat_lt
  unfold val4
  omega
theorem ofNat_byte (n : Int) (h0 : 0 ≤ n) (h1 : n < 256) : ((UInt8.ofNat n.toNat).toNat : Int) = n := by
  rw [UInt8.toNat_ofNat']
  omega
theorem val4_be4 (n : Int) (h0 : 0 ≤ n) (h1 : n ≤ 4294967295) : val4 (UInt8.ofNat (n / 16777216).toNat) (UInt8.ofNat (n / 65536 % 256).toNat) (UInt8.ofNat (n / 256 % 256).toNat) (UInt8.ofNat (n % 256).toNat) = n := by
  unfold val4
  rw [ofNat_byte _ (by omega) (by omega), ofNat_byte _ (by omega) (by omega), ofNat_byte _ (by omega) (by omega), ofNat_byte _ (by omega) (by omega)]
  omega
theorem val4_bits (a b c d : UInt8) : bits .or .u32 (bits .or .u32 (bits .or .u32 ((a.toNat : Int) % 4294967296 * 16777216 % 4294967296) ((b.toNat : Int) % 4294967296 * 65536 % 4294967296)) ((c.toNat : Int) % 4294967296 * 256 % 4294967296)) ((d.toNat : Int) % 4294967296) = val4 a b c d := by
  have ha := a.toNat_lt; have hb := b.toNat_lt; have hc := c.toNat_lt; have hd := d.toNat_lt
  have hw : ∀ n : Int, 0 ≤ n → n < 2 ^ 32 → IntKind.u32.wrap n = n := fun n h0 h1 => by rw [IntKind.wrap_u32]; omega
  have e1 := bits_join .u32 32 (by decide) hw 24 ((a.toNat : Int) % 4294967296 * 16777216 % 4294967296) ((b.toNat : Int) % 4294967296 * 65536 % 4294967296) (by omega) (by omega) (by omega) (by omega) (by omega) (by omega)
  rw [e1]
  have e2 := bits_join .u32 32 (by decide) hw 16 ((a.toNat : Int) % 4294967296 * 16777216 % 4294967296 + (b.toNat : Int) % 4294967296 * 65536 % 4294967296) ((c.toNat : Int) % 4294967296 * 256 % 4294967296) (by omega) (by omega) (by omega) (by omega) (by omega) (by omega)
  rw [e2]
  have e3 := bits_join .u32 32 (by decide) hw 8 ((a.toNat : Int) % 4294967296 * 16777216 % 4294967296 + (b.toNat : Int) % 4294967296 * 65536 % 4294967296 + (c.toNat : Int) % 4294967296 * 256 % 4294967296) ((d.toNat : Int) % 4294967296) (by omega) (by omega) (by omega) (by omega) (by omega) (by omega)
  rw [e3]
  unfold val4
  omega

set_option maxRecDepth 100000 in
set_option maxHeartbeats 400000 in
theorem number_calls (n : Int) (h0 : 0 ≤ n) (h1 : n ≤ 4294967295) (w : World) :
    Calls Tryz.prog 100 #[.int .u32 n] w fun e w' => e = .returned (.string (bs (be4 n))) ∧ Keep [] w w' := by
  have hcv := conv4 w
  go_enter Tryz.func100, Tryz.ntmps100
  go_wp2
  go_ret
  exact ⟨rfl, (Keep.refl _ _).alloc _⟩

set_option maxRecDepth 100000 in
set_option maxHeartbeats 400000 in
theorem value_calls (s : List UInt8) (a b c d : UInt8) (hs : s = [a, b, c, d]) (w : World) :
    Calls Tryz.prog 128 #[.string (bs s)] w fun e w' => e = .returned (.int .u32 (val4 a b c d)) ∧ ∃ n, w' = w.drewN n := by
  subst hs
  have hv := val4_bits a b c d
  have Hv := Lib.hid hv
  clear hv
  go_enter Tryz.func128, Tryz.ntmps128
  go_wp2
  go_quiet (fail)
  go_wp2
  go_ret
  rw [← Hv.out]
  exact ⟨rfl, _, rfl⟩

set_option maxRecDepth 100000 in
set_option maxHeartbeats 400000 in
theorem join_calls (s : ByteArray) (p : Nat) (t : ByteArray) (w : World) (hp : w.cell? ⟨p, 0, none⟩ = some (.string s)) :
    Calls Tryz.prog 99 #[.slice (some ⟨p, 0, none⟩) 1 1, .string t] w fun e w' => e = .returned (.string s) ∧ w = w' := by
  go_enter Tryz.func99, Tryz.ntmps99
  go_wp2
  go_ret
  exact ⟨rfl, rfl⟩

theorem be4_len (n : Int) : (be4 n).length = 4 := rfl
attribute [local go_sem] be4_len List.length_append
/-- A frame. -/
def frame (s : List UInt8) : List UInt8 := be4 s.length ++ (be4 (crc (be4 s.length ++ s)) ++ s)

theorem Tab.keep {M : List Nat} {w w' : World} (h : Tab w) (hk : Keep M w w') (h0 : 0 ∉ M) : Tab w' := fun i hi =>
  (hk.cell (p := ⟨0, i, none⟩) (World.block_lt_of_cell? _ _ (h i hi)) h0).trans (h i hi)

theorem sum2_calls (x y : List UInt8) (p : Nat) (w : World) (hT : Tab w) (hp : Blk w p 9 #[.string (bs x), .string (bs y)]) (hx : x.length ≤ 4611686018427387904) (hy : y.length ≤ 4611686018427387904) :
    Calls Tryz.prog 101 #[.slice (some ⟨p, 0, none⟩) 2 2] w fun e w' => e = .returned (.int .u32 (crc (x ++ y))) ∧ w = w' := by
  have h := sum_calls [x, y] p w hT (fun i hi => by
    rw [hp.cell]
    match i, hi with
    | 0, _ => rfl
    | 1, _ => rfl) (by simp) (fun z hz => by
    simp only [List.mem_cons, List.not_mem_nil, or_false] at hz
    rcases hz with rfl | rfl <;> assumption)
  simpa using h
theorem sum1_calls (x : List UInt8) (p : Nat) (w : World) (hT : Tab w) (hp : Blk w p 9 #[.string (bs x)]) (hx : x.length ≤ 4611686018427387904) :
    Calls Tryz.prog 101 #[.slice (some ⟨p, 0, none⟩) 1 1] w fun e w' => e = .returned (.int .u32 (crc x)) ∧ w = w' := by
  have h := sum_calls [x] p w hT (fun i hi => by
    rw [hp.cell]
    match i, hi with
    | 0, _ => rfl) (by simp) (fun z hz => by
    simp only [List.mem_cons, List.not_mem_nil, or_false] at hz
    subst hz
    assumption)
  simpa using h

set_option maxRecDepth 100000 in
set_option maxHeartbeats 400000 in
theorem frame_calls (s : List UInt8) (p : Nat) (w : World) (hT : Tab w) (hs : s.length ≤ 1099511627776) (hs2 : s.length ≤ 4294967295) (hp : Blk w p 9 #[.string (bs s)]) :
    Calls Tryz.prog 74 #[.slice (some ⟨p, 0, none⟩) 1 1] w fun e w' => e = .returned (.string (bs (frame s))) ∧ Keep [] w w' := by
  have hc0 : w.cell? ⟨p, 0, none⟩ = some (.string (bs s)) := hp.cell 0
  have HT := Lib.hid hT
  clear hT hp
  have hcb := crc_bd (be4 s.length ++ s)
  go_enter Tryz.func74, Tryz.ntmps74
  go_wp2_with (first
    | (go_at_call 99; refine (join_calls _ _ _ _ hc0).mono ?_; rintro e w' ⟨rfl, rfl⟩)
    | (go_at_call_of 100 (Value.int .u32 (s.length : Int)); refine (number_calls _ (by omega) (by omega) _).mono ?_; rintro e w1 ⟨rfl, hk1⟩; have HK1 := Lib.hid hk1; clear hk1))
  refine (sum2_calls (be4 s.length) s _ _ ?_ (Blk.new _ _ _) (by simp [be4]) (by omega)).mono ?_
  · exact HT.out.keep ((HK1.out).alloc _) (by simp)
  rintro e w' ⟨rfl, rfl⟩
  go_wp2_with (go_at_call 100; refine (number_calls _ hcb.1 hcb.2 _).mono ?_; rintro e w2 ⟨rfl, hk2⟩; have HK2 := Lib.hid hk2; clear hk2)
  go_ret
  refine ⟨?_, ((HK1.out.alloc _).trans HK2.out)⟩
  simp [frame]

end Go.Proofs.YtnlcipocobmgiaaGreatDoor
/- The contracts of seal.Open, Only. -/
namespace Go.Proofs.YtnlcipocobmgiaaGreatDoor
open Go.RowKit
attribute [local go_sem] size_bs bs_append be4_len List.length_append bs_extract

/-- Open: the contents, how many bytes the frame has, the error. -/
def openF : List UInt8 → List UInt8 × Int × Int
  | a :: b :: c :: d :: e :: f :: g :: h :: r =>
    if 1048576 < val4 a b c d then ([], 0, 11)
    else if (r.length : Int) < val4 a b c d then ([], 0, 2)
    else if crc ([a, b, c, d] ++ r.take (val4 a b c d).toNat) = val4 e f g h then (r.take (val4 a b c d).toNat, 8 + val4 a b c d, 0) else ([], 0, 4)
  | _ => ([], 0, 2)
theorem openF_short {s : List UInt8} (h : s.length < 8) : openF s = ([], 0, 2) := by
  unfold openF
  split
  · simp at h; omega
  · rfl
theorem eight {s : List UInt8} (hs : ¬ s.length < 8) : ∃ a b c d e f g h r, s = a :: b :: c :: d :: e :: f :: g :: h :: r := by
  match s, hs with
  | [], hs | [_], hs | [_, _], hs | [_, _, _], hs | [_, _, _, _], hs | [_, _, _, _, _], hs | [_, _, _, _, _, _], hs | [_, _, _, _, _, _, _], hs => simp at hs
  | a :: b :: c :: d :: e :: f :: g :: h :: r, _ => exact ⟨a, b, c, d, e, f, g, h, r, rfl⟩
def OpenTuple (s : List UInt8) : Value := .tuple #[.string (bs (openF s).1), .int .i64 (openF s).2.1, .int .i64 (openF s).2.2]

set_option maxRecDepth 100000 in
set_option maxHeartbeats 1000000 in
theorem open_calls (s : List UInt8) (w : World) (hT : Tab w) (hs : s.length ≤ 4611686018427387904) :
    Calls Tryz.prog 110 #[.string (bs s)] w fun e w' => e = .returned (OpenTuple s) ∧ Keep [] w w' := by
  have HT := Lib.hid hT
  clear hT
  by_cases hlt : s.length < 8
  · have HO := Lib.hid (openF_short hlt)
    go_enter Tryz.func110, Tryz.ntmps110
    go_wp2
    go_ret3
    exact ⟨by unfold OpenTuple; rw [HO.out]; rfl, Keep.refl _ _⟩
  · obtain ⟨a, b, c, d, e, f, g, h, r, rfl⟩ := eight hlt
    · skip
      simp only [List.length_cons] at hs
      have hO : openF (a :: b :: c :: d :: e :: f :: g :: h :: r) = (if 1048576 < val4 a b c d then ([], 0, 11)
          else if (r.length : Int) < val4 a b c d then ([], 0, 2)
          else if crc ([a, b, c, d] ++ r.take (val4 a b c d).toNat) = val4 e f g h then (r.take (val4 a b c d).toNat, 8 + val4 a b c d, 0) else ([], 0, 4)) := rfl
      have HO := Lib.hid hO
      clear hO
      have hv := val4_bd a b c d
      have hbig : ¬ (r.length + 1 + 1 + 1 + 1 + 1 + 1 + 1 + 1 < 8) := by omega
      have V : ∀ W, Calls Tryz.prog 128 #[.string (bs [a, b, c, d])] W _ := fun W => value_calls _ a b c d rfl W
      have HV := Lib.hid V
      clear V
      generalize hvv : val4 a b c d = v at *
      have HVV := Lib.hid hvv
      clear hvv
      by_cases h1 : 1048576 < v
      · go_enter Tryz.func110, Tryz.ntmps110
        go_wp2_with (go_at_call 128; refine (HV.out _).mono ?_; rintro e w' ⟨rfl, n, rfl⟩)
        go_ret3
        exact ⟨by unfold OpenTuple; rw [HO.out, if_pos h1]; rfl, (Keep.refl _ _).drewN _⟩
      · by_cases h2 : (r.length : Int) < v
        · go_enter Tryz.func110, Tryz.ntmps110
          go_wp2_with (go_at_call 128; refine (HV.out _).mono ?_; rintro e w' ⟨rfl, n, rfl⟩)
          go_ret3
          exact ⟨by unfold OpenTuple; rw [HO.out, if_neg (by omega), if_pos h2]; rfl, (Keep.refl _ _).drewN _⟩
        · obtain ⟨m, rfl⟩ := Int.eq_ofNat_of_zero_le hv.1
          go_enter Tryz.func110, Tryz.ntmps110
          go_wp2_with (go_at_call 128; refine (HV.out _).mono ?_; rintro e w' ⟨rfl, n, rfl⟩)
          rw [show 8 + m - 8 = m from by omega]
          have V2 := fun W => value_calls [e, f, g, h] e f g h rfl W
          have HV2 := Lib.hid V2
          clear V2
          have hk0 : Keep [] w (w.drewN n).drew := ((Keep.refl _ _).drewN _).drew
          have HK0 := Lib.hid hk0
          clear hk0
          have i4 : (4 : Int) ≤ (r.length : Int) + 1 + 1 + 1 + 1 + 1 + 1 + 1 + 1 := by omega
          have i8 : (8 : Int) ≤ (r.length : Int) + 1 + 1 + 1 + 1 + 1 + 1 + 1 + 1 := by omega
          have n4 : 4 ≤ r.length + 1 + 1 + 1 + 1 + 1 + 1 + 1 + 1 := by omega
          have n8 : 8 ≤ r.length + 1 + 1 + 1 + 1 + 1 + 1 + 1 + 1 := by omega
          by_cases h3 : crc ([a, b, c, d] ++ r.take m) = val4 e f g h
          · have hb3 : (crc (a :: b :: c :: d :: List.take m r) != val4 e f g h) = false := by simpa using h3
            have H3 := Lib.hid h3
            clear h3
            go_region_held3 (fun w' => Keep [] w w')
              (first
                | exact HK0.out
                | assumption
                | exact HK0.out.alloc _
                | exact (HK0.out.alloc _).drewN _)
              (first
                | (go_at_call 101; refine (sum2_calls [a, b, c, d] (r.take m) _ _ (HT.out.keep (HK0.out.alloc _) (by simp)) (Blk.new _ _ _) (by simp) (by simp; omega)).mono ?_; rintro e w' ⟨rfl, rfl⟩)
                | (go_at_call 128; refine (HV2.out _).mono ?_; rintro e w' ⟨rfl, k, rfl⟩))
            go_wp2
            go_ret3
            refine ⟨?_, by assumption⟩
            unfold OpenTuple
            rw [HO.out, if_neg (by omega), if_neg (by omega), Int.toNat_natCast, if_pos H3.out]
            rfl
          · have hb3 : (crc (a :: b :: c :: d :: List.take m r) != val4 e f g h) = true := by simpa using h3
            have H3 := Lib.hid h3
            clear h3
            go_region_held3 (fun w' => Keep [] w w')
              (first
                | exact HK0.out
                | assumption
                | exact HK0.out.alloc _
                | exact (HK0.out.alloc _).drewN _)
              (first
                | (go_at_call 101; refine (sum2_calls [a, b, c, d] (r.take m) _ _ (HT.out.keep (HK0.out.alloc _) (by simp)) (Blk.new _ _ _) (by simp) (by simp; omega)).mono ?_; rintro e w' ⟨rfl, rfl⟩)
                | (go_at_call 128; refine (HV2.out _).mono ?_; rintro e w' ⟨rfl, k, rfl⟩))
            go_wp2
            go_ret3
            refine ⟨?_, by assumption⟩
            unfold OpenTuple
            rw [HO.out, if_neg (by omega), if_neg (by omega), Int.toNat_natCast, if_neg H3.out]
            rfl

def OnlyF (s : List UInt8) : List UInt8 × Int :=
  if (openF s).2.2 ≠ 0 then ([], (openF s).2.2) else if (openF s).2.1 < s.length then ([], 3) else ((openF s).1, 0)

set_option maxRecDepth 100000 in
set_option maxHeartbeats 1000000 in
theorem only_calls (s : List UInt8) (w : World) (hT : Tab w) (hs : s.length ≤ 4611686018427387904) :
    Calls Tryz.prog 105 #[.string (bs s)] w fun e w' => e = .returned (.tuple #[.string (bs (OnlyF s).1), .int .i64 (OnlyF s).2]) ∧ Keep [] w w' := by
  have O := open_calls s w hT hs
  unfold OpenTuple at O
  have hF : OnlyF s = if (openF s).2.2 ≠ 0 then ([], (openF s).2.2) else if (openF s).2.1 < s.length then ([], 3) else ((openF s).1, 0) := rfl
  generalize openF s = r at *
  obtain ⟨c, n, er⟩ := r
  have HF := Lib.hid hF
  have HO := Lib.hid O
  clear hF O hT
  by_cases h1 : er = 0
  · subst h1
    by_cases h2 : n < (s.length : Int)
    · go_enter Tryz.func105, Tryz.ntmps105
      go_wp2_with (go_at_call 110; refine HO.out.mono ?_; rintro e w' ⟨rfl, hk⟩; have HK := Lib.hid hk; clear hk)
      go_ret2
      rw [HF.out, if_neg (by simp), if_pos (by omega)]
      exact ⟨rfl, HK.out⟩
    · go_enter Tryz.func105, Tryz.ntmps105
      go_wp2_with (go_at_call 110; refine HO.out.mono ?_; rintro e w' ⟨rfl, hk⟩; have HK := Lib.hid hk; clear hk)
      go_ret2
      rw [HF.out, if_neg (by simp), if_neg (by omega)]
      exact ⟨rfl, HK.out⟩
  · have hb : (er != 0) = true := by simpa using h1
    have hb2 : (er == 0) = false := by simpa using h1
    go_enter Tryz.func105, Tryz.ntmps105
    go_wp2_with (go_at_call 110; refine HO.out.mono ?_; rintro e w' ⟨rfl, hk⟩; have HK := Lib.hid hk; clear hk)
    go_ret2
    rw [HF.out, if_pos (by simpa using h1)]
    exact ⟨rfl, HK.out⟩

end Go.Proofs.YtnlcipocobmgiaaGreatDoor
/- The contract of seal.Scan. -/
namespace Go.Proofs.YtnlcipocobmgiaaGreatDoor
open Go.RowKit
attribute [local go_sem] size_bs bs_append be4_len List.length_append bs_extract

theorem openF_ok {s : List UInt8} (h : (openF s).2.2 = 0) : 8 ≤ (openF s).2.1 ∧ (openF s).2.1 ≤ s.length ∧ (openF s).1.length ≤ s.length := by
  unfold openF at h ⊢
  split at h
  · rename_i a b c d e f g h' r
    have hv := val4_bd a b c d
    split at h
    · simp at h
    · split at h
      · simp at h
      · split at h
        · simp only [List.length_cons]
          rename_i h1 h2 h3
          rw [if_neg h1, if_neg h2, if_pos h3]
          simp only [List.length_take]
          omega
        · simp at h
  · simp at h

/-- Scan: the contents of the frames at the beginning, and how many bytes they have. -/
def scanF : Nat → List UInt8 → List (List UInt8) × Nat
  | 0, _ => ([], 0)
  | k + 1, s => if (openF s).2.2 ≠ 0 then ([], 0) else
    ((openF s).1 :: (scanF k (s.drop (openF s).2.1.toNat)).1, (openF s).2.1.toNat + (scanF k (s.drop (openF s).2.1.toNat)).2)
def scan (s : List UInt8) : List (List UInt8) × Nat := scanF (s.length + 1) s

theorem Tryz.info9 : (Tryz.prog.info? 9).map (fun i => (i.zero, i.size, i.bytes)) = some (some (.string ⟨#[]⟩), 1, 16) := by kernel_rfl

def strs (l : List (List UInt8)) : List Value := l.map fun s => .string (bs s)

def ScanRel (s : List UInt8) (w : World) (v at_ : Value) (wr : World) : Prop :=
  ∃ (acc : List (List UInt8)) (i k : Nat), i ≤ s.length ∧ s.length - i < k ∧ acc.length * 8 ≤ i ∧ at_ = .int .i64 i ∧ wr.ownsRow w.heap.size 9 1 v acc.length (strs acc) ∧ Keep [] w wr ∧
    scan s = (acc ++ (scanF k (s.drop i)).1, i + (scanF k (s.drop i)).2)

def ScanPost (s : List UInt8) (w : World) (e : Ending) (w' : World) : Prop :=
  ∃ v, e = .returned (.tuple #[v, .int .i64 (scan s).2]) ∧ w'.ownsRow w.heap.size 9 1 v (scan s).1.length (strs (scan s).1) ∧ Keep [] w w'

set_option maxRecDepth 100000 in
set_option maxHeartbeats 1000000 in
theorem scan_calls (s : List UInt8) (w : World) (hT : Tab w) (hs : s.length ≤ 1099511627776) :
    Calls Tryz.prog 91 #[.string (bs s)] w (ScanPost s w) := by
  obtain ⟨i0, hi, hz0, hz1, hz2⟩ := info_parts Tryz.info9
  have HT := Lib.hid hT
  clear hT
  go_enter Tryz.func91, Tryz.ntmps91
  go_wp2
  go_loopw [4, 5, 6, 7, 8] (fun v a _ _ _ wr => ScanRel s w v a wr) (fun _ a _ _ _ _ => s.length - (intOf a).toNat)
  case atStart => exact ⟨[], 0, s.length + 1, Nat.zero_le _, by omega, by simp, rfl, World.ownsRow_nil _ _ _ _, Keep.refl _ _, by simp [scan]⟩
  case round =>
    obtain ⟨acc, i, k, hi1, hk1, hacc, rfl, hown, hkeep, hsc⟩ := hrel
    have HSC := Lib.hid hsc
    have HOWN := Lib.hid hown
    have HK := Lib.hid hkeep
    have O := open_calls (s.drop i) wr (HT.out.keep hkeep (by simp)) (by simp; omega)
    unfold OpenTuple at O
    clear hsc hown hkeep
    have hok := @openF_ok (s.drop i)
    obtain ⟨k, rfl⟩ : ∃ k', k = k' + 1 := ⟨k - 1, by omega⟩
    have hsf : scanF (k + 1) (s.drop i) = if (openF (s.drop i)).2.2 ≠ 0 then ([], 0) else
      ((openF (s.drop i)).1 :: (scanF k ((s.drop i).drop (openF (s.drop i)).2.1.toNat)).1, (openF (s.drop i)).2.1.toNat + (scanF k ((s.drop i).drop (openF (s.drop i)).2.1.toNat)).2) := rfl
    generalize openF (s.drop i) = r at *
    obtain ⟨c, n, er⟩ := r
    have HSF := Lib.hid hsf
    have HO := Lib.hid O
    have Hok := Lib.hid hok
    clear hsf O hok
    have hcut : List.take (s.length - i) (s.drop i) = s.drop i := List.take_of_length_le (by simp)
    by_cases h1 : er = 0
    · subst h1
      obtain ⟨hn1, hn2, hn3⟩ := Hok.out rfl
      simp only [List.length_drop] at hn1 hn2 hn3
      go_wp2_with (first
        | (go_at_call 110; refine HO.out.mono ?_; rintro e w1 ⟨rfl, hk1⟩; have HK1 := Lib.hid hk1; clear hk1)
        | (at_builtin; refine wpList_append_own _ rfl _ _ 25 rfl w.heap.size 9 i0 (.string ⟨#[]⟩) 1 16 Tryz.underlying25 hi hz0 hz1 hz2 rfl (by decide) _ _ _ rfl ((HK1.out.owns HOWN.out (by simp)).alloc _) ⟨_, 0, none⟩ 1 1 [.string (bs c)] rfl rfl ?c1 ?c2 ?c3 ?c4 ?c5 ?_))
      case c1 => exact cell_one_new _ _ _
      case c2 => simp [Value.oneCell']
      case c3 => unfold maxLen; omega
      case c4 => omega
      case c5 => have := HK.out.size; have := HK1.out.size; simp; omega
      intro v' w2 hown2 hgrow _
      have HOWN2 := Lib.hid hown2
      have HK2 : Hid (Keep [] w w2) := ((HK.out.trans HK1.out).alloc _).grown hgrow (fun g hg => .inr (HOWN.out.lt g hg).1)
      clear hown2 hgrow
      obtain ⟨n, rfl⟩ := Int.eq_ofNat_of_zero_le (show (0 : Int) ≤ n by omega)
      go_wp2
      go_roundw
      case rel =>
        refine ⟨acc ++ [c], i + n, k, by omega, by omega, by simp; omega, by go_num, by simpa [strs] using HOWN2.out, HK2.out, ?_⟩
        rw [HSC.out, HSF.out, if_neg (by simp)]
        simp [List.drop_drop, Nat.add_assoc]
      case measure => simp [intOf]; omega
    · have hb : (er != 0) = true := by simpa using h1
      have hb2 : (er == 0) = false := by simpa using h1
      go_wp2_with (go_at_call 110; refine HO.out.mono ?_; rintro e w1 ⟨rfl, hk1⟩; have HK1 := Lib.hid hk1; clear hk1)
      go_ret2
      have hfin : scan s = (acc, i) := by
        rw [HSC.out, HSF.out, if_pos (by simpa using h1)]
        simp
      refine ⟨u4, ?_, ?_, HK.out.trans HK1.out⟩
      · rw [hfin]; rfl
      · rw [hfin]; exact HK1.out.owns HOWN.out (by simp)

end Go.Proofs.YtnlcipocobmgiaaGreatDoor
