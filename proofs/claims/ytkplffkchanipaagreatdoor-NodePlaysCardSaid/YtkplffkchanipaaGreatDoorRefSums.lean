/- Plain: the checksum, bit by bit. -/
import Derived.Test.YtkplffkchanipaaGreatDoorChIn
import Derived.Laws.IdiomStrings
namespace Go.Proofs.YtkplffkchanipaaGreatDoor
open Go.RowKit

def bitN (x : Nat) : Nat := (x / 2) ^^^ (if x % 2 = 1 then 3988292384 else 0)
theorem xor_mod2 (a b : Nat) : (a ^^^ b) % 2 = (a % 2 + b % 2) % 2 := by
  have h0 := @Nat.xor_mod_two_pow a b 1
  simp only [Nat.pow_one] at h0
  rw [h0]
  rcases Nat.mod_two_eq_zero_or_one a with h | h <;> rcases Nat.mod_two_eq_zero_or_one b with g | g <;> rw [h, g] <;> rfl
def bitC (c b : Nat) : Nat := (c / 2) ^^^ (if (c % 2 + b % 2) % 2 = 1 then 3988292384 else 0)
theorem bitC_xor (c b : Nat) : bitC c b ^^^ (b / 2) = bitN (c ^^^ b) := by
  unfold bitC bitN
  rw [Nat.xor_div_two, xor_mod2, Nat.xor_assoc, Nat.xor_comm _ (b / 2), ← Nat.xor_assoc]
def refC (r b : Nat) : Nat → Nat
  | 0 => r
  | k + 1 => bitC (refC r b k) (b / 2 ^ k)
def itN (x : Nat) : Nat → Nat
  | 0 => x
  | k + 1 => bitN (itN x k)
theorem refC_it (r b : Nat) : ∀ k, refC r b k ^^^ (b / 2 ^ k) = itN (r ^^^ b) k
  | 0 => by simp [refC, itN]
  | k + 1 => by
    have e : b / 2 ^ (k + 1) = b / 2 ^ k / 2 := by rw [Nat.pow_succ, Nat.div_div_eq_div_mul]
    rw [refC, itN, e, bitC_xor, refC_it r b k]
theorem bitN_xor (a b : Nat) : bitN (a ^^^ b) = bitN a ^^^ bitN b := by
  unfold bitN
  rw [Nat.xor_div_two, xor_mod2]
  have h1 : ∀ p q x y : Nat, (p ^^^ q) ^^^ (x ^^^ y) = (p ^^^ x) ^^^ (q ^^^ y) := fun p q x y => by
    rw [Nat.xor_assoc, Nat.xor_assoc, ← Nat.xor_assoc q x y, Nat.xor_comm q x, Nat.xor_assoc x q y]
  rw [← h1]
  congr 1
  rcases Nat.mod_two_eq_zero_or_one a with h | h <;> rcases Nat.mod_two_eq_zero_or_one b with g | g <;> rw [h, g] <;> decide
theorem itN_xor (a b : Nat) : ∀ k, itN (a ^^^ b) k = itN a k ^^^ itN b k
  | 0 => rfl
  | k + 1 => by rw [itN, itN, itN, itN_xor a b k, bitN_xor]
theorem bitN_two (z : Nat) : bitN (2 * z) = z := by
  unfold bitN
  have h1 : 2 * z / 2 = z := by omega
  have h2 : ¬ (2 * z % 2 = 1) := by omega
  rw [h1, if_neg h2, Nat.xor_zero]
theorem itN_16 (q : Nat) : itN (16 * q) 4 = q := by
  have e : 16 * q = 2 * (2 * (2 * (2 * q))) := by omega
  simp only [itN]
  rw [e, bitN_two, bitN_two, bitN_two, bitN_two]
theorem split16 (x : Nat) : (16 * (x / 16)) ^^^ (x % 16) = x := by
  have h1 := @Nat.xor_div_two_pow (16 * (x / 16)) (x % 16) 4
  have h2 := @Nat.xor_mod_two_pow (16 * (x / 16)) (x % 16) 4
  have e1 : 16 * (x / 16) / 2 ^ 4 = x / 16 := by omega
  have e2 : x % 16 / 2 ^ 4 = 0 := by omega
  have e3 : 16 * (x / 16) % 2 ^ 4 = 0 := by omega
  have e4 : x % 16 % 2 ^ 4 = x % 16 := by omega
  rw [e1, e2, Nat.xor_zero] at h1
  rw [e3, e4, Nat.zero_xor] at h2
  have h3 := Nat.div_add_mod (16 * (x / 16) ^^^ x % 16) (2 ^ 4)
  rw [h1, h2] at h3
  rw [← h3]
  omega
theorem itN_add (x j : Nat) : ∀ k, itN x (j + k) = itN (itN x j) k
  | 0 => rfl
  | k + 1 => by rw [← Nat.add_assoc, itN, itN, itN_add x j k]
theorem refC_lt {r b : Nat} (hr : r < 4294967296) : ∀ k, refC r b k < 4294967296
  | 0 => hr
  | k + 1 => by
    have := refC_lt (b := b) hr k
    rw [refC, bitC]
    refine Nat.xor_lt_two_pow (n := 32) (by omega) ?_
    split <;> decide
theorem not32 (c : Nat) (hc : c < 4294967296) : 4294967295 ^^^ c = 4294967295 - c := by
  refine Nat.eq_of_testBit_eq fun i => ?_
  have h1 := Nat.testBit_two_pow_sub_one 32 i
  have h2 := Nat.testBit_two_pow_sub_succ (n := 32) (x := c) hc i
  have e1 : 4294967295 = 2 ^ 32 - 1 := by decide
  have e2 : 4294967295 - c = 2 ^ 32 - (c + 1) := by omega
  rw [Nat.testBit_xor, e2, h2, e1, h1]
  by_cases hi : i < 32
  · simp [hi]
  · have : c.testBit i = false := Nat.testBit_lt_two_pow (Nat.lt_of_lt_of_le hc (by
      have : 2 ^ 32 ≤ 2 ^ i := Nat.pow_le_pow_right (by decide) (by omega)
      exact this))
    simp [hi, this]
theorem itN_tab : ∀ i : Fin 16, itN i.val 4 = tabN i.val := by decide
theorem itN_nib (x : Nat) : itN x 4 = nibN x := by
  have h := itN_xor (16 * (x / 16)) (x % 16) 4
  rw [split16, itN_16, itN_tab ⟨x % 16, Nat.mod_lt _ (by decide)⟩] at h
  exact h
theorem refC_reg (r : Nat) (c : UInt8) : refC r c.toNat 8 = regB r c := by
  have h := refC_it r c.toNat 8
  have e : c.toNat / 2 ^ 8 = 0 := Nat.div_eq_of_lt c.toNat_lt
  rw [e, Nat.xor_zero] at h
  rw [h, itN_add _ 4 4, itN_nib, itN_nib]
  rfl
theorem crc_ref (l : List UInt8) : crc l = ((4294967295 - regL 4294967295 l : Nat) : Int) := by
  have h1 := regL_lt l 4294967295 (by decide)
  have h2 := crcR_nat l 4294967295 (by decide)
  have e : crcR l = (regL 4294967295 l : Int) := h2
  unfold crc
  rw [e]
  have h3 : (IntKind.u32.max : Int) = ((4294967295 : Nat) : Int) := by decide
  rw [h3, xor32 _ _ (by decide) h1, not32 _ h1]

end Go.Proofs.YtkplffkchanipaaGreatDoor
/- The contract of glacierref02.Sum: the checksum, bit by bit. -/
namespace Go.Proofs.YtkplffkchanipaaGreatDoor
open Go.RowKit
attribute [local go_sem] size_bs bs_append

theorem bytes_of (w : World) (l : List UInt8) : ∃ c W, (convert 9 116 (.string (bs l))).run Tryz.prog w = .ok (.slice (some ⟨w.heap.size, 0, none⟩) l.length c) W ∧ (∀ j (h : j < l.length), W.cell? ⟨w.heap.size, j, none⟩ = some (.int .u8 (l[j].toNat : Int))) ∧ Keep [] w W := by
  have h := run_bytes_of_string (P := Tryz.prog) w 9 116 5 (bs l) Tryz.underlying9 Tryz.underlying116 Tryz.underlying5
  rw [size_bs] at h
  refine ⟨_, _, h, fun j hj => ?_, ((Keep.refl [] w).drew).alloc _⟩
  have h2 := World.cell?_alloc_mark w.drew
  have hb := bytesRow_at (bs l) (grownCap w l.length 0 5) j hj
  exact (h2 _ _ _ _).trans hb

set_option maxRecDepth 100000 in
set_option maxHeartbeats 1600000 in
theorem refSum_calls (s : List UInt8) (hs : s.length ≤ 9223372036854775807) (w : World) :
    Calls Tryz.prog 41 #[.string (bs s)] w fun e w' => e = .returned (.int .u32 (crc s)) ∧ Keep [] w w' := by
  obtain ⟨c, W, kc, hc, hk⟩ := bytes_of w s
  have HC := Lib.hid hc
  have HK := Lib.hid hk
  have HE := Lib.hid (crc_ref s)
  clear hc hk
  generalize crc s = z at *
  go_enter Tryz.func41, Tryz.ntmps41
  go_wp2
  go_loop [3, 5, 6, 7, 11] (fun r b i lo k => ∃ (rr : Nat) (kk : Nat), kk ≤ s.length ∧ r = .int .u32 (rr : Int) ∧ rr = regL 4294967295 (s.take kk) ∧ k = .int .i64 kk) (fun _ _ _ _ k => s.length - (intOf k).toNat)
  case atStart => exact ⟨_, 0, Nat.zero_le _, rfl, rfl, rfl⟩
  case round =>
    obtain ⟨rr, k, hk, rfl, hrr, rfl⟩ := hrel
    by_cases hlt : k < s.length
    · have d1 : decide ((k : Int) < (s.length : Int)) = true := decide_eq_true (by omega)
      have q := HC.out k hlt
      have HF : Hid (s.take (k + 1) = s.take k ++ [s[k]]) := by show _ = _; rw [List.take_succ_eq_append_getElem hlt]
      have HR := Lib.hid hrr
      have hrr2 : rr < 4294967296 := by rw [hrr]; exact regL_lt _ _ (by decide)
      have HR2 := Lib.hid hrr2
      clear hrr hrr2
      generalize s[k] = u at *
      go_wp2
      go_loop [3, 5, 6, 7] (fun r b i lo => ∃ j : Nat, j ≤ 8 ∧ r = .int .u32 (refC rr u.toNat j : Int) ∧ b = .int .u8 ((u.toNat / 2 ^ j : Nat) : Int) ∧ i = .int .i64 j) (fun _ _ i _ => 8 - (intOf i).toNat)
      case atStart => exact ⟨0, Nat.zero_le _, rfl, by simp, rfl⟩
      case round =>
        obtain ⟨j, hj, rfl, rfl, rfl⟩ := hrel
        by_cases hj8 : j < 8
        · have d2 : decide ((j : Int) < 8) = true := decide_eq_true (by omega)
          have hR : refC rr u.toNat j < 4294967296 := refC_lt HR2.out j
          have hB : u.toNat / 2 ^ j < 256 := Nat.lt_of_le_of_lt (Nat.div_le_self _ _) u.toNat_lt
          have hN : refC rr u.toNat (j + 1) = bitC (refC rr u.toNat j) (u.toNat / 2 ^ j) := rfl
          have hB2 : u.toNat / 2 ^ (j + 1) = u.toNat / 2 ^ j / 2 := by rw [Nat.pow_succ, Nat.div_div_eq_div_mul]
          have HN := Lib.hid hN
          have HB2 := Lib.hid hB2
          clear hN hB2
          generalize refC rr u.toNat j = R at *
          generalize u.toNat / 2 ^ j = B at *
          go_wp2
          all_goals
            refine ⟨⟨j + 1, by omega, ?_, by rw [HB2.out]; go_num, by go_num⟩, by simp [intOf]; omega⟩
          · rename_i hpar
            have hp : (R % 2 + B % 2) % 2 = 1 := by
              have := eq_of_beq hpar
              omega
            rw [HN.out, bitC, if_pos hp]
            have e1 : (R : Int) / 2 = ((R / 2 : Nat) : Int) := by omega
            have e2 := xor32 (R / 2) 3988292384 (by omega) (by decide)
            rw [e1]
            exact congrArg (Value.int .u32) e2
          · rename_i hpar
            have hp : ¬ (R % 2 + B % 2) % 2 = 1 := by
              have := ne_of_beq_false hpar
              omega
            rw [HN.out, bitC, if_neg hp, Nat.xor_zero]
            have e1 : (R : Int) / 2 = ((R / 2 : Nat) : Int) := by omega
            rw [e1]
        · obtain rfl : j = 8 := by omega
          have d2 : decide (((8 : Nat) : Int) < 8) = false := rfl
          go_wp2
          go_round
          case rel =>
            refine ⟨_, k + 1, by omega, rfl, ?_, by go_num⟩
            rw [HF.out, refC_reg, HR.out]
            simp [regL]
          case measure => simp [intOf]; omega
    · have d1 : decide ((k : Int) < (s.length : Int)) = false := decide_eq_false (by omega)
      rw [List.take_of_length_le (by omega)] at hrr
      have hlt2 : rr < 4294967296 := by rw [hrr]; exact regL_lt _ _ (by decide)
      have e : (4294967295 - (rr : Int)) = z := by rw [HE.out, ← hrr]; omega
      have H9 := Lib.hid e
      clear hrr e
      go_wp2
      go_ret
      exact ⟨by rw [← H9.out]; rfl, HK.out⟩

end Go.Proofs.YtkplffkchanipaaGreatDoor
