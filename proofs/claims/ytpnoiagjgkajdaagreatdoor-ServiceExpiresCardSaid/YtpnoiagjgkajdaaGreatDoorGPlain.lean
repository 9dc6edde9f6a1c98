/- Plain laws: what is encoded is decoded. -/
import Derived.Test.YtpnoiagjgkajdaaGreatDoorDecI
import Derived.Test.YtpnoiagjgkajdaaGreatDoorEncI
namespace Go.Proofs.YtpnoiagjgkajdaaGreatDoor
open Go.RowKit

theorem encU_one {n : Nat} (h : n < 128) : encU n = [UInt8.ofNat n] := by
  unfold encU
  rw [Nat.div_eq_of_lt h, Nat.mod_eq_of_lt h]
  unfold encH
  simp
theorem encH_ne (n : Nat) (h : n ≠ 0) : encH n = encH (n / 128) ++ [UInt8.ofNat (128 + n % 128)] := by
  rw [encH, dif_neg h]
/-- The decoder over the first bytes of a number. -/
theorem uF_encH : ∀ (n : Nat), n < 144115188075855872 → n ≠ 0 → ∀ (r : List UInt8),
    uF (encH n ++ r) 0 true = ((uF r n false).1, (uF r n false).2.1 + (encH n).length, (uF r n false).2.2) := by
  intro n
  induction n using Nat.strongRecOn with
  | _ n ih =>
    intro hn h0 r
    rw [encH_ne n h0]
    by_cases hq : n / 128 = 0
    · have hlt : n < 128 := by omega
      have he : encH (n / 128) = [] := by rw [hq]; unfold encH; simp
      rw [he, List.nil_append, List.singleton_append, uF_cons, Nat.mod_eq_of_lt hlt]
      have hc : (UInt8.ofNat (128 + n)).toNat = 128 + n := by rw [UInt8.toNat_ofNat']; omega
      rw [hc, if_neg (by simp; omega), if_neg (by omega)]
      have : 0 * 128 + (128 + n) % 128 = n := by omega
      rw [this]
      simp
    · have := ih (n / 128) (by omega) (by omega) hq ([UInt8.ofNat (128 + n % 128)] ++ r)
      rw [List.append_assoc, this, List.singleton_append, uF_cons]
      have hc : (UInt8.ofNat (128 + n % 128)).toNat = 128 + n % 128 := by rw [UInt8.toNat_ofNat']; omega
      rw [hc, if_neg (by simp; omega), if_neg (by omega)]
      have h2 : n / 128 * 128 + (128 + n % 128) % 128 = n := by omega
      rw [h2]
      simp only [List.length_append, List.length_cons, List.length_nil]
      congr 2
      omega
theorem uF_encU (n : Nat) (hn : n < 18446744073709551616) (r : List UInt8) : uF (encU n ++ r) 0 true = (n, (encU n).length, 0) := by
  by_cases hs : n < 128
  · rw [encU_one hs, List.singleton_append, uF_cons]
    have hc : (UInt8.ofNat n).toNat = n := by rw [UInt8.toNat_ofNat']; omega
    rw [hc, if_neg (by simp; omega), if_pos hs]
    simp
    omega
  · unfold encU
    rw [List.append_assoc, uF_encH (n / 128) (by omega) (by omega), List.singleton_append, uF_cons]
    have hc : (UInt8.ofNat (n % 128)).toNat = n % 128 := by rw [UInt8.toNat_ofNat']; omega
    rw [hc, if_neg (by simp; omega), if_pos (by omega)]
    simp only [List.length_append, List.length_cons, List.length_nil]
    simp only [Prod.mk.injEq, and_true]
    omega
/-- A number that was encoded is taken off. -/
theorem Ds.i_enc {a r : List UInt8} {n most : Nat} (hn : n < 18446744073709551616) (hm : n ≤ most) : Ds.i ⟨a ++ (encU n ++ r), a.length, 0⟩ most = (n, ⟨a ++ (encU n ++ r), (a ++ encU n).length, 0⟩) := by
  have hu : Ds.u ⟨a ++ (encU n ++ r), a.length, 0⟩ = (n, ⟨a ++ (encU n ++ r), (a ++ encU n).length, 0⟩) := by
    unfold Ds.u
    rw [if_neg (by simp)]
    simp only [List.drop_left, uF_encU n hn r, List.length_append]
  unfold Ds.i
  rw [hu, if_neg (by simp only; omega)]
theorem Ds.str_enc {a r s : List UInt8} {most : Nat} (hn : s.length < 18446744073709551616) (hm : s.length ≤ most) : Ds.str ⟨a ++ (encS s ++ r), a.length, 0⟩ most = (s, ⟨a ++ (encS s ++ r), (a ++ encS s).length, 0⟩) := by
  have h1 : a ++ (encS s ++ r) = a ++ (encU s.length ++ (s ++ r)) := by simp [encS]
  have hi := Ds.i_enc (a := a) (r := s ++ r) hn hm
  unfold Ds.str
  rw [h1, hi]
  simp only
  rw [if_neg (by simp), if_neg (by simp only [List.length_append]; omega)]
  have h2 : (a ++ (encU s.length ++ (s ++ r))).drop (a ++ encU s.length).length = s ++ r := by
    rw [← List.append_assoc a, List.drop_left]
  rw [h2, List.take_left]
  simp [encS, Nat.add_assoc]
theorem Ds.done_end (a : List UInt8) : (Ds.done ⟨a, a.length, 0⟩).err = 0 := by simp [Ds.done]
theorem Ds.un_enc {a r : List UInt8} {n : Nat} (hn : n < 18446744073709551616) : Ds.u ⟨a ++ (encU n ++ r), a.length, 0⟩ = (n, ⟨a ++ (encU n ++ r), (a ++ encU n).length, 0⟩) := by
  unfold Ds.u
  rw [if_neg (by simp)]
  simp only [List.drop_left, uF_encU n hn r, List.length_append]
end Go.Proofs.YtpnoiagjgkajdaaGreatDoor
