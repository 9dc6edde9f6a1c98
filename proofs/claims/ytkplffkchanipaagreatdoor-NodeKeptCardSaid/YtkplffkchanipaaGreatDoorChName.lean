/- The name of a store's file, and back: chunk.Name, chunk.number. -/
import Derived.Test.YtkplffkchanipaaGreatDoorBase
import Derived.Test.YtkplffkchanipaaGreatDoorShelf
import Derived.Deep.QuietTactic
import Derived.BigQuiet
import Derived.IntWalk
namespace Go.Proofs.YtkplffkchanipaaGreatDoor
open Go.RowKit
attribute [local go_sem] size_bs bs_append

/-- The name of file number i (below 100). -/
def segName (i : Nat) : List UInt8 := [115, 101, 103, 45, 48, 48, 48, 48, 48, UInt8.ofNat (48 + i / 10), UInt8.ofNat (48 + i % 10)]
theorem segName_dig : ∀ i : Fin 100, [115, 101, 103, 45] ++ (Lib.repeatL [48] (7 - (Lib.decDigits i.val).length) ++ Lib.decDigits i.val) = segName i.val ∧ (Lib.decDigits i.val).length ≤ 7 := by decide +kernel
theorem name_calls (i : Nat) (h1 : 1 ≤ i) (h2 : i < 100) (w : World) : Calls Tryz.prog 24 #[.int .i64 (i : Int)] w fun e w' => e = .returned (.string (bs (segName i))) ∧ Keep [] w w' := by
  obtain ⟨hd, hl⟩ := segName_dig ⟨i, h2⟩
  simp only at hd hl
  have T1 := Tryz.strconv_Itoa_small i h2
  have T2 := fun W => Tryz.strings_Repeat ⟨#[48]⟩ (7 - (Lib.decDigits i).length) W (by omega) (by simp [ByteArray.size]; omega)
  have e1 : IntKind.i64.wrap (7 - ((Lib.decDigits i).length : Int)) = ((7 - (Lib.decDigits i).length : Nat) : Int) := by rw [IntWalk.i64_in _ (by omega)]; omega
  have e2 : (7 : Int) - ((Lib.decDigits i).length : Int) = ((7 - (Lib.decDigits i).length : Nat) : Int) := by omega
  generalize hD : Lib.decDigits i = D at *
  generalize hr : 7 - D.length = r at *
  have hrl : (Lib.repeatL [48] r).length ≤ 7 := by rw [Lib.repeatL_length]; simp; omega
  generalize Lib.repeatL [48] r = R at *
  have HD := Lib.hid hd
  have d1 : decide ((i : Int) < 1) = false := by simp; omega
  have d2 : decide ((9999999 : Int) < (i : Int)) = false := by simp; omega
  have HT1 : Hid (∀ W, Calls Tryz.prog 59 #[.int .i64 (i : Int)] W fun e w' => e = .returned (.string (bs D)) ∧ w' = W) := T1
  have HT2 : Hid (∀ W, Calls Tryz.prog 60 #[.string { data := #[48] }, .int .i64 (r : Int)] W fun e w' => e = .returned (.string (bs R)) ∧ Below W.heap.size W w') := T2
  clear hd T1 T2 hD hr
  go_enter Tryz.func24, Tryz.ntmps24
  go_wp2_with (first
    | (go_at_call 59; refine (HT1.out _).mono ?_; rintro e w1 ⟨rfl, rfl⟩)
    | (go_at_call 60; refine (HT2.out _).mono ?_; rintro e w2 ⟨rfl, h2⟩; have H2 := Lib.hid h2; clear h2))
  go_ret
  refine ⟨?_, Keep.of_below H2.out⟩
  show Ending.returned (.string (bs [115, 101, 103, 45] ++ bs R ++ bs D)) = _
  rw [bs_append, bs_append, List.append_assoc, HD.out]

/-- The number that digits say. -/
def numV (l : List UInt8) : Nat := l.foldl (fun a c => a * 10 + (c.toNat - 48)) 0
theorem numV_snoc (l : List UInt8) (c : UInt8) : numV (l ++ [c]) = numV l * 10 + (c.toNat - 48) := by simp [numV]
theorem numV_bd : ∀ (n : Nat) (l : List UInt8), l.length = n → (∀ c ∈ l, 48 ≤ c.toNat ∧ c.toNat ≤ 57) → numV l < 10 ^ n
  | 0, l, h, _ => by
    obtain rfl : l = [] := List.length_eq_zero_iff.1 h
    decide
  | n + 1, l, h, hd => by
    rcases List.eq_nil_or_concat l with rfl | ⟨l', c, rfl⟩
    · simp at h
    · rw [List.concat_eq_append] at h hd ⊢
      have h1 := numV_bd n l' (by simpa using h) (fun x hx => hd x (by simp [hx]))
      have h2 := hd c (by simp)
      rw [numV_snoc, Nat.pow_succ]
      omega
theorem numV_seg : ∀ i : Fin 100, numV ((segName i.val).drop 4) = i.val ∧ ((segName i.val).drop 4).length = 7 ∧ ∀ c ∈ (segName i.val).drop 4, 48 ≤ c.toNat ∧ c.toNat ≤ 57 := by decide

set_option maxRecDepth 100000 in
set_option maxHeartbeats 1000000 in
theorem segnum_calls (ds : List UInt8) (h7 : ds.length = 7) (hd : ∀ c ∈ ds, 48 ≤ c.toNat ∧ c.toNat ≤ 57) (w : World) :
    Calls Tryz.prog 51 #[.string (bs ([115, 101, 103, 45] ++ ds))] w fun e w' => e = .returned (.tuple #[.int .i64 (numV ds : Int), .bool (decide (0 < numV ds))]) ∧ w = w' := by
  have T1 := Tryz.strings_CutPrefix (bs ([115, 101, 103, 45] ++ ds)) (bs [115, 101, 103, 45]) w
  have hp : Lib.hasPrefix (bs ([115, 101, 103, 45] ++ ds)).data.toList (bs [115, 101, 103, 45]).data.toList = true := by simp [Lib.hasPrefix, bs]
  have ht : Lib.trimPrefix (bs ([115, 101, 103, 45] ++ ds)).data.toList (bs [115, 101, 103, 45]).data.toList = ds := by simp [Lib.trimPrefix, Lib.hasPrefix, bs]
  rw [hp, ht] at T1
  have HT1 : Hid (Calls Tryz.prog 78 #[.string (bs ([115, 101, 103, 45] ++ ds)), .string { data := #[115, 101, 103, 45] }] w fun e w' => e = .returned (.tuple #[.string (bs ds), .bool true]) ∧ w' = w) := T1
  have HD := Lib.hid hd
  have hs7 : (bs ds).size = 7 := by simp [h7]
  have HB := Lib.hid (fun k (hk : k ≤ 7) => numV_bd k (ds.take k) (by simp [h7]; omega) (fun c hc => hd c (List.mem_of_mem_take hc)))
  have H7 := Lib.hid h7
  generalize hX : bs ([115, 101, 103, 45] ++ ds) = X at *
  clear hX T1 hp ht hd h7
  go_enter Tryz.func51, Tryz.ntmps51
  go_wp2_with (go_at_call 78; refine HT1.out.mono ?_; rintro e w1 ⟨rfl, rfl⟩)
  go_loop [6, 7] (fun vs vi => ∃ k : Nat, k ≤ 7 ∧ vi = .int .i64 (k : Int) ∧ vs = .int .i64 (numV (ds.take k) : Int)) (fun _ vi => 7 - (intOf vi).toNat)
  case atStart => exact ⟨0, by omega, rfl, rfl⟩
  case round =>
    obtain ⟨k, hk, rfl, rfl⟩ := hrel
    by_cases hk7 : k < 7
    · have hsz : k < (bs ds).size := by omega
      have hl : k < ds.length := by rw [H7.out]; exact hk7
      have d0 : decide ((k : Int) < 7) = true := by simp; omega
      have hb := HB.out k (by omega)
      have hb7 : numV (ds.take k) ≤ 1000000 := by
        have : 10 ^ k ≤ 10 ^ 6 := Nat.pow_le_pow_right (by omega) (by omega)
        omega
      have hc := HD.out ds[k] (List.getElem_mem hl)
      have HST : Hid (numV (ds.take (k + 1)) = numV (ds.take k) * 10 + (ds[k].toNat - 48)) := (by rw [List.take_succ_eq_append_getElem hl, numV_snoc] : numV (ds.take (k + 1)) = numV (ds.take k) * 10 + (ds[k].toNat - 48))
      obtain ⟨x, hx⟩ : ∃ x : Nat, x = (bs ds)[k].toNat := ⟨_, rfl⟩
      have hx2 : x = ds[k].toNat := hx
      rw [← hx2] at hc HST
      have e1 : ((bs ds)[k].toNat : Int) = (x : Int) := by rw [hx]
      have d1 : decide ((x : Int) < 48) = false := by simp; omega
      have d2 : decide ((57 : Int) < (x : Int)) = false := by simp; omega
      obtain ⟨y, hy⟩ : ∃ y, y = x - 48 := ⟨_, rfl⟩
      have e2 : (x : Int) - 48 = (y : Int) := by omega
      have hy9 : y ≤ 9 := by omega
      have e3 : IntKind.u8.wrap ((x : Int) - 48) = (y : Int) := by rw [IntKind.wrap_u8]; omega
      rw [← hy] at HST
      clear hx hx2 hy hb hc
      generalize numV (ds.take k) = V at *
      go_wp2
      go_round
      case rel => exact ⟨k + 1, by omega, by go_num, by rw [HST.out]; go_num⟩
      case measure => simp [intOf]; omega
    · obtain rfl : k = 7 := by omega
      have HT : Hid (ds.take 7 = ds) := (List.take_of_length_le (by rw [H7.out]; omega) : ds.take 7 = ds)
      rw [HT.out]
      have d1 : decide ((0 : Int) < (numV ds : Int)) = decide (0 < numV ds) := by simp
      go_wp2
      go_ret2
      exact ⟨rfl, rfl⟩

end Go.Proofs.YtkplffkchanipaaGreatDoor
