/- Plain: the checksum tells one byte from another. -/
import Derived.Test.YtkplffkchanipaaGreatDoorSeals
import Derived.Test.YtkplffkchanipaaGreatDoorChLaws
namespace Go.Proofs.YtkplffkchanipaaGreatDoor
open Go.RowKit

/-- The table as natural numbers. -/
def tabN (i : Nat) : Nat := (tab i).toNat
theorem tabN_tab : ∀ i : Fin 16, tab i.val = (tabN i.val : Int) ∧ tabN i.val < 4294967296 := by decide
theorem tab_top : ∀ i j : Fin 16, tabN i.val ^^^ tabN j.val < 268435456 → i = j := by decide
theorem xor32 (a b : Nat) (ha : a < 4294967296) (hb : b < 4294967296) : bits .xor .u32 (a : Int) (b : Int) = ((a ^^^ b : Nat) : Int) := by
  show IntKind.u32.wrap (((BitVec.ofInt 32 (a : Int)) ^^^ (BitVec.ofInt 32 (b : Int))).toNat : Int) = _
  have h1 : (BitVec.ofInt 32 (a : Int)) = BitVec.ofNat 32 a := by simp
  have h2 : (BitVec.ofInt 32 (b : Int)) = BitVec.ofNat 32 b := by simp
  have h3 : a ^^^ b < 4294967296 := Nat.xor_lt_two_pow (n := 32) (by omega) (by omega)
  rw [h1, h2, BitVec.toNat_xor, BitVec.toNat_ofNat, BitVec.toNat_ofNat, Nat.mod_eq_of_lt (by omega), Nat.mod_eq_of_lt (by omega), IntKind.wrap_u32]
  omega
theorem and15N (a : Nat) (ha : a < 4294967296) : bits .and .u32 (a : Int) 15 = ((a % 16 : Nat) : Int) := by
  show IntKind.u32.wrap (((BitVec.ofInt 32 (a : Int)) &&& (BitVec.ofInt 32 15)).toNat : Int) = _
  have h1 : (BitVec.ofInt 32 (a : Int)) = BitVec.ofNat 32 a := by simp
  have h2 : (BitVec.ofInt 32 15) = BitVec.ofNat 32 15 := by decide
  have h3 : a &&& 15 = a % 16 := by
    have := Nat.and_two_pow_sub_one_eq_mod a 4
    simpa using this
  rw [h1, h2, BitVec.toNat_and, BitVec.toNat_ofNat, BitVec.toNat_ofNat, Nat.mod_eq_of_lt (by omega), Nat.mod_eq_of_lt (by omega), h3, IntKind.wrap_u32]
  omega
theorem xor_cancel {a b c : Nat} (h : a ^^^ c = b ^^^ c) : a = b := by
  have := congrArg (· ^^^ c) h
  simp only [Nat.xor_assoc, Nat.xor_self, Nat.xor_zero] at this
  exact this
def nibN (x : Nat) : Nat := (x / 16) ^^^ tabN (x % 16)
theorem nib_nat (x : Nat) (hx : x < 4294967296) : nib (x : Int) = (nibN x : Int) ∧ nibN x < 4294967296 := by
  unfold nib nibN
  have ht := tabN_tab ⟨x % 16, Nat.mod_lt _ (by decide)⟩
  rw [and15N x hx, Int.toNat_natCast, ht.1]
  have e : (x : Int) / 16 = ((x / 16 : Nat) : Int) := by omega
  rw [e, xor32 _ _ (by omega) ht.2]
  exact ⟨rfl, Nat.xor_lt_two_pow (n := 32) (by omega) (by have := ht.2; omega)⟩
theorem nibN_inj {x y : Nat} (hx : x < 4294967296) (hy : y < 4294967296) (h : nibN x = nibN y) : x = y := by
  unfold nibN at h
  have h1 : (x / 16) ^^^ (y / 16) = tabN (x % 16) ^^^ tabN (y % 16) := by
    have h2 := congrArg (fun z => z ^^^ tabN (x % 16) ^^^ (y / 16)) h
    try simp only at h2
    have e1 : (x / 16) ^^^ tabN (x % 16) ^^^ tabN (x % 16) ^^^ (y / 16) = (x / 16) ^^^ (y / 16) := by rw [Nat.xor_assoc (x / 16), Nat.xor_self, Nat.xor_zero]
    have e2 : (y / 16) ^^^ tabN (y % 16) ^^^ tabN (x % 16) ^^^ (y / 16) = tabN (x % 16) ^^^ tabN (y % 16) := by
      rw [Nat.xor_assoc, Nat.xor_assoc, Nat.xor_comm (tabN (x % 16)) (y / 16), ← Nat.xor_assoc (tabN (y % 16)), Nat.xor_comm (tabN (y % 16)) (y / 16), Nat.xor_assoc, ← Nat.xor_assoc, Nat.xor_self, Nat.zero_xor, Nat.xor_comm]
    rw [e1, e2] at h2
    exact h2
  have h3 : (x / 16) ^^^ (y / 16) < 268435456 := Nat.xor_lt_two_pow (n := 28) (by omega) (by omega)
  rw [h1] at h3
  have h4 := tab_top ⟨x % 16, Nat.mod_lt _ (by decide)⟩ ⟨y % 16, Nat.mod_lt _ (by decide)⟩ h3
  have h5 : x % 16 = y % 16 := congrArg Fin.val h4
  rw [h5] at h
  have h6 := xor_cancel h
  omega
/-- The register, as a natural number. -/
def regB (r : Nat) (c : UInt8) : Nat := nibN (nibN (r ^^^ c.toNat))
theorem crcB_nat (r : Nat) (hr : r < 4294967296) (c : UInt8) : crcB (r : Int) c = (regB r c : Int) ∧ regB r c < 4294967296 := by
  have hc := c.toNat_lt
  unfold crcB regB
  have e : ((c.toNat : Int) % 4294967296) = ((c.toNat : Nat) : Int) := by omega
  have hx : r ^^^ c.toNat < 4294967296 := Nat.xor_lt_two_pow (n := 32) (by omega) (by omega)
  rw [e, xor32 r c.toNat hr (by omega)]
  obtain ⟨h1, h2⟩ := nib_nat _ hx
  rw [h1]
  exact nib_nat _ h2
theorem regB_inj {r s : Nat} (hr : r < 4294967296) (hs : s < 4294967296) {c d : UInt8} (h : regB r c = regB s d) : r ^^^ c.toNat = s ^^^ d.toNat := by
  have hc := c.toNat_lt
  have hd := d.toNat_lt
  have hx : r ^^^ c.toNat < 4294967296 := Nat.xor_lt_two_pow (n := 32) (by omega) (by omega)
  have hy : s ^^^ d.toNat < 4294967296 := Nat.xor_lt_two_pow (n := 32) (by omega) (by omega)
  exact nibN_inj hx hy (nibN_inj (nib_nat _ hx).2 (nib_nat _ hy).2 h)
def regL (r : Nat) (l : List UInt8) : Nat := l.foldl regB r
theorem regL_lt : ∀ (l : List UInt8) (r : Nat), r < 4294967296 → regL r l < 4294967296
  | [], _, h => h
  | c :: l, r, h => regL_lt l _ (crcB_nat r h c).2
theorem crcR_nat : ∀ (l : List UInt8) (r : Nat), r < 4294967296 → l.foldl crcB (r : Int) = (regL r l : Int)
  | [], _, _ => rfl
  | c :: l, r, h => by
    obtain ⟨h1, h2⟩ := crcB_nat r h c
    simp only [List.foldl_cons, regL, h1]
    exact crcR_nat l _ h2
theorem regL_inj : ∀ (l : List UInt8) {r s : Nat}, r < 4294967296 → s < 4294967296 → regL r l = regL s l → r = s
  | [], _, _, _, _, h => h
  | c :: l, r, s, hr, hs, h => by
    have h1 := regL_inj l (crcB_nat r hr c).2 (crcB_nat s hs c).2 h
    exact xor_cancel (regB_inj hr hs h1)
theorem regL_app (r : Nat) (a b : List UInt8) : regL r (a ++ b) = regL (regL r a) b := by simp [regL]
/-- Two texts that differ in one byte have different checksums. -/
theorem crc_ne (a b : List UInt8) {c d : UInt8} (hcd : c ≠ d) : crc (a ++ c :: b) ≠ crc (a ++ d :: b) := by
  have hm : IntKind.u32.max = ((4294967295 : Nat) : Int) := by decide
  have h0 : (4294967295 : Nat) < 4294967296 := by decide
  have e : ∀ l, crc l = ((4294967295 ^^^ regL 4294967295 l : Nat) : Int) := fun l => by
    unfold crc crcR
    have := crcR_nat l 4294967295 h0
    rw [hm]
    rw [show (4294967295 : Int) = ((4294967295 : Nat) : Int) from rfl, this, xor32 _ _ h0 (regL_lt l _ h0)]
  rw [e, e]
  intro h
  have h1 : 4294967295 ^^^ regL 4294967295 (a ++ c :: b) = 4294967295 ^^^ regL 4294967295 (a ++ d :: b) := by omega
  rw [Nat.xor_comm 4294967295, Nat.xor_comm 4294967295] at h1
  have h2 := xor_cancel h1
  rw [regL_app, regL_app] at h2
  have ha := regL_lt a _ h0
  have h3 : regB (regL 4294967295 a) c = regB (regL 4294967295 a) d := regL_inj b (crcB_nat _ ha c).2 (crcB_nat _ ha d).2 h2
  have h4 := regB_inj ha ha h3
  rw [Nat.xor_comm, Nat.xor_comm (regL 4294967295 a)] at h4
  exact hcd (UInt8.toNat_inj.1 (xor_cancel h4))

end Go.Proofs.YtkplffkchanipaaGreatDoor
/- Plain: a byte of a store's file is another one. -/
namespace Go.Proofs.YtkplffkchanipaaGreatDoor
open Go.RowKit

/- A record's contents are no beginning of another's. -/
theorem uF_app : ∀ (s y : List UInt8) (v : Nat) (f : Bool), (uF s v f).2.2 = 0 → uF (s ++ y) v f = uF s v f
  | [], _, _, _, h => by simp [uF] at h
  | c :: s, y, v, f, h => by
    rw [uF_cons] at h
    rw [List.cons_append, uF_cons, uF_cons]
    split
    · rfl
    · rename_i h1
      rw [if_neg h1] at h
      split
      · rfl
      · rename_i h2
        rw [if_neg h2] at h
        rw [uF_app s y _ _ h]
theorem Ds.u_err {d : Ds} (h : d.u.2.err = 0) : d.err = 0 := by
  unfold Ds.u at h
  split at h
  · exact h
  · rename_i h1
    exact Decidable.not_not.1 h1
theorem Ds.i_err {d : Ds} {m : Nat} (h : (d.i m).2.err = 0) : d.err = 0 := by
  unfold Ds.i at h
  split at h
  · unfold Ds.fail at h
    simp only at h
    split at h
    · simp at h
    · rename_i h1; exact absurd h h1
  · exact Ds.u_err h
theorem Ds.str_err {d : Ds} {m : Nat} (h : (d.str m).2.err = 0) : d.err = 0 := by
  unfold Ds.str at h
  split at h
  · exact Ds.i_err h
  · rename_i h1
    exact Ds.i_err (Decidable.not_not.1 h1)
theorem u_ext {a y : List UInt8} {p : Nat} (hp : p ≤ a.length) (h : (Ds.u ⟨a, p, 0⟩).2.err = 0) :
    Ds.u ⟨a ++ y, p, 0⟩ = ((Ds.u ⟨a, p, 0⟩).1, ⟨a ++ y, (Ds.u ⟨a, p, 0⟩).2.at_, 0⟩) ∧ (Ds.u ⟨a, p, 0⟩).2 = ⟨a, (Ds.u ⟨a, p, 0⟩).2.at_, 0⟩ ∧ (Ds.u ⟨a, p, 0⟩).2.at_ ≤ a.length := by
  have h0 := (Ds.u_at (d := ⟨a, p, 0⟩) hp).1
  have hs := (Ds.u_at (d := ⟨a, p, 0⟩) hp).2.1
  rw [hs] at h0
  unfold Ds.u at h h0 ⊢
  simp only [ne_eq, not_true_eq_false, if_false] at h h0 ⊢
  rw [List.drop_append_of_le_length hp, uF_app _ _ _ _ h, h]
  exact ⟨rfl, rfl, h0⟩
theorem str_ext {a y : List UInt8} {p m m' : Nat} (hp : p ≤ a.length) (hm : m ≤ m') (h : (Ds.str ⟨a, p, 0⟩ m).2.err = 0) :
    (Ds.str ⟨a ++ y, p, 0⟩ m').2 = ⟨a ++ y, (Ds.str ⟨a, p, 0⟩ m).2.at_, 0⟩ ∧ (Ds.str ⟨a, p, 0⟩ m).2.s = a := by
  have hs := (Ds.str_at (d := ⟨a, p, 0⟩) hp m).2
  refine ⟨?_, hs⟩
  have hi : (Ds.i ⟨a, p, 0⟩ m).2.err = 0 := by
    unfold Ds.str at h
    split at h
    · exact h
    · rename_i h1; exact Decidable.not_not.1 h1
  have hmu : ¬ m < (Ds.u ⟨a, p, 0⟩).1 := fun hlt => by
    unfold Ds.i at hi
    rw [if_pos hlt] at hi
    unfold Ds.fail at hi
    simp only at hi
    split at hi
    · simp at hi
    · rename_i h2; exact h2 hi
  have hiu : Ds.i ⟨a, p, 0⟩ m = Ds.u ⟨a, p, 0⟩ := by unfold Ds.i; rw [if_neg hmu]
  rw [hiu] at hi
  obtain ⟨e1, e2, e3⟩ := u_ext (y := y) hp hi
  have hiu' : Ds.i ⟨a ++ y, p, 0⟩ m' = ((Ds.u ⟨a, p, 0⟩).1, ⟨a ++ y, (Ds.u ⟨a, p, 0⟩).2.at_, 0⟩) := by
    unfold Ds.i
    rw [e1, if_neg (by simp only; omega)]
  unfold Ds.str at h ⊢
  rw [hiu] at h ⊢
  rw [hiu']
  generalize Ds.u ⟨a, p, 0⟩ = q at *
  obtain ⟨n, ⟨s, at_, er⟩⟩ := q
  simp only [Ds.mk.injEq, true_and] at e2 e3 h ⊢
  obtain ⟨rfl, rfl⟩ := e2
  simp only [ne_eq, not_true_eq_false, if_false] at h ⊢
  split at h
  · simp at h
  · rename_i h2
    rw [if_neg (by rw [List.length_append]; omega), if_neg h2]
theorem parse_ext {a y : List UInt8} (h : (parseF a).2.2.2 = true) (hy : y ≠ []) : (parseF (a ++ y)).2.2.2 = false := by
  unfold parseF at h ⊢
  simp only [Bool.and_eq_true, decide_eq_true_eq] at h
  obtain ⟨h1, h2⟩ := h
  have h3 : ((((Ds.mk a 0 0).u).2.u).2.str a.length).2.err = 0 ∧ (((((Ds.mk a 0 0).u).2.u).2.str a.length).2.at_ = a.length ∨ ((((Ds.mk a 0 0).u).2.u).2.str a.length).2.s ≠ a) := by
    have hs : ((((Ds.mk a 0 0).u).2.u).2.str a.length).2.s = a := by
      have k1 := Ds.u_at (d := ⟨a, 0, 0⟩) (Nat.zero_le _)
      have k2 := Ds.u_at (d := ((Ds.mk a 0 0).u).2) k1.1
      have k3 := Ds.str_at (d := (((Ds.mk a 0 0).u).2.u).2) k2.1 a.length
      rw [k3.2, k2.2.1, k1.2.1]
    have hle : ((((Ds.mk a 0 0).u).2.u).2.str a.length).2.at_ ≤ a.length := by
      have k1 := Ds.u_at (d := ⟨a, 0, 0⟩) (Nat.zero_le _)
      have k2 := Ds.u_at (d := ((Ds.mk a 0 0).u).2) k1.1
      have k3 := Ds.str_at (d := (((Ds.mk a 0 0).u).2.u).2) k2.1 a.length
      rw [hs] at k3
      exact k3.1
    unfold Ds.done at h1
    split at h1
    · unfold Ds.fail at h1
      simp only at h1
      split at h1
      · simp at h1
      · rename_i h4; exact absurd h1 h4
    · rename_i h4
      rw [hs] at h4
      exact ⟨h1, .inl (by omega)⟩
  obtain ⟨h4, h5⟩ := h3
  have g1 : ((((Ds.mk a 0 0).u).2.u).2).err = 0 := Ds.str_err h4
  have g2 := Ds.u_err g1
  obtain ⟨a1, a2, a3⟩ := u_ext (y := y) (Nat.zero_le a.length) g2
  rw [a1]
  rw [a2] at g1 h4 h5
  obtain ⟨b1, b2, b3⟩ := u_ext (y := y) a3 g1
  rw [b2] at h4 h5
  simp only
  rw [b1]
  obtain ⟨c1, c2⟩ := str_ext (y := y) (m' := (a ++ y).length) b3 (by rw [List.length_append]; omega) h4
  simp only
  rw [c1]
  have h6 : (Ds.str ⟨a, (Ds.u ⟨a, (Ds.u ⟨a, 0, 0⟩).2.at_, 0⟩).2.at_, 0⟩ a.length).2.at_ = a.length := by
    rcases h5 with h5 | h5
    · exact h5
    · exact absurd c2 h5
  rw [h6]
  have hl : 0 < y.length := List.length_pos_iff.2 hy
  unfold Ds.done
  simp only [List.length_append]
  rw [if_pos (by omega)]
  simp [Ds.fail]
theorem parse_other {c z r : List UInt8} (h : (parseF c).2.2.2 = true) {n : Nat} (hz : z = (c ++ r).take n) (hn : z.length = n) (hne : n ≠ c.length) : (parseF z).2.2.2 = false := by
  by_cases hlt : n < c.length
  · cases hp : (parseF z).2.2.2
    · rfl
    · have h1 : z = c.take n := by rw [hz, List.take_append_of_le_length (by omega)]
      have h2 := parse_ext (y := c.drop n) hp (by intro h0; have := congrArg List.length h0; simp at this; omega)
      rw [h1, List.take_append_drop] at h2
      rw [h2] at h
      cases h
  · have h1 : z = c ++ r.take (n - c.length) := by rw [hz, List.take_append, List.take_of_length_le (by omega)]
    rw [h1]
    refine parse_ext h fun h0 => ?_
    rw [h1, h0, List.append_nil] at hn
    omega

/- One byte of a frame is another one. -/
theorem set_ne {l : List UInt8} {k : Nat} {v : UInt8} (hk : k < l.length) (hv : v ≠ l[k]) : l.set k v ≠ l := fun h => by
  have := List.getElem_set_self (l := l) (i := k) (a := v) (by simpa using hk)
  apply hv
  rw [← this]
  simp only [h]
theorem crc_set (p l : List UInt8) {k : Nat} {v : UInt8} (hk : k < l.length) (hv : v ≠ l[k]) : crc (p ++ l.set k v) ≠ crc (p ++ l) := by
  have h1 : l.set k v = l.take k ++ v :: l.drop (k + 1) := List.set_eq_take_append_cons_drop.trans (by rw [if_pos hk])
  have h2 : l = l.take k ++ l[k] :: l.drop (k + 1) := by
    have h3 : l[k] :: l.drop (k + 1) = l.drop k := (List.drop_eq_getElem_cons hk).symm
    rw [h3, List.take_append_drop]
  have h4 : crc (p ++ l) = crc ((p ++ l.take k) ++ l[k] :: l.drop (k + 1)) := by
    rw [List.append_assoc, ← h2]
  rw [h1, h4, ← List.append_assoc]
  exact crc_ne _ _ hv
theorem val4_inj {a b c d a' b' c' d' : UInt8} (h : val4 a b c d = val4 a' b' c' d') : [a, b, c, d] = [a', b', c', d'] := by
  have ha := a.toNat_lt; have hb := b.toNat_lt; have hc := c.toNat_lt; have hd := d.toNat_lt
  have ha' := a'.toNat_lt; have hb' := b'.toNat_lt; have hc' := c'.toNat_lt; have hd' := d'.toNat_lt
  unfold val4 at h
  have e1 : a.toNat = a'.toNat := by omega
  have e2 : b.toNat = b'.toNat := by omega
  have e3 : c.toNat = c'.toNat := by omega
  have e4 : d.toNat = d'.toNat := by omega
  rw [UInt8.toNat_inj.1 e1, UInt8.toNat_inj.1 e2, UInt8.toNat_inj.1 e3, UInt8.toNat_inj.1 e4]
theorem four {l : List UInt8} (h : l.length = 4) : ∃ a b c d, l = [a, b, c, d] := by
  match l, h with
  | [a, b, c, d], _ => exact ⟨a, b, c, d, rfl⟩
/-- A frame in three parts: its length, its sum, what it contains. -/
theorem openF_parts (A B r : List UInt8) (hA : A.length = 4) (hB : B.length = 4) : ∃ a b c d e f g h, A = [a, b, c, d] ∧ B = [e, f, g, h] ∧ A ++ (B ++ r) = a :: b :: c :: d :: e :: f :: g :: h :: r := by
  obtain ⟨a, b, c, d, rfl⟩ := four hA
  obtain ⟨e, f, g, h, rfl⟩ := four hB
  exact ⟨a, b, c, d, e, f, g, h, rfl, rfl, by simp⟩
theorem openF_spoilt {c r : List UInt8} (hc : c.length ≤ 1048576) (hp : (parseF c).2.2.2 = true) {k : Nat} {v : UInt8} (hk : k < (frame c).length) (hv : v ≠ (frame c)[k]) :
    (openF ((frame c).set k v ++ r)).2.2 ≠ 0 ∨ (parseF (openF ((frame c).set k v ++ r)).1).2.2.2 = false := by
  obtain ⟨a, b, c', d, h1, h2⟩ := be4_val (c.length : Int) (by omega) (by omega)
  have hcb := crc_bd (be4 (c.length : Int) ++ c)
  obtain ⟨e, f, g, h, h3, h4⟩ := be4_val (crc (be4 (c.length : Int) ++ c)) hcb.1 hcb.2
  have hfr : frame c = [a, b, c', d] ++ ([e, f, g, h] ++ c) := by
    unfold frame
    rw [h3, h1]
  have hlen : (frame c).length = c.length + 8 := frame_len c
  rw [hlen] at hk
  rw [h1] at h4
  generalize hF : frame c = F at *
  subst hfr
  by_cases hk4 : k < 4
  · -- its length
    have e1 : ([a, b, c', d] ++ ([e, f, g, h] ++ c)).set k v = [a, b, c', d].set k v ++ ([e, f, g, h] ++ c) := List.set_append_left _ _ (by simpa using hk4)
    have hv2 : v ≠ [a, b, c', d][k]'(by simpa using hk4) := by
      rw [List.getElem_append_left (by simpa using hk4)] at hv
      exact hv
    have hne := set_ne (l := [a, b, c', d]) (by simpa using hk4) hv2
    obtain ⟨a2, b2, c2, d2, e2, f2, g2, i2, p1, p2, p3⟩ := openF_parts ([a, b, c', d].set k v) [e, f, g, h] (c ++ r) (by simp) rfl
    have p4 : ([a, b, c', d] ++ ([e, f, g, h] ++ c)).set k v ++ r = a2 :: b2 :: c2 :: d2 :: e2 :: f2 :: g2 :: i2 :: (c ++ r) := by rw [e1, ← p3]; simp
    rw [p4]
    obtain ⟨n, hn⟩ := Int.eq_ofNat_of_zero_le (val4_bd a2 b2 c2 d2).1
    have hnc : n ≠ c.length := fun h5 => by
      apply hne
      rw [p1]
      refine val4_inj ?_
      rw [hn, h2, h5]
    rw [openF_eight _ _ _ _ _ _ _ _ _ n hn]
    by_cases q1 : 1048576 < n
    · rw [if_pos q1]; left; simp
    rw [if_neg q1]
    by_cases q2 : (c ++ r).length < n
    · rw [if_pos q2]; left; simp
    rw [if_neg q2]
    by_cases q3 : crc ([a2, b2, c2, d2] ++ (c ++ r).take n) = val4 e2 f2 g2 i2
    · rw [if_pos q3]
      right
      exact parse_other hp rfl (by rw [List.length_take]; omega) hnc
    · rw [if_neg q3]; left; simp
  · left
    have hn : val4 a b c' d = (c.length : Int) := h2
    by_cases hk8 : k < 8
    · -- its sum
      have e1 : ([a, b, c', d] ++ ([e, f, g, h] ++ c)).set k v = [a, b, c', d] ++ ([e, f, g, h].set (k - 4) v ++ c) := by
        rw [List.set_append_right _ _ (by simp; omega), List.set_append_left _ _ (by simp; omega)]
        rfl
      have hv2 : v ≠ [e, f, g, h][k - 4]'(by simp; omega) := by
        rw [List.getElem_append_right (by simp; omega), List.getElem_append_left (by simp; omega)] at hv
        exact hv
      have hne := set_ne (l := [e, f, g, h]) (by simp; omega) hv2
      obtain ⟨a2, b2, c2, d2, e2, f2, g2, i2, p1, p2, p3⟩ := openF_parts [a, b, c', d] ([e, f, g, h].set (k - 4) v) (c ++ r) rfl (by simp)
      have p4 : ([a, b, c', d] ++ ([e, f, g, h] ++ c)).set k v ++ r = a2 :: b2 :: c2 :: d2 :: e2 :: f2 :: g2 :: i2 :: (c ++ r) := by rw [e1, ← p3]; simp
      simp only [List.cons.injEq, and_true] at p1
      obtain ⟨rfl, rfl, rfl, rfl⟩ := p1
      rw [p4, openF_eight _ _ _ _ _ _ _ _ _ c.length hn, if_neg (by omega), if_neg (by rw [List.length_append]; omega), List.take_left, if_neg]
      · simp
      · rw [← h4]
        intro h5
        apply hne
        rw [p2]
        exact val4_inj h5.symm
    · -- what it contains
      have e1 : ([a, b, c', d] ++ ([e, f, g, h] ++ c)).set k v = [a, b, c', d] ++ ([e, f, g, h] ++ c.set (k - 8) v) := by
        rw [List.set_append_right _ _ (by simp; omega), List.set_append_right _ _ (by simp; omega)]
        simp only [List.length_cons, List.length_nil]
        rw [show k - (0 + 1 + 1 + 1 + 1) - (0 + 1 + 1 + 1 + 1) = k - 8 by omega]
      have hkc : k - 8 < c.length := by omega
      have hv2 : v ≠ c[k - 8] := by
        rw [List.getElem_append_right (by simp; omega), List.getElem_append_right (by simp; omega)] at hv
        simp only [List.length_cons, List.length_nil] at hv
        have : k - (0 + 1 + 1 + 1 + 1) - (0 + 1 + 1 + 1 + 1) = k - 8 := by omega
        simp only [this] at hv
        exact hv
      have p4 : ([a, b, c', d] ++ ([e, f, g, h] ++ c)).set k v ++ r = a :: b :: c' :: d :: e :: f :: g :: h :: (c.set (k - 8) v ++ r) := by rw [e1]; simp
      have hls : (c.set (k - 8) v).length = c.length := List.length_set
      rw [p4, openF_eight _ _ _ _ _ _ _ _ _ c.length hn, if_neg (by omega), if_neg (by rw [List.length_append, hls]; omega), ← hls, List.take_left, if_neg]
      · simp
      · rw [h4]
        exact crc_set _ _ hkc hv2
/-- What is read of records of which one byte is another one: some of them, and then nothing that is a record. -/
theorem scanF_spoilt : ∀ (n : Nat) (cs : List (List UInt8)) (k : Nat) (v : UInt8), Recs cs → (hk : k < (frames cs).length) → v ≠ (frames cs)[k] → ∃ j l', (scanF n ((frames cs).set k v)).1 = cs.take j ++ l' ∧ (l' = [] ∨ ∃ z zs, l' = z :: zs ∧ (parseF z).2.2.2 = false)
  | 0, cs, k, v, _, _, _ => ⟨0, [], rfl, .inl rfl⟩
  | n + 1, [], k, v, _, hk, _ => by simp [frames] at hk
  | n + 1, c :: cs, k, v, hr, hk, hv => by
    have hc := hr c (by simp)
    have hf : frames (c :: cs) = frame c ++ frames cs := by simp [frames]
    by_cases hkc : k < (frame c).length
    · have e1 : (frames (c :: cs)).set k v = (frame c).set k v ++ frames cs := by rw [hf, List.set_append_left _ _ hkc]
      have hv2 : v ≠ (frame c)[k] := by
        have : (frames (c :: cs))[k] = (frame c)[k] := by simp only [hf]; rw [List.getElem_append_left hkc]
        rw [← this]
        exact hv
      rw [e1]
      simp only [scanF]
      rcases openF_spoilt (r := frames cs) hc.1 hc.2.1 hkc hv2 with h | h
      · rw [if_pos h]
        exact ⟨0, [], rfl, .inl rfl⟩
      · by_cases h0 : (openF ((frame c).set k v ++ frames cs)).2.2 ≠ 0
        · rw [if_pos h0]
          exact ⟨0, [], rfl, .inl rfl⟩
        · rw [if_neg h0]
          exact ⟨0, _, rfl, .inr ⟨_, _, rfl, h⟩⟩
    · have hk2 : k - (frame c).length < (frames cs).length := by rw [hf, List.length_append] at hk; omega
      have e1 : (frames (c :: cs)).set k v = frame c ++ (frames cs).set (k - (frame c).length) v := by rw [hf, List.set_append_right _ _ (by omega)]
      have hv2 : v ≠ (frames cs)[k - (frame c).length] := by
        have : (frames (c :: cs))[k] = (frames cs)[k - (frame c).length] := by simp only [hf]; rw [List.getElem_append_right (by omega)]
        rw [← this]
        exact hv
      obtain ⟨j, l', g1, g2⟩ := scanF_spoilt n cs (k - (frame c).length) v (fun x hx => hr x (by simp [hx])) hk2 hv2
      refine ⟨j + 1, l', ?_, g2⟩
      rw [e1]
      simp only [scanF]
      have ho := openF_frame c ((frames cs).set (k - (frame c).length) v) hc.1
      rw [ho, if_neg (by simp)]
      simp only
      rw [show ((c.length : Int) + 8).toNat = (frame c).length by rw [frame_len]; omega, List.drop_left, g1]
      rfl

/- Records of chunks of a kind. -/
/-- Every record that adds a chunk adds one of P. -/
def AddsP (P : Nat → List UInt8 → Prop) (cs : List (List UInt8)) : Prop := ∀ c ∈ cs, (parseF c).1 = 1 → P (parseF c).2.1 (parseF c).2.2.1
def AllP (P : Nat → List UInt8 → Prop) (X : List (Nat × List UInt8)) : Prop := ∀ i d, lookX i X = some d → P i d
theorem allP_one {P : Nat → List UInt8 → Prop} {X : List (Nat × List UInt8)} (h : AllP P X) {c : List UInt8} (hc : (parseF c).1 = 1 → P (parseF c).2.1 (parseF c).2.2.1) : AllP P (absOne c X) := by
  intro i d hd
  unfold absOne at hd
  split at hd
  · rename_i h1
    rw [look_putX] at hd
    split at hd
    · rename_i h2
      simp only [Option.some.injEq] at hd
      simp only at h2
      rw [h2, ← hd]
      exact hc h1
    · exact h i d hd
  · split at hd
    · rw [look_dropX] at hd
      split at hd
      · cases hd
      · exact h i d hd
    · simp [lookX] at hd
theorem allP_abs {P : Nat → List UInt8 → Prop} : ∀ (cs l' : List (List UInt8)) (X : List (Nat × List UInt8)), AllP P X → Recs cs → AddsP P cs → (l' = [] ∨ ∃ z zs, l' = z :: zs ∧ (parseF z).2.2.2 = false) → AllP P (absF (cs ++ l') X)
  | [], l', X, h, _, _, hl => by
    rcases hl with rfl | ⟨z, zs, rfl, hz⟩
    · exact h
    · simp only [List.nil_append, absF]
      rw [if_pos (.inl hz)]
      exact h
  | c :: cs, l', X, h, hr, ha, hl => by
    have hc := hr c (by simp)
    simp only [List.cons_append, absF]
    rw [if_neg (by unfold stopsF; simp [hc.2.1, hc.2.2])]
    exact allP_abs cs l' _ (allP_one h (ha c (by simp))) (fun x hx => hr x (by simp [hx])) (fun x hx => ha x (by simp [hx])) hl
/-- Each file of a disk is records, of which those that add chunks add ones of P. -/
def Dk.Recd (D : Dk) (P : Nat → List UInt8 → Prop) : Prop := ∀ i, i < 100 → ∃ cs, Recs cs ∧ (D.now i).text = frames cs ∧ AddsP P cs
theorem Dk.Recd.same {D D' : Dk} {P : Nat → List UInt8 → Prop} (h : D.Recd P) (hn : ∀ i, i < 100 → (D'.now i).text = (D.now i).text) : D'.Recd P := fun i hi => by rw [hn i hi]; exact h i hi
theorem Dk.Recd.mono {D : Dk} {P Q : Nat → List UInt8 → Prop} (h : D.Recd P) (hPQ : ∀ i d, P i d → Q i d) : D.Recd Q := fun i hi => by
  obtain ⟨cs, h1, h2, h3⟩ := h i hi
  exact ⟨cs, h1, h2, fun c hc hk => hPQ _ _ (h3 c hc hk)⟩
theorem Dk.Recd.append {D : Dk} {P : Nat → List UInt8 → Prop} (h : D.Recd P) (hD : D.Still) {i : Nat} (hi : i < 100) {c : List UInt8} (hc : Recs [c]) (hP : (parseF c).1 = 1 → P (parseF c).2.1 (parseF c).2.2.1) : (D.append (segName i) (frame c)).1.Recd P := by
  rcases hD.append (segName i) (segName_ne _) (frame c) with ⟨_, h2⟩ | ⟨D', h1, _, _, _, h5, h6⟩
  · rw [h2]; exact h
  · rw [h1]
    intro j hj
    by_cases e : j = i
    · subst e
      obtain ⟨cs, g1, g2, g3⟩ := h j hj
      refine ⟨cs ++ [c], fun x hx => ?_, ?_, fun x hx => ?_⟩
      · rcases List.mem_append.1 hx with hx | hx
        · exact g1 x hx
        · exact hc x hx
      · unfold Dk.now at g2 ⊢
        rw [h5]
        simp only
        rw [g2, frames_snoc]
      · rcases List.mem_append.1 hx with hx | hx
        · exact g3 x hx
        · simp only [List.mem_singleton] at hx
          subst hx
          exact hP
    · have : D'.now j = D.now j := by
        unfold Dk.now
        rw [h6 _ fun e2 => e (segName_inj hj hi e2)]
      rw [this]
      exact h j hj
theorem Disky.recd_sync {C : Ck} {D : Dk} {P : Nat → List UInt8 → Prop} (h : Disky C D) (hr : D.Recd P) : (C.sync D).2.1.Recd P := by
  obtain ⟨D', h1, _, _, _, h5⟩ := h.sync
  rw [h1]
  exact hr.same fun i _ => by show (lookF (segName i) D'.files).now.text = _; rw [h5]; rfl
theorem Disky.recd_add {C : Ck} {D : Dk} {P : Nat → List UInt8 → Prop} (h : Disky C D) (hs : C.seg + 1 < 100) (hr : D.Recd P) {c : List UInt8} (hc : Recs [c]) (hP : (parseF c).1 = 1 → P (parseF c).2.1 (parseF c).2.2.1) : (C.add D (frame c)).2.1.Recd P := by
  have key : ∀ (C1 : Ck) (D1 : Dk), D1.Still → C1.seg < 100 → D1.Recd P → (C1.put D1 (frame c)).2.1.Recd P := fun C1 D1 a1 a2 a3 => by
    have := a3.append a1 a2 hc hP
    unfold Ck.put
    split <;> exact this
  unfold Ck.add
  have hsy := h.recd_sync hr
  obtain ⟨D', h1, h2, _⟩ := h.sync
  rw [h1] at hsy ⊢
  split
  · simp only [if_true]
    exact key _ _ h2.still (by simp only [Ck.next]; omega) hsy
  · exact key _ _ h.still (by omega) hr
theorem Inv.recd_put {C : Ck} {D : Dk} {X : List (Nat × List UInt8)} {P : Nat → List UInt8 → Prop} (h : Inv C D X) (hs : C.seg + 1 < 100) (hr : D.Recd P) {i : Nat} (hi : i < 18446744073709551616) {d : List UInt8} (hd : d.length ≤ 4000) (hP : P i d) : (C.putK D i d).2.1.Recd P := by
  have hpe := parse_enc (k := 1) (n := i) (x := d) (by omega) hi (by omega)
  have := h.dk.recd_add hs hr (recs_enc (k := 1) (.inl rfl) hi hd).1 (by rw [hpe]; exact fun _ => hP)
  unfold Ck.putK
  split
  · exact hr
  · split
    · exact hr
    · split <;> exact this
theorem Inv.recd_drop {C : Ck} {D : Dk} {X : List (Nat × List UInt8)} {P : Nat → List UInt8 → Prop} (h : Inv C D X) (hs : C.seg + 1 < 100) (hr : D.Recd P) {i : Nat} (hi : i < 18446744073709551616) : (C.dropK D i).2.1.Recd P := by
  have hpe := parse_enc (k := 2) (n := i) (x := []) (by omega) hi (by simp)
  have := h.dk.recd_add hs hr (recs_enc (k := 2) (d := []) (.inr rfl) hi (by simp)).1 (by rw [hpe]; intro h0; simp at h0)
  unfold Ck.dropK
  split
  · exact hr
  · split <;> exact this

/- Spoil. -/
/-- A file's text with another byte. -/
def Dk.other (D : Dk) (name : List UInt8) (at_ : Int) (v : UInt8) : St := ⟨true, (lookF name D.files).now.text.set at_.toNat ((lookF name D.files).now.text.getD at_.toNat 0 ^^^ v)⟩
def Dk.spoil (D : Dk) (name : List UInt8) (at_ : Int) (v : UInt8) : Dk × Bool :=
  if ¬ ((lookF name D.files).now.there = (lookF name D.files).sure.there ∧ (lookF name D.files).now.text = (lookF name D.files).sure.text) ∨ at_ < 0 ∨ ((lookF name D.files).now.text.length : Int) ≤ at_ then (D, false)
  else ((D.put name ⟨D.other name at_ v, D.other name at_ v⟩).1, true)
/-- Two disks of which the second has one byte that is another one. -/
structure Spoilt (D D' : Dk) (i k : Nat) (u : UInt8) : Prop where
  lt : k < (D.now i).text.length
  there : (D.now i).there = true
  now : D'.now i = ⟨true, (D.now i).text.set k u⟩
  other : ∀ j, j < 100 → j ≠ i → D'.now j = D.now j
theorem Dk.spoil_cases {D : Dk} (hD : D.Still) (hN : D.Names segNames) (hS : D.Safe) {i : Nat} (h1 : 1 ≤ i) (h2 : i < 100) (at_ : Int) (v : UInt8) :
    ∃ D' b, D.spoil (segName i) at_ v = (D', b) ∧ D'.Still ∧ D'.Names segNames ∧ D'.Safe ∧ D'.segs = D.segs ∧ (D' = D ∨ ∃ k u, Spoilt D D' i k u) := by
  unfold Dk.spoil
  by_cases hc : ¬ ((lookF (segName i) D.files).now.there = (lookF (segName i) D.files).sure.there ∧ (lookF (segName i) D.files).now.text = (lookF (segName i) D.files).sure.text) ∨ at_ < 0 ∨ ((lookF (segName i) D.files).now.text.length : Int) ≤ at_
  · rw [if_pos hc]
    exact ⟨D, false, rfl, hD, hN, hS, rfl, .inl rfl⟩
  · rw [if_neg hc]
    simp only [not_or] at hc
    obtain ⟨-, hc2, hc3⟩ := hc
    have hlt : at_.toNat < (D.now i).text.length := by unfold Dk.now; omega
    have hth : (D.now i).there = true := by
      cases ht : (D.now i).there
      · have := (hD.good.clean.look (segName i)).1 ht
        unfold Dk.now at hlt
        rw [this] at hlt
        simp at hlt
      · rfl
    have hs := hS (segName i)
    have hN' := hN.put (mem_segNames.2 ⟨i, h1, h2, rfl⟩) ⟨D.other (segName i) at_ v, D.other (segName i) at_ v⟩
    have hw : Fil.weight ⟨D.other (segName i) at_ v, D.other (segName i) at_ v⟩ = (lookF (segName i) D.files).weight := by
      have : (lookF (segName i) D.files).weight = ((lookF (segName i) D.files).now.text.length : Int) := by
        unfold Fil.weight
        rw [← hs]
        simp
      rw [this]
      simp [Fil.weight, Dk.other]
    rcases hD.put (segName i) (f := ⟨D.other (segName i) at_ v, D.other (segName i) at_ v⟩) ⟨fun e => by simp [Dk.other] at e, fun e => by simp [Dk.other] at e⟩ (by simp [Dk.other]) with ⟨a1, _⟩ | ⟨D', a1, a2, a3, a4, a5, a6⟩
    · have := hD.good.ok.fits
      omega
    · rw [a1] at hN'
      have hnow : D'.now i = ⟨true, (D.now i).text.set at_.toNat ((D.now i).text.getD at_.toNat 0 ^^^ v)⟩ := by
        unfold Dk.now
        rw [a5]
        rfl
      have hoth : ∀ j, j < 100 → j ≠ i → D'.now j = D.now j := fun j hj hne => by
        unfold Dk.now
        rw [a6 _ fun e => hne (segName_inj hj h2 e)]
      refine ⟨D', true, by rw [a1], a2, hN', fun n => ?_, ?_, .inr ⟨_, _, hlt, hth, hnow, hoth⟩⟩
      · by_cases e : n = segName i
        · subst e; rw [a5]
        · rw [a6 n e]; exact hS n
      · unfold Dk.segs
        refine List.filter_congr fun j hj => ?_
        by_cases e : j = i
        · subst e; rw [hnow, hth]
        · rw [hoth j (List.mem_range.1 hj) e]
theorem openF_set {F : List UInt8} {c : List UInt8} (h : OnlyF F = (c, 0)) {j : Nat} {u : UInt8} (h8 : 8 ≤ j) (hj : j < F.length) (hu : u ≠ F[j]) : (OnlyF (F.set j u)).2 ≠ 0 := by
  obtain ⟨a, b, c', d, e, f, g, h', r, rfl⟩ := eight (s := F) (by omega)
  obtain ⟨n, hn⟩ := Int.eq_ofNat_of_zero_le (val4_bd a b c' d).1
  have ho := openF_eight a b c' d e f g h' r n hn
  have h1 : (openF (a :: b :: c' :: d :: e :: f :: g :: h' :: r)).2.2 = 0 := by
    unfold OnlyF at h
    split at h
    · rename_i h2
      simp only [Prod.mk.injEq] at h
      exact absurd h.2 h2
    · rename_i h2
      exact Decidable.not_not.1 h2
  have h2 : ¬ (openF (a :: b :: c' :: d :: e :: f :: g :: h' :: r)).2.1 < ((a :: b :: c' :: d :: e :: f :: g :: h' :: r).length : Int) := fun hlt => by
    unfold OnlyF at h
    rw [if_neg (by simp [h1]), if_pos hlt] at h
    simp at h
  rw [ho] at h1 h2
  by_cases q1 : 1048576 < n
  · rw [if_pos q1] at h1; simp at h1
  rw [if_neg q1] at h1 h2
  by_cases q2 : r.length < n
  · rw [if_pos q2] at h1; simp at h1
  rw [if_neg q2] at h1 h2
  by_cases q3 : crc ([a, b, c', d] ++ r.take n) = val4 e f g h'
  rotate_left
  · rw [if_neg q3] at h1; simp at h1
  rw [if_pos q3] at h2
  have hnr : n = r.length := by simp only [List.length_cons] at h2; omega
  obtain ⟨k, rfl⟩ : ∃ k, j = k + 8 := ⟨j - 8, by omega⟩
  have hk : k < r.length := by simp only [List.length_cons] at hj; omega
  have hu2 : u ≠ r[k] := by simpa using hu
  have he : (a :: b :: c' :: d :: e :: f :: g :: h' :: r).set (k + 8) u = a :: b :: c' :: d :: e :: f :: g :: h' :: r.set k u := by simp
  rw [he]
  have ho2 := openF_eight a b c' d e f g h' (r.set k u) n hn
  have hls : (r.set k u).length = r.length := List.length_set
  rw [if_neg q1, if_neg (by rw [hls]; exact q2), List.take_of_length_le (by omega), if_neg] at ho2
  · unfold OnlyF
    rw [ho2]
    simp
  · rw [← q3, List.take_of_length_le (by omega)]
    exact crc_set _ _ hk hu2
theorem set_same {l : List UInt8} {k : Nat} (hk : k < l.length) {u : UInt8} (hu : u = l[k]) : l.set k u = l := by subst hu; simp
theorem take_set_ne {l : List UInt8} {k n : Nat} (hk : k < l.length) (hkn : k < n) {u : UInt8} (hu : u ≠ l[k]) : (l.set k u).take n ≠ l.take n := fun h => by
  have h1 := congrArg (fun x => x[k]?) h
  simp only [List.getElem?_take_of_lt hkn, List.getElem?_set_self hk, List.getElem?_eq_getElem hk, Option.some.injEq] at h1
  exact hu h1
/-- What Get says of a chunk then: its bytes, or that they are spoilt. -/
theorem Spoilt.get {C : Ck} {D D' : Dk} {X : List (Nat × List UInt8)} {i k : Nat} {u : UInt8} (hp : Spoilt D D' i k u) (h : Inv C D X) (hD' : D'.Still) {j : Nat} {d : List UInt8} (hl : lookX j X = some d) : C.get D' j = (d, 0) ∨ C.get D' j = ([], 4) := by
  unfold Ck.get
  cases hc : lookC (j : Int) C.map with
  | none => rw [h.says.none_ j hc] at hl; cases hl
  | some p =>
    obtain ⟨d', h1, h2⟩ := h.says.one j p hc
    rw [h1] at hl
    injection hl with hl
    subst hl
    have hM := h.dk.ok.map.pl _ (look_mem _ _ _ hc)
    simp only at hM
    have hth : (D'.now p.seg).there = true := by
      by_cases e : p.seg = i
      · rw [e, hp.now]
      · rw [hp.other _ hM.2.1 e]; exact h2.there
    have hr : D'.read (segName p.seg) = ((D'.now p.seg).text, 0) := by
      unfold Dk.now at hth ⊢
      unfold Dk.read
      rw [hD'.tries]
      simp [hth]
    simp only [hr]
    rw [if_neg (by simp)]
    have hold := atF_placed h2
    by_cases e : p.seg = i
    rotate_left
    · rw [hp.other _ hM.2.1 e, hold]
      exact .inl rfl
    have hlt := hp.lt
    have hnow := hp.now
    rw [← e] at hlt hnow
    rw [hnow]
    simp only
    by_cases hu : u = (D.now p.seg).text[k]
    · rw [set_same hlt hu, hold]
      exact .inl rfl
    have hle := h2.le
    have hb := h2.big
    obtain ⟨c, hc1, hc2⟩ := h2.rec_
    have hh := h2.head
    have hls : ((D.now p.seg).text.set k u).length = (D.now p.seg).text.length := List.length_set
    by_cases hin : p.at_ ≤ k ∧ k < p.at_ + p.size
    · right
      have e1 : (((D.now p.seg).text.set k u).drop p.at_).take p.size = (((D.now p.seg).text.drop p.at_).take p.size).set (k - p.at_) u := by
        rw [List.drop_set, if_neg (by omega), List.take_set]
      have hlen : (((D.now p.seg).text.drop p.at_).take p.size).length = p.size := by rw [List.length_take, List.length_drop]; omega
      have hkf : k - p.at_ < (((D.now p.seg).text.drop p.at_).take p.size).length := by omega
      have hu2 : u ≠ (((D.now p.seg).text.drop p.at_).take p.size)[k - p.at_] := by
        rw [List.getElem_take, List.getElem_drop]
        simp only [show p.at_ + (k - p.at_) = k by omega]
        exact hu
      unfold atF
      rw [if_neg (by rw [hls]; omega), e1, if_pos]
      by_cases h8 : k - p.at_ < 8
      · right
        rw [hh]
        intro h3
        refine take_set_ne hkf h8 hu2 (h3.trans ?_)
        rw [List.take_take, Nat.min_eq_left hb]
      · left
        exact openF_set hc1 (by omega) hkf hu2
    · left
      have e1 : (((D.now p.seg).text.set k u).drop p.at_).take p.size = ((D.now p.seg).text.drop p.at_).take p.size := by
        by_cases h3 : k < p.at_
        · rw [List.drop_set_of_lt h3]
        · rw [List.drop_set, if_neg h3, List.take_set, List.set_eq_of_length_le]
          rw [List.length_take]
          omega
      unfold atF at hold ⊢
      rw [hls, e1]
      exact hold
/-- What a disk says whose files are records of P, and then perhaps something else. -/
theorem replay_allP {D : Dk} {P : Nat → List UInt8 → Prop} (h : ∀ i, i < 100 → ∃ cs l', (scan (D.now i).text).1 = cs ++ l' ∧ Recs cs ∧ AddsP P cs ∧ (l' = [] ∨ ∃ z zs, l' = z :: zs ∧ (parseF z).2.2.2 = false)) : ∀ k, k ≤ 100 → AllP P (D.replay k)
  | 0, _ => fun i d hd => by simp [Dk.replay, lookX] at hd
  | k + 1, hk => by
    have ih := replay_allP h k (by omega)
    rw [Dk.replay_succ]
    split
    · obtain ⟨cs, l', h1, h2, h3, h4⟩ := h k (by omega)
      rw [h1]
      exact allP_abs cs l' _ ih h2 h3 h4
    · exact ih
theorem Dk.Recd.parts {D : Dk} {P : Nat → List UInt8 → Prop} (h : D.Recd P) (i : Nat) (hi : i < 100) : ∃ cs l', (scan (D.now i).text).1 = cs ++ l' ∧ Recs cs ∧ AddsP P cs ∧ (l' = [] ∨ ∃ z zs, l' = z :: zs ∧ (parseF z).2.2.2 = false) := by
  obtain ⟨cs, h1, h2, h3⟩ := h i hi
  exact ⟨cs, [], by rw [h2, scan_recs fun x hx => (h1 x hx).1, List.append_nil], h1, h3, .inl rfl⟩
theorem Spoilt.replay {D D' : Dk} {P : Nat → List UInt8 → Prop} {i k : Nat} {u : UInt8} (hp : Spoilt D D' i k u) (hi : i < 100) (hr : D.Recd P) : AllP P (D'.replay 100) := by
  refine replay_allP (fun j hj => ?_) 100 (Nat.le_refl _)
  by_cases e : j = i
  · subst e
    have hlt := hp.lt
    by_cases hu : u = (D.now j).text[k]
    · rw [hp.now]
      simp only
      rw [set_same hlt hu]
      exact hr.parts j hj
    · obtain ⟨cs, h1, h2, h3⟩ := hr j hj
      have hlt2 : k < (frames cs).length := by rw [← h2]; exact hlt
      obtain ⟨n, l', g1, g2⟩ := scanF_spoilt (((frames cs).set k u).length + 1) cs k u h1 hlt2 (by
        have : (frames cs)[k] = (D.now j).text[k] := by simp only [h2]
        rw [this]
        exact hu)
      refine ⟨cs.take n, l', ?_, fun x hx => h1 x (List.mem_of_mem_take hx), fun x hx => h3 x (List.mem_of_mem_take hx), g2⟩
      rw [hp.now]
      simp only
      rw [h2]
      exact g1
  · rw [hp.other j hj e]
    exact hr.parts j hj
theorem Dk.Recd.start (room : Int) (P : Nat → List UInt8 → Prop) : Dk.Recd ⟨room, 0, false, 0, []⟩ P := fun i _ => ⟨[], by simp [Recs], rfl, by simp [AddsP]⟩

end Go.Proofs.YtkplffkchanipaaGreatDoor
