/- The contract of (*wire.Enc).U at one number. -/
import Derived.Test.YtnlcipocobmgiaaGreatDoorProg
import Derived.Test.YtnlcipocobmgiaaGreatDoorBase
import Derived.Test.YtnlcipocobmgiaaGreatDoorShelf
import Derived.Lib.ItoaNum
import Derived.Lib.AppendStr
import Derived.Lib.UnsafeStr
import Derived.WalkLawsBesides
import Derived.Deep.RegionHeld3
import Derived.Deep.RegionLaw
import Derived.Deep.DeepCutAuto
import Derived.Deep.QuietTactic
import Derived.BigQuiet
namespace Go.Proofs.YtnlcipocobmgiaaGreatDoor
open Go.RowKit
attribute [local go_sem] size_bs bs_append

/-- An encoder: a block whose one cell holds its bytes. -/
structure EncAt (w : World) (b : Nat) (v : Value) (L : List UInt8) : Prop where
  blk : Blk w b 115 #[v]
  own : w.ownsRow 0 5 1 v (Lib.byteCells L).length (Lib.byteCells L)
/-- What a call on an encoder may have turned: its block, its bytes' block. -/
structure EncTo (b : Nat) (v v' : Value) (w w' : World) : Prop where
  keep : Keep (b :: v.ownBlock.toList) w w'
  at_ : ∀ k, v'.ownBlock = some k → v.ownBlock = some k ∨ w.heap.size ≤ k
theorem EncTo.trans {b : Nat} {v v' v'' : Value} {w w' w'' : World} (h : EncTo b v v' w w') (k : EncTo b v' v'' w' w'') : EncTo b v v'' w w'' := by
  refine ⟨h.keep.trans' k.keep fun x hx => ?_, fun g hg => ?_⟩
  · simp only [List.mem_cons, Option.mem_toList] at hx ⊢
    rcases hx with rfl | hx
    · exact .inl (.inl rfl)
    · rcases h.at_ x hx with h1 | h1
      · exact .inl (.inr h1)
      · exact .inr h1
  · rcases k.at_ g hg with h1 | h1
    · exact h.at_ g h1
    · exact .inr (Nat.le_trans h.keep.size h1)
/-- Between the append and the store: the new bytes lie in block g. -/
structure EncMid (b : Nat) (v : Value) (g : Nat) (w w' : World) : Prop where
  keep : Keep (b :: v.ownBlock.toList) w w'
  at_ : v.ownBlock = some g ∨ g = w.heap.size + 1
  blk : Blk w' b 115 #[v]
theorem EncAt.ne_ {w : World} {b : Nat} {v : Value} {L : List UInt8} (h : EncAt w b v L) : v.ownBlock ≠ some b := own_blk_ne h.own h.blk (by decide)
theorem EncAt.keep {M : List Nat} {w w' : World} {b : Nat} {v : Value} {L : List UInt8} (h : EncAt w b v L) (hk : Keep M w w') (hb : b ∉ M) (hv : ∀ k, v.ownBlock = some k → k ∉ M) : EncAt w' b v L :=
  ⟨h.blk.keep hk hb, hk.owns h.own hv⟩
theorem EncTo.refl (b : Nat) (v : Value) (w : World) : EncTo b v v w w := ⟨Keep.refl _ _, fun _ h => .inl h⟩
theorem EncTo.of_keep {b : Nat} (v : Value) {w w' : World} (h : Keep [] w w') : EncTo b v v w w' := ⟨h.nil_, fun _ h => .inl h⟩

/-- The bytes of a number but for the last one. -/
def encH (n : Nat) : List UInt8 := if _h : n = 0 then [] else encH (n / 128) ++ [UInt8.ofNat (128 + n % 128)]
termination_by n
decreasing_by omega
/-- The bytes of a number. -/
def encU (n : Nat) : List UInt8 := encH (n / 128) ++ [UInt8.ofNat (n % 128)]

theorem Tryz.info5 : (Tryz.prog.info? 5).map (fun i => (i.zero, i.size, i.bytes)) = some (some (.int .u8 0), 1, 1) := by kernel_rfl

theorem encH_len : ∀ (k n : Nat), n < 128 ^ k → (encH n).length ≤ k
  | 0, n, h => by
    have : n = 0 := by simpa using h
    subst this
    unfold encH
    simp
  | k + 1, n, h => by
    unfold encH
    split
    · simp
    · have := encH_len k (n / 128) (by rw [Nat.pow_succ] at h; omega)
      simp only [List.length_append, List.length_cons, List.length_nil]
      omega
theorem or_one (x : Nat) : x ≤ x ||| 1 ∧ x ||| 1 ≤ x + 1 ∧ (x ||| 1) % 2 = 1 := by
  rcases Nat.mod_two_eq_zero_or_one x with h | h
  · have : x ||| 1 = x + 1 := nat_join 1 x 1 (by simpa using h) (by decide)
    omega
  · have h2 : (x - 1) ||| 1 = (x - 1) + 1 := nat_join 1 (x - 1) 1 (by omega) (by decide)
    have h3 : x ||| 1 = x := by
      have h4 : x = (x - 1) ||| 1 := by omega
      rw [h4, Nat.or_assoc]
      simp
    omega
theorem len_parts (x : Nat) (hx : x < 18446744073709551616) : ∃ j r, r < 7 ∧ j ≤ 9 ∧ Lib.bitLen (x ||| 1) = 7 * j + r + 1 ∧ (0 < j → 2 ^ (7 * j) ≤ x) ∧ x < 2 ^ (7 * (j + 1)) := by
  obtain ⟨h1, h2, h3⟩ := or_one x
  have hn : x ||| 1 < 2 ^ 64 := Nat.or_lt_two_pow (by omega) (by decide)
  obtain ⟨b1, b2, b3⟩ := Lib.bitLenAux_bounds 64 (x ||| 1) hn (by omega)
  have hB : Lib.bitLen (x ||| 1) ≤ 64 := Lib.bitLen_le _ 64 (by omega) hn
  change 1 ≤ Lib.bitLen (x ||| 1) at b1
  change 2 ^ (Lib.bitLen (x ||| 1) - 1) ≤ x ||| 1 at b2
  change x ||| 1 < 2 ^ Lib.bitLen (x ||| 1) at b3
  generalize Lib.bitLen (x ||| 1) = B at *
  refine ⟨(B - 1) / 7, (B - 1) % 7, by omega, by omega, by omega, fun hj => ?_, ?_⟩
  · have hle : 2 ^ (7 * ((B - 1) / 7)) ≤ x ||| 1 := Nat.le_trans (Nat.pow_le_pow_right (by omega) (by omega)) b2
    have hev : 2 ^ (7 * ((B - 1) / 7)) % 2 = 0 := by
      obtain ⟨k, hk⟩ : ∃ k, 7 * ((B - 1) / 7) = k + 1 := ⟨7 * ((B - 1) / 7) - 1, by omega⟩
      rw [hk, Nat.pow_succ]
      omega
    omega
  · exact Nat.lt_of_lt_of_le (Nat.lt_of_le_of_lt h1 b3) (Nat.pow_le_pow_right (by omega) (by omega))
theorem len64_calls (x : Nat) (hx : x < 18446744073709551616) (w : World) :
    Calls Tryz.prog 125 #[.int .u64 (bits .or .u64 x 1)] w fun e w' => e = .returned (.int .i64 (Lib.bitLen (x ||| 1))) ∧ w = w' := by
  have h1 : bits .or .u64 (x : Int) 1 = ((x ||| 1 : Nat) : Int) := u64_or_nat x 1 hx (by decide)
  have h2 : x ||| 1 < 18446744073709551616 := Nat.or_lt_two_pow (n := 64) (by omega) (by decide)
  rw [h1]
  exact (Tryz.bits_Len64 ((x ||| 1 : Nat) : Int) w (by omega) (by omega)).mono fun e w' ⟨he, hw⟩ => ⟨by rw [he, Int.toNat_natCast], hw.symm⟩

/-- append of one byte to an encoder's bytes, as one step of a region that draws: what is known behind it, ahead of the store. -/
theorem step_append_byte {ops : Array Oper} {o : Oper} {a : Act} {K : Act → World → Prop} {Q : Exit → Act → World → Prop} {E : Prop} {wr : World} {c : Int} {b : Nat} {v : Value} {L : List UInt8}
    (hgd : o.guard = none) (s x : Operand) (ho : o.op = .call { callee := .builtin .append, args := #[s, x], argTypes := #[113, 113] })
    (hs : a.eval s = v) (hx : a.eval x = .slice (some ⟨wr.heap.size, 0, none⟩) 1 1) (hE : EncAt wr b v L)
    (hcb : wr.cell? ⟨b, 0, none⟩ = some v) (hfb : wr.frozen? ⟨b, 0, none⟩ = false) (hn : (Lib.byteCells L).length + 1 ≤ 140737488355328)
    (h : ∀ g cap w', w'.ownsRow 0 5 1 (.slice (some ⟨g, 0, none⟩) ((Lib.byteCells L).length + 1) cap) ((Lib.byteCells L).length + 1) (Lib.byteCells L ++ [.int .u8 c]) →
      w'.cell? ⟨b, 0, none⟩ = some v → w'.frozen? ⟨b, 0, none⟩ = false → EncMid b v g wr w' → K (a.put o.dst (.slice (some ⟨g, 0, none⟩) ((Lib.byteCells L).length + 1) cap)) w') :
    if Region.wanted o (yielded ops a.tmps) = true then Oper.wp Tryz.prog o a (wr.alloc (.cells #[.int .u8 c] 5)).drew K Q else E := by
  obtain ⟨i0, hi, hz0, hz1, hz2⟩ := info_parts Tryz.info5
  have hlt := hE.blk.lt
  have hne := hE.ne_
  refine step_append_lies _ hgd s x 113 ho 0 5 i0 _ 1 1 Tryz.underlying113 hi hz0 hz1 hz2 rfl (by omega) v _ _ hs ((hE.own.alloc (.cells #[.int .u8 c] 5)).drew) ⟨wr.heap.size, 0, none⟩ 1 1 [.int .u8 c] hx rfl (World.news_of_block (cs := #[.int .u8 c]) (t := 5) (fr := (0, 0)) (heap_alloc_new wr _)) (by simp [Value.oneCell']) (by omega) (by unfold maxLen; omega) (by omega) (by omega) (wr.heap.size + 1) (by simp) ?_
  intro g cap w1 hown1 hgrow hat _
  refine h g cap w1 hown1 ?_ ?_ ⟨?_, hat, (hE.blk.alloc _).drew.grown hgrow (fun e => hne e.symm)⟩
  · exact (hgrow.cell_far ⟨b, 0, none⟩ (by simp; omega) (fun e => hne e.symm)).trans (cell_alloc hcb _)
  · exact (hgrow.frozen_far ⟨b, 0, none⟩ (by simp; omega) (fun e => hne e.symm)).trans ((World.frozen?_alloc_old wr _ ⟨b, 0, none⟩ (by simp; omega)).trans hfb)
  · exact ((Keep.refl _ _).alloc _).drew.grown hgrow (fun k hk => by simp [hk])

/-- .. in a region that does not draw. -/
theorem list_append_byte {ops : Array Oper} {rest : List Oper} {o : Oper} {a : Act} {Q : Exit → Act → World → Prop} {wr : World} {c : Int} {b : Nat} {v : Value} {L : List UInt8}
    (hgd : o.guard = none) (s x : Operand) (ho : o.op = .call { callee := .builtin .append, args := #[s, x], argTypes := #[113, 113] })
    (hs : a.eval s = v) (hx : a.eval x = .slice (some ⟨wr.heap.size, 0, none⟩) 1 1) (hE : EncAt wr b v L)
    (hcb : wr.cell? ⟨b, 0, none⟩ = some v) (hfb : wr.frozen? ⟨b, 0, none⟩ = false) (hn : (Lib.byteCells L).length + 1 ≤ 140737488355328)
    (h : ∀ g cap w', w'.ownsRow 0 5 1 (.slice (some ⟨g, 0, none⟩) ((Lib.byteCells L).length + 1) cap) ((Lib.byteCells L).length + 1) (Lib.byteCells L ++ [.int .u8 c]) →
      w'.cell? ⟨b, 0, none⟩ = some v → w'.frozen? ⟨b, 0, none⟩ = false → EncMid b v g wr w' → wpList Tryz.prog ops Q rest (a.put o.dst (.slice (some ⟨g, 0, none⟩) ((Lib.byteCells L).length + 1) cap)) w') :
    wpList Tryz.prog ops Q (o :: rest) a (wr.alloc (.cells #[.int .u8 c] 5)) := by
  obtain ⟨i0, hi, hz0, hz1, hz2⟩ := info_parts Tryz.info5
  have hlt := hE.blk.lt
  have hne := hE.ne_
  refine wpList_append_lies _ hgd s x 113 ho 0 5 i0 _ 1 1 Tryz.underlying113 hi hz0 hz1 hz2 rfl (by omega) v _ _ hs (hE.own.alloc (.cells #[.int .u8 c] 5)) ⟨wr.heap.size, 0, none⟩ 1 1 [.int .u8 c] hx rfl (World.news_of_block (cs := #[.int .u8 c]) (t := 5) (fr := (0, 0)) (heap_alloc_new wr _)) (by simp [Value.oneCell']) (by omega) (by unfold maxLen; omega) (by omega) (by omega) (wr.heap.size + 1) (by simp) ?_
  intro g cap w1 hown1 hgrow hat _
  refine h g cap w1 hown1 ?_ ?_ ⟨?_, hat, (hE.blk.alloc _).grown hgrow (fun e => hne e.symm)⟩
  · exact (hgrow.cell_far ⟨b, 0, none⟩ (by simp; omega) (fun e => hne e.symm)).trans (cell_alloc hcb _)
  · exact (hgrow.frozen_far ⟨b, 0, none⟩ (by simp; omega) (fun e => hne e.symm)).trans ((World.frozen?_alloc_old wr _ ⟨b, 0, none⟩ (by simp; omega)).trans hfb)
  · exact ((Keep.refl _ _).alloc _).grown hgrow (fun k hk => by simp [hk])
theorem encmid_done {wr w1 : World} {b g n cap : Nat} {v : Value} {L : List UInt8} {c : Int} (u : UInt8) (hu : (u.toNat : Int) = c) (hE : EncAt wr b v L) (mid : EncMid b v g wr w1)
    (hn : n = (Lib.byteCells L).length + 1) (hown : w1.ownsRow 0 5 1 (.slice (some ⟨g, 0, none⟩) n cap) n (Lib.byteCells L ++ [.int .u8 c])) :
    EncAt (w1.setCell ⟨b, 0, none⟩ (.slice (some ⟨g, 0, none⟩) n cap)) b (.slice (some ⟨g, 0, none⟩) n cap) (L ++ [u]) ∧ EncTo b v (.slice (some ⟨g, 0, none⟩) n cap) wr (w1.setCell ⟨b, 0, none⟩ (.slice (some ⟨g, 0, none⟩) n cap)) := by
  have hgb : g ≠ b := by
    rintro rfl
    rcases mid.at_ with h | h
    · exact hE.ne_ h
    · have := hE.blk.lt; omega
  refine ⟨⟨mid.blk.set_ 0 _, ?_⟩, ⟨mid.keep.setCell (.inl (by simp)) _, fun k hk => ?_⟩⟩
  · have h1 : Lib.byteCells (L ++ [u]) = Lib.byteCells L ++ [.int .u8 c] := by
      rw [← hu]; simp [Lib.byteCells]
    rw [h1]
    have h2 : (Lib.byteCells L ++ [Value.int .u8 c]).length = n := by rw [hn]; simp
    rw [h2]
    exact ((Keep.refl [b] w1).setCell (.inl (by simp)) _).owns hown (fun k hk => by
      simp only [Value.ownBlock, Option.some.injEq] at hk
      subst hk
      simpa using hgb)
  · simp only [Value.ownBlock, Option.some.injEq] at hk
    subst hk
    rcases mid.at_ with h | h
    · exact .inl h
    · right; omega
theorem encH_step (x q : Nat) (h : 2 ^ q ≤ x) : encH (x / 2 ^ q) = encH (x / 2 ^ (q + 7)) ++ [UInt8.ofNat (128 + x / 2 ^ q % 128)] := by
  have hp : 0 < 2 ^ q := Nat.two_pow_pos q
  have hne : x / 2 ^ q ≠ 0 := by
    have := Nat.div_pos h hp
    omega
  rw [encH, dif_neg hne, Nat.div_div_eq_div_mul, Nat.pow_add]
theorem hi_byte (x q : Nat) : ((UInt8.ofNat (128 + x / 2 ^ q % 128)).toNat : Int) = bits .or .u8 (IntKind.u8.wrap ((x : Int) / 2 ^ q)) 128 := by
  have e1 : ((x : Int) / 2 ^ q) = ((x / 2 ^ q : Nat) : Int) := by
    rw [Int.natCast_ediv, Int.natCast_pow]; rfl
  rw [e1]
  generalize x / 2 ^ q = n
  have e2 : IntKind.u8.wrap (n : Int) = ((n % 256 : Nat) : Int) := by rw [IntKind.wrap_u8]; omega
  have e3 : bits .or .u8 ((n % 256 : Nat) : Int) 128 = ((n % 256 ||| 128 : Nat) : Int) := u8_or_nat (n % 256) 128 (by omega) (by decide)
  rw [e2, e3]
  have e4 : n % 256 ||| 128 = 128 + n % 128 := by
    have h256 : n % 256 < 256 := by omega
    have h128 : n % 128 = n % 256 % 128 := by omega
    rw [h128]
    generalize n % 256 = k at *
    have : ∀ k : Fin 256, k.val ||| 128 = 128 + k.val % 128 := by decide +kernel
    exact this ⟨k, h256⟩
  rw [e4, UInt8.toNat_ofNat']
  omega

theorem lo_byte (x : Nat) : ((UInt8.ofNat (x % 128)).toNat : Int) = bits .andNot .u8 ((x : Int) % 256) 128 := by
  have e2 : (x : Int) % 256 = ((x % 256 : Nat) : Int) := by omega
  have e3 : bits .andNot .u8 ((x % 256 : Nat) : Int) 128 = ((x % 256 &&& (255 - 128) : Nat) : Int) := u8_andNot_nat (x % 256) 128 (by omega) (by decide)
  rw [e2, e3]
  have e4 : x % 256 &&& (255 - 128) = x % 128 := by
    have h256 : x % 256 < 256 := by omega
    have h128 : x % 128 = x % 256 % 128 := by omega
    rw [h128]
    generalize x % 256 = k at *
    have : ∀ k : Fin 256, k.val &&& (255 - 128) = k.val % 128 := by decide +kernel
    exact this ⟨k, h256⟩
  rw [e4, UInt8.toNat_ofNat']
  omega

def URel (x : Nat) (L : List UInt8) (b : Nat) (v0 : Value) (w : World) (at_ : Value) (wr : World) : Prop :=
  ∃ (j : Nat) (v : Value), j ≤ 9 ∧ at_ = .int .i64 ((7 * j : Nat) : Int) ∧ (0 < j → 2 ^ (7 * j) ≤ x) ∧ EncAt wr b v (L ++ encH (x / 2 ^ (7 * (j + 1)))) ∧ EncTo b v0 v w wr

set_option maxRecDepth 100000 in
set_option maxHeartbeats 1000000 in
theorem u_calls (x : Nat) (hx : x < 18446744073709551616) (L : List UInt8) (hL : L.length ≤ 1099511627776) (b p : Nat) (v : Value) (w : World) (h : EncAt w b v L) (hp : Blk w p 149 #[.int .u64 x]) :
    Calls Tryz.prog 102 #[.pointer (some ⟨b, 0, none⟩), .slice (some ⟨p, 0, none⟩) 1 1] w fun e w' => e = .returned (.pointer (some ⟨b, 0, none⟩)) ∧ ∃ v', EncAt w' b v' (L ++ encU x) ∧ EncTo b v v' w w' := by
  obtain ⟨i0, hi, hz0, hz1, hz2⟩ := info_parts Tryz.info5
  have hc0 : w.cell? ⟨p, 0, none⟩ = some (.int .u64 x) := hp.cell 0
  have H := Lib.hid h
  clear h hp
  go_enter Tryz.func102, Tryz.ntmps102
  go_wp2
  refine wp_loop_rounds 2 ?_
  rw [rounds_succ]
  go_wp2_with fail
  obtain ⟨j0, r0, hr0, hj0, hB, hj1, hj2⟩ := len_parts x hx
  refine (len64_calls x hx _).mono ?_
  rintro e w' ⟨rfl, rfl⟩
  rw [hB]
  clear hB
  have HJ1 := Lib.hid hj1
  have HJ2 := Lib.hid hj2
  clear hj1 hj2
  go_wp2_with fail
  go_loopw [7] (fun a wr => URel x L b v w a wr) (fun a _ => (intOf a).toNat)
  case atStart =>
    refine ⟨j0, v, hj0, ?_, HJ1.out, ?_, EncTo.refl _ _ _⟩
    · rw [show ((7 * (j0 : Int) + r0) / 7 * 7) = ((7 * j0 : Nat) : Int) from by omega]
    · rw [Nat.div_eq_of_lt HJ2.out]
      unfold encH
      simpa using H.out
  case round =>
    obtain ⟨j, v1, hj, rfl, hjx, hE, hto⟩ := hrel
    have HE := Lib.hid hE
    have HTO := Lib.hid hto
    have HJ := Lib.hid hjx
    have hlen : (Lib.byteCells (L ++ encH (x / 2 ^ (7 * (j + 1))))).length ≤ L.length + 10 := by
      rw [Lib.byteCells_length, List.length_append]
      have := encH_len 10 (x / 2 ^ (7 * (j + 1))) (Nat.lt_of_le_of_lt (Nat.div_le_self _ _) (by omega))
      omega
    have hcb : wr.cell? ⟨b, 0, none⟩ = some v1 := hE.blk.cell 0
    have hfb := hE.blk.frozen 0
    clear hE hto hjx
    by_cases hj0 : j = 0
    · subst hj0
      have hb1 : (Lib.byteCells (L ++ encH (x / 2 ^ (7 * (0 + 1))))).length + 1 ≤ 140737488355328 := by omega
      go_wp2_with (at_builtin; refine list_append_byte rfl (.tmp 42) (.tmp 46) rfl rfl rfl HE.out hcb hfb hb1 ?_; intro gg cap w1 hown1 hcb1 hfb1 hto1)
      rw [rounds_succ]
      go_wp2
      go_ret
      have d := encmid_done (UInt8.ofNat (x % 128)) (lo_byte x) HE.out hto1 rfl hown1
      refine ⟨rfl, _, ?_, HTO.out.trans d.2⟩
      have := d.1
      rw [List.append_assoc] at this
      exact this
    · obtain ⟨i, rfl⟩ : ∃ i, j = i + 1 := ⟨j - 1, by omega⟩
      have hpos : (0 : Int) < ((7 * (i + 1) : Nat) : Int) := by omega
      have hpos2 : (0 : Int) ≤ ((7 * (i + 1) : Nat) : Int) := by omega
      have hq1 : 7 ≤ 7 * (i + 1) := by omega
      have hq2 : 7 * (i + 1) ≤ 63 := by omega
      generalize hq : 7 * (i + 1) = q at *
      have HQ := Lib.hid hq
      clear hq
      go_wp2_with fail
      have hb1 : (Lib.byteCells (L ++ encH (x / 2 ^ (7 * (i + 1 + 1))))).length + 1 ≤ 140737488355328 := by omega
      have hnb : ∀ o, (wr.alloc o).cell? ⟨b, 0, none⟩ = some v1 := fun o => cell_alloc hcb o
      go_region_law (refine step_append_byte rfl (.tmp 28) (.tmp 34) rfl rfl rfl HE.out hcb hfb hb1 ?_; intro gg cap w1 hown1 hcb1 hfb1 hto1)
      all_goals
        go_wp2
        go_roundw
        case rel =>
          have d := encmid_done (UInt8.ofNat (128 + x / 2 ^ q % 128)) (hi_byte x q) HE.out hto1 rfl hown1
          have hq := HQ.out
          refine ⟨i, _, by omega, ?_, fun _ => Nat.le_trans (Nat.pow_le_pow_right (by omega) (by omega)) (HJ.out (by omega)), ?_, HTO.out.trans d.2⟩
          · rw [show ((q : Int) - 7) = ((7 * i : Nat) : Int) from by omega]
          · have h2 := encH_step x q (HJ.out (by omega))
            rw [show q + 7 = 7 * (i + 1 + 1) from by omega] at h2
            rw [hq, h2, ← List.append_assoc]
            exact d.1
        case measure => simp [intOf]; omega

end Go.Proofs.YtnlcipocobmgiaaGreatDoor
/- The contracts of (*wire.Enc).I, S, Bytes. -/
namespace Go.Proofs.YtnlcipocobmgiaaGreatDoor
open Go.RowKit
attribute [local go_sem] size_bs bs_append

theorem EncAt.alloc {w : World} {b : Nat} {v : Value} {L : List UInt8} (h : EncAt w b v L) (o : Obj) : EncAt (w.alloc o) b v L := ⟨h.blk.alloc _, h.own.alloc _⟩
theorem EncAt.fresh (w : World) : EncAt (w.alloc (.cells #[.slice none 0 0] 115)) w.heap.size (.slice none 0 0) [] := ⟨Blk.new _ _ _, World.ownsRow_nil _ _ _ _⟩
def encIs (l : List Nat) : List UInt8 := l.flatMap encU
def ints (l : List Nat) : List Value := l.map fun (n : Nat) => Value.int .i64 (n : Int)

def IRel (l : List Nat) (L : List UInt8) (b : Nat) (v0 : Value) (w : World) (k_ : Value) (wr : World) : Prop :=
  ∃ (k : Nat) (v : Value), k ≤ l.length ∧ k_ = .int .i64 (k : Int) ∧ EncAt wr b v (L ++ encIs (l.take k)) ∧ EncTo b v0 v w wr
theorem encU_len (n : Nat) (h : n < 18446744073709551616) : (encU n).length ≤ 11 := by
  unfold encU
  have := encH_len 10 (n / 128) (by omega)
  simp only [List.length_append, List.length_cons, List.length_nil]
  omega
theorem encIs_len (l : List Nat) (h : ∀ n ∈ l, n < 18446744073709551616) : (encIs l).length ≤ 11 * l.length := by
  induction l with
  | nil => simp [encIs]
  | cons n l ih =>
    have h1 := encU_len n (h n (by simp))
    have h2 := ih (fun m hm => h m (by simp [hm]))
    simp only [encIs, List.flatMap_cons, List.length_append, List.length_cons] at h2 ⊢
    omega

set_option maxRecDepth 100000 in
set_option maxHeartbeats 1000000 in
theorem i_calls (l : List Nat) (hl : l.length ≤ 1000) (hx : ∀ n ∈ l, n ≤ 4611686018427387904) (L : List UInt8) (hL : L.length ≤ 549755813888) (b p : Nat) (v : Value) (w : World) (h : EncAt w b v L) (hp : Blk w p 3 (ints l).toArray) :
    Calls Tryz.prog 75 #[.pointer (some ⟨b, 0, none⟩), .slice (some ⟨p, 0, none⟩) l.length l.length] w fun e w' => e = .returned (.pointer (some ⟨b, 0, none⟩)) ∧ ∃ v', EncAt w' b v' (L ++ encIs l) ∧ EncTo b v v' w w' := by
  have hpb : p ≠ b := hp.ne_ h.blk (by decide)
  have hpv : v.ownBlock ≠ some p := own_blk_ne h.own hp (by decide)
  have H := Lib.hid h
  have HP := Lib.hid hp
  have HX := Lib.hid hx
  clear h hp hx
  go_enter Tryz.func75, Tryz.ntmps75
  go_wp2
  go_loopw [6, 9] (fun _ a wr => IRel l L b v w a wr) (fun _ a _ => l.length - (intOf a).toNat)
  case atStart => exact ⟨0, v, Nat.zero_le _, rfl, by simpa [encIs] using H.out, EncTo.refl _ _ _⟩
  case round =>
    obtain ⟨k, v1, hk, rfl, hE, hto⟩ := hrel
    have HE := Lib.hid hE
    have HTO := Lib.hid hto
    clear hE hto
    by_cases hlt : k < l.length
    · have hc : wr.cell? ⟨p, k, none⟩ = some (.int .i64 (l[k] : Int)) := by
        have hkk := (HP.out.keep HTO.out.keep (by simp [hpb]; exact fun e => hpv e)).cell k
        rw [hkk]
        simp [ints, hlt]
      have hxk : l[k] ≤ 4611686018427387904 := HX.out _ (List.getElem_mem hlt)
      have hsn : l.take (k + 1) = l.take k ++ [l[k]] := by rw [List.take_succ_eq_append_getElem hlt]
      have HSN := Lib.hid hsn
      have hlen : (L ++ encIs (l.take k)).length ≤ 1099511627776 := by
        have h1 := encIs_len (l.take k) (fun n hn => by have := HX.out n (List.mem_of_mem_take hn); omega)
        rw [List.length_append]
        simp only [List.length_take] at h1
        omega
      clear hsn
      generalize l[k] = x at *
      go_wp2_with (go_at_call 102; refine (u_calls x (by omega) (L ++ encIs (l.take k)) hlen b _ v1 _ (HE.out.alloc _) (Blk.new _ _ _)).mono ?_; rintro e w1 ⟨rfl, v2, hE2, hto2⟩; have HE2 := Lib.hid hE2; have HTO2 := Lib.hid hto2; clear hE2 hto2)
      go_roundw
      case rel =>
        refine ⟨k + 1, v2, by omega, by go_num, ?_, HTO.out.trans ((EncTo.of_keep v1 ((Keep.refl _ _).alloc _)).trans HTO2.out)⟩
        have h1 := HE2.out
        rw [List.append_assoc] at h1
        rw [HSN.out]
        simpa [encIs] using h1
      case measure => simp [intOf]; omega
    · go_wp2
      go_ret
      refine ⟨rfl, v1, ?_, HTO.out⟩
      have h1 := HE.out
      rw [List.take_of_length_le (by omega)] at h1
      exact h1

theorem i1_calls (x : Nat) (hx : x ≤ 4611686018427387904) (L : List UInt8) (hL : L.length ≤ 549755813888) (b p : Nat) (v : Value) (w : World) (h : EncAt w b v L) (hp : Blk w p 3 #[.int .i64 (x : Int)]) :
    Calls Tryz.prog 75 #[.pointer (some ⟨b, 0, none⟩), .slice (some ⟨p, 0, none⟩) 1 1] w fun e w' => e = .returned (.pointer (some ⟨b, 0, none⟩)) ∧ ∃ v', EncAt w' b v' (L ++ encU x) ∧ EncTo b v v' w w' := by
  have h := i_calls [x] (by simp) (by simpa using hx) L hL b p v w h hp
  simpa [encIs] using h
theorem i2_calls (x y : Nat) (hx : x ≤ 4611686018427387904) (hy : y ≤ 4611686018427387904) (L : List UInt8) (hL : L.length ≤ 549755813888) (b p : Nat) (v : Value) (w : World) (h : EncAt w b v L) (hp : Blk w p 3 #[.int .i64 (x : Int), .int .i64 (y : Int)]) :
    Calls Tryz.prog 75 #[.pointer (some ⟨b, 0, none⟩), .slice (some ⟨p, 0, none⟩) 2 2] w fun e w' => e = .returned (.pointer (some ⟨b, 0, none⟩)) ∧ ∃ v', EncAt w' b v' (L ++ (encU x ++ encU y)) ∧ EncTo b v v' w w' := by
  have h := i_calls [x, y] (by simp) (by simpa using ⟨hx, hy⟩) L hL b p v w h hp
  simpa [encIs] using h

/-- append of a string's bytes, and where the new bytes lie. -/
theorem append_str_at {P : Program} (w : World) (t u ty e : TypeId) (i : TypeInfo) (ht : P.underlying t = some (.slice e)) (hu : P.underlying u = some .string) (hi : P.info? e = some i) (hz : i.zero = some (.int .u8 0))
    (hsize : i.size = 1) (hby : i.bytes = 1) (v : Value) (n : Nat) (xs : List Value) (hown : w.ownsRow 0 e 1 v n xs) (s : ByteArray) (hbytes : n + s.size ≤ 140737488355328) :
    ∃ v' w', (Builtin.append_ #[t, u] ty #[v, .string s]).run P w = .ok v' w' ∧ w'.ownsRow 0 e 1 v' (n + s.size) (xs ++ Lib.strCells s) ∧ w.grownBy w' v.ownBlock ∧ (∀ k, v'.ownBlock = some k → v.ownBlock = some k ∨ w.heap.size ≤ k) := by
  obtain ⟨v', w', hr, h1, h2, _⟩ := Lib.run_append_own_string (P := P) w 0 t u ty e i ht hu hi hz hsize hby v n xs hown s (by unfold maxLen; omega) hbytes (Nat.zero_le _)
  refine ⟨v', w', hr, h1, h2, fun k hk => ?_⟩
  rcases hown.2 with ⟨rfl, rfl⟩ | ⟨g, cap, cur, rfl, hbg, hg, hnc, hcm, hcs, htake⟩
  · have hx : xs = [] := List.eq_nil_of_length_eq_zero (by simpa using hown.1)
    subst hx
    obtain ⟨v2, w2, hr2, h12, _, _⟩ := Lib.run_append_own_string (P := P) w w.heap.size t u ty e i ht hu hi hz hsize hby (.slice none 0 0) 0 [] (World.ownsRow_nil _ _ _ _) s (by unfold maxLen; omega) hbytes (Nat.le_refl _)
    rw [hr] at hr2
    injection hr2 with e1 e2
    subst e1 e2
    exact .inr (h12.lt k hk).1
  · by_cases hroom : n + s.size ≤ cap
    · have hcs' : cur.size = cap := by simpa using hcs
      have hr2 := Lib.run_append_room_string (P := P) w t u ty e i ht hu hi hsize g n cap cur hg s hroom (by omega)
      rw [hr] at hr2
      injection hr2 with e1 e2
      subst e1
      exact .inl hk
    · have hxl : xs.length = n := by simpa using hown.1
      have hr2 := Lib.run_append_grow_string (P := P) w t u ty e i (.int .u8 0) ht hu hi hz ⟨g, 0, none⟩ n cap xs (by rw [hsize]; simpa using hxl) (hown.cells (g := g) rfl) s (by omega) (by omega) (by rw [hby]; exact growslice_fits (by omega) (by omega))
      rw [hr] at hr2
      injection hr2 with e1 e2
      subst e1
      simp only [Value.ownBlock, Option.some.injEq] at hk
      right; omega

theorem list_append_str {ops : Array Oper} {rest : List Oper} {o : Oper} {a : Act} {Q : Exit → Act → World → Prop} {wr : World} {b : Nat} {v : Value} {L t : List UInt8}
    (hgd : o.guard = none) (s x : Operand) (ho : o.op = .call { callee := .builtin .append, args := #[s, x], argTypes := #[113, 9] })
    (hs : a.eval s = v) (hx : a.eval x = .string (bs t)) (hE : EncAt wr b v L) (hn : (Lib.byteCells L).length + t.length ≤ 140737488355328)
    (h : ∀ A n c w', w'.cell? ⟨b, 0, none⟩ = some v → w'.frozen? ⟨b, 0, none⟩ = false → EncAt (w'.setCell ⟨b, 0, none⟩ (.slice A n c)) b (.slice A n c) (L ++ t) → EncTo b v (.slice A n c) wr (w'.setCell ⟨b, 0, none⟩ (.slice A n c)) → wpList Tryz.prog ops Q rest (a.put o.dst (.slice A n c)) w') :
    wpList Tryz.prog ops Q (o :: rest) a wr := by
  obtain ⟨i0, hi, hz0, hz1, hz2⟩ := info_parts Tryz.info5
  have hlt := hE.blk.lt
  have hne := hE.ne_
  refine wpList_plain hgd fun K hK => ?_
  obtain ⟨v', w', hr, h2, h3, h4⟩ := append_str_at (P := Tryz.prog) wr 113 9 o.type 5 i0 Tryz.underlying113 Tryz.underlying9 hi hz0 hz1 hz2 v _ _ hE.own (bs t) (by simpa using hn)
  unfold Oper.wp execOp
  simp only [ho, resolve, invoke, builtin, Sem.run_bind, Sem.run_pure, Result.andThen_ok, List.map_toArray, List.map_cons, List.map_nil, hs, hx, hr]
  have hB : Blk w' b 115 #[v] := hE.blk.grown h3 (fun e => hne e.symm)
  have hne' : ∀ k, v'.ownBlock = some k → k ≠ b := by
    rintro k hk rfl
    rcases h4 k hk with h5 | h5
    · exact hne h5
    · omega
  obtain ⟨A, n, c, rfl⟩ : ∃ A n c, v' = .slice A n c := by
    rcases h2.2 with ⟨rfl, _⟩ | ⟨g, cap, cur, rfl, _, _⟩
    · exact ⟨_, _, _, rfl⟩
    · exact ⟨_, _, _, rfl⟩
  refine hK _ _ (h A n c w' (hB.cell 0) (hB.frozen 0) ⟨hB.set_ 0 _, ?_⟩ ⟨?_, h4⟩)
  · have e1 : Lib.byteCells (L ++ t) = Lib.byteCells L ++ Lib.strCells (bs t) := by simp [Lib.byteCells, Lib.strCells, bs]
    have e2 : (Lib.byteCells (L ++ t)).length = (Lib.byteCells L).length + (bs t).size := by rw [e1]; simp [Lib.strCells_length]
    rw [e2, e1]
    exact ((Keep.refl [b] w').setCell (.inl (by simp)) _).owns h2 (fun k hk => by simpa using hne' k hk)
  · exact ((Keep.refl _ _).grown h3 (fun k hk => by simp [hk])).setCell (.inl (by simp)) _

def encS (s : List UInt8) : List UInt8 := encU s.length ++ s

set_option maxRecDepth 100000 in
set_option maxHeartbeats 1000000 in
theorem s_calls (s : List UInt8) (hs : s.length ≤ 549755813888) (L : List UInt8) (hL : L.length ≤ 274877906944) (b p : Nat) (v : Value) (w : World) (h : EncAt w b v L) (hp : Blk w p 9 #[.string (bs s)]) :
    Calls Tryz.prog 77 #[.pointer (some ⟨b, 0, none⟩), .slice (some ⟨p, 0, none⟩) 1 1] w fun e w' => e = .returned (.pointer (some ⟨b, 0, none⟩)) ∧ ∃ v', EncAt w' b v' (L ++ encS s) ∧ EncTo b v v' w w' := by
  have hc0 : w.cell? ⟨p, 0, none⟩ = some (.string (bs s)) := hp.cell 0
  have H := Lib.hid h
  clear h hp
  have hul := encU_len s.length (by omega)
  go_enter Tryz.func77, Tryz.ntmps77
  go_wp2
  refine wp_loop_rounds 2 ?_
  rw [rounds_succ]
  go_wp2_with (first
    | (go_at_call 75; refine (i1_calls s.length (by omega) L (by omega) b _ v _ (H.out.alloc _) (Blk.new _ _ _)).mono ?_; rintro e w2 ⟨rfl, v2, hE2, hto2⟩; have HE2 := Lib.hid hE2; have HTO2 := Lib.hid hto2; have hcb2 : w2.cell? ⟨b, 0, none⟩ = some v2 := hE2.blk.cell 0; clear hE2 hto2)
    | (at_builtin; refine list_append_str (v := v2) rfl (.tmp 22) (.tmp 23) rfl rfl rfl HE2.out (by rw [Lib.byteCells_length, List.length_append]; omega) ?_; intro A n c w3 hc3 hf3 hE3 hto3; have HE3 := Lib.hid hE3; have HTO3 := Lib.hid hto3; clear hE3 hto3))
  rw [rounds_succ]
  go_wp2
  go_ret
  refine ⟨rfl, .slice A n c, ?_, (EncTo.of_keep v ((Keep.refl _ _).alloc _)).trans (HTO2.out.trans HTO3.out)⟩
  have := HE3.out
  rw [List.append_assoc] at this
  exact this

set_option maxRecDepth 100000 in
set_option maxHeartbeats 400000 in
theorem bytes_calls (L : List UInt8) (b : Nat) (v : Value) (w : World) (h : EncAt w b v L) :
    Calls Tryz.prog 76 #[.pointer (some ⟨b, 0, none⟩)] w fun e w' => e = .returned (.string (bs L)) ∧ w = w' := by
  have hcb : w.cell? ⟨b, 0, none⟩ = some v := h.blk.cell 0
  have hcv : (convert 113 9 v).run Tryz.prog w = .ok (.string (bs L)) w := by
    rcases h.own.2 with ⟨rfl, hn⟩ | ⟨g, cap, cur, rfl, _, _⟩
    · have hL : L = [] := by
        rw [Lib.byteCells_length] at hn
        exact List.eq_nil_of_length_eq_zero hn
      subst hL
      exact run_convert_bytes_nil w 113 5 Tryz.underlying113 Tryz.underlying5 0 0 9 Tryz.underlying9
    · have hc := run_convert_bytes_arg w 113 5 Tryz.underlying113 Tryz.underlying5 g 0 (Lib.byteCells L).length cap (L.map fun (c : UInt8) => (c.toNat : Int)) (by simp [Lib.byteCells]) (fun i hi => by
        rw [Nat.zero_add, h.own.cellAt i (by simpa using hi)]
        rw [Lib.byteCells_length] at hi
        simp [Lib.byteCells, List.getElem?_eq_getElem hi, List.getD]) 9 Tryz.underlying9
      rw [hc]
      congr 2
      unfold strOfNums bs
      congr 2
      rw [List.map_map]
      conv => rhs; rw [← List.map_id L]
      apply List.map_congr_left
      intro c _
      simp
  clear h
  go_enter Tryz.func76, Tryz.ntmps76
  go_wp2
  go_ret
  exact ⟨rfl, rfl⟩

end Go.Proofs.YtnlcipocobmgiaaGreatDoor
/- The contracts of wire's decoder: From, next, Fail, Left, U. -/
namespace Go.Proofs.YtnlcipocobmgiaaGreatDoor
open Go.RowKit
attribute [local go_sem] size_bs bs_append

/-- A decoder: its bytes, how many are consumed, its error. -/
structure Ds where
  s : List UInt8
  at_ : Nat
  err : Int
structure DecAt (w : World) (b : Nat) (d : Ds) : Prop where
  blk : Blk w b 153 #[.string (bs d.s), .int .i64 (d.at_ : Int), .int .i64 d.err]
theorem DecAt.drewN {w : World} {b : Nat} {d : Ds} (h : DecAt w b d) (n : Nat) : DecAt (w.drewN n) b d := ⟨h.blk⟩
theorem DecAt.keep {M : List Nat} {w w' : World} {b : Nat} {d : Ds} (h : DecAt w b d) (hk : Keep M w w') (hb : b ∉ M) : DecAt w' b d := ⟨h.blk.keep hk hb⟩
section
variable {w : World} {b : Nat} {d : Ds} (h : DecAt w b d)
include h
theorem DecAt.c0 : w.cell? ⟨b, 0, none⟩ = some (.string (bs d.s)) := h.blk.cell 0
theorem DecAt.c1 : w.cell? ⟨b, 1, none⟩ = some (.int .i64 (d.at_ : Int)) := h.blk.cell 1
theorem DecAt.c2 : w.cell? ⟨b, 2, none⟩ = some (.int .i64 d.err) := h.blk.cell 2
theorem DecAt.err_ (e : Int) : DecAt (w.setCell ⟨b, 2, none⟩ (.int .i64 e)) b { d with err := e } := ⟨h.blk.set_ 2 _⟩
theorem DecAt.at__ (n : Nat) : DecAt (w.setCell ⟨b, 1, none⟩ (.int .i64 (n : Int))) b { d with at_ := n } := ⟨h.blk.set_ 1 _⟩
end

set_option maxHeartbeats 400000 in
theorem from_calls (s : List UInt8) (w : World) :
    Calls Tryz.prog 86 #[.string (bs s)] w fun e w' => e = .returned (.pointer (some ⟨w.heap.size, 0, none⟩)) ∧ DecAt w' w.heap.size ⟨s, 0, 0⟩ ∧ Keep [] w w' := by
  go_enter Tryz.func86, Tryz.ntmps86
  go_wp2
  go_ret
  exact ⟨rfl, ⟨Blk.new _ _ _⟩, (Keep.refl _ _).alloc _⟩

def Ds.fail (d : Ds) (e : Int) : Ds := { d with err := if d.err = 0 then e else d.err }
set_option maxHeartbeats 400000 in
theorem dfail_calls {w : World} {b : Nat} {d : Ds} (h : DecAt w b d) (e : Int) :
    Calls Tryz.prog 107 #[.pointer (some ⟨b, 0, none⟩), .int .i64 e] w fun r w' => r = .returned (.tuple #[]) ∧ DecAt w' b (d.fail e) ∧ Keep [b] w w' := by
  have hf : d.fail e = { d with err := if d.err = 0 then e else d.err } := rfl
  have HF := Lib.hid hf
  clear hf
  have c2 := h.c2
  have f2 := h.blk.frozen 2
  have H := Lib.hid h
  clear h
  by_cases h0 : d.err = 0
  · have hb : (d.err == 0) = true := by simpa using h0
    have H0 := Lib.hid h0
    clear h0
    go_enter Tryz.func107, Tryz.ntmps107
    go_wp2
    go_end0
    rw [HF.out, if_pos H0.out]
    exact ⟨rfl, H.out.err_ e, (Keep.refl _ _).setCell (.inl (by simp)) _⟩
  · have hb : (d.err == 0) = false := by simpa using h0
    have H0 := Lib.hid h0
    clear h0
    go_enter Tryz.func107, Tryz.ntmps107
    go_wp2
    go_end0
    rw [HF.out, if_neg H0.out]
    exact ⟨rfl, H.out, Keep.refl _ _⟩

set_option maxHeartbeats 400000 in
theorem left_calls {w : World} {b : Nat} {d : Ds} (h : DecAt w b d) (ha : d.at_ ≤ d.s.length) (hl : d.s.length ≤ 4611686018427387904) :
    Calls Tryz.prog 108 #[.pointer (some ⟨b, 0, none⟩)] w fun r w' => r = .returned (.int .i64 ((d.s.length : Int) - (d.at_ : Int))) ∧ DecAt w' b d ∧ Keep [b] w w' := by
  have c0 := h.c0
  have c1 := h.c1
  have H := Lib.hid h
  clear h
  go_enter Tryz.func108, Tryz.ntmps108
  go_wp2
  go_quiet (fail)
  go_wp2
  go_ret
  exact ⟨rfl, H.out.drewN _, (Keep.refl _ _).drewN _⟩

set_option maxRecDepth 100000 in
set_option maxHeartbeats 400000 in
theorem next_err {w : World} {b : Nat} {d : Ds} (h : DecAt w b d) (h0 : d.err ≠ 0) :
    Calls Tryz.prog 127 #[.pointer (some ⟨b, 0, none⟩)] w fun r w' => r = .returned (.tuple #[.int .u8 0, .bool false]) ∧ DecAt w' b d ∧ Keep [b] w w' := by
  have c2 := h.c2
  have hb : (d.err == 0) = false := by simpa using h0
  have hb2 : (d.err != 0) = true := by simpa using h0
  have H := Lib.hid h
  have H0 := Lib.hid h0
  clear h h0
  go_enter Tryz.func127, Tryz.ntmps127
  go_wp2
  go_quiet (fail)
  go_wp2
  go_ret2
  exact ⟨rfl, H.out.drewN _, (Keep.refl _ _).drewN _⟩

set_option maxRecDepth 100000 in
set_option maxHeartbeats 400000 in
theorem next_end {w : World} {b : Nat} {d : Ds} (h : DecAt w b d) (h0 : d.err = 0) (ha : d.at_ = d.s.length) (hl : d.s.length ≤ 4611686018427387904) :
    Calls Tryz.prog 127 #[.pointer (some ⟨b, 0, none⟩)] w fun r w' => r = .returned (.tuple #[.int .u8 0, .bool false]) ∧ DecAt w' b { d with err := 2 } ∧ Keep [b] w w' := by
  obtain ⟨s, a, er⟩ := d
  simp only at h0 ha
  subst h0 ha
  have c0 := h.c0
  have c1 := h.c1
  have c2 := h.c2
  have f2 := h.blk.frozen 2
  have H := Lib.hid h
  clear h
  simp only at *
  go_enter Tryz.func127, Tryz.ntmps127
  go_wp2
  go_quiet (fail)
  go_wp2
  go_ret2
  exact ⟨rfl, (H.out.drewN _).err_ 2, ((Keep.refl _ _).drewN _).setCell (.inl (by simp)) _⟩

set_option maxRecDepth 100000 in
set_option maxHeartbeats 400000 in
theorem next_ok {w : World} {b : Nat} {d : Ds} (h : DecAt w b d) (h0 : d.err = 0) (ha : d.at_ < d.s.length) (hl : d.s.length ≤ 4611686018427387904) :
    Calls Tryz.prog 127 #[.pointer (some ⟨b, 0, none⟩)] w fun r w' => r = .returned (.tuple #[.int .u8 (d.s[d.at_].toNat : Int), .bool true]) ∧ DecAt w' b { d with at_ := d.at_ + 1 } ∧ Keep [b] w w' := by
  obtain ⟨s, a, er⟩ := d
  simp only at h0 ha hl
  subst h0
  have c0 := h.c0
  have c1 := h.c1
  have c2 := h.c2
  have f1 := h.blk.frozen 1
  have H := Lib.hid h
  clear h
  simp only at *
  go_enter Tryz.func127, Tryz.ntmps127
  go_wp2
  go_quiet (fail)
  go_wp2
  have hcast : ((a : Int) + 1) = ((a + 1 : Nat) : Int) := by omega
  rw [hcast]
  have hD : DecAt ((w.drewN nq).setCell ⟨b, 1, none⟩ (.int .i64 ((a + 1 : Nat) : Int))) b ⟨s, a + 1, 0⟩ := (H.out.drewN nq).at__ (a + 1)
  have HK : Hid (Keep [b] w ((w.drewN nq).setCell ⟨b, 1, none⟩ (.int .i64 ((a + 1 : Nat) : Int)))) := ((Keep.refl _ _).drewN _).setCell (.inl (by simp)) _
  clear hcast c0 c1 c2 f1
  generalize (w.drewN nq).setCell ⟨b, 1, none⟩ (.int .i64 ((a + 1 : Nat) : Int)) = W at *
  have d0 : W.cell? ⟨b, 0, none⟩ = some (.string (bs s)) := hD.c0
  have d1 : W.cell? ⟨b, 1, none⟩ = some (.int .i64 ((a : Int) + 1)) := by rw [hD.c1]; simp
  have HD := Lib.hid hD
  clear hD
  have hwr : IntKind.i64.wrap ((a : Int) + 1 - 1) = (a : Int) := by rw [IntWalk.i64_in _ (by omega)]; omega
  have i0 : (0 : Int) ≤ (a : Int) := by omega
  have i1 : (a : Int) < (s.length : Int) := by omega
  go_quiet (fail)
  go_wp2
  go_ret2
  exact ⟨rfl, HD.out.drewN _, HK.out.drewN _⟩

end Go.Proofs.YtnlcipocobmgiaaGreatDoor
/- The contracts of wire's decoder: U. -/
namespace Go.Proofs.YtnlcipocobmgiaaGreatDoor
open Go.RowKit
attribute [local go_sem] size_bs bs_append

/-- A number off some bytes: what it is, how many bytes are consumed, the error. -/
def uF : List UInt8 → Nat → Bool → Nat × Nat × Int
  | [], _, _ => (0, 0, 2)
  | c :: r, v, first =>
    if (first = true ∧ c.toNat = 128) ∨ 144115188075855871 < v then (0, 1, 3)
    else if c.toNat < 128 then (v * 128 + c.toNat % 128, 1, 0)
    else ((uF r (v * 128 + c.toNat % 128) false).1, (uF r (v * 128 + c.toNat % 128) false).2.1 + 1, (uF r (v * 128 + c.toNat % 128) false).2.2)
def Ds.u (d : Ds) : Nat × Ds :=
  if d.err ≠ 0 then (0, d) else ((uF (d.s.drop d.at_) 0 true).1, { d with at_ := d.at_ + (uF (d.s.drop d.at_) 0 true).2.1, err := (uF (d.s.drop d.at_) 0 true).2.2 })

def atOf (w : World) (b : Nat) : Nat := (intOf ((w.cell? ⟨b, 1, none⟩).getD undef)).toNat
theorem DecAt.atOf_ {w : World} {b : Nat} {d : Ds} (h : DecAt w b d) : atOf w b = d.at_ := by
  unfold atOf
  rw [h.c1]
  simp [intOf]

theorem dec_step (v : Nat) (c : UInt8) (hv : v ≤ 144115188075855871) :
    bits .or .u64 ((v : Int) * 128) (IntKind.u64.wrap (bits .andNot .u8 (c.toNat : Int) 128)) = ((v * 128 + c.toNat % 128 : Nat) : Int) := by
  have hc := c.toNat_lt
  have e3 : bits .andNot .u8 (c.toNat : Int) 128 = ((c.toNat &&& (255 - 128) : Nat) : Int) := u8_andNot_nat c.toNat 128 hc (by decide)
  have e4 : c.toNat &&& (255 - 128) = c.toNat % 128 := by
    have : ∀ k : Fin 256, k.val &&& (255 - 128) = k.val % 128 := by decide +kernel
    exact this ⟨c.toNat, hc⟩
  rw [e3, e4, IntWalk.u64_in _ (by omega)]
  have hw : ∀ n : Int, 0 ≤ n → n < 2 ^ 64 → IntKind.u64.wrap n = n := fun n h0 h1 => IntWalk.u64_in n (by omega)
  have e1 := bits_join .u64 64 (by decide) hw 7 ((v : Int) * 128) ((c.toNat % 128 : Nat) : Int) (by omega) (by omega) (by omega) (by omega) (by omega) (by omega)
  rw [e1]
  omega
theorem uF_cons (c : UInt8) (r : List UInt8) (v : Nat) (first : Bool) : uF (c :: r) v first = if (first = true ∧ c.toNat = 128) ∨ 144115188075855871 < v then (0, 1, 3)
    else if c.toNat < 128 then (v * 128 + c.toNat % 128, 1, 0)
    else ((uF r (v * 128 + c.toNat % 128) false).1, (uF r (v * 128 + c.toNat % 128) false).2.1 + 1, (uF r (v * 128 + c.toNat % 128) false).2.2) := rfl

def DURel (s : List UInt8) (a0 b : Nat) (w : World) (v_ f_ : Value) (wr : World) : Prop :=
  ∃ (v k : Nat) (first : Bool), v < 18446744073709551616 ∧ a0 ≤ k ∧ k ≤ s.length ∧ v_ = .int .u64 (v : Int) ∧ f_ = .bool first ∧ DecAt wr b ⟨s, k, 0⟩ ∧ Keep [b] w wr ∧
    uF (s.drop a0) 0 true = ((uF (s.drop k) v first).1, (uF (s.drop k) v first).2.1 + (k - a0), (uF (s.drop k) v first).2.2)

set_option maxRecDepth 100000 in
set_option maxHeartbeats 1000000 in
theorem du_calls {w : World} {b : Nat} {d : Ds} (h : DecAt w b d) (ha : d.at_ ≤ d.s.length) (hl : d.s.length ≤ 4611686018427387904) :
    Calls Tryz.prog 106 #[.pointer (some ⟨b, 0, none⟩)] w fun r w' => r = .returned (.int .u64 (d.u.1 : Int)) ∧ DecAt w' b d.u.2 ∧ Keep [b] w w' := by
  by_cases h0 : d.err = 0
  · obtain ⟨s, a0, er⟩ := d
    simp only at h0 ha hl
    subst h0
    have hu : Ds.u ⟨s, a0, 0⟩ = ((uF (s.drop a0) 0 true).1, ⟨s, a0 + (uF (s.drop a0) 0 true).2.1, (uF (s.drop a0) 0 true).2.2⟩) := rfl
    have HU := Lib.hid hu
    have H := Lib.hid h
    clear hu h
    go_enter Tryz.func106, Tryz.ntmps106
    go_wp2
    go_loopw [3, 4, 5, 6] (fun v f _ _ wr => DURel s a0 b w v f wr) (fun _ _ _ _ wr => s.length - atOf wr b)
    case atStart => exact ⟨0, a0, true, by omega, Nat.le_refl _, ha, rfl, rfl, H.out, Keep.refl _ _, by simp⟩
    case round =>
      obtain ⟨v, k, first, hv, hk0, hk1, rfl, rfl, hD, hkeep, hF⟩ := hrel
      have HF := Lib.hid hF
      have HD := Lib.hid hD
      have HK := Lib.hid hkeep
      clear hF hD hkeep
      by_cases hend : k = s.length
      · subst hend
        go_wp2_with (go_at_call 127; refine (next_end HD.out rfl rfl hl).mono ?_; rintro e w1 ⟨rfl, hD1, hk1⟩; have HD1 := Lib.hid hD1; have HK1 := Lib.hid hk1; clear hD1 hk1)
        go_ret
        have hfin : uF (s.drop a0) 0 true = (0, s.length - a0, 2) := by rw [HF.out, List.drop_length]; simp [uF]
        rw [HU.out, hfin]
        refine ⟨rfl, ?_, HK.out.trans HK1.out⟩
        have := HD1.out
        simp only [show a0 + (s.length - a0) = s.length from by omega]
        exact this
      · have hlt : k < s.length := by omega
        have hdrop : s.drop k = s[k] :: s.drop (k + 1) := List.drop_eq_getElem_cons hlt
        rw [hdrop] at HF
        have N := next_ok HD.out rfl hlt hl
        simp only at N
        have hc := s[k].toNat_lt
        generalize s[k] = c at *
        have HN := Lib.hid N
        clear N hdrop
        rw [uF_cons] at HF
        by_cases hbad : (first = true ∧ c.toNat = 128) ∨ 144115188075855871 < v
        · rw [if_pos hbad] at HF
          have hfin : uF (s.drop a0) 0 true = (0, 1 + (k - a0), 3) := HF.out
          have HFIN := Lib.hid hfin
          clear hfin
          have close : ∀ w2, DecAt w2 b ⟨s, k + 1, 3⟩ → DecAt w2 b (Ds.u ⟨s, a0, 0⟩).2 := fun w2 hd => by
            rw [HU.out, HFIN.out]
            simp only [show a0 + (1 + (k - a0)) = k + 1 from by omega]
            exact hd
          have HC := Lib.hid close
          clear close
          by_cases h128 : first = true ∧ c.toNat = 128
          · obtain ⟨rfl, h128⟩ := h128
            have hb : ((c.toNat : Int) == 128) = true := by simp; omega
            clear h128 hbad
            go_wp2_with (first | (go_at_call 127; refine HN.out.mono ?_; rintro e w1 ⟨rfl, hD1, hk1⟩; have HD1 := Lib.hid hD1; have HK1 := Lib.hid hk1; clear hD1 hk1) | (go_at_call 107; refine (dfail_calls HD1.out 3).mono ?_; rintro e w2 ⟨rfl, hD2, hk2⟩; have HD2 := Lib.hid hD2; have HK2 := Lib.hid hk2; clear hD2 hk2))
            go_ret
            rw [HU.out, HFIN.out]
            refine ⟨rfl, ?_, HK.out.trans (HK1.out.trans HK2.out)⟩
            rw [← HFIN.out, ← HU.out]
            exact HC.out _ HD2.out
          · have hvbig : 144115188075855871 < (v : Int) := by rcases hbad with h | h; exact absurd h h128; omega
            cases first
            · go_wp2_with (first | (go_at_call 127; refine HN.out.mono ?_; rintro e w1 ⟨rfl, hD1, hk1⟩; have HD1 := Lib.hid hD1; have HK1 := Lib.hid hk1; clear hD1 hk1) | (go_at_call 107; refine (dfail_calls HD1.out 3).mono ?_; rintro e w2 ⟨rfl, hD2, hk2⟩; have HD2 := Lib.hid hD2; have HK2 := Lib.hid hk2; clear hD2 hk2))
              go_ret
              rw [HU.out, HFIN.out]
              refine ⟨rfl, ?_, HK.out.trans (HK1.out.trans HK2.out)⟩
              rw [← HFIN.out, ← HU.out]
              exact HC.out _ HD2.out
            · have hb : ((c.toNat : Int) == 128) = false := by simp at h128 ⊢; omega
              clear h128 hbad
              go_wp2_with (first | (go_at_call 127; refine HN.out.mono ?_; rintro e w1 ⟨rfl, hD1, hk1⟩; have HD1 := Lib.hid hD1; have HK1 := Lib.hid hk1; clear hD1 hk1) | (go_at_call 107; refine (dfail_calls HD1.out 3).mono ?_; rintro e w2 ⟨rfl, hD2, hk2⟩; have HD2 := Lib.hid hD2; have HK2 := Lib.hid hk2; clear hD2 hk2))
              go_ret
              rw [HU.out, HFIN.out]
              refine ⟨rfl, ?_, HK.out.trans (HK1.out.trans HK2.out)⟩
              rw [← HFIN.out, ← HU.out]
              exact HC.out _ HD2.out
        · rw [if_neg hbad] at HF
          have hf1 : (decide (144115188075855871 < (v : Int))) = false := by simp; omega
          have hv2 : v ≤ 144115188075855871 := by omega
          have hstep := dec_step v c hv2
          have HST := Lib.hid hstep
          clear hstep
          by_cases hsm : c.toNat < 128
          · rw [if_pos hsm] at HF
            have hsm2 : (c.toNat : Int) < 128 := by omega
            cases first
            · go_wp2_with (first | (go_at_call 127; refine HN.out.mono ?_; rintro e w1 ⟨rfl, hD1, hk1⟩; have HD1 := Lib.hid hD1; have HK1 := Lib.hid hk1; clear hD1 hk1) | (go_at_call 107; refine (dfail_calls HD1.out 3).mono ?_; rintro e w2 ⟨rfl, hD2, hk2⟩; have HD2 := Lib.hid hD2; have HK2 := Lib.hid hk2; clear hD2 hk2))
              go_ret
              rw [HU.out, HF.out, HST.out]
              refine ⟨rfl, ?_, HK.out.trans HK1.out⟩
              simp only [show a0 + (1 + (k - a0)) = k + 1 from by omega]
              exact HD1.out
            · have hb : ((c.toNat : Int) == 128) = false := by simp; omega
              go_wp2_with (first | (go_at_call 127; refine HN.out.mono ?_; rintro e w1 ⟨rfl, hD1, hk1⟩; have HD1 := Lib.hid hD1; have HK1 := Lib.hid hk1; clear hD1 hk1) | (go_at_call 107; refine (dfail_calls HD1.out 3).mono ?_; rintro e w2 ⟨rfl, hD2, hk2⟩; have HD2 := Lib.hid hD2; have HK2 := Lib.hid hk2; clear hD2 hk2))
              go_ret
              rw [HU.out, HF.out, HST.out]
              refine ⟨rfl, ?_, HK.out.trans HK1.out⟩
              simp only [show a0 + (1 + (k - a0)) = k + 1 from by omega]
              exact HD1.out
          · rw [if_neg hsm] at HF
            have hsm2 : ¬ (c.toNat : Int) < 128 := by omega
            cases first
            · go_wp2_with (first | (go_at_call 127; refine HN.out.mono ?_; rintro e w1 ⟨rfl, hD1, hk1⟩; have HD1 := Lib.hid hD1; have HK1 := Lib.hid hk1; clear hD1 hk1) | (go_at_call 107; refine (dfail_calls HD1.out 3).mono ?_; rintro e w2 ⟨rfl, hD2, hk2⟩; have HD2 := Lib.hid hD2; have HK2 := Lib.hid hk2; clear hD2 hk2))
              go_roundw
              case rel =>
                refine ⟨v * 128 + c.toNat % 128, k + 1, false, by omega, by omega, by omega, by rw [HST.out], rfl, HD1.out, HK.out.trans HK1.out, ?_⟩
                rw [HF.out]
                simp only [Prod.mk.injEq, true_and, and_true]
                omega
              case measure => rw [HD1.out.atOf_, HD.out.atOf_]; simp only; omega
            · have hb : ((c.toNat : Int) == 128) = false := by
                simp only [true_and, not_or] at hbad
                rw [beq_eq_false_iff_ne]; omega
              go_wp2_with (first | (go_at_call 127; refine HN.out.mono ?_; rintro e w1 ⟨rfl, hD1, hk1⟩; have HD1 := Lib.hid hD1; have HK1 := Lib.hid hk1; clear hD1 hk1) | (go_at_call 107; refine (dfail_calls HD1.out 3).mono ?_; rintro e w2 ⟨rfl, hD2, hk2⟩; have HD2 := Lib.hid hD2; have HK2 := Lib.hid hk2; clear hD2 hk2))
              go_roundw
              case rel =>
                refine ⟨v * 128 + c.toNat % 128, k + 1, false, by omega, by omega, by omega, by rw [HST.out], rfl, HD1.out, HK.out.trans HK1.out, ?_⟩
                rw [HF.out]
                simp only [Prod.mk.injEq, true_and, and_true]
                omega
              case measure => rw [HD1.out.atOf_, HD.out.atOf_]; simp only; omega
  · have hu : d.u = (0, d) := by simp [Ds.u, h0]
    have HU := Lib.hid hu
    have H := Lib.hid h
    clear hu h
    go_enter Tryz.func106, Tryz.ntmps106
    go_wp2
    refine wp_loop_rounds 1 ?_
    rw [rounds_succ]
    go_wp2_with (go_at_call 127; refine (next_err H.out h0).mono ?_; rintro e w1 ⟨rfl, hD1, hk1⟩; have HD1 := Lib.hid hD1; have HK1 := Lib.hid hk1; clear hD1 hk1)
    go_ret
    rw [HU.out]
    exact ⟨rfl, HD1.out, HK1.out⟩

end Go.Proofs.YtnlcipocobmgiaaGreatDoor
/- The contracts of wire's decoder: I, S, Done. -/
namespace Go.Proofs.YtnlcipocobmgiaaGreatDoor
open Go.RowKit
attribute [local go_sem] size_bs bs_append bs_extract

theorem uF_le : ∀ (l : List UInt8) (v : Nat) (f : Bool), (uF l v f).2.1 ≤ l.length ∧ (uF l v f).1 < 18446744073709551616
  | [], v, f => by simp [uF]
  | c :: r, v, f => by
    have ih := uF_le r (v * 128 + c.toNat % 128) false
    rw [uF_cons]
    split
    · simp
    · split
      · simp; omega
      · simp only [List.length_cons]; omega
theorem Ds.u_at {d : Ds} (h : d.at_ ≤ d.s.length) : d.u.2.at_ ≤ d.u.2.s.length ∧ d.u.2.s = d.s ∧ d.u.1 < 18446744073709551616 := by
  unfold Ds.u
  split
  · exact ⟨h, rfl, by simp⟩
  · have := uF_le (d.s.drop d.at_) 0 true
    simp only [List.length_drop] at this
    refine ⟨?_, rfl, this.2⟩
    simp only
    omega
def Ds.i (d : Ds) (most : Nat) : Nat × Ds := if most < d.u.1 then (0, d.u.2.fail 11) else d.u
theorem Ds.i_at {d : Ds} (h : d.at_ ≤ d.s.length) (most : Nat) : (d.i most).2.at_ ≤ (d.i most).2.s.length ∧ (d.i most).2.s = d.s ∧ (d.i most).1 ≤ most := by
  have h1 := Ds.u_at h
  unfold Ds.i
  split
  · exact ⟨h1.1, h1.2.1, Nat.zero_le _⟩
  · exact ⟨h1.1, h1.2.1, by omega⟩

set_option maxRecDepth 100000 in
set_option maxHeartbeats 1000000 in
theorem di_calls {w : World} {b : Nat} {d : Ds} (h : DecAt w b d) (ha : d.at_ ≤ d.s.length) (hl : d.s.length ≤ 4611686018427387904) (most : Nat) (hm : most ≤ 4611686018427387904) :
    Calls Tryz.prog 87 #[.pointer (some ⟨b, 0, none⟩), .int .i64 (most : Int)] w fun r w' => r = .returned (.int .i64 ((d.i most).1 : Int)) ∧ DecAt w' b (d.i most).2 ∧ Keep [b] w w' := by
  have hU := du_calls h ha hl
  have hi : d.i most = if most < d.u.1 then (0, d.u.2.fail 11) else d.u := rfl
  have hat := Ds.u_at ha
  generalize d.u = q at *
  obtain ⟨v, d1⟩ := q
  simp only at hat hU
  have HI := Lib.hid hi
  have HU := Lib.hid hU
  have hv := hat.2.2
  clear hi hU h hat
  by_cases hbig : most < v
  · have hbig2 : (most : Int) < (v : Int) := by omega
    go_enter Tryz.func87, Tryz.ntmps87
    go_wp2_with (first | (go_at_call 106; refine HU.out.mono ?_; rintro e w1 ⟨rfl, hD1, hk1⟩; have HD1 := Lib.hid hD1; have HK1 := Lib.hid hk1; clear hD1 hk1) | (go_at_call 107; refine (dfail_calls HD1.out 11).mono ?_; rintro e w2 ⟨rfl, hD2, hk2⟩; have HD2 := Lib.hid hD2; have HK2 := Lib.hid hk2; clear hD2 hk2))
    go_ret
    rw [HI.out, if_pos (by omega)]
    exact ⟨rfl, HD2.out, HK1.out.trans HK2.out⟩
  · have hbig2 : ¬ (most : Int) < (v : Int) := by omega
    go_enter Tryz.func87, Tryz.ntmps87
    go_wp2_with (first | (go_at_call 106; refine HU.out.mono ?_; rintro e w1 ⟨rfl, hD1, hk1⟩; have HD1 := Lib.hid hD1; have HK1 := Lib.hid hk1; clear hD1 hk1))
    go_ret
    rw [HI.out, if_neg (by omega)]
    exact ⟨rfl, HD1.out, HK1.out⟩

def Ds.done (d : Ds) : Ds := if d.at_ < d.s.length then d.fail 3 else d

set_option maxRecDepth 100000 in
set_option maxHeartbeats 1000000 in
theorem done_calls {w : World} {b : Nat} {d : Ds} (h : DecAt w b d) (ha : d.at_ ≤ d.s.length) (hl : d.s.length ≤ 4611686018427387904) :
    Calls Tryz.prog 88 #[.pointer (some ⟨b, 0, none⟩)] w fun r w' => r = .returned (.int .i64 d.done.err) ∧ DecAt w' b d.done ∧ Keep [b] w w' := by
  have hd : d.done = if d.at_ < d.s.length then d.fail 3 else d := rfl
  have HD := Lib.hid hd
  have H := Lib.hid h
  clear hd h
  by_cases hlt : d.at_ < d.s.length
  · have h2 : (0 : Int) < (d.s.length : Int) - (d.at_ : Int) := by omega
    go_enter Tryz.func88, Tryz.ntmps88
    go_wp2_with (first | (go_at_call 108; refine (left_calls H.out ha hl).mono ?_; rintro e w1 ⟨rfl, hD1, hk1⟩; have HD1 := Lib.hid hD1; have HK1 := Lib.hid hk1; clear hD1 hk1) | (go_at_call 107; refine (dfail_calls HD1.out 3).mono ?_; rintro e w2 ⟨rfl, hD2, hk2⟩; have HD2 := Lib.hid hD2; have HK2 := Lib.hid hk2; have hc2 := hD2.c2; clear hD2 hk2))
    go_ret
    rw [HD.out, if_pos hlt]
    exact ⟨rfl, HD2.out, HK1.out.trans HK2.out⟩
  · have h2 : ¬ (0 : Int) < (d.s.length : Int) - (d.at_ : Int) := by omega
    go_enter Tryz.func88, Tryz.ntmps88
    go_wp2_with (first | (go_at_call 108; refine (left_calls H.out ha hl).mono ?_; rintro e w1 ⟨rfl, hD1, hk1⟩; have HD1 := Lib.hid hD1; have HK1 := Lib.hid hk1; have hc1 := hD1.c2; clear hD1 hk1))
    go_ret
    rw [HD.out, if_neg hlt]
    exact ⟨rfl, HD1.out, HK1.out⟩

def Ds.str (d : Ds) (most : Nat) : List UInt8 × Ds :=
  if (d.i most).2.err ≠ 0 then ([], (d.i most).2)
  else if (d.i most).2.s.length - (d.i most).2.at_ < (d.i most).1 then ([], { (d.i most).2 with err := 2 })
  else (((d.i most).2.s.drop (d.i most).2.at_).take (d.i most).1, { (d.i most).2 with at_ := (d.i most).2.at_ + (d.i most).1 })
theorem Ds.str_at {d : Ds} (h : d.at_ ≤ d.s.length) (most : Nat) : (d.str most).2.at_ ≤ (d.str most).2.s.length ∧ (d.str most).2.s = d.s := by
  have h1 := Ds.i_at h most
  unfold Ds.str
  split
  · exact ⟨h1.1, h1.2.1⟩
  · split
    · exact ⟨h1.1, h1.2.1⟩
    · refine ⟨?_, h1.2.1⟩
      simp only
      omega

set_option maxRecDepth 100000 in
set_option maxHeartbeats 1000000 in
theorem ds_calls {w : World} {b : Nat} {d : Ds} (h : DecAt w b d) (ha : d.at_ ≤ d.s.length) (hl : d.s.length ≤ 4611686018427387904) (most : Nat) (hm : most ≤ 4611686018427387904) :
    Calls Tryz.prog 89 #[.pointer (some ⟨b, 0, none⟩), .int .i64 (most : Int)] w fun r w' => r = .returned (.string (bs (d.str most).1)) ∧ DecAt w' b (d.str most).2 ∧ Keep [b] w w' := by
  have hI := di_calls h ha hl most hm
  have hi : d.str most = if (d.i most).2.err ≠ 0 then ([], (d.i most).2)
    else if (d.i most).2.s.length - (d.i most).2.at_ < (d.i most).1 then ([], { (d.i most).2 with err := 2 })
    else (((d.i most).2.s.drop (d.i most).2.at_).take (d.i most).1, { (d.i most).2 with at_ := (d.i most).2.at_ + (d.i most).1 }) := rfl
  obtain ⟨hat1, hat2, hat3⟩ := Ds.i_at ha most
  have hl2 : (d.i most).2.s.length ≤ 4611686018427387904 := by rw [hat2]; exact hl
  clear hat2
  generalize d.i most = q at *
  obtain ⟨n, ⟨s, a, er⟩⟩ := q
  simp only at hat1 hat3 hl2 hi hI
  have HI := Lib.hid hi
  have HU := Lib.hid hI
  clear hi hI h ha hl
  by_cases he : er = 0
  · subst he
    by_cases hlt : s.length - a < n
    · have hlt2 : (s.length : Int) - (a : Int) < (n : Int) := by omega
      go_enter Tryz.func89, Tryz.ntmps89
      go_wp2_with (first | (go_at_call 87; refine HU.out.mono ?_; rintro e w1 ⟨rfl, hD1, hk1⟩; have HD1 := Lib.hid hD1; have HK1 := Lib.hid hk1; have c2 : w1.cell? ⟨b, 2, none⟩ = some (.int .i64 0) := hD1.c2; clear hD1 hk1) | (go_at_call 108; refine (left_calls HD1.out hat1 hl2).mono ?_; rintro e w2 ⟨rfl, hD2, hk2⟩; have HD2 := Lib.hid hD2; have HK2 := Lib.hid hk2; clear hD2 hk2) | (go_at_call 107; refine (dfail_calls HD2.out 2).mono ?_; rintro e w3 ⟨rfl, hD3, hk3⟩; have HD3 := Lib.hid hD3; have HK3 := Lib.hid hk3; have c3 : w3.cell? ⟨b, 2, none⟩ = some (.int .i64 2) := hD3.c2; clear hD3 hk3))
      go_ret
      rw [HI.out, if_neg (by simp), if_pos (by omega)]
      exact ⟨rfl, HD3.out, HK1.out.trans (HK2.out.trans HK3.out)⟩
    · have hlt2 : ¬ (s.length : Int) - (a : Int) < (n : Int) := by omega
      go_enter Tryz.func89, Tryz.ntmps89
      go_wp2_with (first | (go_at_call 87; refine HU.out.mono ?_; rintro e w1 ⟨rfl, hD1, hk1⟩; have HD1 := Lib.hid hD1; have HK1 := Lib.hid hk1; have c2 : w1.cell? ⟨b, 2, none⟩ = some (.int .i64 0) := hD1.c2; clear hD1 hk1) | (go_at_call 108; refine (left_calls HD1.out hat1 hl2).mono ?_; rintro e w2 ⟨rfl, hD2, hk2⟩; have HD2 := Lib.hid hD2; have HK2 := Lib.hid hk2; have d2 : w2.cell? ⟨b, 2, none⟩ = some (.int .i64 0) := hD2.c2; have d1 : w2.cell? ⟨b, 1, none⟩ = some (.int .i64 (a : Int)) := hD2.c1; have f1 := hD2.blk.frozen 1; clear hD2 hk2))
      have hcast : ((a : Int) + (n : Int)) = ((a + n : Nat) : Int) := by omega
      rw [hcast]
      have hD : DecAt (w2.setCell ⟨b, 1, none⟩ (.int .i64 ((a + n : Nat) : Int))) b ⟨s, a + n, 0⟩ := HD2.out.at__ (a + n)
      have HK : Hid (Keep [b] w (w2.setCell ⟨b, 1, none⟩ (.int .i64 ((a + n : Nat) : Int)))) := (HK1.out.trans HK2.out).setCell (.inl (by simp)) _
      clear hcast d2 d1 f1 c2
      generalize w2.setCell ⟨b, 1, none⟩ (.int .i64 ((a + n : Nat) : Int)) = W at *
      have d0 : W.cell? ⟨b, 0, none⟩ = some (.string (bs s)) := hD.c0
      have d1 : W.cell? ⟨b, 1, none⟩ = some (.int .i64 ((a : Int) + (n : Int))) := by rw [hD.c1]; simp
      have HD := Lib.hid hD
      clear hD
      have hwr : IntKind.i64.wrap ((a : Int) + (n : Int) - (n : Int)) = (a : Int) := by rw [IntWalk.i64_in _ (by omega)]; omega
      have i0 : (0 : Int) ≤ (a : Int) := by omega
      have i1 : (a : Int) ≤ (a : Int) + (n : Int) := by omega
      have i2 : (a : Int) + (n : Int) ≤ (s.length : Int) := by omega
      have i3 : (0 : Int) ≤ (a : Int) + (n : Int) := by omega
      have i4 : ((a : Int) + (n : Int)).toNat = a + n := by omega
      go_quiet (fail)
      go_wp2
      go_ret
      rw [HI.out, if_neg (by simp), if_neg (by omega)]
      refine ⟨?_, HD.out.drewN _, HK.out.drewN _⟩
      simp
  · have hb : (er == 0) = false := by simpa using he
    have hb2 : (er != 0) = true := by simpa using he
    go_enter Tryz.func89, Tryz.ntmps89
    go_wp2_with (first | (go_at_call 87; refine HU.out.mono ?_; rintro e w1 ⟨rfl, hD1, hk1⟩; have HD1 := Lib.hid hD1; have HK1 := Lib.hid hk1; have c2 : w1.cell? ⟨b, 2, none⟩ = some (.int .i64 er) := hD1.c2; clear hD1 hk1))
    go_ret
    rw [HI.out, if_pos (by simpa using he)]
    exact ⟨rfl, HD1.out, HK1.out⟩

end Go.Proofs.YtnlcipocobmgiaaGreatDoor
