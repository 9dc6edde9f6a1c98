/- The contract of (*wire.Enc).U at one number. -/
import Derived.Test.YtpnoiagjgkajdaaGreatDoorProg
import Derived.Test.YtpnoiagjgkajdaaGreatDoorBase
import Derived.Test.YtpnoiagjgkajdaaGreatDoorShelf
import Derived.Lib.ItoaNum
import Derived.Lib.AppendStr
import Derived.Lib.UnsafeStr
import Derived.WalkLawsBesides
import Derived.Deep.RegionHeld3
import Derived.Deep.RegionLaw
import Derived.Deep.DeepCutAuto
namespace Go.Proofs.YtpnoiagjgkajdaaGreatDoor
open Go.RowKit
attribute [local go_sem] size_bs bs_append

/-- An encoder: a block whose one cell holds its bytes. -/
structure EncAt (w : World) (b : Nat) (v : Value) (L : List UInt8) : Prop where
  blk : Blk w b 230 #[v]
  own : w.ownsRow 0 5 1 v (Lib.byteCells L).length (Lib.byteCells L)
/-- What a call on an encoder may have turned: its block, its bytes' block. -/
structure EncTo (b : Nat) (v v' : Value) (w w' : World) : Prop where
  keep : Keep (b :: v.ownBlock.toList) w w'
  at_ : ∀ k, v'.ownBlock = some k → v.ownBlock = some k ∨ w.heap.size ≤ k
theorem EncTo.trans {b : Nat} {v v' v'' : Value} {w w' w'' : World} (h : EncTo b v v' w w') (k : EncTo b v' v'' w' w'') : EncTo b v v'' w w'' := by
  refine ⟨h.keep.trans' k.keep fun x hx => ?_, fun g hg => ?_⟩
  · simp only [List.mem_cons, Option.mem_toList] at hx ⊢
    rcases hx with rfl | hx
    · exact .inl (.inl rfl)
    · rcases h.at_ x hx with h1 | h1
      · exact .inl (.inr h1)
      · exact .inr h1
  · rcases k.at_ g hg with h1 | h1
    · exact h.at_ g h1
    · exact .inr (Nat.le_trans h.keep.size h1)
/-- Between the append and the store: the new bytes lie in block g. -/
structure EncMid (b : Nat) (v : Value) (g : Nat) (w w' : World) : Prop where
  keep : Keep (b :: v.ownBlock.toList) w w'
  at_ : v.ownBlock = some g ∨ g = w.heap.size + 1
  blk : Blk w' b 230 #[v]
theorem EncAt.ne_ {w : World} {b : Nat} {v : Value} {L : List UInt8} (h : EncAt w b v L) : v.ownBlock ≠ some b := own_blk_ne h.own h.blk (by decide)
theorem EncAt.keep {M : List Nat} {w w' : World} {b : Nat} {v : Value} {L : List UInt8} (h : EncAt w b v L) (hk : Keep M w w') (hb : b ∉ M) (hv : ∀ k, v.ownBlock = some k → k ∉ M) : EncAt w' b v L :=
  ⟨h.blk.keep hk hb, hk.owns h.own hv⟩
theorem EncTo.refl (b : Nat) (v : Value) (w : World) : EncTo b v v w w := ⟨Keep.refl _ _, fun _ h => .inl h⟩
theorem EncTo.of_keep {b : Nat} (v : Value) {w w' : World} (h : Keep [] w w') : EncTo b v v w w' := ⟨h.nil_, fun _ h => .inl h⟩

/-- The bytes of a number but for the last one. -/
def encH (n : Nat) : List UInt8 := if _h : n = 0 then [] else encH (n / 128) ++ [UInt8.ofNat (128 + n % 128)]
termination_by n
decreasing_by omega
/-- The bytes of a number. -/
def encU (n : Nat) : List UInt8 := encH (n / 128) ++ [UInt8.ofNat (n % 128)]

theorem Tryz.info5 : (Tryz.prog.info? 5).map (fun i => (i.zero, i.size, i.bytes)) = some (some (.int .u8 0), 1, 1) := by kernel_rfl

theorem encH_len : ∀ (k n : Nat), n < 128 ^ k → (encH n).length ≤ k
  | 0, n, h => by
    have : n = 0 := by simpa using h
    subst this
    unfold encH
    simp
  | k + 1, n, h => by
    unfold encH
    split
    · simp
    · have := encH_len k (n / 128) (by rw [Nat.pow_succ] at h; omega)
      simp only [List.length_append, List.length_cons, List.length_nil]
      omega
theorem or_one (x : Nat) : x ≤ x ||| 1 ∧ x ||| 1 ≤ x + 1 ∧ (x ||| 1) % 2 = 1 := by
  rcases Nat.mod_two_eq_zero_or_one x with h | h
  · have : x ||| 1 = x + 1 := nat_join 1 x 1 (by simpa using h) (by decide)
    omega
  · have h2 : (x - 1) ||| 1 = (x - 1) + 1 := nat_join 1 (x - 1) 1 (by omega) (by decide)
    have h3 : x ||| 1 = x := by
      have h4 : x = (x - 1) ||| 1 := by omega
      rw [h4, Nat.or_assoc]
      simp
    omega
theorem len_parts (x : Nat) (hx : x < 18446744073709551616) : ∃ j r, r < 7 ∧ j ≤ 9 ∧ Lib.bitLen (x ||| 1) = 7 * j + r + 1 ∧ (0 < j → 2 ^ (7 * j) ≤ x) ∧ x < 2 ^ (7 * (j + 1)) := by
  obtain ⟨h1, h2, h3⟩ := or_one x
  have hn : x ||| 1 < 2 ^ 64 := Nat.or_lt_two_pow (by omega) (by decide)
  obtain ⟨b1, b2, b3⟩ := Lib.bitLenAux_bounds 64 (x ||| 1) hn (by omega)
  have hB : Lib.bitLen (x ||| 1) ≤ 64 := Lib.bitLen_le _ 64 (by omega) hn
  change 1 ≤ Lib.bitLen (x ||| 1) at b1
  change 2 ^ (Lib.bitLen (x ||| 1) - 1) ≤ x ||| 1 at b2
  change x ||| 1 < 2 ^ Lib.bitLen (x ||| 1) at b3
  generalize Lib.bitLen (x ||| 1) = B at *
  refine ⟨(B - 1) / 7, (B - 1) % 7, by omega, by omega, by omega, fun hj => ?_, ?_⟩
  · have hle : 2 ^ (7 * ((B - 1) / 7)) ≤ x ||| 1 := Nat.le_trans (Nat.pow_le_pow_right (by omega) (by omega)) b2
    have hev : 2 ^ (7 * ((B - 1) / 7)) % 2 = 0 := by
      obtain ⟨k, hk⟩ : ∃ k, 7 * ((B - 1) / 7) = k + 1 := ⟨7 * ((B - 1) / 7) - 1, by omega⟩
      rw [hk, Nat.pow_succ]
      omega
    omega
  · exact Nat.lt_of_lt_of_le (Nat.lt_of_le_of_lt h1 b3) (Nat.pow_le_pow_right (by omega) (by omega))
theorem len64_calls (x : Nat) (hx : x < 18446744073709551616) (w : World) :
    Calls Tryz.prog 172 #[.int .u64 (bits .or .u64 x 1)] w fun e w' => e = .returned (.int .i64 (Lib.bitLen (x ||| 1))) ∧ w = w' := by
  have h1 : bits .or .u64 (x : Int) 1 = ((x ||| 1 : Nat) : Int) := u64_or_nat x 1 hx (by decide)
  have h2 : x ||| 1 < 18446744073709551616 := Nat.or_lt_two_pow (n := 64) (by omega) (by decide)
  rw [h1]
  exact (Tryz.bits_Len64 ((x ||| 1 : Nat) : Int) w (by omega) (by omega)).mono fun e w' ⟨he, hw⟩ => ⟨by rw [he, Int.toNat_natCast], hw.symm⟩

/-- append of one byte to an encoder's bytes, as one step of a region that draws: what is known behind it, ahead of the store. -/
theorem step_append_byte {ops : Array Oper} {o : Oper} {a : Act} {K : Act → World → Prop} {Q : Exit → Act → World → Prop} {E : Prop} {wr : World} {c : Int} {b : Nat} {v : Value} {L : List UInt8}
    (hgd : o.guard = none) (s x : Operand) (ho : o.op = .call { callee := .builtin .append, args := #[s, x], argTypes := #[228, 228] })
    (hs : a.eval s = v) (hx : a.eval x = .slice (some ⟨wr.heap.size, 0, none⟩) 1 1) (hE : EncAt wr b v L)
    (hcb : wr.cell? ⟨b, 0, none⟩ = some v) (hfb : wr.frozen? ⟨b, 0, none⟩ = false) (hn : (Lib.byteCells L).length + 1 ≤ 140737488355328)
    (h : ∀ g cap w', w'.ownsRow 0 5 1 (.slice (some ⟨g, 0, none⟩) ((Lib.byteCells L).length + 1) cap) ((Lib.byteCells L).length + 1) (Lib.byteCells L ++ [.int .u8 c]) →
      w'.cell? ⟨b, 0, none⟩ = some v → w'.frozen? ⟨b, 0, none⟩ = false → EncMid b v g wr w' → K (a.put o.dst (.slice (some ⟨g, 0, none⟩) ((Lib.byteCells L).length + 1) cap)) w') :
    if Region.wanted o (yielded ops a.tmps) = true then Oper.wp Tryz.prog o a (wr.alloc (.cells #[.int .u8 c] 5)).drew K Q else E := by
  obtain ⟨i0, hi, hz0, hz1, hz2⟩ := info_parts Tryz.info5
  have hlt := hE.blk.lt
  have hne := hE.ne_
  refine step_append_lies _ hgd s x 228 ho 0 5 i0 _ 1 1 Tryz.underlying228 hi hz0 hz1 hz2 rfl (by omega) v _ _ hs ((hE.own.alloc (.cells #[.int .u8 c] 5)).drew) ⟨wr.heap.size, 0, none⟩ 1 1 [.int .u8 c] hx rfl (World.news_of_block (cs := #[.int .u8 c]) (t := 5) (fr := (0, 0)) (heap_alloc_new wr _)) (by simp [Value.oneCell']) (by omega) (by unfold maxLen; omega) (by omega) (by omega) (wr.heap.size + 1) (by simp) ?_
  intro g cap w1 hown1 hgrow hat _
  refine h g cap w1 hown1 ?_ ?_ ⟨?_, hat, (hE.blk.alloc _).drew.grown hgrow (fun e => hne e.symm)⟩
  · exact (hgrow.cell_far ⟨b, 0, none⟩ (by simp; omega) (fun e => hne e.symm)).trans (cell_alloc hcb _)
  · exact (hgrow.frozen_far ⟨b, 0, none⟩ (by simp; omega) (fun e => hne e.symm)).trans ((World.frozen?_alloc_old wr _ ⟨b, 0, none⟩ (by simp; omega)).trans hfb)
  · exact ((Keep.refl _ _).alloc _).drew.grown hgrow (fun k hk => by simp [hk])

/-- .. in a region that does not draw. -/
theorem list_append_byte {ops : Array Oper} {rest : List Oper} {o : Oper} {a : Act} {Q : Exit → Act → World → Prop} {wr : World} {c : Int} {b : Nat} {v : Value} {L : List UInt8}
    (hgd : o.guard = none) (s x : Operand) (ho : o.op = .call { callee := .builtin .append, args := #[s, x], argTypes := #[228, 228] })
    (hs : a.eval s = v) (hx : a.eval x = .slice (some ⟨wr.heap.size, 0, none⟩) 1 1) (hE : EncAt wr b v L)
    (hcb : wr.cell? ⟨b, 0, none⟩ = some v) (hfb : wr.frozen? ⟨b, 0, none⟩ = false) (hn : (Lib.byteCells L).length + 1 ≤ 140737488355328)
    (h : ∀ g cap w', w'.ownsRow 0 5 1 (.slice (some ⟨g, 0, none⟩) ((Lib.byteCells L).length + 1) cap) ((Lib.byteCells L).length + 1) (Lib.byteCells L ++ [.int .u8 c]) →
      w'.cell? ⟨b, 0, none⟩ = some v → w'.frozen? ⟨b, 0, none⟩ = false → EncMid b v g wr w' → wpList Tryz.prog ops Q rest (a.put o.dst (.slice (some ⟨g, 0, none⟩) ((Lib.byteCells L).length + 1) cap)) w') :
    wpList Tryz.prog ops Q (o :: rest) a (wr.alloc (.cells #[.int .u8 c] 5)) := by
  obtain ⟨i0, hi, hz0, hz1, hz2⟩ := info_parts Tryz.info5
  have hlt := hE.blk.lt
  have hne := hE.ne_
  refine wpList_append_lies _ hgd s x 228 ho 0 5 i0 _ 1 1 Tryz.underlying228 hi hz0 hz1 hz2 rfl (by omega) v _ _ hs (hE.own.alloc (.cells #[.int .u8 c] 5)) ⟨wr.heap.size, 0, none⟩ 1 1 [.int .u8 c] hx rfl (World.news_of_block (cs := #[.int .u8 c]) (t := 5) (fr := (0, 0)) (heap_alloc_new wr _)) (by simp [Value.oneCell']) (by omega) (by unfold maxLen; omega) (by omega) (by omega) (wr.heap.size + 1) (by simp) ?_
  intro g cap w1 hown1 hgrow hat _
  refine h g cap w1 hown1 ?_ ?_ ⟨?_, hat, (hE.blk.alloc _).grown hgrow (fun e => hne e.symm)⟩
  · exact (hgrow.cell_far ⟨b, 0, none⟩ (by simp; omega) (fun e => hne e.symm)).trans (cell_alloc hcb _)
  · exact (hgrow.frozen_far ⟨b, 0, none⟩ (by simp; omega) (fun e => hne e.symm)).trans ((World.frozen?_alloc_old wr _ ⟨b, 0, none⟩ (by simp; omega)).trans hfb)
  · exact ((Keep.refl _ _).alloc _).grown hgrow (fun k hk => by simp [hk])
theorem encmid_done {wr w1 : World} {b g n cap : Nat} {v : Value} {L : List UInt8} {c : Int} (u : UInt8) (hu : (u.toNat : Int) = c) (hE : EncAt wr b v L) (mid : EncMid b v g wr w1)
    (hn : n = (Lib.byteCells L).length + 1) (hown : w1.ownsRow 0 5 1 (.slice (some ⟨g, 0, none⟩) n cap) n (Lib.byteCells L ++ [.int .u8 c])) :
    EncAt (w1.setCell ⟨b, 0, none⟩ (.slice (some ⟨g, 0, none⟩) n cap)) b (.slice (some ⟨g, 0, none⟩) n cap) (L ++ [u]) ∧ EncTo b v (.slice (some ⟨g, 0, none⟩) n cap) wr (w1.setCell ⟨b, 0, none⟩ (.slice (some ⟨g, 0, none⟩) n cap)) := by
  have hgb : g ≠ b := by
    rintro rfl
    rcases mid.at_ with h | h
    · exact hE.ne_ h
    · have := hE.blk.lt; omega
  refine ⟨⟨mid.blk.set_ 0 _, ?_⟩, ⟨mid.keep.setCell (.inl (by simp)) _, fun k hk => ?_⟩⟩
  · have h1 : Lib.byteCells (L ++ [u]) = Lib.byteCells L ++ [.int .u8 c] := by
      rw [← hu]; simp [Lib.byteCells]
    rw [h1]
    have h2 : (Lib.byteCells L ++ [Value.int .u8 c]).length = n := by rw [hn]; simp
    rw [h2]
    exact ((Keep.refl [b] w1).setCell (.inl (by simp)) _).owns hown (fun k hk => by
      simp only [Value.ownBlock, Option.some.injEq] at hk
      subst hk
      simpa using hgb)
  · simp only [Value.ownBlock, Option.some.injEq] at hk
    subst hk
    rcases mid.at_ with h | h
    · exact .inl h
    · right; omega
theorem encH_step (x q : Nat) (h : 2 ^ q ≤ x) : encH (x / 2 ^ q) = encH (x / 2 ^ (q + 7)) ++ [UInt8.ofNat (128 + x / 2 ^ q % 128)] := by
  have hp : 0 < 2 ^ q := Nat.two_pow_pos q
  have hne : x / 2 ^ q ≠ 0 := by
    have := Nat.div_pos h hp
    omega
  rw [encH, dif_neg hne, Nat.div_div_eq_div_mul, Nat.pow_add]
theorem hi_byte (x q : Nat) : ((UInt8.ofNat (128 + x / 2 ^ q % 128)).toNat : Int) = bits .or .u8 (IntKind.u8.wrap ((x : Int) / 2 ^ q)) 128 := by
  have e1 : ((x : Int) / 2 ^ q) = ((x / 2 ^ q : Nat) : Int) := by
    rw [Int.natCast_ediv, Int.natCast_pow]; rfl
  rw [e1]
  generalize x / 2 ^ q = n
  have e2 : IntKind.u8.wrap (n : Int) = ((n % 256 : Nat) : Int) := by rw [IntKind.wrap_u8]; omega
  have e3 : bits .or .u8 ((n % 256 : Nat) : Int) 128 = ((n % 256 ||| 128 : Nat) : Int) := u8_or_nat (n % 256) 128 (by omega) (by decide)
  rw [e2, e3]
  have e4 : n % 256 ||| 128 = 128 + n % 128 := by
    have h256 : n % 256 < 256 := by omega
    have h128 : n % 128 = n % 256 % 128 := by omega
    rw [h128]
    generalize n % 256 = k at *
    have : ∀ k : Fin 256, k.val ||| 128 = 128 + k.val % 128 := by decide +kernel
    exact this ⟨k, h256⟩
  rw [e4, UInt8.toNat_ofNat']
  omega

theorem lo_byte (x : Nat) : ((UInt8.ofNat (x % 128)).toNat : Int) = bits .andNot .u8 ((x : Int) % 256) 128 := by
  have e2 : (x : Int) % 256 = ((x % 256 : Nat) : Int) := by omega
  have e3 : bits .andNot .u8 ((x % 256 : Nat) : Int) 128 = ((x % 256 &&& (255 - 128) : Nat) : Int) := u8_andNot_nat (x % 256) 128 (by omega) (by decide)
  rw [e2, e3]
  have e4 : x % 256 &&& (255 - 128) = x % 128 := by
    have h256 : x % 256 < 256 := by omega
    have h128 : x % 128 = x % 256 % 128 := by omega
    rw [h128]
    generalize x % 256 = k at *
    have : ∀ k : Fin 256, k.val &&& (255 - 128) = k.val % 128 := by decide +kernel
    exact this ⟨k, h256⟩
  rw [e4, UInt8.toNat_ofNat']
  omega

def URel (x : Nat) (L : List UInt8) (b : Nat) (v0 : Value) (w : World) (at_ : Value) (wr : World) : Prop :=
  ∃ (j : Nat) (v : Value), j ≤ 9 ∧ at_ = .int .i64 ((7 * j : Nat) : Int) ∧ (0 < j → 2 ^ (7 * j) ≤ x) ∧ EncAt wr b v (L ++ encH (x / 2 ^ (7 * (j + 1)))) ∧ EncTo b v0 v w wr

set_option maxRecDepth 100000 in
set_option maxHeartbeats 1000000 in
theorem u_calls (x : Nat) (hx : x < 18446744073709551616) (L : List UInt8) (hL : L.length ≤ 1099511627776) (b p : Nat) (v : Value) (w : World) (h : EncAt w b v L) (hp : Blk w p 39 #[.int .u64 x]) :
    Calls Tryz.prog 112 #[.pointer (some ⟨b, 0, none⟩), .slice (some ⟨p, 0, none⟩) 1 1] w fun e w' => e = .returned (.pointer (some ⟨b, 0, none⟩)) ∧ ∃ v', EncAt w' b v' (L ++ encU x) ∧ EncTo b v v' w w' := by
  obtain ⟨i0, hi, hz0, hz1, hz2⟩ := info_parts Tryz.info5
  have hc0 : w.cell? ⟨p, 0, none⟩ = some (.int .u64 x) := hp.cell 0
  have H := Lib.hid h
  clear h hp
  go_enter Tryz.func112, Tryz.ntmps112
  go_wp2
  refine wp_loop_rounds 2 ?_
  rw [rounds_succ]
  go_wp2_with fail
  obtain ⟨j0, r0, hr0, hj0, hB, hj1, hj2⟩ := len_parts x hx
  refine (len64_calls x hx _).mono ?_
  rintro e w' ⟨rfl, rfl⟩
  rw [hB]
  clear hB
  have HJ1 := Lib.hid hj1
  have HJ2 := Lib.hid hj2
  clear hj1 hj2
  go_wp2_with fail
  go_loopw [7] (fun a wr => URel x L b v w a wr) (fun a _ => (intOf a).toNat)
  case atStart =>
    refine ⟨j0, v, hj0, ?_, HJ1.out, ?_, EncTo.refl _ _ _⟩
    · rw [show ((7 * (j0 : Int) + r0) / 7 * 7) = ((7 * j0 : Nat) : Int) from by omega]
    · rw [Nat.div_eq_of_lt HJ2.out]
      unfold encH
      simpa using H.out
  case round =>
    obtain ⟨j, v1, hj, rfl, hjx, hE, hto⟩ := hrel
    have HE := Lib.hid hE
    have HTO := Lib.hid hto
    have HJ := Lib.hid hjx
    have hlen : (Lib.byteCells (L ++ encH (x / 2 ^ (7 * (j + 1))))).length ≤ L.length + 10 := by
      rw [Lib.byteCells_length, List.length_append]
      have := encH_len 10 (x / 2 ^ (7 * (j + 1))) (Nat.lt_of_le_of_lt (Nat.div_le_self _ _) (by omega))
      omega
    have hcb : wr.cell? ⟨b, 0, none⟩ = some v1 := hE.blk.cell 0
    have hfb := hE.blk.frozen 0
    clear hE hto hjx
    by_cases hj0 : j = 0
    · subst hj0
      have hb1 : (Lib.byteCells (L ++ encH (x / 2 ^ (7 * (0 + 1))))).length + 1 ≤ 140737488355328 := by omega
      go_wp2_with (at_builtin; refine list_append_byte rfl (.tmp 42) (.tmp 46) rfl rfl rfl HE.out hcb hfb hb1 ?_; intro gg cap w1 hown1 hcb1 hfb1 hto1)
      rw [rounds_succ]
      go_wp2
      go_ret
      have d := encmid_done (UInt8.ofNat (x % 128)) (lo_byte x) HE.out hto1 rfl hown1
      refine ⟨rfl, _, ?_, HTO.out.trans d.2⟩
      have := d.1
      rw [List.append_assoc] at this
      exact this
    · obtain ⟨i, rfl⟩ : ∃ i, j = i + 1 := ⟨j - 1, by omega⟩
      have hpos : (0 : Int) < ((7 * (i + 1) : Nat) : Int) := by omega
      have hpos2 : (0 : Int) ≤ ((7 * (i + 1) : Nat) : Int) := by omega
      have hq1 : 7 ≤ 7 * (i + 1) := by omega
      have hq2 : 7 * (i + 1) ≤ 63 := by omega
      generalize hq : 7 * (i + 1) = q at *
      have HQ := Lib.hid hq
      clear hq
      go_wp2_with fail
      have hb1 : (Lib.byteCells (L ++ encH (x / 2 ^ (7 * (i + 1 + 1))))).length + 1 ≤ 140737488355328 := by omega
      have hnb : ∀ o, (wr.alloc o).cell? ⟨b, 0, none⟩ = some v1 := fun o => cell_alloc hcb o
      go_region_law (refine step_append_byte rfl (.tmp 28) (.tmp 34) rfl rfl rfl HE.out hcb hfb hb1 ?_; intro gg cap w1 hown1 hcb1 hfb1 hto1)
      all_goals
        go_wp2
        go_roundw
        case rel =>
          have d := encmid_done (UInt8.ofNat (128 + x / 2 ^ q % 128)) (hi_byte x q) HE.out hto1 rfl hown1
          have hq := HQ.out
          refine ⟨i, _, by omega, ?_, fun _ => Nat.le_trans (Nat.pow_le_pow_right (by omega) (by omega)) (HJ.out (by omega)), ?_, HTO.out.trans d.2⟩
          · rw [show ((q : Int) - 7) = ((7 * i : Nat) : Int) from by omega]
          · have h2 := encH_step x q (HJ.out (by omega))
            rw [show q + 7 = 7 * (i + 1 + 1) from by omega] at h2
            rw [hq, h2, ← List.append_assoc]
            exact d.1
        case measure => simp [intOf]; omega

end Go.Proofs.YtpnoiagjgkajdaaGreatDoor
