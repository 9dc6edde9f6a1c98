/- The contracts of meter.Pick, (file).left, (*Disk).Crash. -/
import Derived.Test.YtpcbhechfbibbaaDoorDisk
import Derived.Test.YtpcbhechfbibbaaDoorKeys
import Derived.Test.YtpcbhechfbibbaaDoorIntsAt
import Derived.Test.YtpcbhechfbibbaaDoorShelf
namespace Go.Proofs.YtpcbhechfbibbaaDoor
open Go.RowKit
attribute [local go_sem] size_bs bs_append bs_extract ba_self

/-- Pick. -/
def pick (l : List Int) (k n : Nat) : Nat := match l[k]? with
  | some x => (x % (n : Int)).toNat
  | none => 0
theorem pick_lt (l : List Int) (k : Nat) {n : Nat} (hn : 1 ≤ n) : pick l k n < n := by
  unfold pick
  split
  · rename_i x _
    have h1 := Int.emod_nonneg x (show (n : Int) ≠ 0 by omega)
    have h2 := Int.emod_lt_of_pos x (show (0 : Int) < (n : Int) by omega)
    omega
  · omega

set_option maxRecDepth 100000 in
set_option maxHeartbeats 1000000 in
theorem pick_calls (v : Value) (l : List Int) (hb : ∀ x ∈ l, -9223372036854775808 ≤ x ∧ x ≤ 9223372036854775807) (k n : Nat) (hn : 1 ≤ n) (hn2 : n ≤ 4611686018427387904) (_hk : k ≤ 4611686018427387904) (w : World) (hv : IntsAt w v l) :
    Calls Tryd.prog 62 #[v, .int .i64 (k : Int), .int .i64 (n : Int)] w fun e w' => e = .returned (.int .i64 (pick l k n : Int)) ∧ w = w' := by
  obtain ⟨A, c, rfl, hcc⟩ := hv
  have d1 : decide ((n : Int) < 1) = false := by simp; omega
  have d2 : decide ((k : Int) < 0) = false := by simp
  by_cases hlt : k < l.length
  · have hp : pick l k n = (l[k] % (n : Int)).toNat := by simp [pick, hlt]
    obtain ⟨g, o, rfl, hc⟩ := hcc (by intro h; subst h; simp at hlt)
    have c0 := hc k hlt
    have hbk := hb l[k] (List.getElem_mem hlt)
    have d3 : decide ((l.length : Int) ≤ (k : Int)) = false := by simp; omega
    have e1 := Int.emod_nonneg l[k] (show (n : Int) ≠ 0 by omega)
    have e2 := Int.emod_lt_of_pos l[k] (show (0 : Int) < (n : Int) by omega)
    have e3 : l[k].tmod (n : Int) = l[k] % (n : Int) - ((if 0 ≤ l[k] ∨ (n : Int) ∣ l[k] then 0 else (n : Int).natAbs : Nat) : Int) := Int.tmod_eq_emod
    have hz : ((n : Int) == 0) = false := by simp; omega
    have hm1 : ((n : Int) == -1) = false := by simp
    have HPK := Lib.hid hp
    clear hc hcc hb hp
    generalize l[k] = x at *
    by_cases hneg : x.tmod (n : Int) < 0
    · have hr : x.tmod (n : Int) + (n : Int) = x % (n : Int) := by
        split at e3 <;> omega
      have hr2 : ((x % (n : Int)).toNat : Int) = x % (n : Int) := by omega
      have b1 : -(n : Int) ≤ x.tmod (n : Int) := by omega
      have HR := Lib.hid hr
      have HR2 := Lib.hid hr2
      clear e3 hr hr2
      go_enter Tryd.func62, Tryd.ntmps62
      go_wp2
      go_ret
      refine ⟨?_, rfl⟩
      rw [HPK.out, HR2.out, ← HR.out]
      rfl
    · have hr : x.tmod (n : Int) = x % (n : Int) := by
        split at e3 <;> omega
      have hr2 : ((x % (n : Int)).toNat : Int) = x % (n : Int) := by omega
      have HR := Lib.hid hr
      have HR2 := Lib.hid hr2
      clear e3 hr hr2
      go_enter Tryd.func62, Tryd.ntmps62
      go_wp2
      go_ret
      refine ⟨?_, rfl⟩
      rw [HPK.out, HR2.out, ← HR.out]
      rfl
  · have hp : pick l k n = 0 := by simp [pick, hlt]
    have d3 : decide ((l.length : Int) ≤ (k : Int)) = true := by simp; omega
    rw [hp]
    clear hcc hb hp
    go_enter Tryd.func62, Tryd.ntmps62
    go_wp2
    go_ret
    exact ⟨rfl, rfl⟩

/-- left. -/
def Fil.left (f : Fil) (ch : List Int) (k : Nat) : St :=
  if f.now.there = true ∧ f.sure.text.length < f.now.text.length ∧ f.sure.text.isPrefixOf f.now.text = true then
    if pick ch k (f.now.text.length - f.sure.text.length + 1) = 0 then f.sure else ⟨true, f.now.text.take (f.sure.text.length + pick ch k (f.now.text.length - f.sure.text.length + 1))⟩
  else if pick ch k 2 = 0 then f.sure else f.now

theorem hasPrefix_calls (s p : List UInt8) (w : World) : Calls Tryd.prog 61 #[.string (bs s), .string (bs p)] w fun e w' => e = .returned (.bool (p.isPrefixOf s)) ∧ w = w' :=
  (Tryd.strings_HasPrefix (bs s) (bs p) w).mono fun _ _ ⟨h1, h2⟩ => ⟨by
    have e1 : (bs s).data.toList = s := lst_bs s
    have e2 : (bs p).data.toList = p := lst_bs p
    rw [h1, e1, e2]; rfl, h2.symm⟩

theorem Blk.here_ (w : World) (t : TypeId) (cs : Array Value) (k : Nat) (hk : k = w.heap.size) : Blk (w.alloc (.cells cs t)) k t cs := by subst hk; exact Blk.new _ _ _
theorem fleft_ret {W : World} {r : Nat} {x0 x1 : Value} {t : Array Value} {R : Ending → World → Prop} (h2 : t[6]? = some (.pointer (some ⟨r, 0, none⟩)))
    (hB : Blk W r 88 #[x0, x1]) (hR : R (.returned (.agg #[x0, x1])) W) : bodyPost Tryd.prog Tryd.f40 R .ret { tmps := t, defers := [] } W := by
  have k0 : W.cell? ⟨r, 0, none⟩ = some x0 := hB.cell 0
  have k1 : W.cell? ⟨r, 1, none⟩ = some x1 := hB.cell 1
  refine bodyPost_ret (v := .agg #[x0, x1]) ?_ rfl hR
  simp [results, Tryd.results40, go_sem, h2, k0, k1]


set_option maxRecDepth 100000 in
set_option maxHeartbeats 2000000 in
theorem fleft_calls (f : Fil) (v : Value) (ch : List Int) (hb : ∀ x ∈ ch, -9223372036854775808 ≤ x ∧ x ≤ 9223372036854775807) (k : Nat) (hk : k ≤ 4611686018427387904) (h1 : f.now.text.length ≤ 1099511627776) (h2 : f.sure.text.length ≤ 1099511627776) (w : World) (hv : IntsAt w v ch) :
    Calls Tryd.prog 40 #[f.val, v, .int .i64 (k : Int)] w fun e w' => e = .returned (.agg #[.bool (f.left ch k).there, .string (bs (f.left ch k).text)]) ∧ Keep [] w w' := by
  have hleft : f.left ch k = if f.now.there = true ∧ f.sure.text.length < f.now.text.length ∧ f.sure.text.isPrefixOf f.now.text = true then
    if pick ch k (f.now.text.length - f.sure.text.length + 1) = 0 then f.sure else ⟨true, f.now.text.take (f.sure.text.length + pick ch k (f.now.text.length - f.sure.text.length + 1))⟩
    else if pick ch k 2 = 0 then f.sure else f.now := rfl
  unfold Fil.val
  generalize f.left ch k = R at *
  obtain ⟨⟨nt, nx⟩, ⟨st, sx⟩⟩ := f
  simp only at hleft h1 h2 ⊢
  have hP : ∀ (n : Nat), 1 ≤ n → n ≤ 4611686018427387904 → ∀ W, Keep [] w W → Calls Tryd.prog 62 #[v, .int .i64 (k : Int), .int .i64 (n : Int)] W fun e w' => e = .returned (.int .i64 (pick ch k n : Int)) ∧ W = w' := fun n a b W hW => pick_calls v ch hb k n a b hk W (hv.keep hW)
  obtain ⟨A, c, rfl, -⟩ := hv
  by_cases hc : nt = true ∧ sx.length < nx.length ∧ sx.isPrefixOf nx = true
  · rw [if_pos hc] at hleft
    obtain ⟨rfl, hl, hpre⟩ := hc
    have hl0 : decide ((0 : Int) < (nx.length : Int) - (sx.length : Int)) = true := by simp; omega
    have hpk := pick_lt ch k (n := nx.length - sx.length + 1) (by omega)
    have hP1 := hP (nx.length - sx.length + 1) (by omega) (by omega)
    have hcast : ((nx.length - sx.length + 1 : Nat) : Int) = (nx.length : Int) - (sx.length : Int) + 1 := by omega
    rw [hcast] at hP1
    have HP := Lib.hid hP1
    clear hcast hP hb hP1
    have HPX := Lib.hid (hasPrefix_calls nx sx)
    rw [hpre] at HPX
    clear hpre
    by_cases hz : pick ch k (nx.length - sx.length + 1) = 0
    · rw [if_pos hz] at hleft
      have HF := Lib.hid hleft
      rw [hz] at HP
      clear hz hleft hpk
      go_enter Tryd.func40, Tryd.ntmps40
      go_wp2_with (first
        | (go_at_call 61; refine (HPX.out _).mono ?_; rintro e w2 ⟨rfl, rfl⟩)
        | (go_at_call 62; refine (HP.out _ (((Keep.refl [] w).alloc _).alloc _)).mono ?_; rintro e w2 ⟨rfl, rfl⟩))
      refine fleft_ret rfl (Blk.here_ _ _ _ _ (by simp)) ?_
      exact ⟨by rw [HF.out], ((Keep.refl _ _).alloc _).alloc _⟩
    · rw [if_neg hz] at hleft
      have hs1 : (0 : Int) ≤ (sx.length : Int) + (pick ch k (nx.length - sx.length + 1) : Int) := by omega
      have hs2 : (sx.length : Int) + (pick ch k (nx.length - sx.length + 1) : Int) ≤ (nx.length : Int) := by omega
      have hs3 : ((sx.length : Int) + (pick ch k (nx.length - sx.length + 1) : Int)).toNat = sx.length + pick ch k (nx.length - sx.length + 1) := by omega
      have dz : ((pick ch k (nx.length - sx.length + 1) : Int) == 0) = false := by simp; omega
      have HF := Lib.hid hleft
      have hpk2 : pick ch k (nx.length - sx.length + 1) ≤ 1099511627776 := by omega
      clear hz hleft hpk
      generalize pick ch k (nx.length - sx.length + 1) = q at *
      go_enter Tryd.func40, Tryd.ntmps40
      go_wp2_with (first
        | (go_at_call 61; refine (HPX.out _).mono ?_; rintro e w2 ⟨rfl, rfl⟩)
        | (go_at_call 62; refine (HP.out _ (((Keep.refl [] w).alloc _).alloc _)).mono ?_; rintro e w2 ⟨rfl, rfl⟩))
      refine fleft_ret rfl (Blk.here_ _ _ _ _ (by simp)) ?_
      exact ⟨by rw [HF.out], ((Keep.refl _ _).alloc _).alloc _⟩
  · rw [if_neg hc] at hleft
    have hP2 := hP 2 (by decide) (by decide)
    have HP := Lib.hid hP2
    have HPX := Lib.hid (hasPrefix_calls nx sx)
    have hpk := pick_lt ch k (n := 2) (by decide)
    clear hP hP2 hb
    by_cases hz : pick ch k 2 = 0
    · rw [if_pos hz] at hleft
      have HF := Lib.hid hleft
      rw [hz] at HP
      clear hz hleft hpk
      cases nt with
      | false =>
        clear hc
        go_enter Tryd.func40, Tryd.ntmps40
        go_wp2_with (first
          | (go_at_call 61; refine (HPX.out _).mono ?_; rintro e w2 ⟨rfl, rfl⟩)
          | (go_at_call 62; refine (HP.out _ (((Keep.refl [] w).alloc _).alloc _)).mono ?_; rintro e w2 ⟨rfl, rfl⟩))
        refine fleft_ret rfl (Blk.here_ _ _ _ _ (by simp)) ?_
        exact ⟨by rw [HF.out], ((Keep.refl _ _).alloc _).alloc _⟩
      | true =>
        by_cases hl : sx.length < nx.length
        · have hl0 : decide ((0 : Int) < (nx.length : Int) - (sx.length : Int)) = true := by simp; omega
          have hpre : sx.isPrefixOf nx = false := by
            cases h : sx.isPrefixOf nx
            · rfl
            · exact absurd ⟨rfl, hl, h⟩ hc
          rw [hpre] at HPX
          clear hpre hc
          go_enter Tryd.func40, Tryd.ntmps40
          go_wp2_with (first
            | (go_at_call 61; refine (HPX.out _).mono ?_; rintro e w2 ⟨rfl, rfl⟩)
            | (go_at_call 62; refine (HP.out _ (((Keep.refl [] w).alloc _).alloc _)).mono ?_; rintro e w2 ⟨rfl, rfl⟩))
          refine fleft_ret rfl (Blk.here_ _ _ _ _ (by simp)) ?_
          exact ⟨by rw [HF.out], ((Keep.refl _ _).alloc _).alloc _⟩
        · have hl0 : decide ((0 : Int) < (nx.length : Int) - (sx.length : Int)) = false := by simp; omega
          clear hc
          go_enter Tryd.func40, Tryd.ntmps40
          go_wp2_with (first
            | (go_at_call 61; refine (HPX.out _).mono ?_; rintro e w2 ⟨rfl, rfl⟩)
            | (go_at_call 62; refine (HP.out _ (((Keep.refl [] w).alloc _).alloc _)).mono ?_; rintro e w2 ⟨rfl, rfl⟩))
          refine fleft_ret rfl (Blk.here_ _ _ _ _ (by simp)) ?_
          exact ⟨by rw [HF.out], ((Keep.refl _ _).alloc _).alloc _⟩
    · rw [if_neg hz] at hleft
      have HF := Lib.hid hleft
      have hq : pick ch k 2 = 1 := by omega
      rw [hq] at HP
      clear hz hleft hpk hq
      cases nt with
      | false =>
        clear hc
        go_enter Tryd.func40, Tryd.ntmps40
        go_wp2_with (first
          | (go_at_call 61; refine (HPX.out _).mono ?_; rintro e w2 ⟨rfl, rfl⟩)
          | (go_at_call 62; refine (HP.out _ (((Keep.refl [] w).alloc _).alloc _)).mono ?_; rintro e w2 ⟨rfl, rfl⟩))
        refine fleft_ret rfl (Blk.here_ _ _ _ _ (by simp)) ?_
        exact ⟨by rw [HF.out], ((Keep.refl _ _).alloc _).alloc _⟩
      | true =>
        by_cases hl : sx.length < nx.length
        · have hl0 : decide ((0 : Int) < (nx.length : Int) - (sx.length : Int)) = true := by simp; omega
          have hpre : sx.isPrefixOf nx = false := by
            cases h : sx.isPrefixOf nx
            · rfl
            · exact absurd ⟨rfl, hl, h⟩ hc
          rw [hpre] at HPX
          clear hpre hc
          go_enter Tryd.func40, Tryd.ntmps40
          go_wp2_with (first
            | (go_at_call 61; refine (HPX.out _).mono ?_; rintro e w2 ⟨rfl, rfl⟩)
            | (go_at_call 62; refine (HP.out _ (((Keep.refl [] w).alloc _).alloc _)).mono ?_; rintro e w2 ⟨rfl, rfl⟩))
          refine fleft_ret rfl (Blk.here_ _ _ _ _ (by simp)) ?_
          exact ⟨by rw [HF.out], ((Keep.refl _ _).alloc _).alloc _⟩
        · have hl0 : decide ((0 : Int) < (nx.length : Int) - (sx.length : Int)) = false := by simp; omega
          clear hc
          go_enter Tryd.func40, Tryd.ntmps40
          go_wp2_with (first
            | (go_at_call 61; refine (HPX.out _).mono ?_; rintro e w2 ⟨rfl, rfl⟩)
            | (go_at_call 62; refine (HP.out _ (((Keep.refl [] w).alloc _).alloc _)).mono ?_; rintro e w2 ⟨rfl, rfl⟩))
          refine fleft_ret rfl (Blk.here_ _ _ _ _ (by simp)) ?_
          exact ⟨by rw [HF.out], ((Keep.refl _ _).alloc _).alloc _⟩

end Go.Proofs.YtpcbhechfbibbaaDoor
