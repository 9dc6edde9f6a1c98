/- The follower's part: entries of the leader that go on from what the node has (onMore). -/
import Derived.Test.YtnlcipocobmgiaaGreatDoorRaftC
import Derived.StillTailTactics
import Derived.Deep.RegionHeld3
import Derived.Deep.RegionWith
namespace Go.Proofs.YtnlcipocobmgiaaGreatDoor
open Go.RowKit
attribute [local go_sem] size_bs bs_append bs_extract

def lastIx (ix : Nat) (l : List En) : Nat := match l.getLast? with
  | some e => e.index
  | none => ix
/-- What a node makes of entries, of which the last ones are new. -/
def Rn.grown (N : Rn) (post : List En) : Rn := { N with st := { N.st with log := N.st.log ++ post } }
def Rn.more (N : Rn) (i ix cm : Nat) (l post : List En) : Rn :=
  ({ N.grown post with commit := max N.commit (min cm (lastIx ix l)) } : Rn).answer i true (lastIx ix l)
theorem Ts.termAt_next (s : Ts) : s.termAt (s.base + s.log.length + 1) = none := by
  unfold Ts.termAt Ts.at
  rw [if_neg (by omega), if_neg (by omega), if_neg (by omega)]
  simp only
  rw [List.getElem?_eq_none (by omega)]
  rfl
section
variable {w : World} {V : Nv} {N : Rn} {D : Dk}
theorem commit_end {w0 w1 wa wb w2 : World} {U : Nv} (h : NodeAt w1 U N D) (ht : NodeTo V U w0 w1) (mc : Nat) (hk1 : Keep [] w1 wa) (hw : wb = wa.setCell ⟨V.r, 11, none⟩ (.int .i64 (mc : Int))) (hk2 : Keep [] wb w2) : NodeAt w2 U { N with commit := mc } D ∧ NodeTo V U w0 w2 := by
  subst hw
  have hr := ht.r
  have h1 := h.grow hk1
  have hk : Keep [U.r] wa (wa.setCell ⟨V.r, 11, none⟩ (.int .i64 (mc : Int))) := by rw [hr]; exact (Keep.refl _ _).setCell (.inl (by simp)) _
  have h2 := setR_end (N' := { N with commit := mc }) h1 (ht.trans (NodeTo.grow U hk1)) hk (by have := h1.blk.set_ 11 (.int .i64 (mc : Int)); rw [hr] at this ⊢; exact this) rfl rfl rfl rfl rfl
  exact ⟨h2.1.grow hk2, h2.2.trans (NodeTo.grow U hk2)⟩
set_option maxRecDepth 100000 in
set_option maxHeartbeats 8000000 in
theorem onMore_any (h : NodeAt w V N D) (hg : D.Good) (hS : N.Sm) (i ix lt cm : Nat) (a2 a3 : Int) (A : Option Addr) (c : Nat) (l pre post : List En) (hl : l = pre ++ post)
    (hv : EntsAt w (.slice A l.length c) l) (hgn : ∀ k, (Value.slice A l.length c).ownBlock = some k → k ∉ V.fp) (hrm : l.length ≤ c) (hlen : l.length ≤ 1000) (hok : EnsOk l)
    (hix : ix ≤ N.st.base ∨ N.st.termAt ix = some lt) (hxb : ix ≤ 2199023255552)
    (hpre : ∀ e ∈ pre, N.st.base < e.index ∧ N.st.termAt e.index = some e.term)
    (hpost : ∀ x r, post = x :: r → x.index = N.st.base + N.st.log.length + 1) (hout : N.out.length ≤ 999990)
    {D' : Dk} (hd : (post = [] ∧ D' = D) ∨ (post ≠ [] ∧ D.appendLog post = (D', 0))) :
    Calls Tryz.prog 58 #[.pointer (some ⟨V.r, 0, none⟩), .agg #[.int .i64 3, .int .i64 (i : Int), .int .i64 a2, .int .i64 a3, .int .i64 (ix : Int), .int .i64 (lt : Int), .int .i64 (cm : Int), .bool false, .slice A l.length c, .string { data := #[] }]] w fun e w' => e = .returned (.tuple #[]) ∧ ∃ V', NodeAt w' V' (N.more i ix cm l post) D' ∧ NodeTo V V' w w' := by
  have hlt := h.fp_lt
  have hsb := hS.base
  have hsl := hS.log
  have hsc := hS.commit
  have hbox : ∀ x ∈ V.fp, x ≠ w.heap.size := fun x hx e => by have := hlt x hx; omega
  have HTA : Hid (∀ W, Keep [] w W → ∀ k t, k ≤ 4611686018427387904 → N.st.termAt k = some t → Calls Tryz.prog 47 #[.pointer (some ⟨V.r, 3, none⟩), .int .i64 (k : Int)] W fun e w' => e = .returned (.tuple #[.int .i64 (t : Int), .bool true]) ∧ ∃ n, w' = W.drewN n) := fun W hk k t hb ht => by
    have := termAtO_calls N.st V.lg (h.grow hk).sto k hb (by omega)
    rw [ht] at this
    exact this
  have HTN : Hid (∀ W, Keep [] w W → ∀ k, k = N.st.base + N.st.log.length + 1 → Calls Tryz.prog 47 #[.pointer (some ⟨V.r, 3, none⟩), .int .i64 (k : Int)] W fun e w' => e = .returned (.tuple #[.int .i64 0, .bool false]) ∧ ∃ n, w' = W.drewN n) := fun W hk k ht => by
    have := termAtO_calls N.st V.lg (h.grow hk).sto k (by omega) (by omega)
    rw [ht, Ts.termAt_next, ← ht] at this
    exact this
  obtain ⟨lx, hlx⟩ : ∃ lx, lx = lastIx ix l := ⟨_, rfl⟩
  have hlxb : lx ≤ 4611686018427387904 := by
    rw [hlx]
    unfold lastIx
    split
    · rename_i e he
      exact (hok.ok e (List.mem_of_getLast? he)).index
    · omega
  obtain ⟨mc, hmc⟩ : ∃ mc, mc = max N.commit (min cm lx) := ⟨_, rfl⟩
  have hmx : max (N.commit : Int) (min (cm : Int) (lx : Int)) = (mc : Int) := by omega
  have HANS : Hid (∀ W U, (NodeAt W U { N.grown post with commit := mc } D' ∧ NodeTo V U w W) → Calls Tryz.prog 57 #[.pointer (some ⟨V.r, 0, none⟩), .int .i64 (i : Int), .bool true, .int .i64 (lx : Int)] W fun e w' => e = .returned (.tuple #[]) ∧ ∃ V', NodeAt w' V' (N.more i ix cm l post) D' ∧ NodeTo V V' w w') := fun W U hW => by
    have := answer_calls hW.1 i true (lx : Int) (by show N.out.length ≤ _; omega)
    rw [hW.2.r] at this
    refine this.mono ?_
    rintro e w' ⟨rfl, V', h1, h2⟩
    refine ⟨rfl, V', ?_, hW.2.trans h2⟩
    unfold Rn.more
    rw [← hlx, ← hmc]
    exact h1
  have HLX := Lib.hid hlx
  clear hlx hmc
  have H := Lib.hid h
  have HL := Lib.hid hl
  have HV := Lib.hid hv
  have HPRE := Lib.hid hpre
  have HPOST := Lib.hid hpost
  have HLT := Lib.hid hlt
  have HGN := Lib.hid hgn
  have hrl := h.blk.lt
  have c5 : w.cell? ⟨V.r, 5, none⟩ = some (.int .i64 (N.st.base : Int)) := h.blk.cell 5
  clear h hv hpre hpost hlt hgn hbox hl
  by_cases hb : ix ≤ N.st.base
  · have d0 : decide ((N.st.base : Int) < (ix : Int)) = false := by simp; omega
    have d0' : decide (N.st.base < ix) = false := by simp; omega
    go_enter Tryz.func58, Tryz.ntmps58
    go_wp2
    go_quiet (fail)
    go_wp2
    go_loopw [50] (fun vi wr => ∃ k : Nat, k ≤ pre.length ∧ vi = .int .i64 (k : Int) ∧ Keep [] (w.alloc (.cells #[.int .i64 3, .int .i64 (i : Int), .int .i64 a2, .int .i64 a3, .int .i64 (ix : Int), .int .i64 (lt : Int), .int .i64 (cm : Int), .bool false, .slice A l.length c, .string { data := #[] }] 56)) wr) (fun vi _ => l.length - (intOf vi).toNat)
    case atStart => first | exact ⟨0, Nat.zero_le _, rfl, (Keep.refl [] _).drewN _⟩ | exact ⟨0, Nat.zero_le _, rfl, HST.out.drewN _⟩
    case round =>
      obtain ⟨k, hk, rfl, hkw⟩ := hrel
      have hk0 : Keep [] w wr := ((Keep.refl [] w).alloc _).trans hkw
      have HB := Lib.hid ((Blk.new w 56 #[.int .i64 3, .int .i64 (i : Int), .int .i64 a2, .int .i64 a3, .int .i64 (ix : Int), .int .i64 (lt : Int), .int .i64 (cm : Int), .bool false, .slice A l.length c, .string { data := #[] }]).keep hkw (by simp))
      have HKW := Lib.hid hkw
      have HK0 := Lib.hid hk0
      have c5 : wr.cell? ⟨V.r, 5, none⟩ = some (.int .i64 (N.st.base : Int)) := (H.out.grow hk0).blk.cell 5
      have c11 : wr.cell? ⟨V.r, 11, none⟩ = some (.int .i64 (N.commit : Int)) := (H.out.grow hk0).blk.cell 11
      have hrl2 : V.r < wr.heap.size := Nat.lt_of_lt_of_le hrl hk0.size
      have hbl : w.heap.size < wr.heap.size := HB.out.lt
      have q4 : wr.cell? ⟨w.heap.size, 4, none⟩ = some (.int .i64 (ix : Int)) := HB.out.cell 4
      have q6 : wr.cell? ⟨w.heap.size, 6, none⟩ = some (.int .i64 (cm : Int)) := HB.out.cell 6
      have q1 : wr.cell? ⟨w.heap.size, 1, none⟩ = some (.int .i64 (i : Int)) := HB.out.cell 1
      have q8 : wr.cell? ⟨w.heap.size, 8, none⟩ = some (.slice A l.length c) := HB.out.cell 8
      clear hkw hk0
      by_cases hkl : k < l.length
      · have hne : l ≠ [] := by intro e; rw [e] at hkl; simp at hkl
        obtain ⟨A1, c1, e1, hcc0⟩ := HV.out
        injection e1 with e1 _ e3
        subst e1 e3
        obtain ⟨g, o, rfl, hcc⟩ := hcc0 hne
        obtain ⟨z0, z1, z2⟩ := entsV_at l k hkl
        have p0 := (HK0.out.cell (p := ⟨g, o + 3 * k, none⟩) (World.block_lt_of_cell? _ _ (hcc _ _ z0)) (by simp)).trans (hcc _ _ z0)
        have p1 := (HK0.out.cell (p := ⟨g, o + (3 * k + 1), none⟩) (World.block_lt_of_cell? _ _ (hcc _ _ z1)) (by simp)).trans (hcc _ _ z1)
        have p2 := (HK0.out.cell (p := ⟨g, o + (3 * k + 2), none⟩) (World.block_lt_of_cell? _ _ (hcc _ _ z2)) (by simp)).trans (hcc _ _ z2)
        rw [Nat.mul_comm] at p0
        rw [Nat.mul_comm, ← Nat.add_assoc] at p1 p2
        have hgl : g < wr.heap.size := World.block_lt_of_cell? _ _ p0
        have d1 : decide ((k : Int) < (l.length : Int)) = true := decide_eq_true (by omega)
        clear z0 z1 z2 hcc0
        rcases Nat.lt_or_ge k pre.length with hkp | hkp
        · have hx : l[k] = pre[k] := by have hl := HL.out; clear HL; subst hl; rw [List.getElem_append_left hkp]
          have hmem : l[k] ∈ pre := by rw [hx]; exact List.getElem_mem hkp
          obtain ⟨b1, b2⟩ := HPRE.out _ hmem
          have b3 := (hok.ok l[k] (List.getElem_mem hkl)).index
          clear hx hmem
          generalize l[k] = x at *
          obtain ⟨xi, xt, xc⟩ := x
          simp only at p0 p1 p2 b1 b2 b3
          have d2 : decide ((xi : Int) ≤ (N.st.base : Int)) = false := decide_eq_false (by omega)
          have d3 : decide (xi ≤ N.st.base) = false := decide_eq_false (by omega)
          have HTX := Lib.hid (fun W hk => HTA.out W hk xi xt b3 b2)
          clear b2 hcc
          go_wp2
          go_quiet (fail)
          have hkx : Keep [] wr ((wr.alloc (.cells #[.int .i64 (xi : Int), .int .i64 (xt : Int), .string (bs xc)] 62)).drewN nq) := ((Keep.refl [] wr).alloc _).drewN _
          have hbx : Blk ((wr.alloc (.cells #[.int .i64 (xi : Int), .int .i64 (xt : Int), .string (bs xc)] 62)).drewN nq) wr.heap.size 62 #[.int .i64 (xi : Int), .int .i64 (xt : Int), .string (bs xc)] := (Blk.new wr 62 #[.int .i64 (xi : Int), .int .i64 (xt : Int), .string (bs xc)]).drewN _
          generalize ((wr.alloc (.cells #[.int .i64 (xi : Int), .int .i64 (xt : Int), .string (bs xc)] 62)).drewN nq) = Wx at *
          have x0 := hbx.cell 0
          have x1 := hbx.cell 1
          simp only [List.getElem?_toArray, List.getElem?_cons_zero, List.getElem?_cons_succ] at x0 x1
          have r1 := (hkx.cell (p := ⟨w.heap.size, 1, none⟩) hbl (by simp)).trans q1
          have r4 := (hkx.cell (p := ⟨w.heap.size, 4, none⟩) hbl (by simp)).trans q4
          have r6 := (hkx.cell (p := ⟨w.heap.size, 6, none⟩) hbl (by simp)).trans q6
          have r8 := (hkx.cell (p := ⟨w.heap.size, 8, none⟩) hbl (by simp)).trans q8
          have HS0 := Lib.hid (fun (W : World) (hk : Keep [] Wx W) => (hbx.keep hk (by simp)).cell 0)
          have HKX := Lib.hid hkx
          clear hkx hbx q1 q4 q6 q8 p0 p1 p2 c5 c11
          go_wp2
          refine wp_region_held_drew (S := fun W' => W'.cell? ⟨wr.heap.size, 0, none⟩ = some (.int .i64 (xi : Int))) (by kernel_rfl) (HS0.out _ (Keep.refl _ _).drew) (fun hHeld => ?_)
          refine wpAnyH_take (i := 0) (v := ?_) (by simp only [List.getElem?_toArray, List.getElem?_cons_zero]; rfl) (by kernel_rfl) (by kernel_rfl) (by kernel_rfl) (by exact fun _ _ _ h => h) ?_ hHeld ?_
          rotate_left
          · refine Or.inl ⟨by rfl, ?_⟩
            rintro W s0
            go_simp
            with_reducible rfl
          try simp only [Act.put, List.setIfInBounds_toArray, List.set_cons_zero, List.set_cons_succ]
          refine wpAnyH_take (i := 1) (v := ?_) (by simp only [List.getElem?_toArray, List.getElem?_cons_succ, List.getElem?_cons_zero]; rfl) (by kernel_rfl) (by kernel_rfl) (by kernel_rfl) (by exact fun _ _ _ h => h) ?_ hHeld ?_
          rotate_left
          · refine Or.inl ⟨by rfl, ?_⟩
            rintro W s0
            go_simp
            with_reducible rfl
          try simp only [Act.put, List.setIfInBounds_toArray, List.set_cons_zero, List.set_cons_succ]
          refine wpAnyH_take (i := 2) (v := ?_) (by simp only [List.getElem?_toArray, List.getElem?_cons_succ, List.getElem?_cons_zero]; rfl) (by kernel_rfl) (by kernel_rfl) (by kernel_rfl) (by exact fun _ _ _ h => h) ?_ hHeld ?_
          rotate_left
          · refine Or.inl ⟨by rfl, ?_⟩
            rintro W s0
            go_simp
            with_reducible rfl
          try simp only [Act.put, List.setIfInBounds_toArray, List.set_cons_zero, List.set_cons_succ]
          refine wpAnyH_take (i := 3) (v := ?_) (by simp only [List.getElem?_toArray, List.getElem?_cons_succ, List.getElem?_cons_zero]; rfl) (by kernel_rfl) (by kernel_rfl) (by kernel_rfl) (by exact fun _ _ _ h => h) ?_ hHeld ?_
          rotate_left
          · refine Or.inl ⟨by rfl, ?_⟩
            rintro W s0
            go_simp
            with_reducible rfl
          try simp only [Act.put, List.setIfInBounds_toArray, List.set_cons_zero, List.set_cons_succ]
          refine wpAnyH_take (i := 4) (v := ?_) (by simp only [List.getElem?_toArray, List.getElem?_cons_succ, List.getElem?_cons_zero]; rfl) (by kernel_rfl) (by kernel_rfl) (by kernel_rfl) (by exact fun _ _ _ h => h) ?_ hHeld ?_
          rotate_left
          · refine Or.inl ⟨by rfl, ?_⟩
            rintro W s0
            go_simp
            with_reducible rfl
          try simp only [Act.put, List.setIfInBounds_toArray, List.set_cons_zero, List.set_cons_succ]
          refine wpAnyH_ready (rs := [5]) (by kernel_rfl) (by simp) (AllReadyH.cons rfl (fun K hK => ?_) AllReadyH.nil)
          go_simp
          go_at_call 47
          refine (HTX.out _ ((HK0.out.trans HKX.out).trans (by repeat (first | exact Keep.refl _ _ | refine Keep.drew ?_ | refine Keep.drewN ?_ _ | refine Keep.alloc ?_ _)))).mono ?_
          rintro e w5 ⟨rfl, n5, rfl⟩
          clear hHeld
          have hHeld := HS0.out (Wx.drew.drewN n5) (by repeat (first | exact Keep.refl _ _ | refine Keep.drew ?_ | refine Keep.drewN ?_ _ | refine Keep.alloc ?_ _))
          go_simp
          refine hK.out _ _ hHeld (fun _ => ?_)
          clear hK K
          try simp only [Act.put, List.setIfInBounds_toArray, List.set_cons_zero, List.set_cons_succ]
          refine wpAnyH_take (i := 6) (v := ?_) (by simp only [List.getElem?_toArray, List.getElem?_cons_succ, List.getElem?_cons_zero]; rfl) (by kernel_rfl) (by kernel_rfl) (by kernel_rfl) (by exact fun _ _ _ h => h) ?_ hHeld ?_
          rotate_left
          · refine Or.inl ⟨by rfl, ?_⟩
            rintro W s0
            go_simp
            with_reducible rfl
          try simp only [Act.put, List.setIfInBounds_toArray, List.set_cons_zero, List.set_cons_succ]
          refine wpAnyH_take (i := 7) (v := ?_) (by simp only [List.getElem?_toArray, List.getElem?_cons_succ, List.getElem?_cons_zero]; rfl) (by kernel_rfl) (by kernel_rfl) (by kernel_rfl) (by exact fun _ _ _ h => h) ?_ hHeld ?_
          rotate_left
          · refine Or.inl ⟨by rfl, ?_⟩
            rintro W s0
            go_simp
            with_reducible rfl
          try simp only [Act.put, List.setIfInBounds_toArray, List.set_cons_zero, List.set_cons_succ]
          refine wpAnyH_take (i := 8) (v := ?_) (by simp only [List.getElem?_toArray, List.getElem?_cons_succ, List.getElem?_cons_zero]; rfl) (by kernel_rfl) (by kernel_rfl) (by kernel_rfl) (by exact fun _ _ _ h => h) ?_ hHeld ?_
          rotate_left
          · refine Or.inl ⟨by rfl, ?_⟩
            rintro W s0
            go_simp
            with_reducible rfl
          try simp only [Act.put, List.setIfInBounds_toArray, List.set_cons_zero, List.set_cons_succ]
          refine wpAnyH_take (i := 9) (v := ?_) (by simp only [List.getElem?_toArray, List.getElem?_cons_succ, List.getElem?_cons_zero]; rfl) (by kernel_rfl) (by kernel_rfl) (by kernel_rfl) (by exact fun _ _ _ h => h) ?_ hHeld ?_
          rotate_left
          · refine Or.inl ⟨by rfl, ?_⟩
            rintro W s0
            go_simp
            with_reducible rfl
          try simp only [Act.put, List.setIfInBounds_toArray, List.set_cons_zero, List.set_cons_succ]
          refine wpAnyH_take (i := 10) (v := ?_) (by simp only [List.getElem?_toArray, List.getElem?_cons_succ, List.getElem?_cons_zero]; rfl) (by kernel_rfl) (by kernel_rfl) (by kernel_rfl) (by exact fun _ _ _ h => h) ?_ hHeld ?_
          rotate_left
          · refine Or.inl ⟨by rfl, ?_⟩
            rintro W s0
            go_simp
            with_reducible rfl
          try simp only [Act.put, List.setIfInBounds_toArray, List.set_cons_zero, List.set_cons_succ]
          refine wpAnyH_done (by kernel_rfl) ?_ _
          go_wp2
          go_roundw
          case rel => exact ⟨k + 1, hkp, by go_num, (HKW.out.trans HKX.out).trans (by repeat (first | exact Keep.refl _ _ | refine Keep.drew ?_ | refine Keep.drewN ?_ _ | refine Keep.alloc ?_ _))⟩
          case measure => simp [intOf]; omega
        · obtain rfl : k = pre.length := Nat.le_antisymm hk hkp
          obtain ⟨y, post', hpc⟩ : ∃ y post', post = y :: post' := by
            cases hp : post with
            | nil => have := HL.out; rw [hp] at this; subst this; simp at hkl
            | cons y p => exact ⟨y, p, rfl⟩
          have hx : l[pre.length] = y := by have hl := HL.out; clear HL; subst hl; rw [List.getElem_append_right (Nat.le_refl _)]; simp [hpc]
          have b1 := HPOST.out y post' hpc
          have HPC := Lib.hid hpc
          clear hpc
          rw [hx] at p0 p1 p2
          have HYX := Lib.hid hx
          clear hx
          obtain ⟨yi, yt, yc⟩ := y
          simp only at p0 p1 p2 b1
          have d2 : decide ((yi : Int) ≤ (N.st.base : Int)) = false := decide_eq_false (by omega)
          have d3 : decide (yi ≤ N.st.base) = false := decide_eq_false (by omega)
          have HTX := Lib.hid (fun W hk => HTN.out W hk yi b1)
          obtain ⟨m, hm⟩ : ∃ m, l.length = m + 1 := ⟨l.length - 1, by omega⟩
          have HPL : Hid (∀ W U, NodeTo V U w W → World.cell? W ⟨g, o + m * 3, none⟩ = some (.int .i64 (lx : Int))) := fun W U ht => by
            have z := (entsV_at l m (by omega)).1
            have e : lx = (l[m]'(by omega)).index := by
              rw [HLX.out]
              unfold lastIx
              have e5 : l[l.length - 1]? = some (l[m]'(by omega)) := by rw [show l.length - 1 = m by omega]; exact List.getElem?_eq_getElem (by omega)
              rw [List.getLast?_eq_getElem?, e5]
            have z1 := hcc _ _ z
            have z2 := (ht.keep.cell (p := ⟨g, o + 3 * m, none⟩) (World.block_lt_of_cell? _ _ z1) (HGN.out g rfl)).trans z1
            rw [e, Nat.mul_comm m 3]
            exact z2
          have hml : m ≤ 1000 := by omega
          have HM := Lib.hid hm
          clear hm
          have hck : ¬ (c = pre.length) := by omega
          have hdp : (post = [] ∧ D' = D) ∨ (post ≠ [] ∧ D.appendLog post = (D', 0)) := hd
          have HREP : Hid (∀ W, Keep [] w W → Calls Tryz.prog 92 #[.pointer (some ⟨V.r, 0, none⟩), .slice (some ⟨g, o + pre.length * 3, none⟩) (l.length - pre.length) (c - pre.length)] W fun e w' => e = .returned (.bool true) ∧ ∃ U, NodeAt w' U (N.grown post) D' ∧ NodeTo V U w w' ∧ (Blk W w.heap.size 56 #[.int .i64 3, .int .i64 (i : Int), .int .i64 a2, .int .i64 a3, .int .i64 (ix : Int), .int .i64 (lt : Int), .int .i64 (cm : Int), .bool false, .slice (some ⟨g, o, none⟩) l.length c, .string { data := #[] }] → Blk w' w.heap.size 56 #[.int .i64 3, .int .i64 (i : Int), .int .i64 a2, .int .i64 a3, .int .i64 (ix : Int), .int .i64 (lt : Int), .int .i64 (cm : Int), .bool false, .slice (some ⟨g, o, none⟩) l.length c, .string { data := #[] }])) := fun W hk => by
            have hl := HL.out
            have hpc := HPC.out
            have hln : l.length - pre.length = (⟨yi, yt, yc⟩ :: post' : List En).length := by rw [hl, ← hpc, List.length_append]; omega
            have hd2 : D.appendLog (⟨yi, yt, yc⟩ :: post') = (D', 0) := by
              rcases hdp with ⟨h1, -⟩ | ⟨-, h1⟩
              · rw [hpc] at h1; cases h1
              · rw [← hpc]; exact h1
            have hE : EntsAt w (.slice (some ⟨g, o + pre.length * 3, none⟩) (⟨yi, yt, yc⟩ :: post' : List En).length (c - pre.length)) (⟨yi, yt, yc⟩ :: post') := ⟨_, _, rfl, fun _ => ⟨g, o + pre.length * 3, rfl, fun j u hu => by
              have := hcc (pre.length * 3 + j) u (by
                have e1 : entsV l = entsV pre ++ entsV (⟨yi, yt, yc⟩ :: post') := by rw [hl, ← hpc]; simp [entsV]
                rw [e1, List.getElem?_append_right (by rw [entsV_len]; omega), entsV_len, Nat.add_sub_cancel_left]
                exact hu)
              rw [Nat.add_assoc]
              exact this⟩⟩
            have hg2 : g ∉ V.fp := HGN.out g rfl
            have hok2 : EnsOk (⟨yi, yt, yc⟩ :: post') := ⟨by rw [← hln]; have := hok.len; omega, fun e he => hok.ok e (by rw [hl, hpc]; exact List.mem_append_right _ he)⟩
            have := replace_calls (H.out.grow hk) hg hS ⟨yi, yt, yc⟩ post' g (o + pre.length * 3) (c - pre.length) (hE.keep_nil hk) hg2 hok2 b1 (by have := congrArg List.length hpc; have h2 := congrArg List.length hl; simp only [List.length_append, List.length_cons] at this h2; omega) hd2
            rw [hln]
            refine this.mono ?_
            rintro e w' ⟨rfl, U, h1, h2⟩
            refine ⟨rfl, U, ?_, (NodeTo.grow V hk).trans h2, fun hb => hb.keep h2.keep (fun hx => by have := HLT.out _ hx; omega)⟩
            rw [hpc]
            exact h1
          have HB1 := Lib.hid b1
          clear hcc b1
          go_wp2
          go_quiet (fail)
          have hkx : Keep [] wr ((wr.alloc (.cells #[.int .i64 (yi : Int), .int .i64 (yt : Int), .string (bs yc)] 62)).drewN nq) := ((Keep.refl [] wr).alloc _).drewN _
          have hbx : Blk ((wr.alloc (.cells #[.int .i64 (yi : Int), .int .i64 (yt : Int), .string (bs yc)] 62)).drewN nq) wr.heap.size 62 #[.int .i64 (yi : Int), .int .i64 (yt : Int), .string (bs yc)] := (Blk.new wr 62 #[.int .i64 (yi : Int), .int .i64 (yt : Int), .string (bs yc)]).drewN _
          generalize ((wr.alloc (.cells #[.int .i64 (yi : Int), .int .i64 (yt : Int), .string (bs yc)] 62)).drewN nq) = Wx at *
          have x0 := hbx.cell 0
          have x1 := hbx.cell 1
          simp only [List.getElem?_toArray, List.getElem?_cons_zero, List.getElem?_cons_succ] at x0 x1
          have r1 := (hkx.cell (p := ⟨w.heap.size, 1, none⟩) hbl (by simp)).trans q1
          have r4 := (hkx.cell (p := ⟨w.heap.size, 4, none⟩) hbl (by simp)).trans q4
          have r6 := (hkx.cell (p := ⟨w.heap.size, 6, none⟩) hbl (by simp)).trans q6
          have r8 := (hkx.cell (p := ⟨w.heap.size, 8, none⟩) hbl (by simp)).trans q8
          have HS0 := Lib.hid (fun (W : World) (hk : Keep [] Wx W) => (hbx.keep hk (by simp)).cell 0)
          have HKX := Lib.hid hkx
          clear hkx hbx q1 q4 q6 q8 p0 p1 p2 c5 c11
          go_wp2
          refine wp_region_held_drew (S := fun W' => W'.cell? ⟨wr.heap.size, 0, none⟩ = some (.int .i64 (yi : Int))) (by kernel_rfl) (HS0.out _ (Keep.refl _ _).drew) (fun hHeld => ?_)
          refine wpAnyH_take (i := 0) (v := ?_) (by simp only [List.getElem?_toArray, List.getElem?_cons_zero]; rfl) (by kernel_rfl) (by kernel_rfl) (by kernel_rfl) (by exact fun _ _ _ h => h) ?_ hHeld ?_
          rotate_left
          · refine Or.inl ⟨by rfl, ?_⟩
            rintro W s0
            go_simp
            with_reducible rfl
          try simp only [Act.put, List.setIfInBounds_toArray, List.set_cons_zero, List.set_cons_succ]
          refine wpAnyH_take (i := 1) (v := ?_) (by simp only [List.getElem?_toArray, List.getElem?_cons_succ, List.getElem?_cons_zero]; rfl) (by kernel_rfl) (by kernel_rfl) (by kernel_rfl) (by exact fun _ _ _ h => h) ?_ hHeld ?_
          rotate_left
          · refine Or.inl ⟨by rfl, ?_⟩
            rintro W s0
            go_simp
            with_reducible rfl
          try simp only [Act.put, List.setIfInBounds_toArray, List.set_cons_zero, List.set_cons_succ]
          refine wpAnyH_take (i := 2) (v := ?_) (by simp only [List.getElem?_toArray, List.getElem?_cons_succ, List.getElem?_cons_zero]; rfl) (by kernel_rfl) (by kernel_rfl) (by kernel_rfl) (by exact fun _ _ _ h => h) ?_ hHeld ?_
          rotate_left
          · refine Or.inl ⟨by rfl, ?_⟩
            rintro W s0
            go_simp
            with_reducible rfl
          try simp only [Act.put, List.setIfInBounds_toArray, List.set_cons_zero, List.set_cons_succ]
          refine wpAnyH_take (i := 3) (v := ?_) (by simp only [List.getElem?_toArray, List.getElem?_cons_succ, List.getElem?_cons_zero]; rfl) (by kernel_rfl) (by kernel_rfl) (by kernel_rfl) (by exact fun _ _ _ h => h) ?_ hHeld ?_
          rotate_left
          · refine Or.inl ⟨by rfl, ?_⟩
            rintro W s0
            go_simp
            with_reducible rfl
          try simp only [Act.put, List.setIfInBounds_toArray, List.set_cons_zero, List.set_cons_succ]
          refine wpAnyH_take (i := 4) (v := ?_) (by simp only [List.getElem?_toArray, List.getElem?_cons_succ, List.getElem?_cons_zero]; rfl) (by kernel_rfl) (by kernel_rfl) (by kernel_rfl) (by exact fun _ _ _ h => h) ?_ hHeld ?_
          rotate_left
          · refine Or.inl ⟨by rfl, ?_⟩
            rintro W s0
            go_simp
            with_reducible rfl
          try simp only [Act.put, List.setIfInBounds_toArray, List.set_cons_zero, List.set_cons_succ]
          refine wpAnyH_ready (rs := [5]) (by kernel_rfl) (by simp) (AllReadyH.cons rfl (fun K hK => ?_) AllReadyH.nil)
          go_simp
          go_at_call 47
          refine (HTX.out _ ((HK0.out.trans HKX.out).trans (by repeat (first | exact Keep.refl _ _ | refine Keep.drew ?_ | refine Keep.drewN ?_ _ | refine Keep.alloc ?_ _)))).mono ?_
          rintro e w5 ⟨rfl, n5, rfl⟩
          clear hHeld
          have hHeld := HS0.out (Wx.drew.drewN n5) (by repeat (first | exact Keep.refl _ _ | refine Keep.drew ?_ | refine Keep.drewN ?_ _ | refine Keep.alloc ?_ _))
          go_simp
          refine hK.out _ _ hHeld (fun _ => ?_)
          clear hK K
          try simp only [Act.put, List.setIfInBounds_toArray, List.set_cons_zero, List.set_cons_succ]
          refine wpAnyH_take (i := 6) (v := ?_) (by simp only [List.getElem?_toArray, List.getElem?_cons_succ, List.getElem?_cons_zero]; rfl) (by kernel_rfl) (by kernel_rfl) (by kernel_rfl) (by exact fun _ _ _ h => h) ?_ hHeld ?_
          rotate_left
          · refine Or.inl ⟨by rfl, ?_⟩
            rintro W s0
            go_simp
            with_reducible rfl
          try simp only [Act.put, List.setIfInBounds_toArray, List.set_cons_zero, List.set_cons_succ]
          refine wpAnyH_take (i := 7) (v := ?_) (by simp only [List.getElem?_toArray, List.getElem?_cons_succ, List.getElem?_cons_zero]; rfl) (by kernel_rfl) (by kernel_rfl) (by kernel_rfl) (by exact fun _ _ _ h => h) ?_ hHeld ?_
          rotate_left
          · refine Or.inl ⟨by rfl, ?_⟩
            rintro W s0
            go_simp
            with_reducible rfl
          try simp only [Act.put, List.setIfInBounds_toArray, List.set_cons_zero, List.set_cons_succ]
          refine wpAnyH_take (i := 8) (v := ?_) (by simp only [List.getElem?_toArray, List.getElem?_cons_succ, List.getElem?_cons_zero]; rfl) (by kernel_rfl) (by kernel_rfl) (by kernel_rfl) (by exact fun _ _ _ h => h) ?_ hHeld ?_
          rotate_left
          · refine Or.inl ⟨by rfl, ?_⟩
            rintro W s0
            go_simp
            with_reducible rfl
          try simp only [Act.put, List.setIfInBounds_toArray, List.set_cons_zero, List.set_cons_succ]
          refine wpAnyH_take (i := 9) (v := ?_) (by simp only [List.getElem?_toArray, List.getElem?_cons_succ, List.getElem?_cons_zero]; rfl) (by kernel_rfl) (by kernel_rfl) (by kernel_rfl) (by exact fun _ _ _ h => h) ?_ hHeld ?_
          rotate_left
          · refine Or.inl ⟨by rfl, ?_⟩
            rintro W s0
            go_simp
            with_reducible rfl
          try simp only [Act.put, List.setIfInBounds_toArray, List.set_cons_zero, List.set_cons_succ]
          refine wpAnyH_take (i := 10) (v := ?_) (by simp only [List.getElem?_toArray, List.getElem?_cons_succ, List.getElem?_cons_zero]; rfl) (by kernel_rfl) (by kernel_rfl) (by kernel_rfl) (by exact fun _ _ _ h => h) ?_ hHeld ?_
          rotate_left
          · refine Or.inl ⟨by rfl, ?_⟩
            rintro W s0
            go_simp
            with_reducible rfl
          try simp only [Act.put, List.setIfInBounds_toArray, List.set_cons_zero, List.set_cons_succ]
          refine wpAnyH_done (by kernel_rfl) ?_ _
          go_wp2_with (first | (go_at_call 92; refine (HREP.out _ (((HK0.out.trans HKX.out).trans (by repeat (first | exact Keep.refl _ _ | refine Keep.drew ?_ | refine Keep.drewN ?_ _ | refine Keep.alloc ?_ _))))).mono ?_; rintro e w6 ⟨rfl, U6, h6, t6, bb6⟩; have b6 := bb6 ((HB.out.keep HKX.out (by simp)).keep (M := []) (by repeat (first | exact Keep.refl _ _ | refine Keep.drew ?_ | refine Keep.drewN ?_ _ | refine Keep.alloc ?_ _)) (by simp)); clear bb6; have q1 : World.cell? w6 ⟨w.heap.size, 1, none⟩ = some (.int .i64 (i : Int)) := b6.cell 1; have q4 : World.cell? w6 ⟨w.heap.size, 4, none⟩ = some (.int .i64 (ix : Int)) := b6.cell 4; have q6 : World.cell? w6 ⟨w.heap.size, 6, none⟩ = some (.int .i64 (cm : Int)) := b6.cell 6; have c11 : World.cell? w6 ⟨V.r, 11, none⟩ = some (.int .i64 (N.commit : Int)) := (by rw [← t6.r]; exact h6.blk.cell 11); have f11 : World.frozen? w6 ⟨V.r, 11, none⟩ = false := (by rw [← t6.r]; exact h6.blk.frozen 11); have hbl6 := b6.lt; have H6 := Lib.hid h6; have HT6 := Lib.hid t6; clear h6; have q8 : World.cell? w6 ⟨w.heap.size, 8, none⟩ = some (.slice (some ⟨g, o, none⟩) (m + 1) c) := (HM.out ▸ b6.cell 8); have pl := HPL.out _ _ t6; have dm1 : decide ((0 : Int) < (m : Int) + 1) = true := decide_eq_true (by omega); have dm2 : (m : Int) < (m : Int) + 1 := (by omega); have wm1 : IntKind.i64.wrap ((m : Int) + 1 - 1) = (m : Int) := (by rw [IntWalk.i64_in _ (by omega)]; omega); have wm2 : IntKind.i64.wrap (m : Int) = (m : Int) := IntWalk.i64_in _ (by omega); clear t6 b6; clear x0 x1 r1 r4 r6 r8) | fail)
          go_region
          go_wp2_with (first
            | (go_at_call 57; refine (HANS.out _ _ (commit_end H6.out HT6.out mc (by repeat (first | exact Keep.refl _ _ | refine Keep.drew ?_ | refine Keep.drewN ?_ _ | refine Keep.alloc ?_ _)) rfl (by repeat (first | exact Keep.refl _ _ | refine Keep.drew ?_ | refine Keep.drewN ?_ _ | refine Keep.alloc ?_ _)))).mono ?_; rintro e w9 ⟨rfl, V9, h9, t9⟩; have H9 := Lib.hid h9; have HT9 := Lib.hid t9; clear h9 t9)
            | fail)
          go_end0
          exact ⟨rfl, V9, H9.out, HT9.out⟩
      · obtain rfl : k = l.length := by have h1 := congrArg List.length HL.out; rw [List.length_append] at h1; omega
        have hpn : post = [] := by have h1 := congrArg List.length HL.out; rw [List.length_append] at h1; exact List.length_eq_zero_iff.1 (by omega)
        obtain ⟨-, rfl⟩ : post = [] ∧ D' = D := by
          rcases hd with h1 | ⟨h1, -⟩
          · exact h1
          · exact absurd hpn h1
        have hgr : N.grown post = N := by rw [hpn]; simp [Rn.grown]
        have h6 : NodeAt wr V (N.grown post) D' := by rw [hgr]; exact H.out.grow HK0.out
        have t6 := NodeTo.grow V HK0.out
        have b6 := HB.out
        have d1 : decide ((l.length : Int) < (l.length : Int)) = false := by simp
        clear hpn hgr hd q1 q4 q6 q8 c5 c11
        have q1 : World.cell? wr ⟨w.heap.size, 1, none⟩ = some (.int .i64 (i : Int)) := b6.cell 1; have q4 : World.cell? wr ⟨w.heap.size, 4, none⟩ = some (.int .i64 (ix : Int)) := b6.cell 4; have q6 : World.cell? wr ⟨w.heap.size, 6, none⟩ = some (.int .i64 (cm : Int)) := b6.cell 6; have c11 : World.cell? wr ⟨V.r, 11, none⟩ = some (.int .i64 (N.commit : Int)) := (by rw [← t6.r]; exact h6.blk.cell 11); have f11 : World.frozen? wr ⟨V.r, 11, none⟩ = false := (by rw [← t6.r]; exact h6.blk.frozen 11); have hbl6 := b6.lt; have H6 := Lib.hid h6; have HT6 := Lib.hid t6; clear h6
        by_cases hne : l = []
        · have hl0 : lx = ix := by rw [HLX.out, hne]; rfl
          have q8 : wr.cell? ⟨w.heap.size, 8, none⟩ = some (.slice A 0 c) := by have := b6.cell 8; rw [hne] at this; exact this
          rw [hne] at d1
          have hle : l.length = 0 := by rw [hne]; rfl
          rw [hl0] at hmx HANS
          clear hl0 t6 b6 hne
          go_wp2
          go_region
          go_wp2_with (first
            | (go_at_call 57; refine (HANS.out _ _ (commit_end H6.out HT6.out mc (by repeat (first | exact Keep.refl _ _ | refine Keep.drew ?_ | refine Keep.drewN ?_ _ | refine Keep.alloc ?_ _)) rfl (by repeat (first | exact Keep.refl _ _ | refine Keep.drew ?_ | refine Keep.drewN ?_ _ | refine Keep.alloc ?_ _)))).mono ?_; rintro e w9 ⟨rfl, V9, h9, t9⟩; have H9 := Lib.hid h9; have HT9 := Lib.hid t9; clear h9 t9)
            | fail)
          go_end0
          exact ⟨rfl, V9, H9.out, HT9.out⟩
        · obtain ⟨A1, c1, e1, hcc0⟩ := HV.out
          injection e1 with e1 _ e3
          subst e1 e3
          obtain ⟨g, o, rfl, hcc⟩ := hcc0 hne
          have hlp : 0 < l.length := List.length_pos_iff.2 hne
          obtain ⟨m, hm⟩ : ∃ m, l.length = m + 1 := ⟨l.length - 1, by omega⟩
          have HPL : Hid (∀ W U, NodeTo V U w W → World.cell? W ⟨g, o + m * 3, none⟩ = some (.int .i64 (lx : Int))) := fun W U ht => by
            have z := (entsV_at l m (by omega)).1
            have e : lx = (l[m]'(by omega)).index := by
              rw [HLX.out]
              unfold lastIx
              have e5 : l[l.length - 1]? = some (l[m]'(by omega)) := by rw [show l.length - 1 = m by omega]; exact List.getElem?_eq_getElem (by omega)
              rw [List.getLast?_eq_getElem?, e5]
            have z1 := hcc _ _ z
            have z2 := (ht.keep.cell (p := ⟨g, o + 3 * m, none⟩) (World.block_lt_of_cell? _ _ z1) (HGN.out g rfl)).trans z1
            rw [e, Nat.mul_comm m 3]
            exact z2
          have hml : m ≤ 1000 := by omega
          have HM := Lib.hid hm
          clear hm
          have q8 : World.cell? wr ⟨w.heap.size, 8, none⟩ = some (.slice (some ⟨g, o, none⟩) (m + 1) c) := (HM.out ▸ b6.cell 8); have pl := HPL.out _ _ t6; have dm1 : decide ((0 : Int) < (m : Int) + 1) = true := decide_eq_true (by omega); have dm2 : (m : Int) < (m : Int) + 1 := (by omega); have wm1 : IntKind.i64.wrap ((m : Int) + 1 - 1) = (m : Int) := (by rw [IntWalk.i64_in _ (by omega)]; omega); have wm2 : IntKind.i64.wrap (m : Int) = (m : Int) := IntWalk.i64_in _ (by omega); clear t6 b6
          rw [HM.out] at d1
          clear hcc hcc0
          go_wp2
          go_region
          go_wp2_with (first
            | (go_at_call 57; refine (HANS.out _ _ (commit_end H6.out HT6.out mc (by repeat (first | exact Keep.refl _ _ | refine Keep.drew ?_ | refine Keep.drewN ?_ _ | refine Keep.alloc ?_ _)) rfl (by repeat (first | exact Keep.refl _ _ | refine Keep.drew ?_ | refine Keep.drewN ?_ _ | refine Keep.alloc ?_ _)))).mono ?_; rintro e w9 ⟨rfl, V9, h9, t9⟩; have H9 := Lib.hid h9; have HT9 := Lib.hid t9; clear h9 t9)
            | fail)
          go_end0
          exact ⟨rfl, V9, H9.out, HT9.out⟩
  · have d0 : decide ((N.st.base : Int) < (ix : Int)) = true := by simp; omega
    have d0' : decide (N.st.base < ix) = true := by simp; omega
    have hit : N.st.termAt ix = some lt := by rcases hix with h | h; exact absurd h hb; exact h
    have HTX := Lib.hid (fun W hk => HTA.out W hk ix lt (by omega) hit)
    go_enter Tryz.func58, Tryz.ntmps58
    go_wp2
    go_quiet (fail)
    have hkx : Keep [] (w.alloc (.cells #[.int .i64 3, .int .i64 (i : Int), .int .i64 a2, .int .i64 a3, .int .i64 (ix : Int), .int .i64 (lt : Int), .int .i64 (cm : Int), .bool false, .slice A l.length c, .string { data := #[] }] 56)) ((w.alloc (.cells #[.int .i64 3, .int .i64 (i : Int), .int .i64 a2, .int .i64 a3, .int .i64 (ix : Int), .int .i64 (lt : Int), .int .i64 (cm : Int), .bool false, .slice A l.length c, .string { data := #[] }] 56)).drewN nq) := (Keep.refl [] _).drewN _
    have hbx : Blk ((w.alloc (.cells #[.int .i64 3, .int .i64 (i : Int), .int .i64 a2, .int .i64 a3, .int .i64 (ix : Int), .int .i64 (lt : Int), .int .i64 (cm : Int), .bool false, .slice A l.length c, .string { data := #[] }] 56)).drewN nq) w.heap.size 56 #[.int .i64 3, .int .i64 (i : Int), .int .i64 a2, .int .i64 a3, .int .i64 (ix : Int), .int .i64 (lt : Int), .int .i64 (cm : Int), .bool false, .slice A l.length c, .string { data := #[] }] := (Blk.new w 56 #[.int .i64 3, .int .i64 (i : Int), .int .i64 a2, .int .i64 a3, .int .i64 (ix : Int), .int .i64 (lt : Int), .int .i64 (cm : Int), .bool false, .slice A l.length c, .string { data := #[] }]).drewN _
    generalize ((w.alloc (.cells #[.int .i64 3, .int .i64 (i : Int), .int .i64 a2, .int .i64 a3, .int .i64 (ix : Int), .int .i64 (lt : Int), .int .i64 (cm : Int), .bool false, .slice A l.length c, .string { data := #[] }] 56)).drewN nq) = Wx at *
    have x4 : Wx.cell? ⟨w.heap.size, 4, none⟩ = some (.int .i64 (ix : Int)) := hbx.cell 4
    have x5 : Wx.cell? ⟨w.heap.size, 5, none⟩ = some (.int .i64 (lt : Int)) := hbx.cell 5
    have x8 : Wx.cell? ⟨w.heap.size, 8, none⟩ = some (.slice A l.length c) := hbx.cell 8
    have HS0 : Hid (∀ W, Keep [] Wx W → World.cell? W ⟨w.heap.size, 4, none⟩ = some (.int .i64 (ix : Int))) := fun W hk => (hbx.keep hk (by simp)).cell 4
    have HKX := Lib.hid hkx
    have HK0 := Lib.hid (((Keep.refl [] w).alloc (.cells #[.int .i64 3, .int .i64 (i : Int), .int .i64 a2, .int .i64 a3, .int .i64 (ix : Int), .int .i64 (lt : Int), .int .i64 (cm : Int), .bool false, .slice A l.length c, .string { data := #[] }] 56)))
    clear hkx hbx
    go_wp2
    refine wp_region_held_drew (S := fun W' => W'.cell? ⟨w.heap.size, 4, none⟩ = some (.int .i64 (ix : Int))) (by kernel_rfl) (HS0.out _ (Keep.refl _ _).drew) (fun hHeld => ?_)
    refine wpAnyH_take (i := 0) (v := ?_) (by simp only [List.getElem?_toArray, List.getElem?_cons_zero]; rfl) (by kernel_rfl) (by kernel_rfl) (by kernel_rfl) (by exact fun _ _ _ h => h) ?_ hHeld ?_
    rotate_left
    · refine Or.inl ⟨by rfl, ?_⟩
      rintro W s0
      go_simp
      with_reducible rfl
    try simp only [Act.put, List.setIfInBounds_toArray, List.set_cons_zero, List.set_cons_succ]
    refine wpAnyH_take (i := 1) (v := ?_) (by simp only [List.getElem?_toArray, List.getElem?_cons_succ, List.getElem?_cons_zero]; rfl) (by kernel_rfl) (by kernel_rfl) (by kernel_rfl) (by exact fun _ _ _ h => h) ?_ hHeld ?_
    rotate_left
    · refine Or.inl ⟨by rfl, ?_⟩
      rintro W s0
      go_simp
      with_reducible rfl
    try simp only [Act.put, List.setIfInBounds_toArray, List.set_cons_zero, List.set_cons_succ]
    refine wpAnyH_take (i := 2) (v := ?_) (by simp only [List.getElem?_toArray, List.getElem?_cons_succ, List.getElem?_cons_zero]; rfl) (by kernel_rfl) (by kernel_rfl) (by kernel_rfl) (by exact fun _ _ _ h => h) ?_ hHeld ?_
    rotate_left
    · refine Or.inl ⟨by rfl, ?_⟩
      rintro W s0
      go_simp
      with_reducible rfl
    try simp only [Act.put, List.setIfInBounds_toArray, List.set_cons_zero, List.set_cons_succ]
    refine wpAnyH_take (i := 3) (v := ?_) (by simp only [List.getElem?_toArray, List.getElem?_cons_succ, List.getElem?_cons_zero]; rfl) (by kernel_rfl) (by kernel_rfl) (by kernel_rfl) (by exact fun _ _ _ h => h) ?_ hHeld ?_
    rotate_left
    · refine Or.inl ⟨by rfl, ?_⟩
      rintro W s0
      go_simp
      with_reducible rfl
    try simp only [Act.put, List.setIfInBounds_toArray, List.set_cons_zero, List.set_cons_succ]
    refine wpAnyH_take (i := 4) (v := ?_) (by simp only [List.getElem?_toArray, List.getElem?_cons_succ, List.getElem?_cons_zero]; rfl) (by kernel_rfl) (by kernel_rfl) (by kernel_rfl) (by exact fun _ _ _ h => h) ?_ hHeld ?_
    rotate_left
    · refine Or.inl ⟨by rfl, ?_⟩
      rintro W s0
      go_simp
      with_reducible rfl
    try simp only [Act.put, List.setIfInBounds_toArray, List.set_cons_zero, List.set_cons_succ]
    refine wpAnyH_ready (rs := [5]) (by kernel_rfl) (by simp) (AllReadyH.cons rfl (fun K hK => ?_) AllReadyH.nil)
    go_simp
    go_at_call 47
    refine (HTX.out _ ((HK0.out.trans HKX.out).trans (by repeat (first | exact Keep.refl _ _ | refine Keep.drew ?_ | refine Keep.drewN ?_ _ | refine Keep.alloc ?_ _)))).mono ?_
    rintro e w5 ⟨rfl, n5, rfl⟩
    clear hHeld
    have hHeld := HS0.out (Wx.drew.drewN n5) (by repeat (first | exact Keep.refl _ _ | refine Keep.drew ?_ | refine Keep.drewN ?_ _ | refine Keep.alloc ?_ _))
    go_simp
    refine hK.out _ _ hHeld (fun _ => ?_)
    clear hK K
    try simp only [Act.put, List.setIfInBounds_toArray, List.set_cons_zero, List.set_cons_succ]
    refine wpAnyH_take (i := 6) (v := ?_) (by simp only [List.getElem?_toArray, List.getElem?_cons_succ, List.getElem?_cons_zero]; rfl) (by kernel_rfl) (by kernel_rfl) (by kernel_rfl) (by exact fun _ _ _ h => h) ?_ hHeld ?_
    rotate_left
    · refine Or.inl ⟨by rfl, ?_⟩
      rintro W s0
      go_simp
      with_reducible rfl
    try simp only [Act.put, List.setIfInBounds_toArray, List.set_cons_zero, List.set_cons_succ]
    refine wpAnyH_take (i := 7) (v := ?_) (by simp only [List.getElem?_toArray, List.getElem?_cons_succ, List.getElem?_cons_zero]; rfl) (by kernel_rfl) (by kernel_rfl) (by kernel_rfl) (by exact fun _ _ _ h => h) ?_ hHeld ?_
    rotate_left
    · refine Or.inl ⟨by rfl, ?_⟩
      rintro W s0
      go_simp
      with_reducible rfl
    try simp only [Act.put, List.setIfInBounds_toArray, List.set_cons_zero, List.set_cons_succ]
    refine wpAnyH_take (i := 8) (v := ?_) (by simp only [List.getElem?_toArray, List.getElem?_cons_succ, List.getElem?_cons_zero]; rfl) (by kernel_rfl) (by kernel_rfl) (by kernel_rfl) (by exact fun _ _ _ h => h) ?_ hHeld ?_
    rotate_left
    · refine Or.inl ⟨by rfl, ?_⟩
      rintro W s0
      go_simp
      with_reducible rfl
    try simp only [Act.put, List.setIfInBounds_toArray, List.set_cons_zero, List.set_cons_succ]
    refine wpAnyH_take (i := 9) (v := ?_) (by simp only [List.getElem?_toArray, List.getElem?_cons_succ, List.getElem?_cons_zero]; rfl) (by kernel_rfl) (by kernel_rfl) (by kernel_rfl) (by exact fun _ _ _ h => h) ?_ hHeld ?_
    rotate_left
    · refine Or.inl ⟨by rfl, ?_⟩
      rintro W s0
      go_simp
      with_reducible rfl
    try simp only [Act.put, List.setIfInBounds_toArray, List.set_cons_zero, List.set_cons_succ]
    refine wpAnyH_take (i := 10) (v := ?_) (by simp only [List.getElem?_toArray, List.getElem?_cons_succ, List.getElem?_cons_zero]; rfl) (by kernel_rfl) (by kernel_rfl) (by kernel_rfl) (by exact fun _ _ _ h => h) ?_ hHeld ?_
    rotate_left
    · refine Or.inl ⟨by rfl, ?_⟩
      rintro W s0
      go_simp
      with_reducible rfl
    try simp only [Act.put, List.setIfInBounds_toArray, List.set_cons_zero, List.set_cons_succ]
    refine wpAnyH_done (by kernel_rfl) ?_ _
    go_wp2
    have HST := HKX
    clear HK0 HKX HS0 HTX x4 x5 x8 hHeld
    go_loopw [50] (fun vi wr => ∃ k : Nat, k ≤ pre.length ∧ vi = .int .i64 (k : Int) ∧ Keep [] (w.alloc (.cells #[.int .i64 3, .int .i64 (i : Int), .int .i64 a2, .int .i64 a3, .int .i64 (ix : Int), .int .i64 (lt : Int), .int .i64 (cm : Int), .bool false, .slice A l.length c, .string { data := #[] }] 56)) wr) (fun vi _ => l.length - (intOf vi).toNat)
    case atStart => first | exact ⟨0, Nat.zero_le _, rfl, (Keep.refl [] _).drewN _⟩ | exact ⟨0, Nat.zero_le _, rfl, HST.out.drewN _⟩
    case round =>
      obtain ⟨k, hk, rfl, hkw⟩ := hrel
      have hk0 : Keep [] w wr := ((Keep.refl [] w).alloc _).trans hkw
      have HB := Lib.hid ((Blk.new w 56 #[.int .i64 3, .int .i64 (i : Int), .int .i64 a2, .int .i64 a3, .int .i64 (ix : Int), .int .i64 (lt : Int), .int .i64 (cm : Int), .bool false, .slice A l.length c, .string { data := #[] }]).keep hkw (by simp))
      have HKW := Lib.hid hkw
      have HK0 := Lib.hid hk0
      have c5 : wr.cell? ⟨V.r, 5, none⟩ = some (.int .i64 (N.st.base : Int)) := (H.out.grow hk0).blk.cell 5
      have c11 : wr.cell? ⟨V.r, 11, none⟩ = some (.int .i64 (N.commit : Int)) := (H.out.grow hk0).blk.cell 11
      have hrl2 : V.r < wr.heap.size := Nat.lt_of_lt_of_le hrl hk0.size
      have hbl : w.heap.size < wr.heap.size := HB.out.lt
      have q4 : wr.cell? ⟨w.heap.size, 4, none⟩ = some (.int .i64 (ix : Int)) := HB.out.cell 4
      have q6 : wr.cell? ⟨w.heap.size, 6, none⟩ = some (.int .i64 (cm : Int)) := HB.out.cell 6
      have q1 : wr.cell? ⟨w.heap.size, 1, none⟩ = some (.int .i64 (i : Int)) := HB.out.cell 1
      have q8 : wr.cell? ⟨w.heap.size, 8, none⟩ = some (.slice A l.length c) := HB.out.cell 8
      clear hkw hk0
      by_cases hkl : k < l.length
      · have hne : l ≠ [] := by intro e; rw [e] at hkl; simp at hkl
        obtain ⟨A1, c1, e1, hcc0⟩ := HV.out
        injection e1 with e1 _ e3
        subst e1 e3
        obtain ⟨g, o, rfl, hcc⟩ := hcc0 hne
        obtain ⟨z0, z1, z2⟩ := entsV_at l k hkl
        have p0 := (HK0.out.cell (p := ⟨g, o + 3 * k, none⟩) (World.block_lt_of_cell? _ _ (hcc _ _ z0)) (by simp)).trans (hcc _ _ z0)
        have p1 := (HK0.out.cell (p := ⟨g, o + (3 * k + 1), none⟩) (World.block_lt_of_cell? _ _ (hcc _ _ z1)) (by simp)).trans (hcc _ _ z1)
        have p2 := (HK0.out.cell (p := ⟨g, o + (3 * k + 2), none⟩) (World.block_lt_of_cell? _ _ (hcc _ _ z2)) (by simp)).trans (hcc _ _ z2)
        rw [Nat.mul_comm] at p0
        rw [Nat.mul_comm, ← Nat.add_assoc] at p1 p2
        have hgl : g < wr.heap.size := World.block_lt_of_cell? _ _ p0
        have d1 : decide ((k : Int) < (l.length : Int)) = true := decide_eq_true (by omega)
        clear z0 z1 z2 hcc0
        rcases Nat.lt_or_ge k pre.length with hkp | hkp
        · have hx : l[k] = pre[k] := by have hl := HL.out; clear HL; subst hl; rw [List.getElem_append_left hkp]
          have hmem : l[k] ∈ pre := by rw [hx]; exact List.getElem_mem hkp
          obtain ⟨b1, b2⟩ := HPRE.out _ hmem
          have b3 := (hok.ok l[k] (List.getElem_mem hkl)).index
          clear hx hmem
          generalize l[k] = x at *
          obtain ⟨xi, xt, xc⟩ := x
          simp only at p0 p1 p2 b1 b2 b3
          have d2 : decide ((xi : Int) ≤ (N.st.base : Int)) = false := decide_eq_false (by omega)
          have d3 : decide (xi ≤ N.st.base) = false := decide_eq_false (by omega)
          have HTX := Lib.hid (fun W hk => HTA.out W hk xi xt b3 b2)
          clear b2 hcc
          go_wp2
          go_quiet (fail)
          have hkx : Keep [] wr ((wr.alloc (.cells #[.int .i64 (xi : Int), .int .i64 (xt : Int), .string (bs xc)] 62)).drewN nq) := ((Keep.refl [] wr).alloc _).drewN _
          have hbx : Blk ((wr.alloc (.cells #[.int .i64 (xi : Int), .int .i64 (xt : Int), .string (bs xc)] 62)).drewN nq) wr.heap.size 62 #[.int .i64 (xi : Int), .int .i64 (xt : Int), .string (bs xc)] := (Blk.new wr 62 #[.int .i64 (xi : Int), .int .i64 (xt : Int), .string (bs xc)]).drewN _
          generalize ((wr.alloc (.cells #[.int .i64 (xi : Int), .int .i64 (xt : Int), .string (bs xc)] 62)).drewN nq) = Wx at *
          have x0 := hbx.cell 0
          have x1 := hbx.cell 1
          simp only [List.getElem?_toArray, List.getElem?_cons_zero, List.getElem?_cons_succ] at x0 x1
          have r1 := (hkx.cell (p := ⟨w.heap.size, 1, none⟩) hbl (by simp)).trans q1
          have r4 := (hkx.cell (p := ⟨w.heap.size, 4, none⟩) hbl (by simp)).trans q4
          have r6 := (hkx.cell (p := ⟨w.heap.size, 6, none⟩) hbl (by simp)).trans q6
          have r8 := (hkx.cell (p := ⟨w.heap.size, 8, none⟩) hbl (by simp)).trans q8
          have HS0 := Lib.hid (fun (W : World) (hk : Keep [] Wx W) => (hbx.keep hk (by simp)).cell 0)
          have HKX := Lib.hid hkx
          clear hkx hbx q1 q4 q6 q8 p0 p1 p2 c5 c11
          go_wp2
          refine wp_region_held_drew (S := fun W' => W'.cell? ⟨wr.heap.size, 0, none⟩ = some (.int .i64 (xi : Int))) (by kernel_rfl) (HS0.out _ (Keep.refl _ _).drew) (fun hHeld => ?_)
          refine wpAnyH_take (i := 0) (v := ?_) (by simp only [List.getElem?_toArray, List.getElem?_cons_zero]; rfl) (by kernel_rfl) (by kernel_rfl) (by kernel_rfl) (by exact fun _ _ _ h => h) ?_ hHeld ?_
          rotate_left
          · refine Or.inl ⟨by rfl, ?_⟩
            rintro W s0
            go_simp
            with_reducible rfl
          try simp only [Act.put, List.setIfInBounds_toArray, List.set_cons_zero, List.set_cons_succ]
          refine wpAnyH_take (i := 1) (v := ?_) (by simp only [List.getElem?_toArray, List.getElem?_cons_succ, List.getElem?_cons_zero]; rfl) (by kernel_rfl) (by kernel_rfl) (by kernel_rfl) (by exact fun _ _ _ h => h) ?_ hHeld ?_
          rotate_left
          · refine Or.inl ⟨by rfl, ?_⟩
            rintro W s0
            go_simp
            with_reducible rfl
          try simp only [Act.put, List.setIfInBounds_toArray, List.set_cons_zero, List.set_cons_succ]
          refine wpAnyH_take (i := 2) (v := ?_) (by simp only [List.getElem?_toArray, List.getElem?_cons_succ, List.getElem?_cons_zero]; rfl) (by kernel_rfl) (by kernel_rfl) (by kernel_rfl) (by exact fun _ _ _ h => h) ?_ hHeld ?_
          rotate_left
          · refine Or.inl ⟨by rfl, ?_⟩
            rintro W s0
            go_simp
            with_reducible rfl
          try simp only [Act.put, List.setIfInBounds_toArray, List.set_cons_zero, List.set_cons_succ]
          refine wpAnyH_take (i := 3) (v := ?_) (by simp only [List.getElem?_toArray, List.getElem?_cons_succ, List.getElem?_cons_zero]; rfl) (by kernel_rfl) (by kernel_rfl) (by kernel_rfl) (by exact fun _ _ _ h => h) ?_ hHeld ?_
          rotate_left
          · refine Or.inl ⟨by rfl, ?_⟩
            rintro W s0
            go_simp
            with_reducible rfl
          try simp only [Act.put, List.setIfInBounds_toArray, List.set_cons_zero, List.set_cons_succ]
          refine wpAnyH_take (i := 4) (v := ?_) (by simp only [List.getElem?_toArray, List.getElem?_cons_succ, List.getElem?_cons_zero]; rfl) (by kernel_rfl) (by kernel_rfl) (by kernel_rfl) (by exact fun _ _ _ h => h) ?_ hHeld ?_
          rotate_left
          · refine Or.inl ⟨by rfl, ?_⟩
            rintro W s0
            go_simp
            with_reducible rfl
          try simp only [Act.put, List.setIfInBounds_toArray, List.set_cons_zero, List.set_cons_succ]
          refine wpAnyH_ready (rs := [5]) (by kernel_rfl) (by simp) (AllReadyH.cons rfl (fun K hK => ?_) AllReadyH.nil)
          go_simp
          go_at_call 47
          refine (HTX.out _ ((HK0.out.trans HKX.out).trans (by repeat (first | exact Keep.refl _ _ | refine Keep.drew ?_ | refine Keep.drewN ?_ _ | refine Keep.alloc ?_ _)))).mono ?_
          rintro e w5 ⟨rfl, n5, rfl⟩
          clear hHeld
          have hHeld := HS0.out (Wx.drew.drewN n5) (by repeat (first | exact Keep.refl _ _ | refine Keep.drew ?_ | refine Keep.drewN ?_ _ | refine Keep.alloc ?_ _))
          go_simp
          refine hK.out _ _ hHeld (fun _ => ?_)
          clear hK K
          try simp only [Act.put, List.setIfInBounds_toArray, List.set_cons_zero, List.set_cons_succ]
          refine wpAnyH_take (i := 6) (v := ?_) (by simp only [List.getElem?_toArray, List.getElem?_cons_succ, List.getElem?_cons_zero]; rfl) (by kernel_rfl) (by kernel_rfl) (by kernel_rfl) (by exact fun _ _ _ h => h) ?_ hHeld ?_
          rotate_left
          · refine Or.inl ⟨by rfl, ?_⟩
            rintro W s0
            go_simp
            with_reducible rfl
          try simp only [Act.put, List.setIfInBounds_toArray, List.set_cons_zero, List.set_cons_succ]
          refine wpAnyH_take (i := 7) (v := ?_) (by simp only [List.getElem?_toArray, List.getElem?_cons_succ, List.getElem?_cons_zero]; rfl) (by kernel_rfl) (by kernel_rfl) (by kernel_rfl) (by exact fun _ _ _ h => h) ?_ hHeld ?_
          rotate_left
          · refine Or.inl ⟨by rfl, ?_⟩
            rintro W s0
            go_simp
            with_reducible rfl
          try simp only [Act.put, List.setIfInBounds_toArray, List.set_cons_zero, List.set_cons_succ]
          refine wpAnyH_take (i := 8) (v := ?_) (by simp only [List.getElem?_toArray, List.getElem?_cons_succ, List.getElem?_cons_zero]; rfl) (by kernel_rfl) (by kernel_rfl) (by kernel_rfl) (by exact fun _ _ _ h => h) ?_ hHeld ?_
          rotate_left
          · refine Or.inl ⟨by rfl, ?_⟩
            rintro W s0
            go_simp
            with_reducible rfl
          try simp only [Act.put, List.setIfInBounds_toArray, List.set_cons_zero, List.set_cons_succ]
          refine wpAnyH_take (i := 9) (v := ?_) (by simp only [List.getElem?_toArray, List.getElem?_cons_succ, List.getElem?_cons_zero]; rfl) (by kernel_rfl) (by kernel_rfl) (by kernel_rfl) (by exact fun _ _ _ h => h) ?_ hHeld ?_
          rotate_left
          · refine Or.inl ⟨by rfl, ?_⟩
            rintro W s0
            go_simp
            with_reducible rfl
          try simp only [Act.put, List.setIfInBounds_toArray, List.set_cons_zero, List.set_cons_succ]
          refine wpAnyH_take (i := 10) (v := ?_) (by simp only [List.getElem?_toArray, List.getElem?_cons_succ, List.getElem?_cons_zero]; rfl) (by kernel_rfl) (by kernel_rfl) (by kernel_rfl) (by exact fun _ _ _ h => h) ?_ hHeld ?_
          rotate_left
          · refine Or.inl ⟨by rfl, ?_⟩
            rintro W s0
            go_simp
            with_reducible rfl
          try simp only [Act.put, List.setIfInBounds_toArray, List.set_cons_zero, List.set_cons_succ]
          refine wpAnyH_done (by kernel_rfl) ?_ _
          go_wp2
          go_roundw
          case rel => exact ⟨k + 1, hkp, by go_num, (HKW.out.trans HKX.out).trans (by repeat (first | exact Keep.refl _ _ | refine Keep.drew ?_ | refine Keep.drewN ?_ _ | refine Keep.alloc ?_ _))⟩
          case measure => simp [intOf]; omega
        · obtain rfl : k = pre.length := Nat.le_antisymm hk hkp
          obtain ⟨y, post', hpc⟩ : ∃ y post', post = y :: post' := by
            cases hp : post with
            | nil => have := HL.out; rw [hp] at this; subst this; simp at hkl
            | cons y p => exact ⟨y, p, rfl⟩
          have hx : l[pre.length] = y := by have hl := HL.out; clear HL; subst hl; rw [List.getElem_append_right (Nat.le_refl _)]; simp [hpc]
          have b1 := HPOST.out y post' hpc
          have HPC := Lib.hid hpc
          clear hpc
          rw [hx] at p0 p1 p2
          have HYX := Lib.hid hx
          clear hx
          obtain ⟨yi, yt, yc⟩ := y
          simp only at p0 p1 p2 b1
          have d2 : decide ((yi : Int) ≤ (N.st.base : Int)) = false := decide_eq_false (by omega)
          have d3 : decide (yi ≤ N.st.base) = false := decide_eq_false (by omega)
          have HTX := Lib.hid (fun W hk => HTN.out W hk yi b1)
          obtain ⟨m, hm⟩ : ∃ m, l.length = m + 1 := ⟨l.length - 1, by omega⟩
          have HPL : Hid (∀ W U, NodeTo V U w W → World.cell? W ⟨g, o + m * 3, none⟩ = some (.int .i64 (lx : Int))) := fun W U ht => by
            have z := (entsV_at l m (by omega)).1
            have e : lx = (l[m]'(by omega)).index := by
              rw [HLX.out]
              unfold lastIx
              have e5 : l[l.length - 1]? = some (l[m]'(by omega)) := by rw [show l.length - 1 = m by omega]; exact List.getElem?_eq_getElem (by omega)
              rw [List.getLast?_eq_getElem?, e5]
            have z1 := hcc _ _ z
            have z2 := (ht.keep.cell (p := ⟨g, o + 3 * m, none⟩) (World.block_lt_of_cell? _ _ z1) (HGN.out g rfl)).trans z1
            rw [e, Nat.mul_comm m 3]
            exact z2
          have hml : m ≤ 1000 := by omega
          have HM := Lib.hid hm
          clear hm
          have hck : ¬ (c = pre.length) := by omega
          have hdp : (post = [] ∧ D' = D) ∨ (post ≠ [] ∧ D.appendLog post = (D', 0)) := hd
          have HREP : Hid (∀ W, Keep [] w W → Calls Tryz.prog 92 #[.pointer (some ⟨V.r, 0, none⟩), .slice (some ⟨g, o + pre.length * 3, none⟩) (l.length - pre.length) (c - pre.length)] W fun e w' => e = .returned (.bool true) ∧ ∃ U, NodeAt w' U (N.grown post) D' ∧ NodeTo V U w w' ∧ (Blk W w.heap.size 56 #[.int .i64 3, .int .i64 (i : Int), .int .i64 a2, .int .i64 a3, .int .i64 (ix : Int), .int .i64 (lt : Int), .int .i64 (cm : Int), .bool false, .slice (some ⟨g, o, none⟩) l.length c, .string { data := #[] }] → Blk w' w.heap.size 56 #[.int .i64 3, .int .i64 (i : Int), .int .i64 a2, .int .i64 a3, .int .i64 (ix : Int), .int .i64 (lt : Int), .int .i64 (cm : Int), .bool false, .slice (some ⟨g, o, none⟩) l.length c, .string { data := #[] }])) := fun W hk => by
            have hl := HL.out
            have hpc := HPC.out
            have hln : l.length - pre.length = (⟨yi, yt, yc⟩ :: post' : List En).length := by rw [hl, ← hpc, List.length_append]; omega
            have hd2 : D.appendLog (⟨yi, yt, yc⟩ :: post') = (D', 0) := by
              rcases hdp with ⟨h1, -⟩ | ⟨-, h1⟩
              · rw [hpc] at h1; cases h1
              · rw [← hpc]; exact h1
            have hE : EntsAt w (.slice (some ⟨g, o + pre.length * 3, none⟩) (⟨yi, yt, yc⟩ :: post' : List En).length (c - pre.length)) (⟨yi, yt, yc⟩ :: post') := ⟨_, _, rfl, fun _ => ⟨g, o + pre.length * 3, rfl, fun j u hu => by
              have := hcc (pre.length * 3 + j) u (by
                have e1 : entsV l = entsV pre ++ entsV (⟨yi, yt, yc⟩ :: post') := by rw [hl, ← hpc]; simp [entsV]
                rw [e1, List.getElem?_append_right (by rw [entsV_len]; omega), entsV_len, Nat.add_sub_cancel_left]
                exact hu)
              rw [Nat.add_assoc]
              exact this⟩⟩
            have hg2 : g ∉ V.fp := HGN.out g rfl
            have hok2 : EnsOk (⟨yi, yt, yc⟩ :: post') := ⟨by rw [← hln]; have := hok.len; omega, fun e he => hok.ok e (by rw [hl, hpc]; exact List.mem_append_right _ he)⟩
            have := replace_calls (H.out.grow hk) hg hS ⟨yi, yt, yc⟩ post' g (o + pre.length * 3) (c - pre.length) (hE.keep_nil hk) hg2 hok2 b1 (by have := congrArg List.length hpc; have h2 := congrArg List.length hl; simp only [List.length_append, List.length_cons] at this h2; omega) hd2
            rw [hln]
            refine this.mono ?_
            rintro e w' ⟨rfl, U, h1, h2⟩
            refine ⟨rfl, U, ?_, (NodeTo.grow V hk).trans h2, fun hb => hb.keep h2.keep (fun hx => by have := HLT.out _ hx; omega)⟩
            rw [hpc]
            exact h1
          have HB1 := Lib.hid b1
          clear hcc b1
          go_wp2
          go_quiet (fail)
          have hkx : Keep [] wr ((wr.alloc (.cells #[.int .i64 (yi : Int), .int .i64 (yt : Int), .string (bs yc)] 62)).drewN nq) := ((Keep.refl [] wr).alloc _).drewN _
          have hbx : Blk ((wr.alloc (.cells #[.int .i64 (yi : Int), .int .i64 (yt : Int), .string (bs yc)] 62)).drewN nq) wr.heap.size 62 #[.int .i64 (yi : Int), .int .i64 (yt : Int), .string (bs yc)] := (Blk.new wr 62 #[.int .i64 (yi : Int), .int .i64 (yt : Int), .string (bs yc)]).drewN _
          generalize ((wr.alloc (.cells #[.int .i64 (yi : Int), .int .i64 (yt : Int), .string (bs yc)] 62)).drewN nq) = Wx at *
          have x0 := hbx.cell 0
          have x1 := hbx.cell 1
          simp only [List.getElem?_toArray, List.getElem?_cons_zero, List.getElem?_cons_succ] at x0 x1
          have r1 := (hkx.cell (p := ⟨w.heap.size, 1, none⟩) hbl (by simp)).trans q1
          have r4 := (hkx.cell (p := ⟨w.heap.size, 4, none⟩) hbl (by simp)).trans q4
          have r6 := (hkx.cell (p := ⟨w.heap.size, 6, none⟩) hbl (by simp)).trans q6
          have r8 := (hkx.cell (p := ⟨w.heap.size, 8, none⟩) hbl (by simp)).trans q8
          have HS0 := Lib.hid (fun (W : World) (hk : Keep [] Wx W) => (hbx.keep hk (by simp)).cell 0)
          have HKX := Lib.hid hkx
          clear hkx hbx q1 q4 q6 q8 p0 p1 p2 c5 c11
          go_wp2
          refine wp_region_held_drew (S := fun W' => W'.cell? ⟨wr.heap.size, 0, none⟩ = some (.int .i64 (yi : Int))) (by kernel_rfl) (HS0.out _ (Keep.refl _ _).drew) (fun hHeld => ?_)
          refine wpAnyH_take (i := 0) (v := ?_) (by simp only [List.getElem?_toArray, List.getElem?_cons_zero]; rfl) (by kernel_rfl) (by kernel_rfl) (by kernel_rfl) (by exact fun _ _ _ h => h) ?_ hHeld ?_
          rotate_left
          · refine Or.inl ⟨by rfl, ?_⟩
            rintro W s0
            go_simp
            with_reducible rfl
          try simp only [Act.put, List.setIfInBounds_toArray, List.set_cons_zero, List.set_cons_succ]
          refine wpAnyH_take (i := 1) (v := ?_) (by simp only [List.getElem?_toArray, List.getElem?_cons_succ, List.getElem?_cons_zero]; rfl) (by kernel_rfl) (by kernel_rfl) (by kernel_rfl) (by exact fun _ _ _ h => h) ?_ hHeld ?_
          rotate_left
          · refine Or.inl ⟨by rfl, ?_⟩
            rintro W s0
            go_simp
            with_reducible rfl
          try simp only [Act.put, List.setIfInBounds_toArray, List.set_cons_zero, List.set_cons_succ]
          refine wpAnyH_take (i := 2) (v := ?_) (by simp only [List.getElem?_toArray, List.getElem?_cons_succ, List.getElem?_cons_zero]; rfl) (by kernel_rfl) (by kernel_rfl) (by kernel_rfl) (by exact fun _ _ _ h => h) ?_ hHeld ?_
          rotate_left
          · refine Or.inl ⟨by rfl, ?_⟩
            rintro W s0
            go_simp
            with_reducible rfl
          try simp only [Act.put, List.setIfInBounds_toArray, List.set_cons_zero, List.set_cons_succ]
          refine wpAnyH_take (i := 3) (v := ?_) (by simp only [List.getElem?_toArray, List.getElem?_cons_succ, List.getElem?_cons_zero]; rfl) (by kernel_rfl) (by kernel_rfl) (by kernel_rfl) (by exact fun _ _ _ h => h) ?_ hHeld ?_
          rotate_left
          · refine Or.inl ⟨by rfl, ?_⟩
            rintro W s0
            go_simp
            with_reducible rfl
          try simp only [Act.put, List.setIfInBounds_toArray, List.set_cons_zero, List.set_cons_succ]
          refine wpAnyH_take (i := 4) (v := ?_) (by simp only [List.getElem?_toArray, List.getElem?_cons_succ, List.getElem?_cons_zero]; rfl) (by kernel_rfl) (by kernel_rfl) (by kernel_rfl) (by exact fun _ _ _ h => h) ?_ hHeld ?_
          rotate_left
          · refine Or.inl ⟨by rfl, ?_⟩
            rintro W s0
            go_simp
            with_reducible rfl
          try simp only [Act.put, List.setIfInBounds_toArray, List.set_cons_zero, List.set_cons_succ]
          refine wpAnyH_ready (rs := [5]) (by kernel_rfl) (by simp) (AllReadyH.cons rfl (fun K hK => ?_) AllReadyH.nil)
          go_simp
          go_at_call 47
          refine (HTX.out _ ((HK0.out.trans HKX.out).trans (by repeat (first | exact Keep.refl _ _ | refine Keep.drew ?_ | refine Keep.drewN ?_ _ | refine Keep.alloc ?_ _)))).mono ?_
          rintro e w5 ⟨rfl, n5, rfl⟩
          clear hHeld
          have hHeld := HS0.out (Wx.drew.drewN n5) (by repeat (first | exact Keep.refl _ _ | refine Keep.drew ?_ | refine Keep.drewN ?_ _ | refine Keep.alloc ?_ _))
          go_simp
          refine hK.out _ _ hHeld (fun _ => ?_)
          clear hK K
          try simp only [Act.put, List.setIfInBounds_toArray, List.set_cons_zero, List.set_cons_succ]
          refine wpAnyH_take (i := 6) (v := ?_) (by simp only [List.getElem?_toArray, List.getElem?_cons_succ, List.getElem?_cons_zero]; rfl) (by kernel_rfl) (by kernel_rfl) (by kernel_rfl) (by exact fun _ _ _ h => h) ?_ hHeld ?_
          rotate_left
          · refine Or.inl ⟨by rfl, ?_⟩
            rintro W s0
            go_simp
            with_reducible rfl
          try simp only [Act.put, List.setIfInBounds_toArray, List.set_cons_zero, List.set_cons_succ]
          refine wpAnyH_take (i := 7) (v := ?_) (by simp only [List.getElem?_toArray, List.getElem?_cons_succ, List.getElem?_cons_zero]; rfl) (by kernel_rfl) (by kernel_rfl) (by kernel_rfl) (by exact fun _ _ _ h => h) ?_ hHeld ?_
          rotate_left
          · refine Or.inl ⟨by rfl, ?_⟩
            rintro W s0
            go_simp
            with_reducible rfl
          try simp only [Act.put, List.setIfInBounds_toArray, List.set_cons_zero, List.set_cons_succ]
          refine wpAnyH_take (i := 8) (v := ?_) (by simp only [List.getElem?_toArray, List.getElem?_cons_succ, List.getElem?_cons_zero]; rfl) (by kernel_rfl) (by kernel_rfl) (by kernel_rfl) (by exact fun _ _ _ h => h) ?_ hHeld ?_
          rotate_left
          · refine Or.inl ⟨by rfl, ?_⟩
            rintro W s0
            go_simp
            with_reducible rfl
          try simp only [Act.put, List.setIfInBounds_toArray, List.set_cons_zero, List.set_cons_succ]
          refine wpAnyH_take (i := 9) (v := ?_) (by simp only [List.getElem?_toArray, List.getElem?_cons_succ, List.getElem?_cons_zero]; rfl) (by kernel_rfl) (by kernel_rfl) (by kernel_rfl) (by exact fun _ _ _ h => h) ?_ hHeld ?_
          rotate_left
          · refine Or.inl ⟨by rfl, ?_⟩
            rintro W s0
            go_simp
            with_reducible rfl
          try simp only [Act.put, List.setIfInBounds_toArray, List.set_cons_zero, List.set_cons_succ]
          refine wpAnyH_take (i := 10) (v := ?_) (by simp only [List.getElem?_toArray, List.getElem?_cons_succ, List.getElem?_cons_zero]; rfl) (by kernel_rfl) (by kernel_rfl) (by kernel_rfl) (by exact fun _ _ _ h => h) ?_ hHeld ?_
          rotate_left
          · refine Or.inl ⟨by rfl, ?_⟩
            rintro W s0
            go_simp
            with_reducible rfl
          try simp only [Act.put, List.setIfInBounds_toArray, List.set_cons_zero, List.set_cons_succ]
          refine wpAnyH_done (by kernel_rfl) ?_ _
          go_wp2_with (first | (go_at_call 92; refine (HREP.out _ (((HK0.out.trans HKX.out).trans (by repeat (first | exact Keep.refl _ _ | refine Keep.drew ?_ | refine Keep.drewN ?_ _ | refine Keep.alloc ?_ _))))).mono ?_; rintro e w6 ⟨rfl, U6, h6, t6, bb6⟩; have b6 := bb6 ((HB.out.keep HKX.out (by simp)).keep (M := []) (by repeat (first | exact Keep.refl _ _ | refine Keep.drew ?_ | refine Keep.drewN ?_ _ | refine Keep.alloc ?_ _)) (by simp)); clear bb6; have q1 : World.cell? w6 ⟨w.heap.size, 1, none⟩ = some (.int .i64 (i : Int)) := b6.cell 1; have q4 : World.cell? w6 ⟨w.heap.size, 4, none⟩ = some (.int .i64 (ix : Int)) := b6.cell 4; have q6 : World.cell? w6 ⟨w.heap.size, 6, none⟩ = some (.int .i64 (cm : Int)) := b6.cell 6; have c11 : World.cell? w6 ⟨V.r, 11, none⟩ = some (.int .i64 (N.commit : Int)) := (by rw [← t6.r]; exact h6.blk.cell 11); have f11 : World.frozen? w6 ⟨V.r, 11, none⟩ = false := (by rw [← t6.r]; exact h6.blk.frozen 11); have hbl6 := b6.lt; have H6 := Lib.hid h6; have HT6 := Lib.hid t6; clear h6; have q8 : World.cell? w6 ⟨w.heap.size, 8, none⟩ = some (.slice (some ⟨g, o, none⟩) (m + 1) c) := (HM.out ▸ b6.cell 8); have pl := HPL.out _ _ t6; have dm1 : decide ((0 : Int) < (m : Int) + 1) = true := decide_eq_true (by omega); have dm2 : (m : Int) < (m : Int) + 1 := (by omega); have wm1 : IntKind.i64.wrap ((m : Int) + 1 - 1) = (m : Int) := (by rw [IntWalk.i64_in _ (by omega)]; omega); have wm2 : IntKind.i64.wrap (m : Int) = (m : Int) := IntWalk.i64_in _ (by omega); clear t6 b6; clear x0 x1 r1 r4 r6 r8) | fail)
          go_region
          go_wp2_with (first
            | (go_at_call 57; refine (HANS.out _ _ (commit_end H6.out HT6.out mc (by repeat (first | exact Keep.refl _ _ | refine Keep.drew ?_ | refine Keep.drewN ?_ _ | refine Keep.alloc ?_ _)) rfl (by repeat (first | exact Keep.refl _ _ | refine Keep.drew ?_ | refine Keep.drewN ?_ _ | refine Keep.alloc ?_ _)))).mono ?_; rintro e w9 ⟨rfl, V9, h9, t9⟩; have H9 := Lib.hid h9; have HT9 := Lib.hid t9; clear h9 t9)
            | fail)
          go_end0
          exact ⟨rfl, V9, H9.out, HT9.out⟩
      · obtain rfl : k = l.length := by have h1 := congrArg List.length HL.out; rw [List.length_append] at h1; omega
        have hpn : post = [] := by have h1 := congrArg List.length HL.out; rw [List.length_append] at h1; exact List.length_eq_zero_iff.1 (by omega)
        obtain ⟨-, rfl⟩ : post = [] ∧ D' = D := by
          rcases hd with h1 | ⟨h1, -⟩
          · exact h1
          · exact absurd hpn h1
        have hgr : N.grown post = N := by rw [hpn]; simp [Rn.grown]
        have h6 : NodeAt wr V (N.grown post) D' := by rw [hgr]; exact H.out.grow HK0.out
        have t6 := NodeTo.grow V HK0.out
        have b6 := HB.out
        have d1 : decide ((l.length : Int) < (l.length : Int)) = false := by simp
        clear hpn hgr hd q1 q4 q6 q8 c5 c11
        have q1 : World.cell? wr ⟨w.heap.size, 1, none⟩ = some (.int .i64 (i : Int)) := b6.cell 1; have q4 : World.cell? wr ⟨w.heap.size, 4, none⟩ = some (.int .i64 (ix : Int)) := b6.cell 4; have q6 : World.cell? wr ⟨w.heap.size, 6, none⟩ = some (.int .i64 (cm : Int)) := b6.cell 6; have c11 : World.cell? wr ⟨V.r, 11, none⟩ = some (.int .i64 (N.commit : Int)) := (by rw [← t6.r]; exact h6.blk.cell 11); have f11 : World.frozen? wr ⟨V.r, 11, none⟩ = false := (by rw [← t6.r]; exact h6.blk.frozen 11); have hbl6 := b6.lt; have H6 := Lib.hid h6; have HT6 := Lib.hid t6; clear h6
        by_cases hne : l = []
        · have hl0 : lx = ix := by rw [HLX.out, hne]; rfl
          have q8 : wr.cell? ⟨w.heap.size, 8, none⟩ = some (.slice A 0 c) := by have := b6.cell 8; rw [hne] at this; exact this
          rw [hne] at d1
          have hle : l.length = 0 := by rw [hne]; rfl
          rw [hl0] at hmx HANS
          clear hl0 t6 b6 hne
          go_wp2
          go_region
          go_wp2_with (first
            | (go_at_call 57; refine (HANS.out _ _ (commit_end H6.out HT6.out mc (by repeat (first | exact Keep.refl _ _ | refine Keep.drew ?_ | refine Keep.drewN ?_ _ | refine Keep.alloc ?_ _)) rfl (by repeat (first | exact Keep.refl _ _ | refine Keep.drew ?_ | refine Keep.drewN ?_ _ | refine Keep.alloc ?_ _)))).mono ?_; rintro e w9 ⟨rfl, V9, h9, t9⟩; have H9 := Lib.hid h9; have HT9 := Lib.hid t9; clear h9 t9)
            | fail)
          go_end0
          exact ⟨rfl, V9, H9.out, HT9.out⟩
        · obtain ⟨A1, c1, e1, hcc0⟩ := HV.out
          injection e1 with e1 _ e3
          subst e1 e3
          obtain ⟨g, o, rfl, hcc⟩ := hcc0 hne
          have hlp : 0 < l.length := List.length_pos_iff.2 hne
          obtain ⟨m, hm⟩ : ∃ m, l.length = m + 1 := ⟨l.length - 1, by omega⟩
          have HPL : Hid (∀ W U, NodeTo V U w W → World.cell? W ⟨g, o + m * 3, none⟩ = some (.int .i64 (lx : Int))) := fun W U ht => by
            have z := (entsV_at l m (by omega)).1
            have e : lx = (l[m]'(by omega)).index := by
              rw [HLX.out]
              unfold lastIx
              have e5 : l[l.length - 1]? = some (l[m]'(by omega)) := by rw [show l.length - 1 = m by omega]; exact List.getElem?_eq_getElem (by omega)
              rw [List.getLast?_eq_getElem?, e5]
            have z1 := hcc _ _ z
            have z2 := (ht.keep.cell (p := ⟨g, o + 3 * m, none⟩) (World.block_lt_of_cell? _ _ z1) (HGN.out g rfl)).trans z1
            rw [e, Nat.mul_comm m 3]
            exact z2
          have hml : m ≤ 1000 := by omega
          have HM := Lib.hid hm
          clear hm
          have q8 : World.cell? wr ⟨w.heap.size, 8, none⟩ = some (.slice (some ⟨g, o, none⟩) (m + 1) c) := (HM.out ▸ b6.cell 8); have pl := HPL.out _ _ t6; have dm1 : decide ((0 : Int) < (m : Int) + 1) = true := decide_eq_true (by omega); have dm2 : (m : Int) < (m : Int) + 1 := (by omega); have wm1 : IntKind.i64.wrap ((m : Int) + 1 - 1) = (m : Int) := (by rw [IntWalk.i64_in _ (by omega)]; omega); have wm2 : IntKind.i64.wrap (m : Int) = (m : Int) := IntWalk.i64_in _ (by omega); clear t6 b6
          rw [HM.out] at d1
          clear hcc hcc0
          go_wp2
          go_region
          go_wp2_with (first
            | (go_at_call 57; refine (HANS.out _ _ (commit_end H6.out HT6.out mc (by repeat (first | exact Keep.refl _ _ | refine Keep.drew ?_ | refine Keep.drewN ?_ _ | refine Keep.alloc ?_ _)) rfl (by repeat (first | exact Keep.refl _ _ | refine Keep.drew ?_ | refine Keep.drewN ?_ _ | refine Keep.alloc ?_ _)))).mono ?_; rintro e w9 ⟨rfl, V9, h9, t9⟩; have H9 := Lib.hid h9; have HT9 := Lib.hid t9; clear h9 t9)
            | fail)
          go_end0
          exact ⟨rfl, V9, H9.out, HT9.out⟩
end

end Go.Proofs.YtnlcipocobmgiaaGreatDoor
/- The contract of (*raft.Node).Step at entries of the leader's of the node's own term. -/
namespace Go.Proofs.YtnlcipocobmgiaaGreatDoor
open Go.RowKit
attribute [local go_sem] size_bs bs_append bs_extract

section
variable {w : World} {V : Nv} {N : Rn} {D : Dk}
/-- A follower of i that has heard of it. -/
def Rn.heard (N : Rn) (i : Nat) : Rn := { N.follow (i : Int) with timer := 0 }
theorem Rn.Sm.heard (h : N.Sm) (i : Nat) : (N.heard i).Sm :=
  ⟨h.n, h.id, h.term, h.base, h.baseTerm, h.snap, h.log, h.ents, h.commit, h.applied, by show 0 ≤ _; omega, h.out, .inr rfl, .inr rfl, .inr rfl, (by intro x hx; cases hx), (by intro x hx; cases hx)⟩
set_option maxRecDepth 100000 in
set_option maxHeartbeats 4000000 in
theorem step_more_any (h : NodeAt w V N D) (hb : N.broken = 0) (i : Nat) (hi : i < N.n) (hne : i ≠ N.id) (ix lt cm : Nat) (A : Option Addr) (c : Nat) (ln : Nat) (P : World → Prop)
    (hc : ∀ W, (NodeAt W V.drop3 (N.heard i) D ∧ NodeTo V V.drop3 w W) → Calls Tryz.prog 58 #[.pointer (some ⟨V.r, 0, none⟩), .agg #[.int .i64 3, .int .i64 (i : Int), .int .i64 (N.id : Int), .int .i64 (N.st.term : Int), .int .i64 (ix : Int), .int .i64 (lt : Int), .int .i64 (cm : Int), .bool false, .slice A ln c, .string { data := #[] }]] W fun e w' => e = .returned (.tuple #[]) ∧ P w') :
    Calls Tryz.prog 22 #[.pointer (some ⟨V.r, 0, none⟩), .agg #[.int .i64 3, .int .i64 (i : Int), .int .i64 (N.id : Int), .int .i64 (N.st.term : Int), .int .i64 (ix : Int), .int .i64 (lt : Int), .int .i64 (cm : Int), .bool false, .slice A ln c, .string { data := #[] }]] w fun e w' => e = .returned (.tuple #[]) ∧ P w' := by
  have c18 : w.cell? ⟨V.r, 18, none⟩ = some (.int .i64 0) := by rw [← hb]; exact h.blk.cell 18
  have c1 : w.cell? ⟨V.r, 1, none⟩ = some (.int .i64 (N.id : Int)) := h.blk.cell 1
  have c2 : w.cell? ⟨V.r, 2, none⟩ = some (.int .i64 (N.n : Int)) := h.blk.cell 2
  have c3 : w.cell? ⟨V.r, 3, none⟩ = some (.int .i64 (N.st.term : Int)) := h.blk.cell 3
  have hrl := h.blk.lt
  have e1 : ((i : Int) == (N.id : Int)) = false := by simp; omega
  have e2 : decide ((i : Int) < 0) = false := by simp
  have e3 : decide ((N.n : Int) ≤ (i : Int)) = false := by simp; omega
  have e4 : decide ((N.st.term : Int) < (N.st.term : Int)) = false := by simp
  have hlt := h.fp_lt
  have HT2 : Hid (∀ W, Keep [] (w.alloc (.cells #[.int .i64 3, .int .i64 (i : Int), .int .i64 (N.id : Int), .int .i64 (N.st.term : Int), .int .i64 (ix : Int), .int .i64 (lt : Int), .int .i64 (cm : Int), .bool false, .slice A ln c, .string { data := #[] }] 56)) W → Calls Tryz.prog 54 #[.pointer (some ⟨V.r, 0, none⟩), .int .i64 (i : Int)] W fun e w' => e = .returned (.tuple #[]) ∧ NodeAt w' V.drop3 (N.follow (i : Int)) D ∧ NodeTo V V.drop3 w w' ∧ Blk w' w.heap.size 56 #[.int .i64 3, .int .i64 (i : Int), .int .i64 (N.id : Int), .int .i64 (N.st.term : Int), .int .i64 (ix : Int), .int .i64 (lt : Int), .int .i64 (cm : Int), .bool false, .slice A ln c, .string { data := #[] }]) := fun W hk => by
    have hk0 : Keep [] w W := ((Keep.refl [] w).alloc _).trans hk
    refine (follow_calls (h.grow hk0) (i : Int)).mono ?_
    rintro e w' ⟨rfl, h1, h2⟩
    exact ⟨rfl, h1, (NodeTo.grow V hk0).trans h2, (((Blk.new w 56 #[.int .i64 3, .int .i64 (i : Int), .int .i64 (N.id : Int), .int .i64 (N.st.term : Int), .int .i64 (ix : Int), .int .i64 (lt : Int), .int .i64 (cm : Int), .bool false, .slice A ln c, .string { data := #[] }]).keep hk (by simp)).keep h2.keep (fun hx => absurd (hlt _ hx) (Nat.lt_irrefl _)))⟩
  have HC := Lib.hid hc
  clear h hc hb hlt
  go_enter Tryz.func22, Tryz.ntmps22
  go_wp2
  go_quiet (fail)
  go_wp2
  go_quiet (fail)
  go_wp2
  go_quiet (fail)
  go_wp2_with (first
    | (go_at_call 54; refine (HT2.out _ (by repeat (first | exact Keep.refl _ _ | refine Keep.drew ?_ | refine Keep.drewN ?_ _ | refine Keep.alloc ?_ _))).mono ?_; rintro e w2 ⟨rfl, h2, t2, b2⟩; have q0 : w2.cell? ⟨w.heap.size, 0, none⟩ = some (.int .i64 3) := b2.cell 0; have q1 : w2.cell? ⟨w.heap.size, 1, none⟩ = some (.int .i64 (i : Int)) := b2.cell 1; have q2 : w2.cell? ⟨w.heap.size, 2, none⟩ = some (.int .i64 (N.id : Int)) := b2.cell 2; have q3 : w2.cell? ⟨w.heap.size, 3, none⟩ = some (.int .i64 (N.st.term : Int)) := b2.cell 3; have q4 : w2.cell? ⟨w.heap.size, 4, none⟩ = some (.int .i64 (ix : Int)) := b2.cell 4; have q5 : w2.cell? ⟨w.heap.size, 5, none⟩ = some (.int .i64 (lt : Int)) := b2.cell 5; have q6 : w2.cell? ⟨w.heap.size, 6, none⟩ = some (.int .i64 (cm : Int)) := b2.cell 6; have q7 : w2.cell? ⟨w.heap.size, 7, none⟩ = some (.bool false) := b2.cell 7; have q8 : w2.cell? ⟨w.heap.size, 8, none⟩ = some (.slice A ln c) := b2.cell 8; have q9 : w2.cell? ⟨w.heap.size, 9, none⟩ = some (.string { data := #[] }) := b2.cell 9; have c13 : w2.cell? ⟨V.r, 13, none⟩ = some (.int .i64 (N.timer : Int)) := h2.blk.cell 13; have f13 : w2.frozen? ⟨V.r, 13, none⟩ = false := h2.blk.frozen 13; have H2 := Lib.hid h2; have HTT2 := Lib.hid t2; clear h2 t2 b2 HT2 c18 c1 c2 c3)
    | (go_at_call 58; refine (HC.out _ (setR_end (N' := N.heard i) H2.out HTT2.out (by repeat (first | exact Keep.refl _ _ | refine Keep.drew ?_ | refine Keep.drewN ?_ _ | refine Keep.alloc ?_ _ | refine Keep.setCell ?_ (.inl (by simp [Nv.drop3])) _)) (H2.out.blk.set_ 13 _) rfl rfl rfl rfl rfl)).mono ?_; rintro e w3 ⟨rfl, h3⟩)
    | fail)
  go_end0
  exact ⟨rfl, h3⟩

theorem step_more (h : NodeAt w V N D) (hg : D.Good) (hS : N.Sm) (hb : N.broken = 0) (i : Nat) (hi : i < N.n) (hne : i ≠ N.id) (ix lt cm : Nat) (A : Option Addr) (c : Nat) (l pre post : List En) (hl : l = pre ++ post)
    (hv : EntsAt w (.slice A l.length c) l) (hgn : ∀ k, (Value.slice A l.length c).ownBlock = some k → k ∉ V.fp) (hrm : l.length ≤ c) (hlen : l.length ≤ 1000) (hok : EnsOk l)
    (hix : ix ≤ N.st.base ∨ N.st.termAt ix = some lt) (hxb : ix ≤ 2199023255552)
    (hpre : ∀ e ∈ pre, N.st.base < e.index ∧ N.st.termAt e.index = some e.term)
    (hpost : ∀ x r, post = x :: r → x.index = N.st.base + N.st.log.length + 1) (hout : N.out.length ≤ 999990)
    {D' : Dk} (hd : (post = [] ∧ D' = D) ∨ (post ≠ [] ∧ D.appendLog post = (D', 0))) :
    Calls Tryz.prog 22 #[.pointer (some ⟨V.r, 0, none⟩), .agg #[.int .i64 3, .int .i64 (i : Int), .int .i64 (N.id : Int), .int .i64 (N.st.term : Int), .int .i64 (ix : Int), .int .i64 (lt : Int), .int .i64 (cm : Int), .bool false, .slice A l.length c, .string { data := #[] }]] w fun e w' => e = .returned (.tuple #[]) ∧ ∃ V', NodeAt w' V' ((N.heard i).more i ix cm l post) D' ∧ NodeTo V V' w w' := by
  refine step_more_any h hb i hi hne ix lt cm A c l.length _ (fun W hW => ?_)
  have hgn' : ∀ k, (Value.slice A l.length c).ownBlock = some k → k ∉ V.drop3.fp := fun k e hx => hgn k e (Nv.drop3_fp hx)
  have hv' : EntsAt W (.slice A l.length c) l := hv.keepB hW.2.keep hgn
  have := onMore_any hW.1 hg (hS.heard i) i ix lt cm (N.id : Int) (N.st.term : Int) A c l pre post hl hv' hgn' hrm hlen hok hix hxb hpre hpost hout hd
  refine this.mono ?_
  rintro e w' ⟨rfl, V', h1, h2⟩
  exact ⟨rfl, V', h1, hW.2.trans h2⟩
end

end Go.Proofs.YtnlcipocobmgiaaGreatDoor
