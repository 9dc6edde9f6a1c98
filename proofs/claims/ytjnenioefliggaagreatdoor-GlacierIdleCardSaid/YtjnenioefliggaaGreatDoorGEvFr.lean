/- What the evaluator is told of commands: an entry's frame; Apply of a machine without blobs. -/
import Derived.Test.YtjnenioefliggaaGreatDoorGEvTold
import Derived.Test.YtjnenioefliggaaGreatDoorGSes
import Derived.Test.YtjnenioefliggaaGreatDoorFrames
set_option linter.unusedVariables false
noncomputable section
namespace Go.Proofs.YtjnenioefliggaaGreatDoor.Av
open Go Go.RowKit
/-- Commands that a machine without blobs may be told. -/
def CsOk (C : Nat → Cm) : Prop := ∀ j, (C j).Ok ∧ MoverKind (C j).kind
/-- The entry of the j-th command. -/
def entC (C : Nat → Cm) (j : Nat) : En := ⟨j + 2, 1, encC (C j)⟩
/-- The unknown strings: each command, its frame. -/
def atoms (C : Nat → Cm) (n : Nat) : List Nat := if n % 2 = 0 then (encC (C (n / 2))).map UInt8.toNat else (frs [entC C (n / 2)]).map UInt8.toNat
theorem strB_bs (l : List UInt8) : strB (l.map UInt8.toNat) = bs l := by
  have : (UInt8.ofNat ∘ UInt8.toNat) = id := by funext a; simp
  unfold strB bs
  rw [List.map_map, this, List.map_id]
theorem map_lt (l : List UInt8) : ∀ x ∈ l.map UInt8.toNat, x < 256 := fun x hx => by
  obtain ⟨a, _, rfl⟩ := List.mem_map.1 hx
  exact a.toNat_lt
theorem atoms_lt (C : Nat → Cm) (n : Nat) : ∀ x ∈ atoms C n, x < 256 := by
  unfold atoms
  split <;> exact map_lt _
theorem ent_ok {C : Nat → Cm} (hC : CsOk C) {j : Nat} (hj : j ≤ 1000) : (entC C j).Ok := by
  have h1 := encC1_len (hC j).1
  have h2 := encC2_len (hC j).1
  refine ⟨by simp only [entC]; omega, by simp only [entC]; omega, ?_⟩
  simp only [entC, encC, List.length_append]
  omega
theorem frs_one (e : En) : (frs [e]).length = (encE e).length + 8 := by simp [frs, frame_len]
theorem bds_ok {C : Nat → Cm} (hC : CsOk C) : BdOk (fun n => (atoms C n).length) bds := fun i b hb => by
  have hi : i < 20 := by
    rcases Nat.lt_or_ge i 20 with h | h
    · exact h
    · rw [List.getElem?_eq_none (by simpa [bds] using h)] at hb; cases hb
  have key : ∀ i < 20, bds[i]? = some (if i % 2 = 0 then (1, 110) else (1, 200)) := by decide
  rw [key i hi] at hb
  injection hb with hb
  have h1 := encC1_len (hC (i / 2)).1
  have h2 := encC2_len (hC (i / 2)).1
  have h3 := List.length_pos_iff.2 (encC_ne (C (i / 2)))
  have h4 : (encC (C (i / 2))).length = (encC1 (C (i / 2))).length + (encC2 (C (i / 2))).length := by simp [encC]
  show b.1 ≤ (atoms C i).length ∧ (atoms C i).length ≤ b.2
  unfold atoms
  by_cases he : i % 2 = 0
  · rw [if_pos he] at hb ⊢
    subst hb
    simp only [List.length_map]
    omega
  · rw [if_neg he] at hb ⊢
    subst hb
    have h5 := encU_len (i / 2 + 2) (by omega)
    have h6 := encU_len 1 (by omega)
    have h7 := encU_len (encC (C (i / 2))).length (by omega)
    simp only [List.length_map, frs_one, encE, encS, entC, List.length_append]
    omega
noncomputable def spC (C : Nat → Cm) : SX → Value → Prop := spI (atoms C) fun _ _ => False
theorem at_val {C : Nat → Cm} {k : Nat} {v : Value} {e : Env} (hI : e.I = spC C) (h : VR e (.sp (.s [.at k])) v) : v = .string (strB (atoms C k)) := by
  obtain ⟨h1, -⟩ := toS_ok (x := [.at k]) hI rfl h
  rw [h1]
  congr 2
  show atoms C k ++ [] = _
  rw [List.append_nil]
theorem val_at {C : Nat → Cm} {e : Env} (hI : e.I = spC C) (k : Nat) : VR e (.sp (.s [.at k])) (.string (strB (atoms C k))) := by
  have hb : bytesS (atoms C) [.at k] = atoms C k := by show atoms C k ++ [] = _; rw [List.append_nil]
  have := mkS_ok (A := atoms C) (O := fun _ _ => False) (l := [.at k]) hI (by rw [hb]; exact atoms_lt C k)
  rwa [hb] at this
theorem atoms_even (C : Nat → Cm) (j : Nat) : strB (atoms C (2 * j)) = bs (encC (C j)) := by
  unfold atoms
  rw [if_pos (by omega), show 2 * j / 2 = j by omega, strB_bs]
theorem atoms_odd (C : Nat → Cm) (j : Nat) : strB (atoms C (2 * j + 1)) = bs (frs [entC C j]) := by
  unfold atoms
  rw [if_neg (by omega), show (2 * j + 1) / 2 = j by omega, strB_bs]
/-- Which command is it? -/
def halfOf (k : Nat) : Option Nat := cnd (Nat.beq (Nat.mod k 2) 0) (cnd (Nat.blt k 20) (some (Nat.div k 2)) none) none
theorem halfOf_ok {k j : Nat} (h : halfOf k = some j) : k = 2 * j ∧ j < 10 := by
  rcases cnd_eq h with ⟨h1, h2⟩ | ⟨_, h2⟩
  · rcases cnd_eq h2 with ⟨h3, h4⟩ | ⟨_, h4⟩
    · injection h4 with h4
      have h1 := Nat.eq_of_beq_eq_true h1
      rw [Nat.blt_eq] at h3
      have h1 : k % 2 = 0 := h1
      have h4 : k / 2 = j := h4
      omega
    · cases h4
  · cases h2
/-- The sum's table. -/
def tabL : List AV := [0, 498536548, 997073096, 651767980, 1994146192, 1802195444, 1303535960, 1342533948, 3988292384, 4027552580, 3604390888, 3412177804, 2607071920, 2262029012, 2685067896, 3183342108].map fun n => .int .u32 (.ofNat n)
/-- frames of one entry: its frame. -/
noncomputable def framesT (args : List AV) (σ : AH) : RV := match args with
  | [.sl (some (l, 0)) 1 _] => (match σ.get l with
    | some (.cells [.int .i64 (.ofNat ix), .int .i64 (.ofNat tm), .sp (.s [.at k])] _ _ _) => opt (.bad 232 0 5) (halfOf k) fun j => cnd (Nat.beq ix (Nat.add j 2)) (cnd (Nat.beq tm 1) (match σ.get 0 with
      | some (.cells cs _ _ _) => cnd (AV.eqbs cs tabL) (opt (.bad 232 0 8) (σ.get 1) fun _ => .ok (.sp (.s [.at (Nat.succ k)])) σ) (.bad 232 0 9)
      | _ => .bad 232 0 6) (.bad 232 0 1)) (.bad 232 0 2)
    | _ => .bad 232 0 3)
  | _ => .bad 232 0 4
/-- What Apply says. -/
def noneA : AV := .agg [.int .i64 (.ofNat 5), .int .u64 (.ofNat 0), .int .i64 (.ofNat 0), .int .u32 (.ofNat 0), .sl none 0 (.k 0)]
/-- Apply of a machine without blobs. -/
noncomputable def applyT (args : List AV) (σ : AH) : RV := match args with
  | [.ptr (some (l, 0)), .sp (.s [.at k])] => opt (.bad 62 0 5) (halfOf k) fun j => (match σ.get l with
    | some (.cells [.ptr (some (c, 0)), _, .int .i64 (.ofNat n)] t false cv) => (match σ.get c with
      | some (.cells (.map (some mb) :: _) _ _ _) => (match mapAt σ mb with
        | some ([], _) => cnd (Nat.ble n 1000) (rvOf (storeN l 2 [.int .i64 (.ofNat (Nat.succ n))] σ fun σ => .val noneA σ)) (.bad 62 0 6)
        | _ => .bad 62 0 1)
      | _ => .bad 62 0 2)
    | _ => .bad 62 0 3)
  | _ => .bad 62 0 4
theorem rvOf_val {r : R} {v : AV} {σ' : AH} (h : rvOf r = .ok v σ') : r = .val v σ' := by
  cases r with
  | val u s =>
    injection (show RV.ok u s = RV.ok v σ' from h) with h3 h4
    rw [h3, h4]
  | call => cases h
  | bad => cases h
theorem keep_below {w w' : World} (h : Keep [] w w') : Below w.heap.size w w' := ⟨h.os, h.tape, h.output, h.size, fun k hk => h.block k hk (by simp)⟩
theorem applyT_ok {C : Nat → Cm} (hC : CsOk C) {args : List AV} {σ σ' : AH} {v : AV} (h : applyT args σ = .ok v σ') {e : Env} {w : World} {args' : List Value} (hr : Rel e σ w) (hI : e.I = spC C) (hv : VRs e args args') : Calls P 62 args'.toArray w (Post e σ w v σ') := by
  unfold applyT at h
  split at h
  · rename_i l k
    cases hv with
    | cons _ y _ ys hy hys =>
    cases hys with
    | cons _ z _ zs hz hzs =>
    cases hzs
    have hzv := at_val hI hz
    subst hzv
    cases hy with
    | ptr _ _ b hb =>
    cases hj : halfOf k with
    | none => rw [hj] at h; cases h
    | some j =>
    rw [hj] at h
    obtain ⟨rfl, -⟩ := halfOf_ok hj
    rw [atoms_even]
    simp only [opt] at h
    split at h
    · rename_i c x n t cv hg
      rw [AH.get_eq] at hg
      split at h
      · rename_i mb rs t2 f2 cv2 hgc
        rw [AH.get_eq] at hgc
        split at h
        · rename_i ck hmp
          have hgm := mapAt_eq hmp
          rcases cnd_eq h with ⟨h1, h2⟩ | ⟨_, h2⟩
          · have hn := Nat.le_of_ble_eq_true h1
            have h3 := rvOf_val h2
            obtain ⟨b2, cs', rst, fr, k1, k2, k3, k4, k5, -⟩ := hr.cells hg
            obtain rfl : b = b2 := by rw [hb] at k1; exact Option.some.inj k1
            obtain ⟨bc, cc', rst2, fr2, c1, c2, c3, -, -, -⟩ := hr.cells hgc
            obtain ⟨bm, es', m1, m2, m3⟩ := hr.map hgm
            cases m3
            have hbc : b ≠ bc := fun hh => by
              subst hh
              have := hr.inj l c b (by rw [hg]; rfl) (by rw [hgc]; rfl) hb c1
              subst this
              rw [hg] at hgc
              cases hgc
            have hbm : b ≠ bm := fun hh => by
              subst hh
              have := hr.inj l mb b (by rw [hg]; rfl) (by rw [hgm]; rfl) hb m1
              subst this
              rw [hg] at hgm
              cases hgm
            obtain ⟨σ2, w1, q1, q2, q3⟩ := storeN_ok (P := P) hr h3 hb (.cons _ _ _ _ (.int .i64 (.ofNat (n + 1))) .nil) (by simp [AV.one])
            injection q1 with q1 q4
            subst q1 q4
            cases k3 with
            | cons x0 x0' cs0 cs0' hx0 hcs0 =>
            cases hcs0 with
            | cons x1 x1' cs1 cs1' hx1 hcs1 =>
            cases hcs1 with
            | cons x2 x2' cs2 cs2' hx2 hcs2 =>
            cases hcs2
            cases hx2
            cases hx0 with
            | ptr _ _ b5 hb5 =>
            obtain rfl : bc = b5 := by rw [c1] at hb5; exact Option.some.inj hb5
            cases c3 with
            | cons y0 y0' ds0 ds0' hy0 hds0 =>
            cases hy0 with
            | map _ b6 hb6 =>
            obtain rfl : bm = b6 := by rw [m1] at hb6; exact Option.some.inj hb6
            have hc2 : w.cell? ⟨b, 2, none⟩ = some (.int .i64 (n : Int)) := by rw [cell_at k2]; simp
            have hc0 : w.cell? ⟨b, 0, none⟩ = some (.pointer (some ⟨bc, 0, none⟩)) := by rw [cell_at k2]; simp
            have hf : w.frozen? ⟨b, 2, none⟩ = false := by
              have := k5 rfl 2 (by simp)
              unfold World.frozen?
              rw [k2]
              simpa using this
            have hw1 : w1 = w.setCell ⟨b, 2, none⟩ (.int .i64 ((n : Int) + 1)) := by
              have : (storeCells ⟨b, 2, none⟩ [.int .i64 (.ofNat (n + 1))]).run P w = .ok () (w.setCell ⟨b, 2, none⟩ (.int .i64 (.ofNat (n + 1)))) := by
                have hs := run_store P w ⟨b, 2, none⟩ (.int .i64 (.ofNat (n + 1))) .plain rfl
                simp only [hc2, hf] at hs
                simp only [storeCells, Sem.run_bind, addr_add, Nat.add_zero]
                rw [hs]
                rfl
              rw [this] at q2
              injection q2 with _ q2
              rw [← q2]
              rfl
            refine (gsapply_calls (hC j).2 (hC j).1 ⟨by rw [cell_at c2]; simp, m2⟩ hc0 hc2 hf ⟨by omega, by omega⟩ hbc hbm).mono fun e0 w' ⟨he, hk⟩ => ?_
            subst he
            rw [← hw1] at hk
            exact ⟨e, .agg _ [_, _, _, _, _] (by simp [AV.one]) (.cons _ _ _ _ (.int _ _) (.cons _ _ _ _ (.int _ _) (.cons _ _ _ _ (.int _ _) (.cons _ _ _ _ (.int _ _) (.cons _ _ _ _ .nilsl .nil))))), q3.trans (Step.below q3.rel (keep_below hk))⟩
          · cases h2
        · cases h
      · cases h
    · cases h
  · cases h
theorem vrs_u32 {e : Env} : ∀ {l : List Nat} {vs : List Value}, VRs e (l.map fun n => .int .u32 (.ofNat n)) vs → vs = l.map fun (n : Nat) => Value.int .u32 (n : Int)
  | [], vs, h => by cases h; rfl
  | n :: l, vs, h => by
    cases h with
    | cons _ y _ ys hy hys =>
    cases hy
    rw [vrs_u32 hys]
    rfl
def tabN : List Nat := [0, 498536548, 997073096, 651767980, 1994146192, 1802195444, 1303535960, 1342533948, 3988292384, 4027552580, 3604390888, 3412177804, 2607071920, 2262029012, 2685067896, 3183342108]
theorem tabN_at : ∀ i < 16, tabN[i]? = some (tab i).toNat ∧ ((tab i).toNat : Int) = tab i := by decide
theorem framesT_ok {C : Nat → Cm} (hC : CsOk C) {args : List AV} {σ σ' : AH} {v : AV} (h : framesT args σ = .ok v σ') {e : Env} {w : World} {args' : List Value} (hr : Rel e σ w) (hB : Glob 4 (spC C) e) (hv : VRs e args args') : Calls P 232 args'.toArray w (Post e σ w v σ') := by
  unfold framesT at h
  split at h
  · rename_i l c
    cases hv with
    | cons _ y _ ys hy hys =>
    cases hys
    cases hy with
    | sl _ _ b _ _ cap hb hk hn =>
    split at h
    · rename_i ix tm k t fz cv hg
      rw [AH.get_eq] at hg
      cases hj : halfOf k with
      | none => rw [hj] at h; cases h
      | some j =>
      rw [hj] at h
      obtain ⟨rfl, hj10⟩ := halfOf_ok hj
      simp only [opt] at h
      rcases cnd_eq h with ⟨h1, h2⟩ | ⟨_, h2⟩
      · obtain rfl : ix = j + 2 := Nat.eq_of_beq_eq_true h1
        rcases cnd_eq h2 with ⟨h3, h4⟩ | ⟨_, h4⟩
        · obtain rfl : tm = 1 := Nat.eq_of_beq_eq_true h3
          split at h4
          · rename_i cs t0 f0 cv0 hg0
            rw [AH.get_eq] at hg0
            rcases cnd_eq h4 with ⟨h5, h6⟩ | ⟨_, h6⟩
            · obtain rfl := AV.eqbs_eq h5
              cases hg1 : σ.get 1 with
              | none => rw [hg1] at h6; cases h6
              | some ob =>
              rw [hg1] at h6
              injection (show RV.ok (.sp (.s [.at (2 * j + 1)])) σ = RV.ok v σ' from h6) with h7 h8
              subst h7 h8
              rw [AH.get_eq] at hg1
              obtain ⟨b2, cs', rst, fr, k1, k2, k3, -, -, -⟩ := hr.cells hg
              obtain rfl : b = b2 := by rw [hb] at k1; exact Option.some.inj k1
              obtain ⟨b0, cs0', rst0, fr0, q1, q2, q3, -, -, -⟩ := hr.cells hg0
              obtain rfl : 0 = b0 := by rw [hB.1 _ (by decide)] at q1; exact Option.some.inj q1
              obtain ⟨b1, p1, -⟩ := hr.obj _ _ hg1
              obtain rfl : 1 = b1 := by rw [hB.1 _ (by decide)] at p1; exact Option.some.inj p1
              have hlt := hr.lt _ _ p1
              have hq3 := vrs_u32 (l := tabN) q3
              subst hq3
              have hT : Tab w := ⟨fun i hi => by
                rw [cell_at q2]
                obtain ⟨a1, a2⟩ := tabN_at i hi
                have : i < tabN.length := hi
                rw [List.getElem?_toArray, List.getElem?_append_left (by simpa using this), List.getElem?_map, a1, Option.map_some, a2], ⟨_, Array.getElem?_eq_getElem hlt⟩⟩
              cases k3 with
              | cons x0 x0' cs0 cs0' hx0 hcs0 =>
              cases hcs0 with
              | cons x1 x1' cs1 cs1' hx1 hcs1 =>
              cases hcs1 with
              | cons x2 x2' cs2 cs2' hx2 hcs2 =>
              cases hcs2
              cases hx0
              cases hx1
              have hz := at_val hB.2 hx2
              subst hz
              rw [atoms_even] at k2
              have hE : EntsAt w (.slice (some ⟨b, 0, none⟩) 1 cap) [entC C j] := ⟨_, cap, rfl, fun _ => ⟨b, 0, rfl, fun i u hu => by
                rw [cell_at k2, Nat.zero_add]
                have hu' : [Value.int .i64 ((j + 2 : Nat) : Int), .int .i64 ((1 : Nat) : Int), .string (bs (encC (C j)))][i]? = some u := hu
                have hi : i < 3 := by
                  rcases Nat.lt_or_ge i 3 with hi | hi
                  · exact hi
                  · rw [List.getElem?_eq_none (by simpa using hi)] at hu'; cases hu'
                rw [List.getElem?_toArray, List.getElem?_append_left (by simpa using hi)]
                exact hu'⟩⟩
              refine (frames_calls [entC C j] _ w hT hE (by simp) (fun e he => by rw [List.mem_singleton.1 he]; exact ent_ok hC (by omega))).mono fun e0 w' ⟨he, hk⟩ => ?_
              subst he
              refine ⟨e, ?_, Step.below hr (keep_below hk)⟩
              have := val_at hB.2 (2 * j + 1)
              rwa [atoms_odd] at this
            · cases h6
          · cases h4
        · cases h4
      · cases h2
    · cases h
  · cases h
/-- What the evaluator is told. -/
noncomputable def told : Told := fun f => cnd (Nat.beq f 232) (some framesT) (cnd (Nat.beq f 62) (some applyT) (told0 f))
theorem told_ok {C : Nat → Cm} (hC : CsOk C) : ToldOk P 4 (spC C) told := fun f h hf args σ v σ' hh e w args' hr hB hv => by
  unfold told at hf
  rcases cnd_eq hf with ⟨h1, h2⟩ | ⟨_, h2⟩
  · have h1 := Nat.eq_of_beq_eq_true h1
    subst h1
    injection h2 with h2
    subst h2
    exact ⟨run_callFunc Tryz.func232 rfl (by kernel_rfl) _, framesT_ok hC hh hr hB hv⟩
  · rcases cnd_eq h2 with ⟨h1, h2⟩ | ⟨_, h2⟩
    · have h1 := Nat.eq_of_beq_eq_true h1
      subst h1
      injection h2 with h2
      subst h2
      exact ⟨run_callFunc Tryz.func62 rfl (by kernel_rfl) _, applyT_ok hC hh hr hB.2 hv⟩
    · exact told0_ok (spC C) f h h2 args σ v σ' hh e w args' hr hB hv
end Go.Proofs.YtjnenioefliggaaGreatDoor.Av
end
