/- What the evaluator is told in ServiceExpires: Config; a Lists's frame; Apply at a List. -/
import Derived.Test.YtpnoiagjgkajdaaGreatDoorWSes
import Derived.Test.YtpnoiagjgkajdaaGreatDoorWCfg
import Derived.Test.YtpnoiagjgkajdaaGreatDoorFrames
set_option linter.unusedVariables false
noncomputable section
namespace Go.Proofs.YtpnoiagjgkajdaaGreatDoor.Av
open Go Go.RowKit
/-- Lists of clients. -/
def CsOk (C : Nat → Cm) : Prop := ∀ j, ∃ cl sq, C j = lsC cl sq ∧ cl ≤ 1000 ∧ sq ≤ 1000
theorem CsOk.ok {C : Nat → Cm} (h : CsOk C) (j : Nat) : (C j).Ok := by
  obtain ⟨cl, sq, h1, h2, h3⟩ := h j
  rw [h1]
  exact lsC_ok h2 h3
/-- The entry of the j-th command. -/
def entC (C : Nat → Cm) (j : Nat) : En := ⟨j + 2, 1, encC (C j)⟩
/-- The unknown strings: each command, its frame. -/
def atoms (C : Nat → Cm) (n : Nat) : List Nat := if n % 2 = 0 then (encC (C (n / 2))).map UInt8.toNat else (frs [entC C (n / 2)]).map UInt8.toNat
theorem strB_bs (l : List UInt8) : strB (l.map UInt8.toNat) = bs l := by
  have : (UInt8.ofNat ∘ UInt8.toNat) = id := by funext a; simp
  unfold strB bs
  rw [List.map_map, this, List.map_id]
theorem map_lt (l : List UInt8) : ∀ x ∈ l.map UInt8.toNat, x < 256 := fun x hx => by
  obtain ⟨a, _, rfl⟩ := List.mem_map.1 hx
  exact a.toNat_lt
theorem atoms_lt (C : Nat → Cm) (n : Nat) : ∀ x ∈ atoms C n, x < 256 := by
  unfold atoms
  split <;> exact map_lt _
theorem ent_ok {C : Nat → Cm} (hC : CsOk C) {j : Nat} (hj : j ≤ 1000) : (entC C j).Ok := by
  have h1 := encC1_len (hC.ok j)
  have h2 := encC2_len (hC.ok j)
  refine ⟨by simp only [entC]; omega, by simp only [entC]; omega, ?_⟩
  simp only [entC, encC, List.length_append]
  omega
theorem frs_one (e : En) : (frs [e]).length = (encE e).length + 8 := by simp [frs, frame_len]
theorem bds_ok {C : Nat → Cm} (hC : CsOk C) : BdOk (fun n => (atoms C n).length) bds := fun i b hb => by
  have hi : i < 28 := by
    rcases Nat.lt_or_ge i 28 with h | h
    · exact h
    · rw [List.getElem?_eq_none (by simpa [bds] using h)] at hb; cases hb
  have key : ∀ i < 28, bds[i]? = some (if i % 2 = 0 then (1, 110) else (1, 200)) := by decide
  rw [key i hi] at hb
  injection hb with hb
  have h1 := encC1_len (hC.ok (i / 2))
  have h2 := encC2_len (hC.ok (i / 2))
  have h3 := List.length_pos_iff.2 (encC_ne (C (i / 2)))
  have h4 : (encC (C (i / 2))).length = (encC1 (C (i / 2))).length + (encC2 (C (i / 2))).length := by simp [encC]
  show b.1 ≤ (atoms C i).length ∧ (atoms C i).length ≤ b.2
  unfold atoms
  by_cases he : i % 2 = 0
  · rw [if_pos he] at hb ⊢
    subst hb
    simp only [List.length_map]
    omega
  · rw [if_neg he] at hb ⊢
    subst hb
    have h5 := encU_len (i / 2 + 2) (by omega)
    have h6 := encU_len 1 (by omega)
    have h7 := encU_len (encC (C (i / 2))).length (by omega)
    simp only [List.length_map, frs_one, encE, encS, entC, List.length_append]
    omega
/-- What clients were told, as a map. -/
def ClOk (es : Array MapEntry) (ck : Nat) : Prop := ∃ L, es.toList.map (fun e => (e.key, e.val)) = L.map (fun p => (Value.int .i64 p.1, p.2)) ∧ MapKept.Stamped es ck ∧ LOk L
/-- The other unknown values: the law's number, an error, what clients were told. -/
def oW (n : Int) (i : Nat) (v : Value) : Prop := (i = 0 ∧ v = .int .i64 n) ∨ (i = 98 ∧ (v = .int .i64 0 ∨ v = .int .i64 16)) ∨ (i = 99 ∧ ∃ es ck, v = encO (.map es ck) ∧ ClOk es ck)
noncomputable def spC (C : Nat → Cm) (n : Int) : SX → Value → Prop := spI (atoms C) (oW n)
theorem at_val {C : Nat → Cm} {n : Int} {k : Nat} {v : Value} {e : Env} (hI : e.I = spC C n) (h : VR e (.sp (.s [.at k])) v) : v = .string (strB (atoms C k)) := by
  obtain ⟨h1, -⟩ := toS_ok (x := [.at k]) hI rfl h
  rw [h1]
  congr 2
  show atoms C k ++ [] = _
  rw [List.append_nil]
theorem val_at {C : Nat → Cm} {n : Int} {e : Env} (hI : e.I = spC C n) (k : Nat) : VR e (.sp (.s [.at k])) (.string (strB (atoms C k))) := by
  have hb : bytesS (atoms C) [.at k] = atoms C k := by show atoms C k ++ [] = _; rw [List.append_nil]
  have := mkS_ok (A := atoms C) (O := oW n) (l := [.at k]) hI (by rw [hb]; exact atoms_lt C k)
  rwa [hb] at this
theorem atoms_even (C : Nat → Cm) (j : Nat) : strB (atoms C (2 * j)) = bs (encC (C j)) := by
  unfold atoms
  rw [if_pos (by omega), show 2 * j / 2 = j by omega, strB_bs]
theorem atoms_odd (C : Nat → Cm) (j : Nat) : strB (atoms C (2 * j + 1)) = bs (frs [entC C j]) := by
  unfold atoms
  rw [if_neg (by omega), show (2 * j + 1) / 2 = j by omega, strB_bs]
/-- Which command is it? -/
def halfOf (k : Nat) : Option Nat := cnd (Nat.beq (Nat.mod k 2) 0) (cnd (Nat.blt k 28) (some (Nat.div k 2)) none) none
theorem halfOf_ok {k j : Nat} (h : halfOf k = some j) : k = 2 * j ∧ j < 14 := by
  rcases cnd_eq h with ⟨h1, h2⟩ | ⟨_, h2⟩
  · rcases cnd_eq h2 with ⟨h3, h4⟩ | ⟨_, h4⟩
    · injection h4 with h4
      have h1 := Nat.eq_of_beq_eq_true h1
      rw [Nat.blt_eq] at h3
      have h1 : k % 2 = 0 := h1
      have h4 : k / 2 = j := h4
      omega
    · cases h4
  · cases h2
/-- The sum's table. -/
def tabL : List AV := [0, 498536548, 997073096, 651767980, 1994146192, 1802195444, 1303535960, 1342533948, 3988292384, 4027552580, 3604390888, 3412177804, 2607071920, 2262029012, 2685067896, 3183342108].map fun n => .int .u32 (.ofNat n)
/-- frames of one entry: its frame. -/
noncomputable def framesT (args : List AV) (σ : AH) : RV := match args with
  | [.sl (some (l, 0)) 1 _] => (match σ.get l with
    | some (.cells [.int .i64 (.ofNat ix), .int .i64 (.ofNat tm), .sp (.s [.at k])] _ _ _) => opt (.bad 232 0 5) (halfOf k) fun j => cnd (Nat.beq ix (Nat.add j 2)) (cnd (Nat.beq tm 1) (match σ.get 0 with
      | some (.cells cs _ _ _) => cnd (AV.eqbs cs tabL) (opt (.bad 232 0 8) (σ.get 1) fun _ => .ok (.sp (.s [.at (Nat.succ k)])) σ) (.bad 232 0 9)
      | _ => .bad 232 0 6) (.bad 232 0 1)) (.bad 232 0 2)
    | _ => .bad 232 0 3)
  | _ => .bad 232 0 4
/-- What Apply says. -/
def saidA : AV := .agg [.sp (.a 98), .int .u64 (.ofNat 0), .int .i64 (.ofNat 0), .int .u32 (.ofNat 0), .sl none 0 (.k 0)]
/-- Is it what clients were told? -/
def isCl (o : AO) : Bool := match o with
  | .map [] _ => true
  | .opq k => Nat.beq k 99
  | _ => false
/-- Apply at a List. -/
noncomputable def applyT (args : List AV) (σ : AH) : RV := match args with
  | [.ptr (some (l, 0)), .sp (.s [.at k])] => opt (.bad 62 0 5) (halfOf k) fun j => (match σ.get l with
    | some (.cells [.ptr (some (c, 0)), .map (some cm), .int .i64 (.ofNat n)] t false cv) => (match σ.get c with
      | some (.cells (.map (some mb) :: .map (some mn) :: _) _ _ _) => (match mapAt σ mn with
        | some ([], _) => opt (.bad 62 0 7) (σ.get cm) fun o => cnd (isCl o) (cnd (Nat.ble n 1000) (rvOf (σ.upd cm (some (.opq 99)) fun σ => storeN l 2 [.int .i64 (.ofNat (Nat.succ n))] σ fun σ => .val saidA σ)) (.bad 62 0 6)) (.bad 62 0 8)
        | _ => .bad 62 0 1)
      | _ => .bad 62 0 2)
    | _ => .bad 62 0 3)
  | _ => .bad 62 0 4
theorem rvOf_val {r : R} {v : AV} {σ' : AH} (h : rvOf r = .ok v σ') : r = .val v σ' := by
  cases r with
  | val u s =>
    injection (show RV.ok u s = RV.ok v σ' from h) with h3 h4
    rw [h3, h4]
  | call => cases h
  | bad => cases h
theorem keep_below {w w' : World} (h : Keep [] w w') : Below w.heap.size w w' := ⟨h.os, h.tape, h.output, h.size, fun k hk => h.block k hk (by simp)⟩
theorem set_same {w : World} {b o : Nat} {cs : Array Value} {t : TypeId} {fr : Nat × Nat} (h : w.heap[b]? = some (.cells cs t fr)) (u : Value) : (w.setCell ⟨b, o, none⟩ u).heap[b]? = some (.cells (cs.setIfInBounds o u) t fr) := by
  unfold World.setCell
  simp [Array.getElem?_modify, h]
/-- What clients were told, out of the evaluator's object. -/
theorem cl_map {C : Nat → Cm} {n : Int} {e : Env} {w : World} {b : Nat} {o : AO} (hI : e.I = spC C n) (h : OR e w b o) (ho : isCl o = true) : ∃ L, MapN .i64 w b L ∧ LOk L := by
  unfold isCl at ho
  split at ho
  · rename_i ck
    obtain ⟨es', h1, h2⟩ := h
    cases h2
    exact ⟨[], ⟨_, ck, h1, by simp, MapKept.stamped_empty ck⟩, fun p hp => by cases hp⟩
  · rename_i k
    obtain rfl := Nat.eq_of_beq_eq_true ho
    obtain ⟨ob, h1, h2⟩ := h
    rw [hI] at h2
    rcases (show oW n 99 (encO ob) from h2) with ⟨h3, _⟩ | ⟨h3, _⟩ | ⟨_, es, ck, h3, L, h4, h5, h6⟩
    · cases h3
    · cases h3
    · rw [encO_map h3] at h1
      exact ⟨L, ⟨es, ck, h1, h4, h5⟩, h6⟩
  · cases ho
theorem applyT_ok {C : Nat → Cm} {z : Int} (hC : CsOk C) {args : List AV} {σ σ' : AH} {v : AV} (h : applyT args σ = .ok v σ') {e : Env} {w : World} {args' : List Value} (hr : Rel e σ w) (hB : Glob 4 (spC C z) e) (hv : VRs e args args') : Calls P 69 args'.toArray w (Post e σ w v σ') := by
  have hI := hB.2
  unfold applyT at h
  split at h
  · rename_i l k
    cases hv with
    | cons _ y _ ys hy hys =>
    cases hys with
    | cons _ z _ zs hz hzs =>
    cases hzs
    have hzv := at_val hI hz
    subst hzv
    cases hy with
    | ptr _ _ b hb =>
    cases hj : halfOf k with
    | none => rw [hj] at h; cases h
    | some j =>
    rw [hj] at h
    obtain ⟨rfl, -⟩ := halfOf_ok hj
    rw [atoms_even]
    simp only [opt] at h
    split at h
    · rename_i c cm n t cv hg
      rw [AH.get_eq] at hg
      split at h
      · rename_i mb mn rs t2 f2 cv2 hgc
        rw [AH.get_eq] at hgc
        split at h
        · rename_i ck hmp
          have hgm := mapAt_eq hmp
          cases hgo : σ.get cm with
          | none => rw [hgo] at h; cases h
          | some o =>
          rw [hgo] at h
          rw [AH.get_eq] at hgo
          rcases cnd_eq h with ⟨h0, h⟩ | ⟨_, h⟩
          · rcases cnd_eq h with ⟨h1, h2⟩ | ⟨_, h2⟩
            · have hn := Nat.le_of_ble_eq_true h1
              have h3 := rvOf_val h2
              obtain ⟨b2, cs', rst, fr, k1, k2, k3, k4, k5, -⟩ := hr.cells hg
              obtain rfl : b = b2 := by rw [hb] at k1; exact Option.some.inj k1
              obtain ⟨bc, cc', rst2, fr2, c1, c2, c3, -, -, -⟩ := hr.cells hgc
              obtain ⟨bm, es', m1, m2, m3⟩ := hr.map hgm
              cases m3
              obtain ⟨bo, o1, o2⟩ := hr.obj _ _ hgo
              obtain ⟨L, o3, o4⟩ := cl_map hI o2 h0
              obtain rfl := k5 rfl
              have hne : ∀ x y bx by', x ≠ y → (σ.hp.get x).isSome = true → (σ.hp.get y).isSome = true → e.ρ x = some bx → e.ρ y = some by' → bx ≠ by' := fun x y bx by' hxy q1 q2 q3 q4 hh => hxy (hr.inj x y bx q1 q2 q3 (hh ▸ q4))
              have hlc : l ≠ c := fun hh => by subst hh; rw [hg] at hgc; cases hgc
              have hbc : b ≠ bc := hne l c b bc hlc (by rw [hg]; rfl) (by rw [hgc]; rfl) hb c1
              have hlo : l ≠ cm := fun hh => by subst hh; rw [hg] at hgo; injection hgo with hgo; subst hgo; cases h0
              have hbo : b ≠ bo := hne l cm b bo hlo (by rw [hg]; rfl) (by rw [hgo]; rfl) hb o1
              cases k3 with
              | cons x0 x0' cs0 cs0' hx0 hcs0 =>
              cases hcs0 with
              | cons x1 x1' cs1 cs1' hx1 hcs1 =>
              cases hcs1 with
              | cons x2 x2' cs2 cs2' hx2 hcs2 =>
              cases hcs2
              cases hx2
              cases hx1 with
              | map _ b7 hb7 =>
              obtain rfl : bo = b7 := by rw [o1] at hb7; exact Option.some.inj hb7
              cases hx0 with
              | ptr _ _ b5 hb5 =>
              obtain rfl : bc = b5 := by rw [c1] at hb5; exact Option.some.inj hb5
              cases c3 with
              | cons y0 y0' ds0 ds0' hy0 hds0 =>
              cases hds0 with
              | cons y1 y1' ds1 ds1' hy1 hds1 =>
              cases hy0 with
              | map _ b6 hb6 =>
              cases hy1 with
              | map _ b8 hb8 =>
              obtain rfl : bm = b8 := by rw [m1] at hb8; exact Option.some.inj hb8
              have hM : WM w b bc bo b6 bm ck t2 (ds1' ++ rst2) fr2 L := ⟨by rw [cell_at k2]; simp, by rw [cell_at k2]; simp, c2, m2, ⟨hr.lt _ _ hb6, hr.lt 3 3 (hB.1 3 (by decide))⟩, o3⟩
              have hc2 : w.cell? ⟨b, 2, none⟩ = some (.int .i64 (n : Int)) := by rw [cell_at k2]; simp
              have hf : w.frozen? ⟨b, 2, none⟩ = false := by
                unfold World.frozen?
                rw [k2]
                simp
              obtain ⟨cl, sq, hcj, hcl, hsq⟩ := hC j
              rw [hcj]
              refine (wsapply_calls hcl hsq hM o4 hc2 hf ⟨by omega, by omega⟩ hbc).mono fun e0 w' ⟨kk, L', hkk, he, hL', hm', hk'⟩ => ?_
              subst he
              have hV : (w.setCell ⟨b, 2, none⟩ (.int .i64 ((n : Int) + 1))).heap[b]? = _ := set_same (o := 2) k2 _
              have hbl : b < w.heap.size := hr.lt _ _ hb
              have hol : bo < w.heap.size := hr.lt _ _ o1
              obtain ⟨es2, ck2, hm1, hm2, hm3⟩ := hm'
              obtain ⟨σ1, q1, q2⟩ := upd_obj (ob := .map es2 ck2) hr h3 (by rw [hgo]; rfl) o1 ⟨.map es2 ck2, by simp [hol], by rw [hI]; exact .inr (.inr ⟨rfl, es2, ck2, rfl, L', hm2, hm3, hL'⟩)⟩
              generalize hw2 : ({ w with heap := w.heap.setIfInBounds bo (.map es2 ck2) } : World) = w2 at q2
              have hs2 : w2.heap.size = w.heap.size := by rw [← hw2]; simp
              have k2' : w2.heap[b]? = w.heap[b]? := by rw [← hw2]; simp [Array.getElem?_setIfInBounds_ne (Ne.symm hbo)]
              have hother : ∀ x, x ≠ bo → w2.heap[x]? = w.heap[x]? := fun x hx => by rw [← hw2]; simp [Array.getElem?_setIfInBounds_ne (Ne.symm hx)]
              have hbo2 : w2.heap[bo]? = some (.map es2 ck2) := by rw [← hw2]; simp [hol]
              obtain ⟨σ3, w3, r1, r2, r3⟩ := storeN_ok (P := P) q2.rel q1 hb (.cons _ _ _ _ (.int .i64 (.ofNat (n + 1))) .nil) (by simp [AV.one])
              injection r1 with r1 r4
              subst r1 r4
              have hw3 : w3 = w2.setCell ⟨b, 2, none⟩ (.int .i64 ((n : Int) + 1)) := by
                have : (storeCells ⟨b, 2, none⟩ [.int .i64 (.ofNat (n + 1))]).run P w2 = .ok () (w2.setCell ⟨b, 2, none⟩ (.int .i64 (.ofNat (n + 1)))) := by
                  have hs := run_store P w2 ⟨b, 2, none⟩ (.int .i64 (.ofNat (n + 1))) .plain rfl
                  have hc2' : w2.cell? ⟨b, 2, none⟩ = some (.int .i64 (n : Int)) := by rw [← hc2]; unfold World.cell?; rw [k2']
                  have hf' : w2.frozen? ⟨b, 2, none⟩ = false := by rw [← hf]; unfold World.frozen?; rw [k2']
                  simp only [hc2', hf'] at hs
                  simp only [storeCells, Sem.run_bind, addr_add, Nat.add_zero]
                  rw [hs]
                  rfl
                rw [this] at r2
                injection r2 with _ r2
                rw [← r2]
                rfl
              refine ⟨e, .agg _ [_, _, _, _, _] (by simp [AV.one]) (.cons _ _ _ _ (.spi _ .i64 kk (by rw [hI]; exact .inr (.inl ⟨rfl, by rcases hkk with rfl | rfl; exact .inl rfl; exact .inr rfl⟩))) (.cons _ _ _ _ (.int _ _) (.cons _ _ _ _ (.int _ _) (.cons _ _ _ _ (.int _ _) (.cons _ _ _ _ .nilsl .nil))))), (q2.trans r3).trans (Step.below r3.rel ?_)⟩
              have hs3 : w3.heap.size = w.heap.size := by rw [hw3, World.size_setCell, hs2]
              have hsV : (w.setCell ⟨b, 2, none⟩ (.int .i64 ((n : Int) + 1))).heap.size = w.heap.size := World.size_setCell _ _ _
              refine ⟨?_, ?_, ?_, by rw [hs3, ← hsV]; exact hk'.size, fun x hx => ?_⟩
              · rw [hk'.os, hw3, ← hw2]; rfl
              · rw [hk'.tape, hw3, ← hw2]; rfl
              · rw [hk'.output, hw3, ← hw2]; rfl
              · rw [hs3] at hx
                by_cases hxo : x = bo
                · subst hxo
                  rw [hm1, hw3, Below.heap_setCell _ _ _ _ (Ne.symm hbo), hbo2]
                · rw [hk'.block x (by rw [hsV]; exact hx) (by simpa using hxo), hw3]
                  by_cases hxb : x = b
                  · subst hxb
                    rw [hV, set_same (k2'.trans k2)]
                  · rw [Below.heap_setCell _ _ _ _ hxb, Below.heap_setCell _ _ _ _ hxb, hother x hxo]
            · cases h2
          · cases h
        · cases h
      · cases h
    · cases h
  · cases h
theorem vrs_u32 {e : Env} : ∀ {l : List Nat} {vs : List Value}, VRs e (l.map fun n => .int .u32 (.ofNat n)) vs → vs = l.map fun (n : Nat) => Value.int .u32 (n : Int)
  | [], vs, h => by cases h; rfl
  | n :: l, vs, h => by
    cases h with
    | cons _ y _ ys hy hys =>
    cases hy
    rw [vrs_u32 hys]
    rfl
def tabN : List Nat := [0, 498536548, 997073096, 651767980, 1994146192, 1802195444, 1303535960, 1342533948, 3988292384, 4027552580, 3604390888, 3412177804, 2607071920, 2262029012, 2685067896, 3183342108]
theorem tabN_at : ∀ i < 16, tabN[i]? = some (tab i).toNat ∧ ((tab i).toNat : Int) = tab i := by decide
theorem framesT_ok {C : Nat → Cm} {n : Int} (hC : CsOk C) {args : List AV} {σ σ' : AH} {v : AV} (h : framesT args σ = .ok v σ') {e : Env} {w : World} {args' : List Value} (hr : Rel e σ w) (hB : Glob 4 (spC C n) e) (hv : VRs e args args') : Calls P 298 args'.toArray w (Post e σ w v σ') := by
  unfold framesT at h
  split at h
  · rename_i l c
    cases hv with
    | cons _ y _ ys hy hys =>
    cases hys
    cases hy with
    | sl _ _ b _ _ cap hb hk hn =>
    split at h
    · rename_i ix tm k t fz cv hg
      rw [AH.get_eq] at hg
      cases hj : halfOf k with
      | none => rw [hj] at h; cases h
      | some j =>
      rw [hj] at h
      obtain ⟨rfl, hj14⟩ := halfOf_ok hj
      simp only [opt] at h
      rcases cnd_eq h with ⟨h1, h2⟩ | ⟨_, h2⟩
      · obtain rfl : ix = j + 2 := Nat.eq_of_beq_eq_true h1
        rcases cnd_eq h2 with ⟨h3, h4⟩ | ⟨_, h4⟩
        · obtain rfl : tm = 1 := Nat.eq_of_beq_eq_true h3
          split at h4
          · rename_i cs t0 f0 cv0 hg0
            rw [AH.get_eq] at hg0
            rcases cnd_eq h4 with ⟨h5, h6⟩ | ⟨_, h6⟩
            · obtain rfl := AV.eqbs_eq h5
              cases hg1 : σ.get 1 with
              | none => rw [hg1] at h6; cases h6
              | some ob =>
              rw [hg1] at h6
              injection (show RV.ok (.sp (.s [.at (2 * j + 1)])) σ = RV.ok v σ' from h6) with h7 h8
              subst h7 h8
              rw [AH.get_eq] at hg1
              obtain ⟨b2, cs', rst, fr, k1, k2, k3, -, -, -⟩ := hr.cells hg
              obtain rfl : b = b2 := by rw [hb] at k1; exact Option.some.inj k1
              obtain ⟨b0, cs0', rst0, fr0, q1, q2, q3, -, -, -⟩ := hr.cells hg0
              obtain rfl : 0 = b0 := by rw [hB.1 _ (by decide)] at q1; exact Option.some.inj q1
              obtain ⟨b1, p1, -⟩ := hr.obj _ _ hg1
              obtain rfl : 1 = b1 := by rw [hB.1 _ (by decide)] at p1; exact Option.some.inj p1
              have hlt := hr.lt _ _ p1
              have hq3 := vrs_u32 (l := tabN) q3
              subst hq3
              have hT : Tab w := ⟨fun i hi => by
                rw [cell_at q2]
                obtain ⟨a1, a2⟩ := tabN_at i hi
                have : i < tabN.length := hi
                rw [List.getElem?_toArray, List.getElem?_append_left (by simpa using this), List.getElem?_map, a1, Option.map_some, a2], ⟨_, Array.getElem?_eq_getElem hlt⟩⟩
              cases k3 with
              | cons x0 x0' cs0 cs0' hx0 hcs0 =>
              cases hcs0 with
              | cons x1 x1' cs1 cs1' hx1 hcs1 =>
              cases hcs1 with
              | cons x2 x2' cs2 cs2' hx2 hcs2 =>
              cases hcs2
              cases hx0
              cases hx1
              have hz := at_val hB.2 hx2
              subst hz
              rw [atoms_even] at k2
              have hE : EntsAt w (.slice (some ⟨b, 0, none⟩) 1 cap) [entC C j] := ⟨_, cap, rfl, fun _ => ⟨b, 0, rfl, fun i u hu => by
                rw [cell_at k2, Nat.zero_add]
                have hu' : [Value.int .i64 ((j + 2 : Nat) : Int), .int .i64 ((1 : Nat) : Int), .string (bs (encC (C j)))][i]? = some u := hu
                have hi : i < 3 := by
                  rcases Nat.lt_or_ge i 3 with hi | hi
                  · exact hi
                  · rw [List.getElem?_eq_none (by simpa using hi)] at hu'; cases hu'
                rw [List.getElem?_toArray, List.getElem?_append_left (by simpa using hi)]
                exact hu'⟩⟩
              refine (frames_calls [entC C j] _ w hT hE (by simp) (fun e he => by rw [List.mem_singleton.1 he]; exact ent_ok hC (by omega))).mono fun e0 w' ⟨he, hk⟩ => ?_
              subst he
              refine ⟨e, ?_, Step.below hr (keep_below hk)⟩
              have := val_at hB.2 (2 * j + 1)
              rwa [atoms_odd] at this
            · cases h6
          · cases h4
        · cases h4
      · cases h2
    · cases h
  · cases h
/-- A configuration. -/
def cfgA (k : Int) : AV := .agg [.int .i64 3, .int .i64 50000, .int .i64 6, .int .i64 900, .int .i64 1, .int .i64 2, .int .i64 0, .int .i64 50, .int .i64 300, .int .i64 k, .int .i64 4194304]
theorem val_cfgA (e : Env) (k : Int) : VR e (cfgA k) (.agg #[.int .i64 3, .int .i64 50000, .int .i64 6, .int .i64 900, .int .i64 1, .int .i64 2, .int .i64 0, .int .i64 50, .int .i64 300, .int .i64 k, .int .i64 4194304]) := by
  refine .agg _ [_, _, _, _, _, _, _, _, _, _, _] (fun x hx => ?_) (.cons _ _ _ _ (.int _ _) (.cons _ _ _ _ (.int _ _) (.cons _ _ _ _ (.int _ _) (.cons _ _ _ _ (.int _ _) (.cons _ _ _ _ (.int _ _) (.cons _ _ _ _ (.int _ _) (.cons _ _ _ _ (.int _ _) (.cons _ _ _ _ (.int _ _) (.cons _ _ _ _ (.int _ _) (.cons _ _ _ _ (.int _ _) (.cons _ _ _ _ (.int _ _) .nil)))))))))))
  simp only [List.mem_cons, List.not_mem_nil, or_false] at hx
  rcases hx with rfl | rfl | rfl | rfl | rfl | rfl | rfl | rfl | rfl | rfl | rfl <;> rfl
noncomputable def configT (k : Int) (args : List AV) (σ : AH) : RV := match args with
  | [.sp (.a m), .int .i64 (.ofNat a), .int .i64 (.ofNat b), .int .i64 (.ofNat c)] => cnd (Nat.beq m 0) (cnd (Nat.beq a 0) (cnd (Nat.beq b 0) (cnd (Nat.beq c 900) (.ok (cfgA k) σ) (.bad 0 0 70)) (.bad 0 0 70)) (.bad 0 0 70)) (.bad 0 0 70)
  | _ => .bad 0 0 71
theorem configT_ok {C : Nat → Cm} {z k : Int} (hk : nOf z = k) {args : List AV} {σ σ' : AH} {v : AV} (h : configT k args σ = .ok v σ') {e : Env} {w : World} {args' : List Value} (hr : Rel e σ w) (hI : e.I = spC C z) (hv : VRs e args args') : Calls P 22 args'.toArray w (Post e σ w v σ') := by
  unfold configT at h
  split at h
  · rename_i m a b c
    rcases cnd_eq h with ⟨h1, h⟩ | ⟨_, h⟩
    · rcases cnd_eq h with ⟨h2, h⟩ | ⟨_, h⟩
      · rcases cnd_eq h with ⟨h3, h⟩ | ⟨_, h⟩
        · rcases cnd_eq h with ⟨h4, h⟩ | ⟨_, h⟩
          · injection h with h5 h6
            subst h5 h6
            obtain rfl := Nat.eq_of_beq_eq_true h1
            obtain rfl := Nat.eq_of_beq_eq_true h2
            obtain rfl := Nat.eq_of_beq_eq_true h3
            obtain rfl := Nat.eq_of_beq_eq_true h4
            cases hv with
            | cons _ y0 _ ys hy0 hys =>
            cases hys with
            | cons _ y1 _ ys hy1 hys =>
            cases hys with
            | cons _ y2 _ ys hy2 hys =>
            cases hys with
            | cons _ y3 _ ys hy3 hys =>
            cases hys
            cases hy1
            cases hy2
            cases hy3
            have hy : y0 = .int .i64 z := by
              have key : oW z 0 y0 := by
                cases hy0 with
                | spi _ k n h => rw [hI] at h; exact h
                | sps _ s h _ => rw [hI] at h; exact h
              rcases key with ⟨_, h⟩ | ⟨h, _⟩ | ⟨h, _⟩
              · exact h
              · cases h
              · cases h
            subst hy
            refine (config_calls z w).mono fun e0 w' ⟨he, hb⟩ => ?_
            subst he
            rw [hk]
            exact ⟨e, val_cfgA e k, Step.below hr hb⟩
          · cases h
        · cases h
      · cases h
    · cases h
  · cases h
/-- What the evaluator is told. -/
noncomputable def told (k : Int) : Told := fun f => cnd (Nat.beq f 22) (some (configT k)) (cnd (Nat.beq f 298) (some framesT) (cnd (Nat.beq f 69) (some applyT) (told0 f)))
theorem told_case {f g : Nat} {h k : List AV → AH → RV} {r : Option (List AV → AH → RV)} (hf : cnd (Nat.beq f g) (some h) r = some k) : (f = g ∧ h = k) ∨ r = some k := by
  rcases cnd_eq hf with ⟨h1, h2⟩ | ⟨_, h2⟩
  · exact .inl ⟨Nat.eq_of_beq_eq_true h1, Option.some.inj h2⟩
  · exact .inr h2
theorem told_ok {C : Nat → Cm} {z k : Int} (hC : CsOk C) (hk : nOf z = k) : ToldOk P 4 (spC C z) (told k) := fun f h hf args σ v σ' hh e w args' hr hB hv => by
  unfold told at hf
  rcases told_case hf with ⟨rfl, rfl⟩ | hf
  · exact ⟨run_callFunc Tryz.func22 rfl (by kernel_rfl) _, configT_ok hk hh hr hB.2 hv⟩
  rcases told_case hf with ⟨rfl, rfl⟩ | hf
  · exact ⟨run_callFunc Tryz.func298 rfl (by kernel_rfl) _, framesT_ok hC hh hr hB hv⟩
  rcases told_case hf with ⟨rfl, rfl⟩ | hf
  · exact ⟨run_callFunc Tryz.func69 rfl (by kernel_rfl) _, applyT_ok hC hh hr hB hv⟩
  exact told0_ok _ f h hf args σ v σ' hh e w args' hr hB hv
end Go.Proofs.YtpnoiagjgkajdaaGreatDoor.Av
end
