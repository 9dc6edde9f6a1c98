/- What the evaluator is told of ServiceMay's unknown values: names and data that are cut, a chunk's record, a command, an entry. -/
import Derived.Test.YtdgjkejfmehphaaGreatDoorMEvTold
import Derived.Test.YtdgjkejfmehphaaGreatDoorGCmd2
import Derived.Test.YtdgjkejfmehphaaGreatDoorGCmd3
import Derived.Test.YtdgjkejfmehphaaGreatDoorFrames
import Derived.Test.YtdgjkejfmehphaaGreatDoorChRec
import Derived.Test.YtdgjkejfmehphaaGreatDoorChHead
import Derived.Test.YtdgjkejfmehphaaGreatDoorCut
set_option linter.unusedVariables false
noncomputable section
namespace Go.Proofs.YtdgjkejfmehphaaGreatDoor.Av
open Go Go.RowKit
/-- The law's unknown values: name, data, client, a number, a kind; the command that comes of them. -/
structure Mp where
  nm : List UInt8
  dat : List UInt8
  c : Nat
  k : Nat
  kd : Int
  cm : Cm
def Mp.id (p : Mp) : Nat := p.c * 4294967296 + 1
def Mp.datc (p : Mp) : List UInt8 := p.dat.take 5000
def Mp.fr (p : Mp) : List UInt8 := frame (encRec 1 p.id p.datc)
def Mp.ent (p : Mp) : En := ⟨2, 1, encC p.cm⟩
/-- The unknown strings. -/
def Mp.A (p : Mp) : Nat → List Nat
  | 0 => p.nm.map UInt8.toNat
  | 1 => (p.nm.take 40).map UInt8.toNat
  | 2 => p.dat.map UInt8.toNat
  | 3 => p.datc.map UInt8.toNat
  | 4 => p.fr.map UInt8.toNat
  | 5 => (encC p.cm).map UInt8.toNat
  | 6 => (frs [p.ent]).map UInt8.toNat
  | 7 => List.replicate p.c 0
  | 8 => List.replicate p.k 0
  | _ => []
/-- The other unknown values. -/
def Mp.O (p : Mp) (n : Nat) (v : Value) : Prop := (n = 0 ∧ v = .int .u64 (p.id : Int)) ∨ (n = 1 ∧ v = .int .u32 (crc p.datc)) ∨ (n = 10 ∧ v = .int .i64 p.kd) ∨ ∃ i b, i < 8 ∧ n = i + 2 ∧ p.fr[i]? = some b ∧ v = .int .u8 (b.toNat : Int)
def spM (p : Mp) : SX → Value → Prop := spI p.A p.O
/-- What may be told. -/
structure Mp.Ok (p : Mp) : Prop where
  c : p.c ≤ 1000
  cm : p.cm.Ok
theorem strB_bs (l : List UInt8) : strB (l.map UInt8.toNat) = bs l := by
  have : (UInt8.ofNat ∘ UInt8.toNat) = id := by funext a; simp
  unfold strB bs
  rw [List.map_map, this, List.map_id]
theorem map_lt (l : List UInt8) : ∀ x ∈ l.map UInt8.toNat, x < 256 := fun x hx => by
  obtain ⟨a, _, rfl⟩ := List.mem_map.1 hx
  exact a.toNat_lt
theorem A_lt (p : Mp) : ∀ n, ∀ x ∈ p.A n, x < 256
  | 0 => map_lt _
  | 1 => map_lt _
  | 2 => map_lt _
  | 3 => map_lt _
  | 4 => map_lt _
  | 5 => map_lt _
  | 6 => map_lt _
  | 7 => fun x hx => by have := List.eq_of_mem_replicate hx; omega
  | 8 => fun x hx => by have := List.eq_of_mem_replicate hx; omega
  | n + 9 => fun x hx => by cases hx
/-- The sum's table. -/
def tabN : List Nat := [0, 498536548, 997073096, 651767980, 1994146192, 1802195444, 1303535960, 1342533948, 3988292384, 4027552580, 3604390888, 3412177804, 2607071920, 2262029012, 2685067896, 3183342108]
def tabA : List AV := tabN.map fun n => .int .u32 (.ofNat n)
theorem vrs_u32 {e : Env} : ∀ {l : List Nat} {vs : List Value}, VRs e (l.map fun n => .int .u32 (.ofNat n)) vs → vs = l.map fun (n : Nat) => Value.int .u32 (n : Int)
  | [], vs, h => by cases h; rfl
  | n :: l, vs, h => by
    cases h with
    | cons _ y _ ys hy hys =>
    cases hy
    rw [vrs_u32 hys]
    rfl
theorem tabN_at : ∀ i < 16, tabN[i]? = some (tab i).toNat ∧ ((tab i).toNat : Int) = tab i := by decide
/-- The tables are there. -/
theorem tab_of {p : Mp} {e : Env} {σ : AH} {w : World} {cs : List AV} {t : TypeId} {fz : Bool} {cv : Option (Nat × Nat)} {ob : AO} (hr : Rel e σ w) (hB : Glob 4 (spM p) e) (h0 : σ.hp.get 0 = some (.cells cs t fz cv)) (hc : AV.eqbs cs tabA = true) (h1 : σ.hp.get 1 = some ob) : Tab w := by
  obtain rfl := AV.eqbs_eq hc
  obtain ⟨b0, cs0', rst0, fr0, q1, q2, q3, -, -, -⟩ := hr.cells h0
  obtain rfl : 0 = b0 := by rw [hB.1 _ (by decide)] at q1; exact Option.some.inj q1
  obtain ⟨b1, p1, -⟩ := hr.obj _ _ h1
  obtain rfl : 1 = b1 := by rw [hB.1 _ (by decide)] at p1; exact Option.some.inj p1
  have hlt := hr.lt _ _ p1
  have hq3 := vrs_u32 (l := tabN) q3
  subst hq3
  exact ⟨fun i hi => by
    rw [cell_at q2]
    obtain ⟨a1, a2⟩ := tabN_at i hi
    have : i < tabN.length := hi
    rw [List.getElem?_toArray, List.getElem?_append_left (by simpa using this), List.getElem?_map, a1, Option.map_some, a2], ⟨_, Array.getElem?_eq_getElem hlt⟩⟩
theorem keep_below {w w' : World} (h : Keep [] w w') : Below w.heap.size w w' := ⟨h.os, h.tape, h.output, h.size, fun k hk => h.block k hk (by simp)⟩
section
variable {p : Mp} {e : Env} {v : Value} {w : World} {σ σ' : AH} {args : List AV} {u : AV} {args' : List Value}
theorem at_val {k : Nat} (hI : e.I = spM p) (h : VR e (.sp (.s [.at k])) v) : v = .string (strB (p.A k)) := by
  obtain ⟨h1, -⟩ := toS_ok (x := [.at k]) hI rfl h
  rw [h1]
  congr 2
  show p.A k ++ [] = _
  rw [List.append_nil]
theorem val_at (hI : e.I = spM p) (k : Nat) : VR e (.sp (.s [.at k])) (.string (strB (p.A k))) := by
  have hb : bytesS p.A [.at k] = p.A k := by show p.A k ++ [] = _; rw [List.append_nil]
  have := mkS_ok (A := p.A) (O := p.O) (l := [.at k]) hI (by rw [hb]; exact A_lt p k)
  rwa [hb] at this
theorem oth_val {n : Nat} (hI : e.I = spM p) (h : VR e (.sp (.a n)) v) : p.O n v := by
  cases h with
  | spi _ k z h => rw [hI] at h; exact h
  | sps _ s h _ => rw [hI] at h; exact h
theorem val_oth {n : Nat} {k : IntKind} {z : Int} (hI : e.I = spM p) (h : p.O n (.int k z)) : VR e (.sp (.a n)) (.int k z) := .spi _ _ _ (by rw [hI]; exact h)
theorem lin_val {c : Int} {cs : List Int} (hI : e.I = spM p) (h : VR e (.sp (.i c cs)) v) : v = .int .i64 (linV (fun n => (p.A n).length) c cs) := by
  cases h with
  | spi _ k z h => rw [hI] at h; exact h
  | sps _ s h _ => rw [hI] at h; cases h
theorem val_lin {c : Int} {cs : List Int} (hI : e.I = spM p) : VR e (.sp (.i c cs)) (.int .i64 (linV (fun n => (p.A n).length) c cs)) := .spi _ _ _ (by rw [hI]; rfl)
theorem O_id {z : Value} (h : p.O 0 z) : z = .int .u64 (p.id : Int) := by
  rcases h with ⟨_, h⟩ | ⟨h, _⟩ | ⟨h, _⟩ | ⟨i, b, h1, h2, _⟩
  · exact h
  · cases h
  · cases h
  · omega
theorem O_sum {z : Value} (h : p.O 1 z) : z = .int .u32 (crc p.datc) := by
  rcases h with ⟨h, _⟩ | ⟨_, h⟩ | ⟨h, _⟩ | ⟨i, b, h1, h2, _⟩
  · cases h
  · exact h
  · cases h
  · omega
/-- Cut, of the name and of the data. -/
noncomputable def cutT (args : List AV) (σ : AH) : RV := match args with
  | [.sp (.s [.at k]), .int .i64 (.ofNat n)] => cnd (Nat.beq k 0) (cnd (Nat.beq n 40) (.ok (.sp (.s [.at 1])) σ) (.bad 0 0 1)) (cnd (Nat.beq k 2) (cnd (Nat.beq n 5000) (.ok (.sp (.s [.at 3])) σ) (.bad 0 0 2)) (.bad 0 0 3))
  | _ => .bad 0 0 4
theorem cutT_ok (h : cutT args σ = .ok u σ') (hr : Rel e σ w) (hI : e.I = spM p) (hv : VRs e args args') : Calls P 5 args'.toArray w (Post e σ w u σ') := by
  unfold cutT at h
  split at h
  · rename_i k n
    cases hv with
    | cons _ y _ ys hy hys =>
    cases hys with
    | cons _ z _ zs hz hzs =>
    cases hzs
    cases hz
    have hy := at_val hI hy
    subst hy
    rcases cnd_eq h with ⟨h1, h2⟩ | ⟨_, h2⟩
    · obtain rfl := Nat.eq_of_beq_eq_true h1
      rcases cnd_eq h2 with ⟨h3, h4⟩ | ⟨_, h4⟩
      · obtain rfl := Nat.eq_of_beq_eq_true h3
        injection h4 with h5 h6
        subst h5 h6
        rw [show p.A 0 = p.nm.map UInt8.toNat from rfl, strB_bs]
        refine (cut_calls p.nm 40 w).mono fun e0 w' ⟨he, hw⟩ => ?_
        subst he hw
        have := val_at hI 1
        rw [show p.A 1 = (p.nm.take 40).map UInt8.toNat from rfl, strB_bs] at this
        exact ⟨e, this, .refl hr⟩
      · cases h4
    · rcases cnd_eq h2 with ⟨k1, k2⟩ | ⟨_, k2⟩
      · obtain rfl := Nat.eq_of_beq_eq_true k1
        rcases cnd_eq k2 with ⟨h3, h4⟩ | ⟨_, h4⟩
        · obtain rfl := Nat.eq_of_beq_eq_true h3
          injection h4 with h5 h6
          subst h5 h6
          rw [show p.A 2 = p.dat.map UInt8.toNat from rfl, strB_bs]
          refine (cut_calls p.dat 5000 w).mono fun e0 w' ⟨he, hw⟩ => ?_
          subst he hw
          have := val_at hI 3
          rw [show p.A 3 = (p.dat.take 5000).map UInt8.toNat from rfl, strB_bs] at this
          exact ⟨e, this, .refl hr⟩
        · cases h4
      · cases k2
  · cases h
/-- A blob's number. -/
noncomputable def idT (args : List AV) (σ : AH) : RV := match args with
  | [x, .int .i64 (.ofNat n)] => cnd (AV.eqb x (.sp (.i 0 [0, 0, 0, 0, 0, 0, 0, 1]))) (cnd (Nat.beq n 1) (.ok (.sp (.a 0)) σ) (.bad 0 0 5)) (.bad 0 0 5)
  | _ => .bad 0 0 5
set_option maxRecDepth 100000 in
set_option maxHeartbeats 1000000 in
theorem id_calls (c : Nat) (hc : c ≤ 1000) (w : World) : Calls Tryz.prog 23 #[.int .i64 (c : Int), .int .i64 1] w fun e w' => e = .returned (.int .u64 ((c * 4294967296 + 1 : Nat) : Int)) ∧ w = w' := by
  go_enter Tryz.func23, Tryz.ntmps23
  go_wp2
  go_ret
  exact ⟨by rw [show ((c * 4294967296 + 1 : Nat) : Int) = (c : Int) * 4294967296 + 1 by omega]; rfl, rfl⟩
theorem lin7 {p : Mp} : linV (fun n => (p.A n).length) 0 [0, 0, 0, 0, 0, 0, 0, 1] = (p.c : Int) := by
  have h := linV_unit 0 7 fun n => (p.A n).length
  have h2 : (p.A 7).length = p.c := by show (List.replicate p.c 0).length = p.c; simp
  rw [h2, Int.zero_add] at h
  exact h
theorem idT_ok (hp : p.Ok) (h : idT args σ = .ok u σ') (hr : Rel e σ w) (hI : e.I = spM p) (hv : VRs e args args') : Calls P 23 args'.toArray w (Post e σ w u σ') := by
  unfold idT at h
  split at h
  · rename_i x n
    rcases cnd_eq h with ⟨h1, h2⟩ | ⟨_, h2⟩
    · obtain rfl := AV.eqb_eq h1
      rcases cnd_eq h2 with ⟨h3, h4⟩ | ⟨_, h4⟩
      · obtain rfl := Nat.eq_of_beq_eq_true h3
        injection h4 with h5 h6
        subst h5 h6
        cases hv with
        | cons _ y _ ys hy hys =>
        cases hys with
        | cons _ z _ zs hz hzs =>
        cases hzs
        cases hz
        have hy := lin_val hI hy
        subst hy
        rw [lin7]
        refine (id_calls p.c hp.c w).mono fun e0 w' ⟨he, hw⟩ => ?_
        subst he hw
        exact ⟨e, val_oth hI (.inl ⟨rfl, rfl⟩), .refl hr⟩
      · cases h4
    · cases h2
  · cases h
/-- The data's sum. -/
noncomputable def sumT (args : List AV) (σ : AH) : RV := match args with
  | [.sl (some (l, 0)) 1 (.k 1)] => (match σ.get l with
    | some (.cells (.sp (.s [.at k]) :: _) _ _ _) => cnd (Nat.beq k 3) (match σ.get 0 with
      | some (.cells cs _ _ _) => cnd (AV.eqbs cs tabA) (opt (.bad 232 0 8) (σ.get 1) fun _ => .ok (.sp (.a 1)) σ) (.bad 0 0 6)
      | _ => .bad 0 0 7) (.bad 0 0 8)
    | _ => .bad 0 0 9)
  | _ => .bad 0 0 10
theorem sumT_ok (h : sumT args σ = .ok u σ') (hr : Rel e σ w) (hB : Glob 4 (spM p) e) (hv : VRs e args args') : Calls P 25 args'.toArray w (Post e σ w u σ') := by
  unfold sumT at h
  split at h
  · rename_i l
    split at h
    · rename_i k rest t fz cv hg
      rw [AH.get_eq] at hg
      rcases cnd_eq h with ⟨h1, h2⟩ | ⟨_, h2⟩
      · obtain rfl := Nat.eq_of_beq_eq_true h1
        split at h2
        · rename_i cs t2 fz2 cv2 hg0
          rw [AH.get_eq] at hg0
          rcases cnd_eq h2 with ⟨k3, k4⟩ | ⟨_, k4⟩
          · cases hg1 : σ.get 1 with
            | none => rw [hg1] at k4; cases k4
            | some ob =>
            rw [hg1] at k4
            injection (show RV.ok (.sp (.a 1)) σ = RV.ok u σ' from k4) with h7 h8
            subst h7 h8
            rw [AH.get_eq] at hg1
            have hT := tab_of hr hB hg0 k3 hg1
            cases hv with
            | cons _ y _ ys hy hys =>
            cases hys
            cases hy with
            | sl _ _ b _ _ cap hb hk hn =>
            obtain rfl : cap = 1 := by cases hk; rfl
            obtain ⟨b2, cs', rst, fr, k1, k2, k5, -, -, -⟩ := hr.cells hg
            obtain rfl : b = b2 := by rw [hb] at k1; exact Option.some.inj k1
            cases k5 with
            | cons x0 x0' cs0 cs0' hx0 hcs0 =>
            have hx := at_val hB.2 hx0
            subst hx
            rw [show p.A 3 = p.datc.map UInt8.toNat from rfl, strB_bs] at k2
            refine (sum_calls [p.datc] b w hT (fun i hi => ?_) (by simp) (fun x hx => ?_)).mono fun e0 w' ⟨he, hw⟩ => ?_
            · have hi0 : i = 0 := by simpa using hi
              subst hi0
              rw [cell_at k2]
              simp
            · rw [List.mem_singleton.1 hx]
              unfold Mp.datc
              rw [List.length_take]
              omega
            · subst he hw
              refine ⟨e, ?_, .refl hr⟩
              rw [show [p.datc].flatten = p.datc by simp]
              exact val_oth hB.2 (.inr (.inl ⟨rfl, rfl⟩))
          · cases k4
        · cases h2
      · cases h2
    · cases h
  · cases h
/-- The chunk's record. -/
noncomputable def recT (args : List AV) (σ : AH) : RV := match args with
  | [.agg [.int .u64 (.ofNat n), .sp (.a m), .sp (.s [.at k])]] => cnd (Nat.beq n 1) (cnd (Nat.beq m 0) (cnd (Nat.beq k 3) (match σ.get 0 with
      | some (.cells cs _ _ _) => cnd (AV.eqbs cs tabA) (opt (.bad 232 0 8) (σ.get 1) fun _ => .ok (.sp (.s [.at 4])) σ) (.bad 0 0 11)
      | _ => .bad 0 0 11) (.bad 0 0 11)) (.bad 0 0 11)) (.bad 0 0 11)
  | _ => .bad 0 0 11
theorem id_lt (hp : p.Ok) : p.id < 18446744073709551616 := by have := hp.c; unfold Mp.id; omega
theorem recT_ok (hp : p.Ok) (h : recT args σ = .ok u σ') (hr : Rel e σ w) (hB : Glob 4 (spM p) e) (hv : VRs e args args') : Calls P 238 args'.toArray w (Post e σ w u σ') := by
  unfold recT at h
  split at h
  · rename_i n m k
    rcases cnd_eq h with ⟨a1, a2⟩ | ⟨_, a2⟩
    · rcases cnd_eq a2 with ⟨b1, b2⟩ | ⟨_, b2⟩
      · rcases cnd_eq b2 with ⟨c1, c2⟩ | ⟨_, c2⟩
        · split at c2
          · rename_i cs t2 fz2 cv2 hg0
            rw [AH.get_eq] at hg0
            rcases cnd_eq c2 with ⟨k3, k4⟩ | ⟨_, k4⟩
            · cases hg1 : σ.get 1 with
              | none => rw [hg1] at k4; cases k4
              | some ob =>
              rw [hg1] at k4
              injection (show RV.ok (.sp (.s [.at 4])) σ = RV.ok u σ' from k4) with h7 h8
              subst h7 h8
              rw [AH.get_eq] at hg1
              have hT := tab_of hr hB hg0 k3 hg1
              obtain rfl := Nat.eq_of_beq_eq_true a1
              obtain rfl := Nat.eq_of_beq_eq_true b1
              obtain rfl := Nat.eq_of_beq_eq_true c1
              cases hv with
              | cons _ y _ ys hy hys =>
              cases hys
              cases hy with
              | agg _ l _ hl =>
              cases hl with
              | cons _ x1 _ l1 hx1 hl =>
              cases hl with
              | cons _ x2 _ l2 hx2 hl =>
              cases hl with
              | cons _ x3 _ l3 hx3 hl =>
              cases hl
              cases hx1
              have h2 := O_id (oth_val hB.2 hx2)
              have h3 := at_val hB.2 hx3
              subst h2 h3
              rw [show p.A 3 = p.datc.map UInt8.toNat from rfl, strB_bs]
              refine (recFrame_calls 1 p.id p.datc (by omega) (id_lt hp) (by unfold Mp.datc; rw [List.length_take]; omega) w hT).mono fun e0 w' ⟨he, hk⟩ => ?_
              subst he
              refine ⟨e, ?_, Step.below hr (keep_below hk)⟩
              have := val_at hB.2 4
              rw [show p.A 4 = p.fr.map UInt8.toNat from rfl, strB_bs] at this
              exact this
            · cases k4
          · cases c2
        · cases c2
      · cases b2
    · cases a2
  · cases h
theorem fr_len (p : Mp) : 8 ≤ p.fr.length := by unfold Mp.fr; rw [frame_len]; omega
/-- A frame's head. -/
noncomputable def headT (args : List AV) (σ : AH) : RV := match args with
  | [.sp (.s [.at k])] => cnd (Nat.beq k 4) (.ok (.agg [.sp (.a 2), .sp (.a 3), .sp (.a 4), .sp (.a 5), .sp (.a 6), .sp (.a 7), .sp (.a 8), .sp (.a 9)]) σ) (.bad 0 0 12)
  | _ => .bad 0 0 12
theorem headT_ok (h : headT args σ = .ok u σ') (hr : Rel e σ w) (hI : e.I = spM p) (hv : VRs e args args') : Calls P 188 args'.toArray w (Post e σ w u σ') := by
  unfold headT at h
  split at h
  · rename_i k
    rcases cnd_eq h with ⟨a1, a2⟩ | ⟨_, a2⟩
    · obtain rfl := Nat.eq_of_beq_eq_true a1
      injection a2 with h7 h8
      subst h7 h8
      cases hv with
      | cons _ y _ ys hy hys =>
      cases hys
      have hy := at_val hI hy
      subst hy
      rw [show p.A 4 = p.fr.map UInt8.toNat from rfl, strB_bs]
      refine (headOf_calls p.fr (fr_len p) w).mono fun e0 w' ⟨he, hk⟩ => ?_
      subst he
      refine ⟨e, ?_, Step.below hr (keep_below hk)⟩
      have hb : ∀ i, i < 8 → ∀ b, p.fr[i]? = some b → VR e (.sp (.a (i + 2))) (.int .u8 (b.toNat : Int)) := fun i hi b hb => val_oth hI (.inr (.inr (.inr ⟨i, b, hi, rfl, hb, rfl⟩)))
      have h8 := fr_len p
      generalize p.fr = l at hb h8
      match l, h8 with
      | c0 :: c1 :: c2 :: c3 :: c4 :: c5 :: c6 :: c7 :: t, _ =>
        refine .agg _ [_, _, _, _, _, _, _, _] (by simp [AV.one]) ?_
        exact .cons _ _ _ _ (hb 0 (by omega) _ rfl) (.cons _ _ _ _ (hb 1 (by omega) _ rfl) (.cons _ _ _ _ (hb 2 (by omega) _ rfl) (.cons _ _ _ _ (hb 3 (by omega) _ rfl) (.cons _ _ _ _ (hb 4 (by omega) _ rfl) (.cons _ _ _ _ (hb 5 (by omega) _ rfl) (.cons _ _ _ _ (hb 6 (by omega) _ rfl) (.cons _ _ _ _ (hb 7 (by omega) _ rfl) .nil)))))))
    · cases a2
  · cases h
end
end Go.Proofs.YtdgjkejfmehphaaGreatDoor.Av
end
