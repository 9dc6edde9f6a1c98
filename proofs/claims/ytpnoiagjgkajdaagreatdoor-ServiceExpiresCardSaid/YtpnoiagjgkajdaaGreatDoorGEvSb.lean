/- The evaluator is sound: operations, maps, slices. -/
import Derived.Deep.AppendSrc
import Derived.Laws.MakeOwn
import Derived.Lib.UnsafeStr
import Derived.Laws.StructEq
import Derived.MapKept
import Derived.Test.YtpnoiagjgkajdaaGreatDoorGEvSa
set_option linter.unusedVariables false
set_option linter.unusedSimpArgs false
namespace Go.Proofs.YtpnoiagjgkajdaaGreatDoor.Av
open Go
section
variable {P : Program} {tt : TT} {e : Env} {σ σ' : AH} {w : World} {g : Tr AV}
theorem lb_eq (σ : AH) (q : Nat) : σ.lb q = (σ.lbs.get q).getD 0 := by
  cases σ with
  | mk h n c lb =>
    show opt 0 (lb.get q) (fun n => n) = (lb.get q).getD 0
    cases lb.get q <;> rfl
/-- A capacity that is surely as great. -/
theorem ge_ok (hr : Rel e σ w) {c : Kap} {cap n : Nat} (h : Kap.ge σ c n = true) (hk : KR e c cap) : n ≤ cap := by
  cases hk with
  | k m => exact Nat.le_of_ble_eq_true h
  | u q m x hq hm =>
    have h1 : m + n ≤ σ.lb q := Nat.le_of_ble_eq_true h
    have h2 := lb_eq σ q
    cases hg : σ.lbs.get q with
    | none => rw [h2, hg] at h1; simp at h1; omega
    | some b =>
      rw [h2, hg] at h1
      obtain ⟨k, k1, k2⟩ := hr.lb q b hg
      rw [hq] at k1
      obtain rfl := Option.some.inj k1
      simp at h1
      omega
theorem gt_ok (hr : Rel e σ w) {c : Kap} {cap n : Nat} (h : Kap.gt σ c n = true) (hk : KR e c cap) : n < cap := by
  cases hk with
  | k =>
    have : Nat.blt n cap = true := h
    rw [Nat.blt_eq] at this
    exact this
  | u q m x hq hm =>
    have h0 : Nat.blt (m + n) (σ.lb q) = true := h
    rw [Nat.blt_eq] at h0
    have h2 := lb_eq σ q
    cases hg : σ.lbs.get q with
    | none => rw [h2, hg] at h0; simp at h0
    | some b =>
      rw [h2, hg] at h0
      obtain ⟨k, k1, k2⟩ := hr.lb q b hg
      rw [hq] at k1
      obtain rfl := Option.some.inj k1
      simp at h0
      omega
theorem KR.sub {c : Kap} {cap n : Nat} (hk : KR e c cap) (hn : n ≤ cap) : KR e (c.sub n) (cap - n) := by
  cases hk with
  | k m => exact .k _
  | u q m x hq hm =>
    have : KR e (.u q (m + n)) (x - (m + n)) := .u q (m + n) x hq (by omega)
    rw [show x - m - n = x - (m + n) by omega]
    exact this
/-- A bound that may be left out. -/
def OptR (e : Env) : Option AV → Option Value → Prop
  | none, none => True
  | some v, some v' => VR e v v'
  | _, _ => False
theorem dflt_ok {o : Option AV} {o' : Option Value} {d n : Nat} (h : dflt o d = some n) (ho : OptR e o o') : (o' = none ∧ n = d) ∨ ∃ k, o' = some (.int k (n : Int)) := by
  cases o with
  | none =>
    cases o' with
    | none => injection h with h; exact .inl ⟨rfl, h.symm⟩
    | some _ => exact ho.elim
  | some v =>
    cases o' with
    | none => exact ho.elim
    | some v' =>
      obtain ⟨k, rfl⟩ := natOf_eq h
      cases ho
      exact .inr ⟨k, rfl⟩
theorem bound_ok {k : IntKind} {n y : Nat} {c : BoundsCode} (h : n ≤ y) : (Instr.sliceBound (.int k (n : Int)) y c).run P w = .ok n w := by
  have : (0 : Int) ≤ (n : Int) ∧ (n : Int) ≤ (y : Int) := ⟨Int.natCast_nonneg _, by omega⟩
  simp [Instr.sliceBound, asIntOf, this]
/-- The bounds of a slice expression without a third one. -/
theorem bounds_ok {isS : Bool} {len cap a h : Nat} {lo hi : Option Value} (hlo : (lo = none ∧ a = 0) ∨ ∃ k, lo = some (.int k (a : Int))) (hhi : (hi = none ∧ h = len) ∨ ∃ k, hi = some (.int k (h : Int))) (h1 : h ≤ cap) (h2 : a ≤ h) :
    (Instr.sliceBounds isS len cap lo hi none).run P w = .ok (a, h, cap) w := by
  rcases hlo with ⟨rfl, rfl⟩ | ⟨k, rfl⟩ <;> rcases hhi with ⟨rfl, rfl⟩ | ⟨k2, rfl⟩ <;> simp [Instr.sliceBounds, bound_ok, h1, h2]
theorem strB_extract (s : List Nat) (a h : Nat) : (strB s).extract a h = strB ((s.drop a).take (h - a)) := by
  apply ByteArray.ext
  rw [ByteArray.data_extract]
  simp only [strB, List.extract_toArray, List.extract_eq_take_drop]
  rw [List.map_take, List.map_drop]
theorem sliceA_ok (hT : TTok P tt) (hr : Rel e σ w) {t : TypeId} {X v : AV} {x' : Value} {lo hi mx : Option AV} {lo' hi' mx' : Option Value} (h : sliceA tt t X lo hi mx σ = .val v σ') (hx : VR e X x') (hlo : OptR e lo lo') (hhi : OptR e hi hi') (hmx : OptR e mx mx') :
    ∃ v', (Instr.sliceAt t x' lo' hi' mx').run P w = .ok v' w ∧ VR e v v' ∧ σ' = σ := by
  unfold sliceA at h
  split at h
  · cases h
  · cases mx' with
    | some _ => exact hmx.elim
    | none =>
    obtain ⟨i, h1, h2⟩ := opt_val h
    obtain ⟨info, d, i1, i2, i3, i4, i5, -⟩ := (hT t i h1).ex
    split at h2
    · rename_i n el l o hc
      rw [hc] at i5
      obtain rfl : d = .array n el := i5
      split at h2
      · rename_i a hb j ha hbb hj
        split at h2
        · rename_i g1 g2
          have g1 := Nat.le_of_ble_eq_true g1
          have g2 := Nat.le_of_ble_eq_true g2
          rw [frcN_eq, frcN_eq, frcN_eq] at h2
          injection h2 with h2 h3
          subst h2 h3
          obtain ⟨jn, _, j1, j2, -⟩ := (hT _ j hj).ex
          have hsz : (Go.sizeOf el).run P w = .ok j.size w := by rw [run_sizeOf w j1, Program.cellsOf, j1]; simp [j2]
          cases hx with
          | ptr _ _ b hbk =>
            refine ⟨.slice (some ⟨b, (if n = a then o else o + a * j.size), none⟩) (hb - a) (n - a), ?_, ?_, rfl⟩
            · simp only [Instr.sliceAt, Sem.run_bind, run_underlying i3, Result.andThen_ok, Instr.sureAddr, Sem.run_pure, bounds_ok (dflt_ok ha hlo) (dflt_ok hbb hhi) g1 g2, hsz, addr_add]
              split <;> rfl
            · have : cnd (Nat.beq n a) o (Nat.add o (Nat.mul a j.size)) = (if n = a then o else o + a * j.size) := by
                cases hq : Nat.beq n a with
                | true => rw [if_pos (Nat.eq_of_beq_eq_true hq)]; rfl
                | false => rw [if_neg (fun h => by rw [h] at hq; simp at hq)]; rfl
              rw [this]
              exact .sl _ _ b _ _ _ hbk (.k _) (by show hb - a ≤ n - a; omega)
        · cases h2
      · cases h2
    · rename_i s hc
      rw [hc] at i5
      obtain rfl : d = .string := i5
      split at h2
      · rename_i a hb ha hbb
        split at h2
        · rename_i g1 g2
          have g1 := Nat.le_of_ble_eq_true g1
          have g2 := Nat.le_of_ble_eq_true g2
          rw [frcL_eq] at h2
          injection h2 with h2 h3
          subst h2 h3
          cases hx with
          | str _ hs =>
            refine ⟨.string (strB ((s.drop a).take (hb - a))), ?_, .str _ (fun x hx => hs x (List.mem_of_mem_drop (List.mem_of_mem_take hx))), rfl⟩
            have hhi2 : (hi' = none ∧ hb = (strB s).size) ∨ ∃ k, hi' = some (.int k (hb : Int)) := by rw [strB_size]; exact dflt_ok hbb hhi
            simp only [Instr.sliceAt, Instr.slice, Sem.run_bind, run_underlying i3, Result.andThen_ok, Option.isSome_none, Bool.false_eq_true, if_false, Sem.run_pure, bounds_ok (isS := false) (len := (strB s).size) (cap := (strB s).size) (dflt_ok ha hlo) hhi2 (by rw [strB_size]; exact g1) g2, strB_extract]
        · cases h2
      · cases h2
    · rename_i el a n c hc
      rw [hc] at i5
      obtain rfl : d = .slice el := i5
      split at h2
      · rename_i p hb j ha hbb hj
        obtain ⟨jn, _, j1, j2, -⟩ := (hT _ j hj).ex
        have hsz : (Go.sizeOf el).run P w = .ok j.size w := by rw [run_sizeOf w j1, Program.cellsOf, j1]; simp [j2]
        split at h2
        · rename_i g1 g2
          have g2 := Nat.le_of_ble_eq_true g2
          cases hx with
          | nilsl =>
            have g1 : hb ≤ 0 := Nat.le_of_ble_eq_true g1
            injection h2 with h2 h3
            subst h2 h3
            refine ⟨.slice none 0 0, ?_, .nilsl, rfl⟩
            have hp0 : p = 0 := by omega
            have hb0 : hb = 0 := by omega
            subst hp0 hb0
            simp only [Instr.sliceAt, Instr.slice, Sem.run_bind, run_underlying i3, Result.andThen_ok, bounds_ok (dflt_ok ha hlo) (dflt_ok hbb hhi) (Nat.le_refl 0) (Nat.le_refl 0), hsz, Sem.run_pure]
            rfl
          | sl0 => cases g1
          | sl l o b _ _ cap hbk hk hn =>
            have g1 := ge_ok hr g1 hk
            have hrun : (Instr.sliceAt t (.slice (some ⟨b, o, none⟩) n cap) lo' hi' none).run P w = .ok (.slice (some ⟨b, (if cap = p then o else o + p * j.size), none⟩) (hb - p) (cap - p)) w := by
              simp only [Instr.sliceAt, Instr.slice, Sem.run_bind, run_underlying i3, Result.andThen_ok, bounds_ok (dflt_ok ha hlo) (dflt_ok hbb hhi) g1 g2, hsz, Sem.run_pure, Option.map_some, addr_add]
              split <;> rfl
            have hcap := hk.sub (n := p) (by omega)
            split at h2
            · rename_i hz
              cases hz
            · rename_i l2 o2 hz
              injection hz with hz
              injection hz with hz1 hz2
              subst hz1 hz2
              split at h2
              · rename_i hgt
                have hgt := gt_ok hr hgt hk
                rw [frcN_eq, frcN_eq] at h2
                injection h2 with h2 h3
                subst h2 h3
                refine ⟨_, hrun, ?_, rfl⟩
                rw [if_neg (by omega)]
                exact .sl l _ b _ _ _ hbk hcap (by show hb - p ≤ cap - p; omega)
              · split at h2
                · rename_i hp0 _
                  have hp0 : p = 0 := Nat.eq_of_beq_eq_true hp0
                  subst hp0
                  rw [frcN_eq] at h2
                  injection h2 with h2 h3
                  subst h2 h3
                  refine ⟨_, hrun, ?_, rfl⟩
                  rw [Nat.zero_mul, Nat.add_zero, ite_self, Nat.sub_zero]
                  exact .sl l o b _ _ _ hbk hk (by show hb - 0 ≤ cap; omega)
                · rw [frcN_eq] at h2
                  injection h2 with h2 h3
                  subst h2 h3
                  cases hk with
                  | k =>
                  have h9 : Kap.gt σ (.k cap) p = false := by assumption
                  have : Nat.blt p cap = false := h9
                  have hle : ¬ p < cap := fun h => by rw [← Nat.blt_eq] at h; rw [h] at this; cases this
                  have hpc : cap = p := by omega
                  refine ⟨_, hrun, ?_, rfl⟩
                  rw [if_pos hpc]
                  exact .sl l o b _ _ _ hbk hcap (by show hb - p ≤ cap - p; omega)
                · obtain ⟨q1, q2⟩ := cnd_val h2
                  injection q2 with q2 q3
                  subst q2 q3
                  have q1 := Nat.eq_of_beq_eq_true q1
                  refine ⟨_, hrun, ?_, rfl⟩
                  rw [show hb - p = 0 by omega]
                  exact .sl0 l o b _ _ hbk
                · cases h2
        · cases h2
      · cases h2
    · cases h2
end
end Go.Proofs.YtpnoiagjgkajdaaGreatDoor.Av
namespace Go.Proofs.YtpnoiagjgkajdaaGreatDoor.Av
open Go
section
variable {P : Program} {tt : TT} {e : Env} {σ σ' : AH} {w : World} {g : Tr AV}
theorem elA_eq {c : TC} {e : TypeId} (h : elA c = some e) : c = .slice e := by
  unfold elA at h
  split at h
  · injection h with h; rw [h]
  · cases h
theorem TIok.slice {t : TypeId} {i : TI} {el : TypeId} (h : TIok P t i) (hc : elA i.cls = some el) : P.underlying t = some (.slice el) := by
  obtain ⟨info, d, i1, i2, i3, i4, i5, -⟩ := h.ex
  rw [elA_eq hc] at i5
  obtain rfl : d = .slice el := i5
  exact i3
theorem slice3_ok (hT : TTok P tt) (hr : Rel e σ w) {t : TypeId} {X v mv : AV} {x' mv' : Value} {lo hi : Option AV} {lo' hi' : Option Value} (h : slice3A tt t X lo hi mv σ = .val v σ') (hx : VR e X x') (hlo : OptR e lo lo') (hhi : OptR e hi hi') (hmv : VR e mv mv') :
    ∃ v', (Instr.sliceAt t x' lo' hi' (some mv')).run P w = .ok v' w ∧ VR e v v' ∧ σ' = σ := by
  obtain ⟨i, h1, h2⟩ := opt_val h
  obtain ⟨el, h3, h4⟩ := opt_val h2
  obtain ⟨j, h5, h6⟩ := opt_val h4
  obtain ⟨hv, h7, h8⟩ := opt_val h6
  subst h7
  have hu := (hT t i h1).slice h3
  obtain ⟨jn, _, j1, j2, -⟩ := (hT el j h5).ex
  have hsz : (Go.sizeOf el).run P w = .ok j.size w := by rw [run_sizeOf w j1, Program.cellsOf, j1]; simp [j2]
  split at h8
  · rename_i l o n c
    obtain ⟨p, a1, a2⟩ := opt_val h8
    obtain ⟨hh, a3, a4⟩ := opt_val a2
    obtain ⟨m, a5, a6⟩ := opt_val a4
    obtain ⟨b1, b2⟩ := cnd_val a6
    obtain ⟨b3, b4⟩ := cnd_val b2
    obtain ⟨b5, b6⟩ := cnd_val b4
    rw [frcN_eq, frcN_eq, frcN_eq] at b6
    injection b6 with b6 b7
    subst b6 b7
    have b3 := Nat.le_of_ble_eq_true b3
    have b5 := Nat.le_of_ble_eq_true b5
    cases hi' with
    | none => exact hhi.elim
    | some hi' =>
    have hhi : VR e hv hi' := hhi
    obtain ⟨k1, rfl⟩ := natOf_eq a3
    obtain ⟨k2, rfl⟩ := natOf_eq a5
    cases hhi
    cases hmv
    cases hx with
    | sl0 => cases b1
    | sl _ _ b _ _ cap hb hk hn =>
    have b1 := ge_ok hr b1 hk
    have hc : cnd (Nat.beq m p) o (Nat.add o (Nat.mul p j.size)) = (if m = p then o else o + p * j.size) := by
      cases hq : Nat.beq m p with
      | true => rw [if_pos (Nat.eq_of_beq_eq_true hq)]; rfl
      | false => rw [if_neg (fun h => by rw [h] at hq; simp at hq)]; rfl
    rw [hc]
    refine ⟨.slice (some ⟨b, (if m = p then o else o + p * j.size), none⟩) (hh - p) (m - p), ?_, .sl _ _ b _ _ _ hb (.k _) (by show hh - p ≤ m - p; omega), rfl⟩
    have hbd : (Instr.sliceBounds true n cap lo' (some (.int k1 (hh : Int))) (some (.int k2 (m : Int)))).run P w = .ok (p, hh, m) w := by
      rcases dflt_ok a1 hlo with ⟨rfl, rfl⟩ | ⟨k, rfl⟩ <;> simp [Instr.sliceBounds, bound_ok, b1, b3, b5]
    have hbd : (Instr.sliceBounds true n cap lo' (some (.int k1 (Int.ofNat hh))) (some (.int k2 (Int.ofNat m)))).run P w = .ok (p, hh, m) w := hbd
    simp only [Instr.sliceAt, Instr.slice, Sem.run_bind, run_underlying hu, Result.andThen_ok, hsz, Sem.run_pure, Option.map_some, addr_add]
    first
      | rw [hbd]
      | erw [hbd]
    simp only [Result.andThen_ok, hsz]
    split <;> rfl
  · cases h8
theorem makeSlice_ok (hT : TTok P tt) (hr : Rel e σ w) {t : TypeId} {x y v : AV} {x' y' : Value} (h : makeSliceA tt t x y σ = .val v σ') (hx : VR e x x') (hy : VR e y y') : ValOk P (Instr.makeSlice t x' y') e σ w v σ' := by
  obtain ⟨i, h1, h2⟩ := opt_val h
  obtain ⟨el, h3, h4⟩ := opt_val h2
  obtain ⟨n, h5, h6⟩ := opt_val h4
  obtain ⟨c, h7, h8⟩ := opt_val h6
  obtain ⟨j, h9, h10⟩ := opt_val h8
  obtain ⟨z, h11, h12⟩ := opt_val h10
  obtain ⟨cs, h13, h14⟩ := opt_val h12
  obtain ⟨a1, a2⟩ := cnd_val h14
  obtain ⟨a3, a4⟩ := cnd_val a2
  obtain ⟨a5, a6⟩ := cnd_val a4
  have a1 := Nat.le_of_ble_eq_true a1
  have a3 := Nat.le_of_ble_eq_true a3
  have a5 := Nat.eq_of_beq_eq_true a5
  have hu := (hT t i h1).slice h3
  obtain ⟨jn, _, j1, j2, _, _, _, j6, j7⟩ := (hT el j h9).ex
  obtain ⟨zv, z1, z2⟩ := j6 z h11
  obtain ⟨c1, c2⟩ := (z2 e).cells1 h13
  have hl := c1.length
  have hzs : zv.cells.size = j.size := by rw [← Array.length_toList]; omega
  obtain ⟨k1, rfl⟩ := natOf_eq h5
  obtain ⟨k2, rfl⟩ := natOf_eq h7
  cases hx
  cases hy
  obtain ⟨r0, r1⟩ := rep_ok (e := e) c c1 c2
  obtain ⟨l, σ1, m1, m2, m3, -, -⟩ := new_obj (ob := .cells (List.replicate c zv.cells.toList).flatten.toArray el) hr a6 (fun b w' hb => OR.fresh hb r0 r1)
  injection m1 with m1 m4
  subst m1 m4
  refine ⟨_, _, .slice (some ⟨w.heap.size, 0, none⟩) n c, ?_, .sl l 0 _ n _ c m2 (.k c) a1, m3⟩
  have hb : (jn.bytes : Int) * (c : Int) ≤ 281474976710656 := by
    have : jn.bytes * c ≤ 1048576 * 100000 := Nat.mul_le_mul j7 a3
    have h2 : ((jn.bytes * c : Nat) : Int) ≤ ((1048576 * 100000 : Nat) : Int) := Int.ofNat_le.2 this
    rw [Int.natCast_mul] at h2
    omega
  have := run_make (P := P) w t el jn zv hu j1 z1 k1 k2 (n : Int) (c : Int) (Int.natCast_nonneg _) (by omega) hb (by omega)
  rw [this]
  simp only [Int.toNat_natCast, madeCells, j2]
  rw [← hzs, zero_cells zv.cells c]
  rfl
end
end Go.Proofs.YtpnoiagjgkajdaaGreatDoor.Av
namespace Go.Proofs.YtpnoiagjgkajdaaGreatDoor.Av
open Go
section
variable {P : Program} {tt : TT} {e e' : Env} {σ σ' : AH} {w : World} {g : Tr AV}
theorem srcT_ok (hT : TTok P tt) {t : TypeId} {i : TI} (hi : tt.get t = some i) (h : srcT i.cls = true) : (∃ e', P.underlying t = some (.slice e')) ∨ P.underlying t = some .string := by
  obtain ⟨info, d, i1, i2, i3, i4, i5, -⟩ := (hT t i hi).ex
  generalize i.cls = c at h i5
  cases c <;> first | (cases h; done) | skip
  · exact .inl ⟨_, i3.trans (congrArg some i5)⟩
  · exact .inr (i3.trans (congrArg some i5))
theorem srcCells_ok (hr : Rel e σ w) {sz n : Nat} {x : AV} {x' : Value} {news : List AV} {t : TypeId} (h : srcCells sz x σ = some (n, news)) (hx : VR e x x') (hk : (∃ e', P.underlying t = some (.slice e')) ∨ P.underlying t = some .string) :
    ∃ news', Src P sz t x' n news' w ∧ VRs e news news' ∧ ∀ y ∈ news, y.one = true := by
  unfold srcCells at h
  split at h
  · injection h with h
    injection h with h1 h2
    subst h1 h2
    cases hx
    exact ⟨[], ⟨hk, fun _ => rfl, run_firstCells_none w sz 0 0 0, run_firstCells_none w.drew sz 0 0 0, by simp, fun _ h => by cases h⟩, .nil, fun _ h => by cases h⟩
  · rename_i l o len c
    obtain ⟨cs, h1, h2⟩ := opt_sm h
    obtain ⟨r, h3, h4⟩ := opt_sm h2
    injection h4 with h4
    injection h4 with h4 h5
    subst h4 h5
    obtain ⟨t', fz, cv, h6⟩ := cellsAt_eq h1
    obtain ⟨b, cs', rest, fr, k1, k2, k3, k4, -, -⟩ := hr.cells h6
    obtain ⟨s1, s2⟩ := takeN_eq _ _ _ h3
    rw [dropN_eq] at s1 s2
    rw [List.length_drop] at s2
    cases hx with
    | sl0 _ _ b' o' cap hb =>
      have hr0 : r = [] := by
        have s2' : (0 : Nat) * sz ≤ cs.length - o := s2
        rw [s1]
        simp
      subst hr0
      exact ⟨[], ⟨hk, fun _ => rfl, run_firstCells_some w sz 0 _ 0 cap [] (by simp) (fun j u hj => by simp at hj), run_firstCells_some w.drew sz 0 _ 0 cap [] (by simp) (fun j u hj => by simp at hj), by simp, fun _ h => by cases h⟩, .nil, fun _ h => by cases h⟩
    | sl _ _ b' _ _ cap hb hc hn =>
      obtain rfl : b = b' := by rw [k1] at hb; exact Option.some.inj hb
      have hv : VRs e r ((cs'.drop o).take (len * sz)) := by rw [s1]; exact (k3.drop o).take _
      have ho : ∀ y ∈ r, y.one = true := fun y hy => k4 y (by rw [s1] at hy; exact List.mem_of_mem_drop (List.mem_of_mem_take hy))
      have hl : ((cs'.drop o).take (len * sz)).length = len * sz := by
        have := k3.length
        have s2 : len * sz ≤ cs.length - o := s2
        rw [List.length_take, List.length_drop]; omega
      have hn : ∀ j u, ((cs'.drop o).take (len * sz))[j]? = some u → w.cell? ((⟨b, o, none⟩ : Addr).add j) = some u := fun j u hj => by
        rw [addr_add, cell_at k2, List.getElem?_toArray]
        rw [List.getElem?_take] at hj
        split at hj
        · rw [List.getElem?_drop] at hj
          rw [List.getElem?_append_left]
          · exact hj
          · rcases Nat.lt_or_ge (o + j) cs'.length with hlt | hge
            · exact hlt
            · rw [List.getElem?_eq_none hge] at hj; cases hj
        · cases hj
      exact ⟨_, ⟨hk, fun _ => rfl, run_firstCells_some w sz len _ len cap _ hl hn, run_firstCells_some w.drew sz len _ len cap _ hl (by simpa using hn), hl, hv.ones ho⟩, hv, ho⟩
  · rename_i s
    obtain ⟨h1, h2⟩ := cnd_sm h
    have h1 := Nat.eq_of_beq_eq_true h1
    injection h2 with h2
    injection h2 with h2 h3
    subst h1 h2 h3
    cases hx with
    | str _ hs =>
      have hsz : (strB s).size = s.length := strB_size s
      have hb : byteCells (strB s) = s.map fun (n : Nat) => Value.int .u8 (n : Int) := by
        unfold byteCells strB
        simp only [List.map_map]
        apply List.map_congr_left
        intro a ha
        have := hs a ha
        simp only [Function.comp]
        congr 2
        rw [UInt8.toNat_ofNat']
        exact Nat.mod_eq_of_lt this
      refine ⟨_, ⟨hk, fun w' => ?_, ?_, ?_, ?_, ?_⟩, (ofBytes_ok (e := e)).1, (ofBytes_ok (e := e)).2⟩
      · rw [← hsz]; rfl
      · rw [← hsz, ← hb]; exact firstCells_string _ w
      · rw [← hsz, ← hb]; exact firstCells_string _ w.drew
      · simp
      · exact (ofBytes_ok (e := e)).1.ones (ofBytes_ok (e := e)).2
  · cases h
/-- A row that grew where it lies: the label is another one. -/
theorem new_at {o : AO} {ob : Obj} {K : Nat → AH → R} {v : AV} {b : Nat} (hr : Rel e σ w) (h : new o σ K = .val v σ') (hb : b < w.heap.size) (hn : ∀ k, (σ.hp.get k).isSome = true → e.ρ k ≠ some b) (ho : ∀ e', e.le e' → OR e' { w with heap := w.heap.setIfInBounds b ob } b o) :
    ∃ l σ1, K l σ1 = .val v σ' ∧ (e.new l b).ρ l = some b ∧ e.le (e.new l b) ∧ Rel (e.new l b) σ1 { w with heap := w.heap.setIfInBounds b ob } ∧ (∀ k x, (σ1.hp.get k).isSome = true → (e.new l b).ρ k = some x → x = b ∨ (σ.hp.get k).isSome = true ∧ e.ρ k = some x) ∧ σ.nx ≤ σ1.nx ∧ ∀ k, k < σ.nx → (e.new l b).ρ k = e.ρ k := by
  obtain ⟨h0, n, c, lb⟩ := σ
  cases n with
  | zero => cases h
  | succ m =>
    have hn0 : e.ρ (m + 1) = none := hr.fresh _ (Nat.le_refl _)
    have hle := Env.new_le (b := b) hn0
    have h1 : (e.new (m + 1) b).ρ (m + 1) = some b := if_pos rfl
    have hold : ∀ x, x ≠ b → (w.heap.setIfInBounds b ob)[x]? = w.heap[x]? := fun x hx => by rw [Array.getElem?_setIfInBounds_ne (Ne.symm hx)]
    have hρ : ∀ l x, (e.new (m + 1) b).ρ l = some x → l = m + 1 ∧ x = b ∨ l ≠ m + 1 ∧ e.ρ l = some x := fun l x hx => by
      have hx' : (if l = m + 1 then some b else e.ρ l) = some x := hx
      split at hx'
      · exact .inl ⟨by assumption, (Option.some.inj hx').symm⟩
      · exact .inr ⟨by assumption, hx'⟩
    have hg : ∀ l, ((h0.put (m + 1) (some o)).get l).isSome = true → l ≠ m + 1 → (h0.get l).isSome = true := fun l hl hne => by
      rw [Tr.get_put, if_neg hne] at hl; exact hl
    refine ⟨m + 1, .mk (h0.put (m + 1) (some o)) (m + 2) c lb, h, h1, hle, ⟨fun l o' ho' => ?_, fun l l' x hl hl' hx hx' => ?_, fun l hl => ?_, hr.kfresh, hr.lb, fun l x hx => ?_, Nat.le_succ_of_le hr.nx⟩, fun k x hk hx => ?_, Nat.le_succ _, fun k hk => if_neg (Nat.ne_of_lt hk)⟩
    · have ho2 : (h0.put (m + 1) (some o)).get l = some o' := ho'
      rw [Tr.get_put] at ho2
      split at ho2
      · rename_i he
        subst he
        injection ho2 with ho2
        subst ho2
        exact ⟨_, h1, ho _ hle⟩
      · obtain ⟨x, h3, h4⟩ := hr.obj l o' ho2
        exact ⟨x, hle.1 _ _ h3, h4.mono hle (hold x fun hxb => hn l (by show (h0.get l).isSome = true; rw [ho2]; rfl) (hxb ▸ h3))⟩
    · rcases hρ l x hx with ⟨h3, h4⟩ | ⟨h3, h4⟩ <;> rcases hρ l' x hx' with ⟨h5, h6⟩ | ⟨h5, h6⟩
      · rw [h3, h5]
      · exact absurd (h4 ▸ h6) (hn l' (hg l' hl' h5))
      · exact absurd (h6 ▸ h4) (hn l (hg l hl h3))
      · exact hr.inj l l' x (hg l hl h3) (hg l' hl' h5) h4 h6
    · have : m + 2 ≤ l := hl
      show (if l = m + 1 then some b else e.ρ l) = none
      rw [if_neg (by omega)]
      exact hr.fresh l (by show m + 1 ≤ l; omega)
    · simp only [Array.size_setIfInBounds]
      rcases hρ l x hx with ⟨_, h4⟩ | ⟨_, h4⟩
      · omega
      · exact hr.lt _ _ h4
    · rcases hρ k x hx with ⟨_, h4⟩ | ⟨h3, h4⟩
      · exact .inl h4
      · exact .inr ⟨hg k hk h3, h4⟩
end
end Go.Proofs.YtpnoiagjgkajdaaGreatDoor.Av
namespace Go.Proofs.YtpnoiagjgkajdaaGreatDoor.Av
open Go
section
variable {P : Program} {tt : TT} {e e' : Env} {σ σ1 σ' : AH} {w : World} {g : Tr AV}
theorem ValOk.pre {s : Sem Value} {v : AV} (hs : Step e σ w e σ1 w) (h : ValOk P s e σ1 w v σ') : ValOk P s e σ w v σ' :=
  let ⟨e', w', v', h1, h2, h3⟩ := h; ⟨e', w', v', h1, h2, hs.trans h3⟩
theorem grow_ok (hr : Rel e σ w) {t tx ty el : TypeId} {jn : TypeInfo} {zv : Value} {sz n sLen sCap need : Nat} {base : Option Addr} {olds news : List Value} {r cells : List AV} {x' : Value} {v : AV}
    (hu : P.underlying t = some (.slice el)) (j1 : P.info? el = some jn) (z1 : jn.zero = some zv) (hz : zv.cells.size = sz) (j2 : jn.size = sz) (j7 : jn.bytes ≤ 1048576)
    (hold : (Builtin.firstCells sz sLen (.slice base sLen sCap)).run P w.drew = .ok olds.toArray w.drew) (hol : olds.length = sLen * sz) (hs : Src P sz tx x' n news w) (hv : VRs e r olds) (hv2 : VRs e cells news) (h1 : ∀ y ∈ r, y.one = true) (h2 : ∀ y ∈ cells, y.one = true)
    (hn : need = sLen + n) (hb : need ≤ 134217728) (hg : sCap < need) (h : appNew el sz (r ++ cells) need σ = .val v σ') :
    ValOk P (Builtin.append_ #[t, tx] ty #[.slice base sLen sCap, x']) e σ w v σ' := by
  subst hn
  have hge := grownCap_ge w (sLen + n) sCap el
  have hfit : Builtin.nextslicecap (sLen + n) sCap * jn.bytes ≤ 281474976710656 := growslice_fits hg (by
    have : (sLen + n) * jn.bytes ≤ 134217728 * 1048576 := Nat.mul_le_mul hb j7
    omega)
  subst j2
  have hrun := run_append_grow_src (ty := ty) w t tx el jn zv hu j1 z1 base sLen sCap olds hold x' n news hs hg (by omega) hfit
  have hlen : ((olds ++ news) ++ (Builtin.zeroCells zv.cells (grownCap w (sLen + n) sCap el - (sLen + n))).toList).length = grownCap w (sLen + n) sCap el * jn.size := by
    rw [List.length_append, List.length_append, hol, hs.newsLen, Array.length_toList]
    have : (Builtin.zeroCells zv.cells (grownCap w (sLen + n) sCap el - (sLen + n))).size = (grownCap w (sLen + n) sCap el - (sLen + n)) * jn.size := by simp [Builtin.zeroCells, hz]
    rw [this, ← Nat.add_mul, ← Nat.add_mul]
    congr 1
    omega
  obtain ⟨e', l, q, k1, k2, -⟩ := roomy_ok (hr.drew (w.drawn + 1)) h hge (hv.app hv2) (fun y hy => (List.mem_append.1 hy).elim (h1 y) (h2 y)) hlen
  refine ⟨e', _, _, hrun, k1, (Step.drew hr (w.drawn + 1)).trans ?_⟩
  have : w.drew.alloc (.cells ((olds ++ news).toArray ++ Builtin.zeroCells zv.cells (grownCap w (sLen + n) sCap el - (sLen + n))) el) = { { w with drawn := w.drawn + 1 } with heap := w.heap.push (.cells ((olds ++ news) ++ (Builtin.zeroCells zv.cells (grownCap w (sLen + n) sCap el - (sLen + n))).toList).toArray el) } := by
    simp only [World.alloc, World.drew]
    congr 3
    apply Array.ext'
    simp
  rw [this]
  exact k2
end
end Go.Proofs.YtpnoiagjgkajdaaGreatDoor.Av
namespace Go.Proofs.YtpnoiagjgkajdaaGreatDoor.Av
open Go
section
variable {P : Program} {tt : TT} {e e' : Env} {σ σ1 σ' : AH} {w : World} {g : Tr AV}
theorem and_cnd {a b : Bool} (h : cnd a b false = true) : a = true ∧ b = true := by
  cases a
  · cases h
  · exact ⟨rfl, h⟩
theorem setCells_room {b o : Nat} {C vs : List Value} {t : TypeId} {fr : Nat × Nat} (h : w.heap[b]? = some (.cells C.toArray t fr)) (hl : o + vs.length ≤ C.length) (hf0 : fr = (0, 0)) :
    (∀ j, j < vs.length → (w.cell? ⟨b, o + j, none⟩).isSome = true) ∧ (∀ j, j < vs.length → w.frozen? ⟨b, o + j, none⟩ = false) := by
  have hf : ∀ i, i < C.length → ¬ (fr.1 ≤ i ∧ i < fr.2) := fun i _ h => by rw [hf0] at h; exact absurd h.2 (Nat.not_lt_zero _)
  refine ⟨fun j hj => ?_, fun j hj => ?_⟩
  · rw [cell_at h, List.getElem?_toArray]
    simp; omega
  · have := hf (o + j) (by omega)
    simp [World.frozen?, h]
    omega
theorem append_nothing {t tx ty el : TypeId} {jn : TypeInfo} {base : Option Addr} {n c : Nat} {x' : Value} (hu : P.underlying t = some (.slice el)) (j1 : P.info? el = some jn) (hle : n ≤ c) (hs : Src P jn.size tx x' 0 [] w) :
    (Builtin.append_ #[t, tx] ty #[.slice base n c, x']).run P w = .ok (.slice base n c) w := by
  cases base <;> rcases hs.kind with ⟨e', hk⟩ | hk <;> simp [Builtin.append_, run_underlying hu, run_underlying hk, Go.sizeOf, typeInfo, j1, hs.len, hle, hs.cells, storeCells]
theorem app_ok (hT : TTok P tt) (hr : Rel e σ w) {t tx ty : TypeId} {s x v : AV} {s' x' : Value} (h : appA tt t tx s x σ = .val v σ') (hs : VR e s s') (hx : VR e x x') : ValOk P (Builtin.append_ #[t, tx] ty #[s', x']) e σ w v σ' := by
  obtain ⟨i, h1, h2⟩ := opt_val h
  obtain ⟨el, h3, h4⟩ := opt_val h2
  obtain ⟨j, h5, h6⟩ := opt_val h4
  obtain ⟨z, h7, h8⟩ := opt_val h6
  obtain ⟨cs, h9, h10⟩ := opt_val h8
  obtain ⟨h11, h12⟩ := cnd_val h10
  obtain ⟨i2, h13, h14⟩ := opt_val h12
  obtain ⟨h15, h16⟩ := cnd_val h14
  obtain ⟨⟨n, cells⟩, h17, h18⟩ := opt_val h16
  have hu := (hT t i h1).slice h3
  obtain ⟨jn, _, j1, j2, _, _, _, j6, j7⟩ := (hT el j h5).ex
  obtain ⟨zv, z1, z2⟩ := j6 z h7
  obtain ⟨c1, c2⟩ := (z2 e).cells1 h9
  have h11 := Nat.eq_of_beq_eq_true h11
  have hz : zv.cells.size = j.size := by rw [← Array.length_toList, ← h11]; exact c1.length.symm
  obtain ⟨news, hsrc, hv2, ho2⟩ := srcCells_ok hr h17 hx (srcT_ok hT h13 h15)
  unfold appS at h18
  split at h18
  · rename_i a len c
    cases n with
    | zero =>
      replace h18 : R.val (.sl a len c) σ = .val v σ' := h18
      injection h18 with h18 h19
      subst h18 h19
      have hnil : news = [] := List.length_eq_zero_iff.1 (by rw [hsrc.newsLen, Nat.zero_mul])
      subst hnil
      cases hs with
      | nilsl => exact .same hr (by rw [← j2] at hsrc; exact append_nothing hu j1 (Nat.le_refl _) hsrc) .nilsl
      | sl0 l o b o' cap hb => exact .same hr (by rw [← j2] at hsrc; exact append_nothing hu j1 (Nat.zero_le _) hsrc) (.sl0 l o b o' cap hb)
      | sl l o b _ _ cap hb hk hn => exact .same hr (by rw [← j2] at hsrc; exact append_nothing hu j1 hn hsrc) (.sl l o b _ _ _ hb hk hn)
    | succ n =>
      replace h18 : frcN (len + (n + 1)) (fun need => cnd (Nat.ble need 134217728) (appB el j.size cells need a len c σ) .bad) = .val v σ' := h18
      rw [frcN_eq] at h18
      obtain ⟨g1, g2⟩ := cnd_val h18
      have g1 := Nat.le_of_ble_eq_true g1
      unfold appB at g2
      split at g2
      · cases hs
        exact grow_ok (olds := []) (r := []) hr hu j1 z1 hz j2 j7 (run_firstCells_none w.drew j.size 0 0 0) (by simp) hsrc .nil hv2 (fun _ h => by cases h) ho2 rfl g1 (by omega) g2
      · rename_i l o
        cases hs with
        | sl0 =>
          exfalso
          rcases cnd_eq g2 with ⟨g3, _⟩ | ⟨_, g4⟩
          · cases g3
          · obtain ⟨ob, q1, q2⟩ := opt_val g4
            obtain ⟨old, q3, q4⟩ := opt_val q2
            obtain ⟨r, q5, q6⟩ := opt_val q4
            cases q6
        | sl _ _ b _ _ cap hb hk hn =>
        rcases cnd_eq g2 with ⟨g3, g4⟩ | ⟨g3, g4⟩
        · have hge := ge_ok hr g3 hk
          obtain ⟨σ1, w1, k1, k2, k3⟩ := storeN_ok (P := P) hr g4 hb hv2 ho2
          injection k1 with k1 k4
          subst k1 k4
          refine ⟨e, w1, .slice (some ⟨b, o, none⟩) (len + (n + 1)) cap, ?_, .sl l o b _ _ _ hb hk hge, k3⟩
          have k2 : (storeCells ⟨b, o + len * j.size, none⟩ news).run P w = .ok () w1 := k2
          rcases hsrc.kind with ⟨e', hk⟩ | hk <;> simp [Builtin.append_, run_underlying hu, run_underlying hk, Go.sizeOf, typeInfo, j1, hsrc.len, hge, j2, hsrc.cells, Addr.add_lit, k2]
        · obtain ⟨ob, q1, q2⟩ := opt_val g4
          obtain ⟨old, q3, q4⟩ := opt_val q2
          obtain ⟨r, q5, q6⟩ := opt_val q4
          rw [AH.get_eq] at q1
          cases ob with
          | map => cases q3
          | iter => cases q3
          | opq => cases q3
          | cells cs0 t0 fz cv =>
          injection q3 with q3
          subst q3
          obtain ⟨b', cs', rest, fr, k1, k2, k3, k4, k5, k6⟩ := hr.cells q1
          obtain rfl : b = b' := by rw [hb] at k1; exact Option.some.inj k1
          obtain ⟨s1, s2⟩ := takeN_eq _ _ _ q5
          rw [dropN_eq] at s1 s2
          rw [List.length_drop] at s2
          have s2 : len * j.size ≤ cs0.length - o := s2
          have hlc := k3.length
          have hvo : VRs e r ((cs'.drop o).take (len * j.size)) := by rw [s1]; exact (k3.drop o).take _
          have hoo : ∀ y ∈ r, y.one = true := fun y hy => k4 y (by rw [s1] at hy; exact List.mem_of_mem_drop (List.mem_of_mem_take hy))
          have hol : ((cs'.drop o).take (len * j.size)).length = len * j.size := by
            rw [List.length_take, List.length_drop]; omega
          have hno : ∀ k u, ((cs'.drop o).take (len * j.size))[k]? = some u → w.cell? ((⟨b, o, none⟩ : Addr).add k) = some u := fun k u hj => by
            rw [addr_add, cell_at k2, List.getElem?_toArray]
            rw [List.getElem?_take] at hj
            split at hj
            · rw [List.getElem?_drop] at hj
              rw [List.getElem?_append_left]
              · exact hj
              · rcases Nat.lt_or_ge (o + k) cs'.length with hlt | hge
                · exact hlt
                · rw [List.getElem?_eq_none hge] at hj; cases hj
            · cases hj
          have hold : (Builtin.firstCells j.size len (.slice (some ⟨b, o, none⟩) len cap)).run P w.drew = .ok ((cs'.drop o).take (len * j.size)).toArray w.drew := run_firstCells_some w.drew j.size len _ len cap _ hol (by simpa using hno)
          cases hk with
          | k =>
            have hnot : cap < len + (n + 1) := by
              have g3 : Nat.ble (len + (n + 1)) cap = false := g3
              rcases Nat.lt_or_ge cap (len + (n + 1)) with hlt | hge
              · exact hlt
              · rw [Nat.ble_eq_true_of_le hge] at g3; cases g3
            exact grow_ok hr hu j1 z1 hz j2 j7 hold hol hsrc hvo hv2 hoo ho2 rfl g1 hnot q6
          | u q m Q hq hm =>
            obtain ⟨q7, q8⟩ := cnd_val q6
            obtain ⟨q9, q10⟩ := cnd_val q8
            replace q7 : t0 = el := Nat.eq_of_beq_eq_true q7
            subst q7
            obtain ⟨⟨vc, vs⟩, p1, p2⟩ := opt_eq q9 (by decide)
            replace p1 : cv = some (vc, vs) := p1
            obtain ⟨p3, p4⟩ := and_cnd p2
            obtain ⟨p5, p6⟩ := and_cnd p4
            obtain ⟨p7, p8⟩ := and_cnd p6
            obtain ⟨p9, p10⟩ := and_cnd p8
            obtain ⟨p11, p12⟩ := and_cnd p10
            replace p3 : vc = q := Nat.eq_of_beq_eq_true p3
            replace p5 : vs = j.size := Nat.eq_of_beq_eq_true p5
            replace p7 : o = 0 := Nat.eq_of_beq_eq_true p7
            replace p9 : m = 0 := Nat.eq_of_beq_eq_true p9
            replace p11 : len * j.size = cs0.length := Nat.eq_of_beq_eq_true p11
            replace p12 : fz = false := by
              cases fz
              · rfl
              · cases p12
            subst p3 p5 p7 p9 p12
            obtain ⟨Q', u1, u2⟩ := k6 vc j.size p1
            obtain rfl : Q = Q' := by rw [hq] at u1; exact Option.some.inj u1
            obtain ⟨σ1, d1, d2, d3, d4⟩ := drop_obj hr q10
            rw [Nat.sub_zero] at hn hold ⊢
            by_cases hfit : len + (n + 1) ≤ Q
            · obtain ⟨q', σ2, n1, n2, n3, n4, n5⟩ := new_cap d2.rel d1 hfit
              have hr0 : r = cs0 := by
                rw [s1]
                show List.take (len * j.size) (List.drop 0 cs0) = cs0
                rw [List.drop_zero, p11, List.take_length]
              have hcl : len * j.size = cs'.length := by rw [← hlc]; exact p11
              have hnl := hsrc.newsLen
              have hle : len * j.size + news.length ≤ (cs' ++ rest).length := by
                rw [hnl, u2, ← Nat.add_mul]
                exact Nat.mul_le_mul_right _ hfit
              obtain ⟨f1, f2⟩ := setCells_room k2 hle (k5 rfl)
              have hrun := run_append_room_src (P := P) w t tx ty t0 jn hu j1 b 0 len Q x' (n + 1) news (by rw [j2]; exact hsrc) hfit (by rw [j2, Nat.zero_add]; exact f1) (by rw [j2, Nat.zero_add]; exact f2)
              rw [j2, Nat.zero_add, setCells_heap news _ _ w k2 hle] at hrun
              have hnew : (cs' ++ rest).take (len * j.size) ++ (news ++ (cs' ++ rest).drop (len * j.size + news.length)) = (cs' ++ news) ++ (cs' ++ rest).drop (len * j.size + news.length) := by
                rw [hcl, List.take_left']
                · simp
                · rfl
              rw [hnew] at hrun
              have hbl := heap_lt k2
              obtain ⟨l', σ3, m1, m2, m3, m4, m5, m7, m8⟩ := new_at (b := b) (ob := .cells ((cs' ++ news) ++ (cs' ++ rest).drop (len * j.size + news.length)).toArray t0 fr) n4.rel n1 hbl (fun k hk hkb => by
                rw [n5] at hk
                obtain ⟨d5, d6⟩ := d4 k hk
                exact d5 (hr.inj k l b d6 (by rw [q1]; rfl) hkb hb)) (fun e' he' => ⟨cs' ++ news, (cs' ++ rest).drop (len * j.size + news.length), fr, by simp [hbl], by
                  rw [hr0]; exact (k3.mono (n4.le.trans he')).app (hv2.mono (n4.le.trans he')), fun y hy => (List.mem_append.1 hy).elim (hoo y) (ho2 y), fun _ => k5 rfl, fun c s hc => by
                  injection hc with hc
                  injection hc with hc1 hc2
                  subst hc1 hc2
                  refine ⟨Q, he'.2.1 _ _ n3, ?_⟩
                  rw [← u2]
                  simp only [List.length_append, List.length_drop] at hle ⊢
                  omega⟩)
              injection m1 with m1 m6
              subst m1 m6
              refine ⟨_, _, _, hrun, .sl l' 0 b _ _ Q m2 (by have := KR.u q' 0 Q (m3.2.1 _ _ n3) (Nat.zero_le _); simpa using this) hfit, ⟨n4.le.trans m3, m4, rfl, rfl, rfl, by simp, fun x hx hnx => ?_, fun k x hk16 hk hkx => ?_, Nat.le_trans (d2.trans n4).nxle m7, fun k hk => (m8 k (Nat.lt_of_lt_of_le hk (d2.trans n4).nxle)).trans ((d2.trans n4).keep k hk)⟩⟩
              · have hxb : x ≠ b := fun hxb => hnx l d3 (by rw [q1]; rfl) (hxb ▸ hb)
                show (w.heap.setIfInBounds b _)[x]? = _
                rw [Array.getElem?_setIfInBounds_ne (Ne.symm hxb)]
              · rcases m5 k x hk hkx with h9 | ⟨h9, h10⟩
                · exact .inl ⟨l, d3, by rw [q1]; rfl, h9 ▸ hb⟩
                · rw [n5] at h9
                  exact .inl ⟨k, hk16, (d4 k h9).2, h10⟩
            · exact ValOk.pre d2 (grow_ok d2.rel hu j1 z1 hz j2 j7 hold hol hsrc hvo hv2 hoo ho2 rfl g1 (by omega) d1)
  · cases h18
end
end Go.Proofs.YtpnoiagjgkajdaaGreatDoor.Av
namespace Go.Proofs.YtpnoiagjgkajdaaGreatDoor.Av
open Go
section
variable {P : Program} {tt : TT} {e e' : Env} {σ σ1 σ' : AH} {w : World} {g : Tr AV}
theorem minN_eq (a b : Nat) : minN a b = Nat.min a b := by
  unfold minN
  cases h : Nat.ble a b with
  | true =>
    have := Nat.le_of_ble_eq_true h
    exact (Nat.min_eq_left this).symm
  | false =>
    have : ¬ a ≤ b := fun hh => by rw [Nat.ble_eq_true_of_le hh] at h; cases h
    exact (Nat.min_eq_right (Nat.le_of_lt (Nat.lt_of_not_le this))).symm
theorem copyC_ok (hr : Rel e σ w) {a : Option (Nat × Nat)} {a' : Option Addr} {dn m : Nat} {c : Kap} {cap : Nat} {r : List AV} {r' : List Value} {v : AV} (h : copyC a m r σ = .val v σ') (hd : VR e (.sl a dn c) (.slice a' dn cap)) (hne : c = .e → False) (hv : VRs e r r') (h1 : ∀ x ∈ r, x.one = true) :
    ∃ w', v = .int .i64 (m : Int) ∧ Step e σ w e σ' w' ∧ match a' with
      | none => w' = w
      | some x => (storeCells x r').run P w = .ok () w' := by
  unfold copyC at h
  split at h
  · injection h with h2 h3
    subst h2 h3
    cases hd
    exact ⟨w, rfl, .refl hr, rfl⟩
  · rename_i l o
    cases hd with
    | sl0 => exact (hne rfl).elim
    | sl _ _ b _ _ _ hb hk hn =>
    obtain ⟨σ1, w1, k1, k2, k3⟩ := storeN_ok (P := P) hr h hb hv h1
    injection k1 with k1 k4
    subst k1 k4
    exact ⟨w1, rfl, k3, k2⟩
theorem copy_ok (hT : TTok P tt) (hr : Rel e σ w) {t t2 ty : TypeId} {d s v : AV} {d' s' : Value} (h : copyA tt t d s σ = .val v σ') (hd : VR e d d') (hs : VR e s s') : ValOk P (Builtin.copy_ #[t, t2] ty #[d', s']) e σ w v σ' := by
  obtain ⟨i, h1, h2⟩ := opt_val h
  obtain ⟨el, h3, h4⟩ := opt_val h2
  obtain ⟨j, h5, h6⟩ := opt_val h4
  have hu := (hT t i h1).slice h3
  obtain ⟨jn, _, j1, j2, -⟩ := (hT el j h5).ex
  have hsz : ∀ w : World, (Go.sizeOf el).run P w = .ok j.size w := fun w => by rw [run_sizeOf w j1, Program.cellsOf, j1]; simp [j2]
  split at h6
  · cases h6
  · rename_i a dn c hne
    obtain ⟨a', cap, rfl⟩ : ∃ a' cap, d' = .slice a' dn cap := by cases hd <;> exact ⟨_, _, rfl⟩
    unfold copyB at h6
    split at h6
    · injection h6 with h7 h8
      subst h7 h8
      cases hs
      refine .same hr (v' := .int .i64 0) ?_ (.int _ _)
      cases a' <;> simp [Builtin.copy_, run_underlying hu, Builtin.lenOf, hsz, Builtin.firstCells, storeCells, goInt]
    · cases h6
    · rename_i l o n c2 hne2
      rw [frcN_eq, minN_eq] at h6
      obtain ⟨cs, k1, k2⟩ := opt_val h6
      obtain ⟨r, k3, k4⟩ := opt_val k2
      obtain ⟨t', fz, cv, k5⟩ := cellsAt_eq k1
      obtain ⟨b, cs', rest, fr, q1, q2, q3, q4, -, -⟩ := hr.cells k5
      obtain ⟨s1, s2⟩ := takeN_eq _ _ _ k3
      rw [dropN_eq] at s1 s2
      rw [List.length_drop] at s2
      cases hs with
      | sl0 => exact (hne2 rfl).elim
      | sl _ _ b' _ _ cap2 hb hk hn =>
      obtain rfl : b = b' := by rw [q1] at hb; exact Option.some.inj hb
      have hlc := q3.length
      have s2 : Nat.min n dn * j.size ≤ cs.length - o := s2
      have hv : VRs e r ((cs'.drop o).take (Nat.min n dn * j.size)) := by rw [s1]; exact (q3.drop o).take _
      have ho : ∀ y ∈ r, y.one = true := fun y hy => q4 y (by rw [s1] at hy; exact List.mem_of_mem_drop (List.mem_of_mem_take hy))
      have hfirst : (Builtin.firstCells j.size (Nat.min n dn) (.slice (some ⟨b, o, none⟩) n cap2)).run P w = .ok ((cs'.drop o).take (Nat.min n dn * j.size)).toArray w := by
        have hl : ((cs'.drop o).take (Nat.min n dn * j.size)).length = Nat.min n dn * j.size := by
          rw [List.length_take, List.length_drop]; omega
        have h1 := run_loadCells_list (P := P) w ⟨b, o, none⟩ ((cs'.drop o).take (Nat.min n dn * j.size)) (fun k u hj => by
          rw [addr_add, cell_at q2, List.getElem?_toArray]
          rw [List.getElem?_take] at hj
          split at hj
          · rw [List.getElem?_drop] at hj
            rw [List.getElem?_append_left]
            · exact hj
            · rcases Nat.lt_or_ge (o + k) cs'.length with hlt | hge
              · exact hlt
              · rw [List.getElem?_eq_none hge] at hj; cases hj
          · cases hj)
        rw [hl] at h1
        exact h1
      obtain ⟨w', rfl, m1, m2⟩ := copyC_ok (P := P) hr k4 hd hne hv ho
      refine ⟨e, w', .int .i64 ((Nat.min n dn : Nat) : Int), ?_, .int _ _, m1⟩
      cases a' with
      | none =>
        have m2 : w' = w := m2
        subst m2
        simp [Builtin.copy_, run_underlying hu, Builtin.lenOf, hsz, hfirst, goInt]
      | some x =>
        have m2 : (storeCells x ((cs'.drop o).take (Nat.min n dn * j.size))).run P w = .ok () w' := m2
        simp [Builtin.copy_, run_underlying hu, Builtin.lenOf, hsz, hfirst, m2, goInt]
    · rename_i s0
      rw [frcN_eq, minN_eq] at h6
      obtain ⟨r, k3, k4⟩ := opt_val h6
      obtain ⟨s1, s2⟩ := takeN_eq _ _ _ k3
      cases hs with
      | str _ hs =>
      have hv0 := ofBytes_ok (e := e) (s := s0)
      have hv : VRs e r ((s0.map fun (n : Nat) => Value.int .u8 (n : Int)).take (Nat.min s0.length dn)) := by rw [s1]; exact hv0.1.take _
      have ho : ∀ y ∈ r, y.one = true := fun y hy => hv0.2 y (by rw [s1] at hy; exact List.mem_of_mem_take hy)
      have hsz0 : (strB s0).size = s0.length := strB_size s0
      have hfirst : (Builtin.firstCells j.size (Nat.min s0.length dn) (.string (strB s0))).run P w = .ok ((s0.map fun (n : Nat) => Value.int .u8 (n : Int)).take (Nat.min s0.length dn)).toArray w := by
        simp only [Builtin.firstCells, Sem.run_pure]
        congr 1
        rw [strB_extract]
        apply Array.ext'
        simp only [strB, List.drop_zero, Nat.sub_zero, Array.toList_map, List.map_map]
        rw [← List.map_take]
        apply List.map_congr_left
        intro a ha
        have := hs a (List.mem_of_mem_take ha)
        simp only [Function.comp]
        congr 2
        rw [UInt8.toNat_ofNat']
        exact Nat.mod_eq_of_lt this
      obtain ⟨w', rfl, m1, m2⟩ := copyC_ok (P := P) hr k4 hd hne hv ho
      refine ⟨e, w', .int .i64 ((Nat.min s0.length dn : Nat) : Int), ?_, .int _ _, m1⟩
      cases a' with
      | none =>
        have m2 : w' = w := m2
        subst m2
        simp [Builtin.copy_, run_underlying hu, Builtin.lenOf, hsz, hsz0, hfirst, goInt]
      | some x =>
        have m2 : (storeCells x ((s0.map fun (n : Nat) => Value.int .u8 (n : Int)).take (Nat.min s0.length dn))).run P w = .ok () w' := m2
        simp [Builtin.copy_, run_underlying hu, Builtin.lenOf, hsz, hsz0, hfirst, m2, goInt]
    · cases h6
  · cases h6
theorem key_ok (hT : TTok P tt) {t : TypeId} {i : TI} (hi : tt.get t = some i) {s : Bool} (h : i.cls.key = some s) : ∃ k el, P.underlying t = some (.map k el) ∧ cnd s (P.underlying k = some .string) (∃ i, P.underlying k = some (.int i)) := by
  obtain ⟨info, d, i1, i2, i3, i4, i5, -⟩ := (hT t i hi).ex
  generalize i.cls = c at h i5
  cases c <;> first | (cases h; done) | skip
  rename_i s' el
  obtain rfl : s' = some s := h
  obtain ⟨k, rfl, k2⟩ := i5
  exact ⟨k, _, i3, k2⟩
theorem isMap_ok (hT : TTok P tt) {t : TypeId} {i : TI} (hi : tt.get t = some i) {u : Unit} (h : i.cls.isMap = some u) : ∃ k el, P.underlying t = some (.map k el) := by
  obtain ⟨info, d, i1, i2, i3, i4, i5, -⟩ := (hT t i hi).ex
  generalize i.cls = c at h i5
  cases c <;> first | (cases h; done) | skip
  obtain ⟨k, rfl, -⟩ := i5
  exact ⟨k, _, i3⟩
theorem clear_ok (hT : TTok P tt) (hr : Rel e σ w) {t ty : TypeId} {x v : AV} {x' : Value} (h : clearA tt t x σ = .val v σ') (hx : VR e x x') : ValOk P (Builtin.clear_ #[t] ty #[x']) e σ w v σ' := by
  obtain ⟨i, h1, h2⟩ := opt_val h
  obtain ⟨info, d, i1, i2, i3, i4, i5, -⟩ := (hT t i h1).ex
  split at h2
  · injection h2 with h3 h4
    subst h3 h4
    cases hx
    exact .same hr (by simp [Builtin.clear_, run_underlying i3]) (.tup [] [] .nil)
  · rename_i r
    obtain ⟨s, h3, h4⟩ := opt_val h2
    obtain ⟨m, h5, h6⟩ := opt_val h4
    obtain ⟨k, el, hu⟩ := isMap_ok hT h1 h3
    obtain ⟨b, es', k1, k2, k3⟩ := hr.map (mapAt_eq h5)
    cases hx with
    | map _ b' hb =>
    obtain rfl : b = b' := by rw [k1] at hb; exact Option.some.inj hb
    obtain ⟨σ1, u1, u2⟩ := upd_obj (ob := .map #[] m.2) hr h6 (by rw [mapAt_eq h5]; rfl) hb ⟨[], by simp [heap_lt k2], .nil⟩
    injection u1 with u1 u3
    subst u1 u3
    exact ⟨e, _, .tuple #[], by simp [Builtin.clear_, run_underlying hu, run_getObj_map k2, setObj, Sem.run, k2], .tup [] [] .nil, u2⟩
  · injection h2 with h3 h4
    subst h3 h4
    cases hx
    exact .same hr (by simp [Builtin.clear_, run_underlying i3]) (.tup [] [] .nil)
  · rename_i l o n c
    cases hx with
    | sl0 =>
      injection h2 with h3 h4
      subst h3 h4
      exact .same hr (by simp [Builtin.clear_, run_underlying i3]) (.tup [] [] .nil)
    | sl _ _ b _ _ cap hb hk hn =>
    cases n with
    | zero =>
      injection h2 with h3 h4
      subst h3 h4
      exact .same hr (by simp [Builtin.clear_, run_underlying i3]) (.tup [] [] .nil)
    | succ n =>
      obtain ⟨el, h3, h4⟩ := opt_val h2
      obtain ⟨z, h5, h6⟩ := opt_val h4
      obtain ⟨cs, h7, h8⟩ := opt_val h6
      have hu := (hT t i h1).slice h3
      obtain ⟨zv, z1, z2⟩ := zeroA_ok (w := w) hT h5
      obtain ⟨c1, c2⟩ := (z2 e).cells1 h7
      obtain ⟨r0, r1⟩ := rep_ok (e := e) (n + 1) c1 c2
      obtain ⟨σ1, w1, k1, k2, k3⟩ := storeN_ok (P := P) hr h8 hb r0 r1
      injection k1 with k1 k4
      subst k1 k4
      have hzc : (Builtin.zeroCells zv.cells (n + 1)).toList = (List.replicate (n + 1) zv.cells.toList).flatten := by
        unfold Builtin.zeroCells
        rw [zero_cells]
      exact ⟨e, w1, .tuple #[], by simp [Builtin.clear_, run_underlying hu, z1, hzc, k2], .tup [] [] .nil, k3⟩
  · cases h2
end
end Go.Proofs.YtpnoiagjgkajdaaGreatDoor.Av
namespace Go.Proofs.YtpnoiagjgkajdaaGreatDoor.Av
open Go
section
variable {P : Program} {tt : TT} {e e' : Env} {σ σ1 σ' : AH} {w : World} {g : Tr AV}
theorem ptrA_ok (hT : TTok P tt) {t : TypeId} {i : TI} (hi : tt.get t = some i) {el : TypeId} (h : ptrA i.cls = some el) : P.underlying t = some (.pointer el) := by
  obtain ⟨info, d, i1, i2, i3, i4, i5, -⟩ := (hT t i hi).ex
  generalize i.cls = c at h i5
  cases c <;> first | (cases h; done) | skip
  obtain rfl := Option.some.inj h
  exact i3.trans (congrArg some i5)
theorem freeze_heap {b : Nat} {C : List Value} {t : TypeId} {fr : Nat × Nat} (h : w.heap[b]? = some (.cells C.toArray t fr)) (n : Nat) (hn : n ≠ 0) :
    ∃ fr', w.freeze ⟨b, 0, none⟩ n = { w with heap := w.heap.setIfInBounds b (.cells C.toArray t fr') } := by
  obtain ⟨lo, hi⟩ := fr
  refine ⟨if lo == hi then (0, 0 + n) else (min lo 0, max hi (0 + n)), ?_⟩
  have hlt := heap_lt h
  unfold World.freeze
  rw [if_neg hn]
  congr 1
  apply Array.ext_getElem?
  intro i
  rw [Array.getElem?_modify, Array.getElem?_setIfInBounds]
  split
  · rename_i he
    simp only at he
    subst he
    simp [h]
  · rfl
theorem us_ok (hT : TTok P tt) (hr : Rel e σ w) {t t2 ty : TypeId} {x n v : AV} {x' n' : Value} (h : usA tt t x n σ = .val v σ') (hx : VR e x x') (hn : VR e n n') : ValOk P (Builtin.unsafeString_ #[t, t2] ty #[x', n']) e σ w v σ' := by
  unfold usA at h
  split at h
  · obtain ⟨a, h1, h2⟩ := opt_val h
    injection h2 with h3 h4
    subst h3 h4
    cases hn
    obtain ⟨l, o⟩ := a
    obtain rfl := asP_eq h1
    cases hx
    exact .same hr (Go.Lib.run_unsafeString_none w t t2 ty _) (show VR e (.str []) (.string .empty) from VR.str [] (fun _ h => by cases h))
  · rename_i n
    obtain ⟨i, h1, h2⟩ := opt_val h
    obtain ⟨el, h3, h4⟩ := opt_val h2
    obtain ⟨j, h5, h6⟩ := opt_val h4
    obtain ⟨h7, h8⟩ := cnd_val h6
    obtain ⟨⟨l, o⟩, h9, h10⟩ := opt_val h8
    obtain ⟨h11, h12⟩ := cnd_val h10
    obtain ⟨ob, h13, h14⟩ := opt_val h12
    obtain ⟨c, h15, h16⟩ := opt_val h14
    obtain ⟨h17, h18⟩ := cnd_val h16
    obtain ⟨h19, h20⟩ := cnd_val h18
    obtain ⟨r, h21, h22⟩ := opt_val h20
    obtain ⟨s, h23, h24⟩ := opt_val h22
    rw [frcL_eq] at h24
    rw [AH.get_eq] at h13
    cases ob with
    | map => cases h15
    | iter => cases h15
    | opq => cases h15
    | cells cs0 t0 fz cv =>
    injection h15 with h15
    subst h15
    replace h17 : t0 = el := Nat.eq_of_beq_eq_true h17
    replace h11 : o = 0 := Nat.eq_of_beq_eq_true h11
    replace h19 : n + 1 ≤ 9223372036854775807 := Nat.le_of_ble_eq_true h19
    subst h17 h11
    obtain ⟨jn, _, j1, j2, -⟩ := (hT t0 j h5).ex
    have hc1 : P.cellsOf t0 = 1 := by rw [Program.cellsOf, j1]; simp [j2, Nat.eq_of_beq_eq_true h7]
    have hu := ptrA_ok hT h1 h3
    obtain rfl := asP_eq h9
    cases hn
    cases hx with
    | ptr _ _ b hb =>
    obtain ⟨b', cs', rest, fr, k1, k2, k3, k4, k5, k6⟩ := hr.cells h13
    obtain rfl : b = b' := by rw [hb] at k1; exact Option.some.inj k1
    obtain ⟨s1, s2⟩ := takeN_eq _ _ _ h21
    have s2 : n + 1 ≤ cs0.length := s2
    have hlc := k3.length
    have hv : VRs e r (cs'.take (n + 1)) := by rw [s1]; exact k3.take _
    obtain ⟨hs, hs2⟩ := bytesOf_ok h23 hv
    have hsl : s.length = n + 1 := by
      have := congrArg List.length hs2
      rw [List.length_take, List.length_map] at this
      omega
    have hcell : ∀ k y, (s.map UInt8.ofNat)[k]? = some y → w.cell? ((⟨b, 0, none⟩ : Addr).add k) = some (.int .u8 y.toNat) := fun k y hk => by
      rw [addr_add, cell_at k2, List.getElem?_toArray, Nat.zero_add]
      rw [List.getElem?_map] at hk
      cases hq : s[k]? with
      | none => rw [hq] at hk; cases hk
      | some a =>
        rw [hq] at hk
        obtain rfl := Option.some.inj hk
        have hlt : k < s.length := by
          rcases Nat.lt_or_ge k s.length with hlt | hge
          · exact hlt
          · rw [List.getElem?_eq_none hge] at hq; cases hq
        have h9 : (cs'.take (n + 1))[k]? = some (Value.int .u8 (a : Int)) := by rw [hs2, List.getElem?_map, hq]; rfl
        rw [List.getElem?_take, if_pos (by omega)] at h9
        rw [List.getElem?_append_left (by omega), h9]
        have : a < 256 := hs a (List.mem_of_getElem? hq)
        rw [UInt8.toNat_ofNat', Nat.mod_eq_of_lt this]
    have hrun := Go.Lib.run_unsafeString_row (P := P) w t t2 ty t0 hu hc1 b (cs' ++ rest).length (by simp [World.shape?, k2]) (s.map UInt8.ofNat) (by
      intro h0
      have := congrArg List.length h0
      rw [List.length_map, List.length_nil] at this
      omega) (by rw [List.length_map, List.length_append]; omega) (by rw [List.length_map]; omega) hcell
    rw [List.length_map, hsl] at hrun
    obtain ⟨fr', hfr⟩ := freeze_heap k2 (n + 1) (by omega)
    rw [hfr] at hrun
    obtain ⟨σ1, u1, u2⟩ := upd_obj (ob := .cells (cs' ++ rest).toArray t0 fr') hr h24 (by rw [h13]; rfl) hb ⟨cs', rest, fr', by simp [heap_lt k2], k3, k4, fun h => absurd h (show ¬ (true = false) by decide), k6⟩
    injection u1 with u1 u3
    subst u1 u3
    exact ⟨e, _, _, hrun, .str s hs, u2⟩
  · cases h
end
end Go.Proofs.YtpnoiagjgkajdaaGreatDoor.Av
namespace Go.Proofs.YtpnoiagjgkajdaaGreatDoor.Av
open Go
section
variable {P : Program} {tt : TT} {e e' : Env} {σ σ1 σ' : AH} {w : World} {g : Tr AV}
/-- What keys are like. -/
def KD (s : Bool) (d : TypeDesc) : Prop := cnd s (d = .string) (∃ i, d = .int i)
theorem keyEq_ok {s b : Bool} {x y : AV} {x' y' : Value} {d : TypeDesc} (h : keyEq s x y = some b) (hx : VR e x x') (hy : VR e y y') (hd : KD s d) :
    Instr.sameNow d x' y' = some b ∧ (b = true → y' = x' ∧ ∀ n, Instr.sameBits n y' x' = true) := by
  unfold keyEq at h
  split at h
  · rename_i i a j c
    cases s with
    | true => cases h
    | false =>
    obtain ⟨h1, h2⟩ := cnd_sm (b := Nat.beq (ikN i) (ikN j)) h
    obtain ⟨k, rfl⟩ := hd
    injection h2 with h2
    subst h2
    cases hx
    cases hy
    have hij : i = j := by
      have := Nat.eq_of_beq_eq_true h1
      revert this
      cases i <;> cases j <;> decide
    subst hij
    refine ⟨by simp [Instr.sameNow, eqI_eq], fun hb => ?_⟩
    rw [eqI_eq] at hb
    have : a = c := by simpa using hb
    subst this
    exact ⟨rfl, fun n => by cases n <;> simp [Instr.sameBits]⟩
  · rename_i a c
    cases s with
    | false => cases h
    | true =>
    injection h with h3
    obtain rfl : d = .string := hd
    cases hx with
    | str _ h1 =>
    cases hy with
    | str _ h2 =>
    have hbe : (strB a == strB c) = b := by rw [beq_toListBytes, strB_list, strB_list, ← eqL_eq h1 h2]; exact h3
    refine ⟨by simp only [Instr.sameNow, hbe], fun hb => ?_⟩
    rw [hb] at hbe
    have : strB a = strB c := (MapKept.bytes_beq _ _).1 hbe
    have hrefl : (strB c == strB c) = true := (MapKept.bytes_beq _ _).2 rfl
    rw [this]
    exact ⟨rfl, fun n => by cases n <;> simp [Instr.sameBits, hrefl]⟩
  · cases h
theorem findE_ok {s : Bool} {k : AV} {k' : Value} {d : TypeDesc} (hk : VR e k k') (hd : KD s d) : ∀ {es : List (AV × AV × Nat)} {es' : List MapEntry} {r : Option AV}, findE s k es = some r → ERs e es es' → ∀ i,
    (r = none ∧ Instr.findNow d k' es' i = some none) ∨ ∃ v m v', r = some v ∧ Instr.findNow d k' es' i = some (some (i + m, v')) ∧ VR e v v'
  | [], _, r, h, hE, i => by
    cases hE
    injection h with h
    subst h
    exact .inl ⟨rfl, rfl⟩
  | x :: l, _, r, h, hE, i => by
    cases hE with
    | cons y v y' v' n _ l' hy hv ht =>
    unfold findE at h
    simp only at h
    cases hq : keyEq s k y with
    | none => rw [hq] at h; cases h
    | some b =>
      rw [hq] at h
      obtain ⟨q1, -⟩ := keyEq_ok hq hk hy hd
      cases b with
      | true =>
        simp only at h
        injection h with h
        subst h
        exact .inr ⟨v, 0, v', rfl, by simp [Instr.findNow, q1], hv⟩
      | false =>
        simp only at h
        rcases findE_ok hk hd h ht (i + 1) with ⟨h1, h2⟩ | ⟨u, m, u', h1, h2, h3⟩
        · exact .inl ⟨h1, by simp [Instr.findNow, q1, h2]⟩
        · exact .inr ⟨u, m + 1, u', h1, by simp only [Instr.findNow, q1, h2]; congr 3; omega, h3⟩
theorem putE_ok {s : Bool} {k v : AV} {k' v' : Value} {d : TypeDesc} {c : Nat} (hk : VR e k k') (hv : VR e v v') (hd : KD s d) : ∀ {es : List (AV × AV × Nat)} {es' : List MapEntry} {b : Bool} {r : List (AV × AV × Nat)}, putE s k v c es = some (b, r) → ERs e es es' → ∀ i,
    (b = true ∧ Instr.findNow d k' es' i = some none ∧ ERs e r (es' ++ [⟨k', v', c⟩])) ∨ (b = false ∧ ∃ m u x, Instr.findNow d k' es' i = some (some (i + m, u)) ∧ es'[m]? = some x ∧ x.key = k' ∧ (∀ n, Instr.sameBits n x.key k' = true) ∧ ERs e r (es'.modify m fun e => { e with key := k', val := v' }))
  | [], _, b, r, h, hE, i => by
    cases hE
    injection h with h
    injection h with h1 h2
    subst h1 h2
    exact .inl ⟨rfl, rfl, .cons _ _ _ _ _ _ _ hk hv .nil⟩
  | x :: l, _, b, r, h, hE, i => by
    cases hE with
    | cons y z y' z' n _ l' hy hz ht =>
    unfold putE at h
    simp only at h
    cases hq : keyEq s k y with
    | none => rw [hq] at h; cases h
    | some b2 =>
      rw [hq] at h
      obtain ⟨q1, q2⟩ := keyEq_ok hq hk hy hd
      cases b2 with
      | true =>
        simp only at h
        injection h with h
        injection h with h1 h2
        subst h1 h2
        obtain ⟨q3, q4⟩ := q2 rfl
        exact .inr ⟨rfl, 0, z', ⟨y', z', n⟩, by simp [Instr.findNow, q1], rfl, q3, q4, .cons _ _ _ _ _ _ _ hk hv ht⟩
      | false =>
        simp only at h
        split at h
        · rename_i b3 r3 hp
          injection h with h
          injection h with h1 h2
          subst h1 h2
          rcases putE_ok hk hv hd hp ht (i + 1) with ⟨h1, h2, h3⟩ | ⟨h1, m, u, x, h2, h3, h4, h5, h6⟩
          · exact .inl ⟨h1, by simp [Instr.findNow, q1, h2], .cons _ _ _ _ _ _ _ hy hz h3⟩
          · exact .inr ⟨h1, m + 1, u, x, by simp only [Instr.findNow, q1, h2]; congr 3; omega, h3, h4, h5, .cons _ _ _ _ _ _ _ hy hz h6⟩
        · cases h
theorem delE_ok {s : Bool} {k : AV} {k' : Value} {d : TypeDesc} (hk : VR e k k') (hd : KD s d) : ∀ {es : List (AV × AV × Nat)} {es' : List MapEntry} {r : List (AV × AV × Nat)}, delE s k es = some r → ERs e es es' → ∀ i,
    (Instr.findNow d k' es' i = some none ∧ ERs e r es') ∨ ∃ m u, Instr.findNow d k' es' i = some (some (i + m, u)) ∧ ERs e r (es'.eraseIdx m)
  | [], _, r, h, hE, i => by
    cases hE
    injection h with h
    subst h
    exact .inl ⟨rfl, .nil⟩
  | x :: l, _, r, h, hE, i => by
    cases hE with
    | cons y z y' z' n _ l' hy hz ht =>
    unfold delE at h
    simp only at h
    cases hq : keyEq s k y with
    | none => rw [hq] at h; cases h
    | some b2 =>
      rw [hq] at h
      obtain ⟨q1, q2⟩ := keyEq_ok hq hk hy hd
      cases b2 with
      | true =>
        simp only at h
        injection h with h
        subst h
        exact .inr ⟨0, z', by simp [Instr.findNow, q1], ht⟩
      | false =>
        simp only at h
        split at h
        · rename_i r3 hp
          injection h with h
          subst h
          rcases delE_ok hk hd hp ht (i + 1) with ⟨h1, h2⟩ | ⟨m, u, h1, h2⟩
          · exact .inl ⟨by simp [Instr.findNow, q1, h1], .cons _ _ _ _ _ _ _ hy hz h2⟩
          · exact .inr ⟨m + 1, u, by simp only [Instr.findNow, q1, h1]; congr 3; omega, .cons _ _ _ _ _ _ _ hy hz h2⟩
        · cases h
theorem checkKey_ok {s b : Bool} {kt : TypeId} {d : TypeDesc} (hk : P.underlying kt = some d) (hd : KD s d) (n : Nat) (v : Value) : (Instr.checkKey b (n + 1) kt v).run P w = .ok () w := by
  cases s with
  | true =>
    obtain rfl : d = .string := hd
    simp [Instr.checkKey, run_underlying hk]
  | false =>
    obtain ⟨i, rfl⟩ := hd
    simp [Instr.checkKey, run_underlying hk]
theorem findKey_ok {kt : TypeId} {d : TypeDesc} {k : Value} {es : List MapEntry} {r : Option (Nat × Value)} (hk : P.underlying kt = some d) (h : Instr.findNow d k es 0 = some r) : (Instr.findKey kt k es).run P w = .ok r w := by
  simp [Instr.findKey, run_underlying hk, h]
theorem key_ok2 (hT : TTok P tt) {t : TypeId} {i : TI} (hi : tt.get t = some i) {s : Bool} (h : i.cls.key = some s) : ∃ k el d, P.underlying t = some (.map k el) ∧ P.underlying k = some d ∧ KD s d := by
  obtain ⟨k, el, h1, h2⟩ := key_ok hT hi h
  cases s with
  | true => exact ⟨k, el, _, h1, h2, rfl⟩
  | false =>
    obtain ⟨i, h2⟩ := h2
    exact ⟨k, el, _, h1, h2, i, rfl⟩
end
end Go.Proofs.YtpnoiagjgkajdaaGreatDoor.Av
namespace Go.Proofs.YtpnoiagjgkajdaaGreatDoor.Av
open Go
section
variable {P : Program} {tt : TT} {e e' : Env} {σ σ1 σ' : AH} {w : World} {g : Tr AV}
theorem look_end {b : Bool} {u v : AV} {u' : Value} {c : Bool} (h : cnd b (R.val (.tup [u, .bool c]) σ) (.val u σ) = .val v σ') (hu : VR e u u') : VR e v (if b then .tuple #[u', .bool c] else u') ∧ σ' = σ := by
  cases b
  · injection h with h1 h2
    subst h1 h2
    exact ⟨hu, rfl⟩
  · injection h with h1 h2
    subst h1 h2
    exact ⟨.tup _ [u', .bool c] (.cons _ _ _ _ hu (.cons _ _ _ _ (.bool c) .nil)), rfl⟩
theorem look_ok (hT : TTok P tt) (hr : Rel e σ w) {t : TypeId} {x k v : AV} {x' k' : Value} {b : Bool} (h : lookA tt t x k b σ = .val v σ') (hx : VR e x x') (hk : VR e k k') : ∃ v', (Instr.lookup t x' k' b).run P w = .ok v' w ∧ VR e v v' ∧ σ' = σ := by
  obtain ⟨i, h1, h2⟩ := opt_val h
  split at h2
  · rename_i s el hc
    obtain ⟨info, d, i1, i2, i3, i4, i5, -⟩ := (hT t i h1).ex
    rw [hc] at i5
    obtain ⟨kt, rfl, k2⟩ := i5
    obtain ⟨dk, hdk, hkd⟩ : ∃ dk, P.underlying kt = some dk ∧ KD s dk := by
      cases s with
      | true => exact ⟨_, k2, rfl⟩
      | false => obtain ⟨j, k2⟩ := k2; exact ⟨_, k2, j, rfl⟩
    have hck : ∀ q, (Instr.checkKey q 10000 kt k').run P w = .ok () w := fun q => checkKey_ok (P := P) (w := w) (b := q) hdk hkd 9999 k'
    split at h2
    · rename_i u hq
      split at hq
      · cases hq
      · rename_i r
        obtain ⟨m, m1, m2⟩ := opt_sm hq
        obtain ⟨bk, es', p1, p2, p3⟩ := hr.map (mapAt_eq m1)
        cases hx with
        | map _ b' hb =>
        obtain rfl : bk = b' := by rw [p1] at hb; exact Option.some.inj hb
        rcases findE_ok hk hkd m2 p3 0 with ⟨h5, -⟩ | ⟨u2, mm, u', h5, h6, h7⟩
        · cases h5
        · injection h5 with h5
          subst h5
          obtain ⟨z1, z2⟩ := look_end h2 h7
          exact ⟨_, by simp [Instr.lookup, run_underlying i3, run_getObj_map p2, hck, findKey_ok (P := P) (w := w) hdk h6], z1, z2⟩
      · cases hq
    · rename_i hq
      obtain ⟨z, y1, y2⟩ := opt_val h2
      obtain ⟨zv, y3, y4⟩ := zeroA_ok (w := w) hT y1
      obtain ⟨z1, z2⟩ := look_end y2 (y4 e)
      split at hq
      · cases hx
        exact ⟨_, by simp [Instr.lookup, run_underlying i3, hck, findKey_ok (P := P) (w := w) (k := k') (es := []) hdk rfl, y3], z1, z2⟩
      · rename_i r
        obtain ⟨m, m1, m2⟩ := opt_sm hq
        obtain ⟨bk, es', p1, p2, p3⟩ := hr.map (mapAt_eq m1)
        cases hx with
        | map _ b' hb =>
        obtain rfl : bk = b' := by rw [p1] at hb; exact Option.some.inj hb
        rcases findE_ok hk hkd m2 p3 0 with ⟨h5, h6⟩ | ⟨u2, mm, u', h5, h6, h7⟩
        · exact ⟨_, by simp [Instr.lookup, run_underlying i3, run_getObj_map p2, hck, findKey_ok (P := P) (w := w) hdk h6, y3], z1, z2⟩
        · cases h5
      · cases hq
    · cases h2
  · cases h2
theorem run_setObj_map {b : Nat} {es es2 : Array MapEntry} {c c2 : Nat} (h : w.heap[b]? = some (.map es c)) : (setObj b (.map es2 c2)).run P w = .ok () { w with heap := w.heap.setIfInBounds b (.map es2 c2) } := by simp [setObj, Sem.run, h]
theorem upd_ok (hT : TTok P tt) (hr : Rel e σ w) {t : TypeId} {x k u v : AV} {x' k' u' : Value} (h : updA tt t x k u σ = .val v σ') (hx : VR e x x') (hk : VR e k k') (hu : VR e u u') : ∃ w', (Instr.mapUpdate t x' k' u').run P w = .ok () w' ∧ v = undef0 ∧ Step e σ w e σ' w' := by
  obtain ⟨i, h1, h2⟩ := opt_val h
  obtain ⟨s, h3, h4⟩ := opt_val h2
  obtain ⟨kt, el, dk, i3, hdk, hkd⟩ := key_ok2 hT h1 h3
  have hck : ∀ q, (Instr.checkKey q 10000 kt k').run P w = .ok () w := fun q => checkKey_ok (P := P) (w := w) (b := q) hdk hkd 9999 k'
  split at h4
  · rename_i r
    obtain ⟨m, m1, m2⟩ := opt_val h4
    obtain ⟨bk, es', p1, p2, p3⟩ := hr.map (mapAt_eq m1)
    cases hx with
    | map _ b' hb =>
    obtain rfl : bk = b' := by rw [p1] at hb; exact Option.some.inj hb
    split at m2
    · rename_i es2 hp
      rcases putE_ok hk hu hkd hp p3 0 with ⟨-, h6, h7⟩ | ⟨h5, _⟩
      · obtain ⟨σ1, u1, u2⟩ := upd_obj (ob := .map (es'.toArray.push ⟨k', u', m.2⟩) (m.2 + 1)) hr m2 (by rw [mapAt_eq m1]; rfl) hb ⟨es' ++ [⟨k', u', m.2⟩], by simp [heap_lt p2], h7⟩
        injection u1 with u1 u3
        subst u1 u3
        exact ⟨_, by simp [Instr.mapUpdate, run_underlying i3, run_getObj_map p2, hck, findKey_ok (P := P) (w := w) hdk h6, run_setObj_map (P := P) p2], rfl, u2⟩
      · cases h5
    · rename_i es2 hp
      rcases putE_ok hk hu hkd hp p3 0 with ⟨h5, _⟩ | ⟨-, mm, y, z, h6, h7, h8, h9, h10⟩
      · cases h5
      · obtain ⟨σ1, u1, u2⟩ := upd_obj (ob := .map (es'.modify mm fun e => { e with key := k', val := u' }).toArray m.2) hr m2 (by rw [mapAt_eq m1]; rfl) hb ⟨_, by simp [heap_lt p2], h10⟩
        injection u1 with u1 u3
        subst u1 u3
        rw [Nat.zero_add] at h6
        have h11 : es'.toArray[mm]? = some z := by rw [List.getElem?_toArray]; exact h7
        have h12 := h9 10000
        refine ⟨_, ?_, rfl, u2⟩
        simp [Instr.mapUpdate, run_underlying i3, run_getObj_map p2, hck, findKey_ok (P := P) (w := w) hdk h6, run_setObj_map (P := P) p2, h7, Instr.keyThatStays, h12]
    · cases m2
  · cases h4
theorem del_ok (hT : TTok P tt) (hr : Rel e σ w) {t t2 ty : TypeId} {x k v : AV} {x' k' : Value} (h : delA tt t x k σ = .val v σ') (hx : VR e x x') (hk : VR e k k') : ValOk P (Builtin.delete_ #[t, t2] ty #[x', k']) e σ w v σ' := by
  obtain ⟨i, h1, h2⟩ := opt_val h
  obtain ⟨s, h3, h4⟩ := opt_val h2
  obtain ⟨kt, el, dk, i3, hdk, hkd⟩ := key_ok2 hT h1 h3
  have hck : ∀ q, (Instr.checkKey q 10000 kt k').run P w = .ok () w := fun q => checkKey_ok (P := P) (w := w) (b := q) hdk hkd 9999 k'
  split at h4
  · injection h4 with h5 h6
    subst h5 h6
    cases hx
    exact .same hr (v' := .tuple #[]) (by simp [Builtin.delete_, run_underlying i3, hck]) (.tup [] [] .nil)
  · rename_i r
    obtain ⟨m, m1, m2⟩ := opt_val h4
    obtain ⟨es2, m3, m4⟩ := opt_val m2
    obtain ⟨bk, es', p1, p2, p3⟩ := hr.map (mapAt_eq m1)
    cases hx with
    | map _ b' hb =>
    obtain rfl : bk = b' := by rw [p1] at hb; exact Option.some.inj hb
    rcases delE_ok hk hkd m3 p3 0 with ⟨h5, h6⟩ | ⟨mm, y, h5, h6⟩
    · obtain ⟨σ1, u1, u2⟩ := upd_obj (ob := .map es'.toArray m.2) hr m4 (by rw [mapAt_eq m1]; rfl) hb ⟨_, by simp [heap_lt p2], h6⟩
      injection u1 with u1 u3
      subst u1 u3
      exact ⟨e, _, .tuple #[], by simp [Builtin.delete_, run_underlying i3, run_getObj_map p2, hck, findKey_ok (P := P) (w := w) hdk h5, run_setObj_map (P := P) p2], .tup [] [] .nil, u2⟩
    · obtain ⟨σ1, u1, u2⟩ := upd_obj (ob := .map (es'.toArray.eraseIdxIfInBounds mm) m.2) hr m4 (by rw [mapAt_eq m1]; rfl) hb ⟨_, by simp [heap_lt p2], h6⟩
      injection u1 with u1 u3
      subst u1 u3
      rw [Nat.zero_add] at h5
      exact ⟨e, _, .tuple #[], by simp [Builtin.delete_, run_underlying i3, run_getObj_map p2, hck, findKey_ok (P := P) (w := w) hdk h5, run_setObj_map (P := P) p2], .tup [] [] .nil, u2⟩
  · cases h4
end
end Go.Proofs.YtpnoiagjgkajdaaGreatDoor.Av
namespace Go.Proofs.YtpnoiagjgkajdaaGreatDoor.Av
open Go
section
variable {P : Program} {tt : TT} {e e' : Env} {σ σ1 σ' : AH} {w : World} {g : Tr AV}
theorem range_ok (hT : TTok P tt) (hr : Rel e σ w) {t : TypeId} {x v : AV} {x' : Value} (h : rangeA tt t x σ = .val v σ') (hx : VR e x x') : ValOk P (Instr.range t x') e σ w v σ' := by
  obtain ⟨i, h1, h2⟩ := opt_val h
  obtain ⟨s, h3, h4⟩ := opt_val h2
  obtain ⟨kt, el, i3⟩ := isMap_ok hT h1 h3
  split at h4
  · obtain ⟨l, σ1, k1, k2, k3, -, -⟩ := new_obj (ob := .mapIter none 0 #[] 0) hr h4 (fun b w' hb => ⟨none, hb, (fun l h => by cases h), fun _ => rfl⟩)
    injection k1 with k1 k4
    subst k1 k4
    cases hx
    exact ⟨_, _, .pointer (some ⟨w.heap.size, 0, none⟩), by simp [Instr.range, run_underlying i3, newObj, Sem.run], .ptr l 0 _ k2, k3⟩
  · rename_i r
    obtain ⟨m, m1, m2⟩ := opt_val h4
    obtain ⟨bk, es', p1, p2, p3⟩ := hr.map (mapAt_eq m1)
    cases hx with
    | map _ b' hb =>
    obtain rfl : bk = b' := by rw [p1] at hb; exact Option.some.inj hb
    obtain ⟨l, σ1, k1, k2, k3, -, -⟩ := new_obj (ob := .mapIter (some bk) m.2 #[] m.2) hr m2 (fun b w' hb' => ⟨some bk, hb', (fun l hl => by injection hl with hl; subst hl; exact ⟨bk, hb, rfl⟩), fun h => by cases h⟩)
    injection k1 with k1 k4
    subst k1 k4
    exact ⟨_, _, .pointer (some ⟨w.heap.size, 0, none⟩), by simp [Instr.range, run_underlying i3, newObj, Sem.run, run_getObj_map p2], .ptr l 0 _ k2, k3⟩
  · cases h4
theorem memN_eq (x : Nat) : ∀ l : List Nat, memN x l = l.contains x
  | [] => rfl
  | y :: l => by
    show cnd (Nat.beq x y) true (memN x l) = _
    rw [memN_eq x l, List.contains_cons]
    have : Nat.beq x y = (x == y) := by rw [Bool.eq_iff_iff]; simp
    rw [this]
    cases x == y <;> rfl
theorem leftE_ok {seen : List Nat} : ∀ {es : List (AV × AV × Nat)} {es' : List MapEntry}, ERs e es es' → ERs e (leftE seen es) (es'.filter fun x => !seen.contains x.born)
  | _, _, .nil => .nil
  | _, _, .cons k v k' v' n l l' hk hv t => by
    show ERs e (cnd (memN n seen) (leftE seen l) ((k, v, n) :: leftE seen l)) _
    rw [memN_eq, List.filter_cons]
    cases hc : seen.contains n with
    | true => simpa [hc, cnd] using leftE_ok t
    | false =>
      have := ERs.cons k v k' v' n _ _ hk hv (leftE_ok (seen := seen) t)
      simpa [hc, cnd] using this
theorem anyOld_ok {last : Nat} : ∀ {es : List (AV × AV × Nat)} {es' : List MapEntry}, ERs e es es' → anyOld last es = !(es'.all fun x => decide (x.born ≥ last))
  | _, _, .nil => rfl
  | _, _, .cons k v k' v' n l l' hk hv t => by
    show cnd (Nat.blt n last) true (anyOld last l) = _
    rw [anyOld_ok t, List.all_cons]
    cases hq : Nat.blt n last with
    | true =>
      rw [Nat.blt_eq] at hq
      have : decide (n ≥ last) = false := by simp; omega
      simp [this, cnd]
    | false =>
      have : ¬ n < last := fun h => by rw [← Nat.blt_eq] at h; rw [h] at hq; cases hq
      have : decide (n ≥ last) = true := by simp; omega
      simp [this, cnd]
theorem run_choose_next1 : (choose (.mapNext 1)).run P w = .ok 0 w := by
  simp [choose, Sem.run, Question.forced]
theorem next_ok (hr : Rel e σ w) {ty : TypeId} {x v : AV} {x' : Value} (h : nextA x σ = .val v σ') (hx : VR e x x') : ValOk P (Instr.next x' false ty) e σ w v σ' := by
  unfold nextA at h
  split at h
  · rename_i r
    rw [AH.get_eq] at h
    cases hx with
    | ptr _ _ b hb =>
    split at h
    · rename_i since seen last hg
      injection h with h1 h2
      subst h1 h2
      obtain ⟨b', k1, m', k2, k3, k4⟩ := hr.obj r _ hg
      obtain rfl : b = b' := by rw [hb] at k1; exact Option.some.inj k1
      obtain rfl := k4 rfl
      exact .same hr (v' := .tuple #[.bool false]) (by simp [Instr.next, getObj, Sem.run, k2]) (.tup _ [.bool false] (.cons _ _ _ _ (.bool _) .nil))
    · rename_i m since seen last hg
      obtain ⟨b', k1, m', k2, k3, k4⟩ := hr.obj r _ hg
      obtain rfl : b = b' := by rw [hb] at k1; exact Option.some.inj k1
      obtain ⟨bm, k5, rfl⟩ := k3 m rfl
      obtain ⟨⟨es, clock⟩, m1, m2⟩ := opt_val h
      obtain ⟨q1, q2⟩ := cnd_val m2
      obtain ⟨bk, es', p1, p2, p3⟩ := hr.map (mapAt_eq m1)
      obtain rfl : bm = bk := by rw [k5] at p1; exact Option.some.inj p1
      have hall : (!seen.toArray.isEmpty && !es'.toArray.isEmpty && es'.toArray.all fun x => decide (x.born ≥ last)) = false := by
        have hA := anyOld_ok (last := last) p3
        have hE : es'.toArray.all (fun x => decide (x.born ≥ last)) = es'.all fun x => decide (x.born ≥ last) := by simp
        rw [hE]
        rcases cnd_eq q1 with ⟨h1, -⟩ | ⟨h1, h2⟩
        · have : es' = [] := by
            cases p3 with
            | nil => rfl
            | cons => cases h1
          subst this
          simp
        · rcases cnd_eq h2 with ⟨h3, -⟩ | ⟨h3, h4⟩
          · have : seen = [] := by
              cases seen with
              | nil => rfl
              | cons => cases h3
            subst this
            simp
          · have h4 : anyOld last es = true := h4
            rw [hA] at h4
            simp only [Bool.not_eq_true'] at h4
            rw [h4, Bool.and_false]
      have hL := leftE_ok (seen := seen) p3
      have hF : es'.toArray.filter (fun x => !seen.toArray.contains x.born) = (es'.filter fun x => !seen.contains x.born).toArray := by simp
      have hgo : (getObj b).run P w = .ok (.mapIter (some bm) since seen.toArray last) w := by simp [getObj, Sem.run, k2]
      split at q2
      · rename_i hl
        injection q2 with h1 h2
        subst h1 h2
        rw [hl] at hL
        generalize hG : (es'.filter fun x => !seen.contains x.born) = L at hL hF
        cases hL
        refine .same hr (v' := .tuple #[.bool false]) ?_ (.tup _ [.bool false] (.cons _ _ _ _ (.bool _) .nil))
        simp only [Instr.next, Sem.run_bind, hgo, Result.andThen_ok, run_getObj_map p2, hall, Bool.false_eq_true, if_false, Sem.run_pure, hF]
        simp [show (Question.mapNext 1).forced = true from rfl]
      · rename_i y hl
        obtain ⟨r1, r2⟩ := cnd_val q2
        rw [Nat.blt_eq] at r1
        rw [hl] at hL
        generalize hG : (es'.filter fun x => !seen.contains x.born) = L at hL hF
        cases hL with
        | cons k v k' v' n _ l' hk hv ht =>
        cases ht
        obtain ⟨σ1, u1, u2⟩ := upd_obj (ob := .mapIter (some bm) since (seen.toArray.push n) clock) hr r2 (by rw [hg]; rfl) hb ⟨some bm, by simp [heap_lt k2], k3, k4⟩
        injection u1 with u1 u3
        subst u1 u3
        refine ⟨e, _, .tuple #[.bool true, k', v'], ?_, .tup _ [.bool true, k', v'] (.cons _ _ _ _ (.bool _) (.cons _ _ _ _ hk (.cons _ _ _ _ hv .nil))), u2⟩
        have r1 : n < since := r1
        have r3 : ¬ since ≤ n := by omega
        simp only [Instr.next, Sem.run_bind, hgo, Result.andThen_ok, run_getObj_map p2, hall, Bool.false_eq_true, if_false, Sem.run_pure, hF]
        simp [show (Question.mapNext 1).forced = true from rfl, r1, r3, setObj, Sem.run, k2]
      · cases q2
    · cases h
  · cases h
end
end Go.Proofs.YtpnoiagjgkajdaaGreatDoor.Av
noncomputable section
namespace Go.Proofs.YtpnoiagjgkajdaaGreatDoor.Av
open Go
/-- An operand that stands for what it says. -/
def okX (B : Nat) (x : Operand) : Bool := Operand.rec (motive := fun _ => Bool) (fun _ => true) (fun v => opt false (cvV v) fun _ => true) (fun n => Nat.blt n B) (fun _ => true) x
def okL (B : Nat) : List Operand → Bool := List.rec true fun x _ ih => cnd (okX B x) ih false
def okM (B : Nat) : Option Operand → Bool
  | none => true
  | some x => okX B x
def okP (B : Nat) : List (Nat × Operand) → Bool := List.rec true fun x _ ih => cnd (okX B x.2) ih false
def okF (B : Nat) : Callee → Bool
  | .value f => okX B f
  | _ => true
def okO (B : Nat) (o : Op) : Bool := match o with
  | .move x => okX B x
  | .assign x => okX B x
  | .pick c a b => okL B [c, a, b]
  | .box _ x => okX B x
  | .build _ ps => okP B ps.toList
  | .buildSlice _ _ ps => okP B ps.toList
  | .load _ a => okX B a
  | .store _ a x => okL B [a, x]
  | .nilCheck x => okX B x
  | .binOp _ _ x y _ => okL B [x, y]
  | .unOp _ _ x => okX B x
  | .convert _ _ x => okX B x
  | .makeInterface _ x => okX B x
  | .makeFunc _ f c => cnd (okL B f.toList) (okL B c.toList) false
  | .makeMap _ r => okM B r
  | .makeSlice _ n c => okL B [n, c]
  | .slice _ x lo hi mx => cnd (okX B x) (cnd (okM B lo) (cnd (okM B hi) (okM B mx) false) false) false
  | .fieldAddr _ x _ => okX B x
  | .field _ x _ => okX B x
  | .indexAddr _ x i => okL B [x, i]
  | .index _ x i => okL B [x, i]
  | .lookup _ x k _ => okL B [x, k]
  | .mapUpdate _ m k v => okL B [m, k, v]
  | .range _ x => okX B x
  | .next x _ => okX B x
  | .extract x _ => okX B x
  | .call c => cnd (okF B c.callee) (okL B c.args.toList) false
  | _ => true
section
variable {P : Program} {tt : TT} {e e' : Env} {σ σ1 σ' : AH} {w : World} {g : Tr AV} {ρ : Operand → Value} {B : Nat}
theorem okL_cons {x : Operand} {l : List Operand} (h : okL B (x :: l) = true) : okX B x = true ∧ okL B l = true := and_cnd h
theorem okP_cons {x : Nat × Operand} {l : List (Nat × Operand)} (h : okP B (x :: l) = true) : okX B x.2 = true ∧ okP B l = true := and_cnd h
theorem args_ok (hG : ∀ x, okX B x = true → VR e (opnd g x) (ρ x)) : ∀ {l : List Operand}, okL B l = true → VRs e (opnds g l) (l.map ρ)
  | [], _ => .nil
  | x :: l, h => .cons _ _ _ _ (hG x (okL_cons h).1) (args_ok hG (okL_cons h).2)
theorem parts_ok (hG : ∀ x, okX B x = true → VR e (opnd g x) (ρ x)) : ∀ {l : List (Nat × Operand)}, okP B l = true → PRs e (l.map fun p => (p.1, opnd g p.2)) (l.map fun p => (p.1, ρ p.2))
  | [], _ => .nil
  | x :: l, h => .cons _ _ _ _ _ (hG x.2 (okP_cons h).1) (parts_ok hG (okP_cons h).2)
/-- What a run of an operation leaves. -/
def Did (P : Program) (s : Sem Next) (e : Env) (σ : AH) (w : World) (v : AV) (σ' : AH) : Prop := ∃ e' w' r v', s.run P w = .ok r w' ∧ (r = .value v' ∨ r = .skip ∧ v' = undef) ∧ VR e' v v' ∧ Step e σ w e' σ' w'
theorem ValOk.did {s : Sem Value} {v : AV} (h : ValOk P s e σ w v σ') : Did P (do pure (.value (← s))) e σ w v σ' :=
  let ⟨e', w', v', h1, h2, h3⟩ := h; ⟨e', w', .value v', v', by simp [h1], .inl rfl, h2, h3⟩
theorem same_did {s : Sem Value} {v : AV} (hr : Rel e σ w) (h : ∃ v', s.run P w = .ok v' w ∧ VR e v v' ∧ σ' = σ) : Did P (do pure (.value (← s))) e σ w v σ' := by
  obtain ⟨v', h1, h2, rfl⟩ := h
  exact (ValOk.same hr h1 h2).did
theorem unit_did {s : Sem Unit} {v : AV} (h : ∃ w', s.run P w = .ok () w' ∧ v = undef0 ∧ Step e σ w e σ' w') : Did P (do s; pure .skip) e σ w v σ' := by
  obtain ⟨w', h1, rfl, h2⟩ := h
  exact ⟨e, w', .skip, undef, by simp [h1], .inr ⟨rfl, rfl⟩, .tup [] [] .nil, h2⟩
theorem mkIf_ok (hT : TTok P tt) {t : TypeId} {x v : AV} {x' : Value} (h : mkIf tt t x σ = .val v σ') (hx : VR e x x') : ∃ v', (Instr.makeInterface t x').run P w = .ok v' w ∧ VR e v v' ∧ σ' = σ := by
  obtain ⟨i, h1, h2⟩ := opt_val h
  obtain ⟨info, d, i1, i2, i3, i4, i5, -⟩ := (hT t i h1).ex
  split at h2
  · cases h2
  · cases h2
  · rename_i n1 n2
    injection h2 with h3 h4
    subst h3 h4
    have hd : ∀ m, d ≠ .interface m := by
      rintro m rfl
      generalize i.cls = c at i5 n1 n2
      cases c with
      | iface => exact n1 rfl
      | other => exact n2 rfl
      | struct => obtain ⟨_, h, _⟩ := i5; cases h
      | array => cases i5
      | slice => cases i5
      | string => cases i5
      | map => obtain ⟨_, h, _⟩ := i5; cases h
      | pointer => cases i5
      | int => cases i5
      | bool => cases i5
      | func => obtain ⟨_, _, _, h⟩ := i5; cases h
    refine ⟨.iface t x', ?_, .iface t _ _ hx, rfl⟩
    simp only [Instr.makeInterface, Sem.run_bind, run_underlying i3, Result.andThen_ok]
    cases d <;> first | rfl | exact absurd rfl (hd _)
theorem mm_ok {b : Bool} {args : List AV} {args' : Array Value} {v : AV} {ts : Array TypeId} {ty : TypeId} (h : mmA b args σ = .val v σ') (ha : VRs e args args'.toList) :
    ∃ v', (if b then Builtin.max_ ts ty args' else Builtin.min_ ts ty args').run P w = .ok v' w ∧ VR e v v' ∧ σ' = σ := by
  unfold mmA at h
  split at h
  · rename_i x l
    obtain ⟨u, h1, h2⟩ := opt_val h
    injection h2 with h2 h3
    subst h2 h3
    generalize hL : args'.toList = L at ha
    cases ha with
    | cons _ x' _ l' hx hl =>
    obtain ⟨v', k1, k2⟩ := minmax_ok (P := P) (w := w) b h1 hx hl
    refine ⟨v', ?_, k2, rfl⟩
    cases b
    · simpa [Builtin.min_, hL] using k1
    · simpa [Builtin.max_, hL] using k1
  · cases h
theorem sd_ok {a : Option (Nat × Nat)} {n : Nat} {c : Kap} {x' : Value} {ts : Array TypeId} {ty : TypeId} (hx : VR e (.sl a n c) x') (hn : a = none ∨ n ≠ 0) : ∃ v', (Builtin.unsafeSliceData_ ts ty #[x']).run P w = .ok v' w ∧ VR e (.ptr a) v' := by
  cases hx with
  | nilsl => exact ⟨_, rfl, .nilp⟩
  | sl0 => rcases hn with h | h <;> first | (cases h; done) | exact absurd rfl h
  | sl l o b _ _ cap hb hk hle =>
    rcases hn with h | h
    · cases h
    · have hc : cap ≠ 0 := by omega
      exact ⟨.pointer (some ⟨b, o, none⟩), Go.Lib.run_unsafeSliceData_row w ts ty _ _ cap hc, .ptr l o b hb⟩
end
end Go.Proofs.YtpnoiagjgkajdaaGreatDoor.Av
end
namespace Go.Proofs.YtpnoiagjgkajdaaGreatDoor.Av
open Go
section
variable {P : Program} {tt : TT} {e e' : Env} {σ σ1 σ' : AH} {w : World} {g : Tr AV} {ρ : Operand → Value} {B : Nat}
theorem builtin_ok (hT : TTok P tt) (hr : Rel e σ w) {b : Builtin} {ts : Array TypeId} {ty : TypeId} {cs : Array Bool} {args : List AV} {args' : Array Value} {v : AV} (h : builtinA tt b ts.toList args σ = .val v σ') (ha : VRs e args args'.toList) : Did P (builtin b ts ty cs args') e σ w v σ' := by
  obtain ⟨ts⟩ := ts
  obtain ⟨args'⟩ := args'
  simp only at h ha
  unfold builtinA at h
  split at h
  · cases ha with | cons _ s' _ _ h1 ha => cases ha with | cons _ x' _ _ h2 ha => cases ha with | nil => exact (app_ok hT hr h h1 h2).did
  · cases ha with | cons _ s' _ _ h1 ha => cases ha with | nil => exact same_did hr (lenA_ok hT hr h h1 rfl)
  · cases ha with | cons _ s' _ _ h1 ha => cases ha with | cons _ x' _ _ h2 ha => cases ha with | nil => exact (copy_ok hT hr h h1 h2).did
  · cases ha with | cons _ s' _ _ h1 ha => cases ha with | cons _ x' _ _ h2 ha => cases ha with | nil => exact (del_ok hT hr h h1 h2).did
  · cases ha with | cons _ s' _ _ h1 ha => cases ha with | nil => exact (clear_ok hT hr h h1).did
  · exact same_did hr (mm_ok (b := true) (ts := ⟨ts⟩) (ty := ty) h ha)
  · exact same_did hr (mm_ok (b := false) (ts := ⟨ts⟩) (ty := ty) h ha)
  · injection h with h3 h4
    subst h3 h4
    cases ha with | cons _ s' _ _ h1 ha => cases ha with | nil =>
    obtain ⟨v', k1, k2⟩ := sd_ok (P := P) (w := w) (ts := ts.toArray) (ty := ty) h1 (.inr (Nat.succ_ne_zero _))
    exact same_did hr ⟨v', k1, k2, rfl⟩
  · injection h with h3 h4
    subst h3 h4
    cases ha with | cons _ s' _ _ h1 ha => cases ha with | nil =>
    obtain ⟨v', k1, k2⟩ := sd_ok (P := P) (w := w) (ts := ts.toArray) (ty := ty) h1 (.inl rfl)
    exact same_did hr ⟨v', k1, k2, rfl⟩
  · cases ha with | cons _ s' _ _ h1 ha => cases ha with | cons _ x' _ _ h2 ha => cases ha with | nil => exact (us_ok hT hr h h1 h2).did
  · cases h
theorem asB_eq {v : AV} {b : Bool} (h : v.asB = some b) : v = .bool b := by
  cases v <;> first | (cases h; done) | (injection h with h; rw [h])
theorem optM_ok (hG : ∀ x, okX B x = true → VR e (opnd g x) (ρ x)) : ∀ {o : Option Operand}, okM B o = true → OptR e (o.map (opnd g)) (o.map ρ)
  | none, _ => trivial
  | some x, h => hG x h
theorem evOp2_ok (hT : TTok P tt) (hr : Rel e σ w) (hG : ∀ x, okX B x = true → VR e (opnd g x) (ρ x)) {o : Oper} {v : AV} (h : evOp2 tt g o.op σ = .val v σ') (hO : okO B o.op = true) : Did P (execOp ρ o) e σ w v σ' := by
  obtain ⟨dst, op, ty, pos, after, guard⟩ := o
  simp only at h hO
  unfold evOp2 at h
  split at h
  · rename_i c a b
    replace hO : okL B [c, a, b] = true := hO
    obtain ⟨h1, h2⟩ := okL_cons hO
    obtain ⟨h3, h4⟩ := okL_cons h2
    obtain ⟨h5, -⟩ := okL_cons h4
    obtain ⟨x, h6, h7⟩ := opt_val h
    have hc := hG c h1
    rw [asB_eq h6] at hc
    generalize hρ : ρ c = y at hc
    cases hc
    have hb : (asBool (.bool x)).run P w = .ok x w := rfl
    rcases cnd_eq h7 with ⟨h8, h9⟩ | ⟨h8, h9⟩
    · injection h9 with h9 h10
      subst h8 h9 h10
      exact ⟨e, w, .value (ρ a), ρ a, by simp [execOp, hρ, hb], .inl rfl, hG a h3, .refl hr⟩
    · injection h9 with h9 h10
      subst h8 h9 h10
      exact ⟨e, w, .value (ρ b), ρ b, by simp [execOp, hρ, hb], .inl rfl, hG b h5, .refl hr⟩
  · exact (alloc_ok hT hr h).did
  · rename_i t x
    exact (box_ok hr h (hG x hO)).did
  · rename_i t ps
    have hp : PRs e (opParts g ps) (ps.map fun (i, x) => (i, ρ x)).toList := by rw [Array.toList_map]; exact parts_ok hG hO
    exact same_did hr (build_ok hT h hp)
  · rename_i t n ps
    have hp : PRs e (opParts g ps) (ps.map fun (i, x) => (i, ρ x)).toList := by rw [Array.toList_map]; exact parts_ok hG hO
    exact (buildSlice_ok hT hr h hp).did
  · rename_i op t x
    exact same_did hr (unA_ok h (hG x hO))
  · rename_i s d x
    exact (convA_ok hT hr h (hG x hO)).did
  · rename_i fn first cap
    unfold opFn at h
    split at h
    · rename_i f0
      obtain ⟨h1, h2⟩ := and_cnd hO
      injection h with h3 h4
      subst h3 h4
      have a1 := args_ok hG h1
      have a2 := args_ok hG h2
      refine ⟨e, w, _, _, rfl, .inl rfl, ?_, .refl hr⟩
      have := VR.fn (e := e) f0 _ _ _ _ a1 a2
      have e1 : (first.toList.map ρ).toArray = first.map ρ := by apply Array.ext'; simp
      have e2 : (cap.toList.map ρ).toArray = cap.map ρ := by apply Array.ext'; simp
      rw [e1, e2] at this
      exact this
    · cases h
  · rename_i t r
    unfold opMapR at h
    split at h
    · exact (makeMap_ok (r := none) hr h (fun x hx => by cases hx)).did
    · rename_i x
      obtain ⟨k, h1, h2⟩ := opt_val h
      obtain ⟨i, h3, h4⟩ := opt_val h2
      obtain ⟨s, h5, h6⟩ := opt_val h4
      obtain ⟨kt, el, hu⟩ := isMap_ok hT h3 h5
      have hx := hG x hO
      rw [asK_int h1] at hx
      generalize hρ : ρ x = y at hx
      cases hx
      refine (makeMap_ok (r := some (ρ x)) hr h6 (fun z hz => ?_)).did
      injection hz with hz
      subst hz
      exact ⟨⟨_, _, hρ⟩, _, _, hu⟩
  · rename_i t n c
    replace hO : okL B [n, c] = true := hO
    obtain ⟨h1, h2⟩ := okL_cons hO
    obtain ⟨h3, -⟩ := okL_cons h2
    exact (makeSlice_ok hT hr h (hG n h1) (hG c h3)).did
  · rename_i t x lo hi mx
    obtain ⟨h1, h2⟩ := and_cnd hO
    obtain ⟨h3, h4⟩ := and_cnd h2
    obtain ⟨h5, h6⟩ := and_cnd h4
    cases mx with
    | none => exact same_did hr (sliceA_ok (mx := none) (mx' := none) hT hr h (hG x h1) (optM_ok hG h3) (optM_ok hG h5) trivial)
    | some m => exact same_did hr (slice3_ok hT hr h (hG x h1) (optM_ok hG h3) (optM_ok hG h5) (hG m h6))
  · rename_i s x f
    exact same_did hr (field_ok hT hr h (hG x hO))
  · rename_i t x i
    replace hO : okL B [x, i] = true := hO
    obtain ⟨h1, h2⟩ := okL_cons hO
    obtain ⟨h3, -⟩ := okL_cons h2
    exact same_did hr (index_ok hT hr h (hG x h1) (hG i h3))
  · rename_i t x k ok
    replace hO : okL B [x, k] = true := hO
    obtain ⟨h1, h2⟩ := okL_cons hO
    obtain ⟨h3, -⟩ := okL_cons h2
    exact same_did hr (look_ok hT hr h (hG x h1) (hG k h3))
  · rename_i t m k x
    replace hO : okL B [m, k, x] = true := hO
    obtain ⟨h1, h2⟩ := okL_cons hO
    obtain ⟨h3, h4⟩ := okL_cons h2
    obtain ⟨h5, -⟩ := okL_cons h4
    exact unit_did (upd_ok hT hr h (hG m h1) (hG k h3) (hG x h5))
  · rename_i t x
    exact (range_ok hT hr h (hG x hO)).did
  · rename_i it s
    obtain ⟨h1, h2⟩ := cnd_val' h
    subst h1
    exact (next_ok hr h2 (hG it hO)).did
  · rename_i t x
    exact same_did hr (mkIf_ok hT h (hG x hO))
  · rename_i c
    obtain ⟨h1, h2⟩ := and_cnd hO
    obtain ⟨callee, args, ats⟩ := c
    unfold opCall at h
    simp only at h h1 h2
    split at h
    · rename_i b
      obtain ⟨cs, hcs⟩ : ∃ cs, (execOp ρ ⟨dst, .call ⟨.builtin b, args, ats⟩, ty, pos, after, guard⟩).run P w = (builtin b ats ty cs (args.map ρ)).run P w := ⟨_, rfl⟩
      obtain ⟨e', w', r, v', k1, k2, k3, k4⟩ := builtin_ok (ty := ty) (cs := cs) (args' := args.map ρ) hT hr h (by rw [Array.toList_map]; exact args_ok hG h2)
      exact ⟨e', w', r, v', hcs.trans k1, k2, k3, k4⟩
    · cases h
  · cases h
end
end Go.Proofs.YtpnoiagjgkajdaaGreatDoor.Av
