/- What the evaluator is told: the keys of a map that has none; a strings.Builder's copyCheck. -/
import Derived.Test.YtpnoiagjgkajdaaGreatDoorGEvTab
import Derived.Test.YtpnoiagjgkajdaaGreatDoorWKeys
import Derived.Lib.Builder
import Derived.Lib.Hide
import Derived.WalkSpells
set_option linter.unusedVariables false
namespace Go.Proofs.YtpnoiagjgkajdaaGreatDoor
open Go.RowKit
theorem rowAt_mono {p : Program} {fits : TypeId → Bool} {d e c c' off n : Nat} (hc : c ≤ c') (h : rowAt p fits d e c off n = true) : rowAt p fits d e c' off n = true := by
  cases d with
  | zero => exact h
  | succ d =>
    simp only [rowAt] at h ⊢
    split at h
    · cases h
    · rename_i hs
      rw [if_neg hs]
      rw [Bool.or_eq_true] at h ⊢
      rcases h with h | h
      · left
        simp only [Bool.and_eq_true, decide_eq_true_eq] at h ⊢
        exact ⟨⟨h.1.1, by omega⟩, h.2⟩
      · right
        rw [Bool.and_eq_true] at h ⊢
        simp only [decide_eq_true_eq] at h ⊢
        exact ⟨by omega, h.2⟩
theorem liesAt_mono {p : Program} : ∀ {d e c c' off u n : Nat}, c ≤ c' → liesAt p d e c off u n = true → liesAt p d e c' off u n = true
  | 0, _, _, _, _, _, _, _, h => h
  | d + 1, e, c, c', off, u, n, hc, h => by
    rw [liesAt, Bool.or_eq_true] at h ⊢
    rcases h with h | h
    · exact .inl (rowAt_mono hc h)
    · right
      split at h
      · exact liesAt_mono hc h
      · cases h
theorem builderInfo : (Tryz.prog.info? 346).map (fun i => (i.zero, i.size, i.bytes)) = some (some (.agg #[.pointer none, .slice none 0 0]), 2, 32) := by kernel_rfl
theorem builderLies : liesAt Tryz.prog Tryz.prog.depth 346 1 0 346 1 = true := by kernel_rfl
theorem builderCells : Tryz.prog.cellsOf 346 = 2 := by kernel_rfl
set_option maxRecDepth 100000 in
set_option maxHeartbeats 1000000 in
theorem copyFresh_calls (b n : Nat) (w : World) (hsh : w.shape? b = some (346, n)) (hn : 2 ≤ n) (c0 : w.cell? ⟨b, 0, none⟩ = some (.pointer none)) (f0 : w.frozen? ⟨b, 0, none⟩ = false) :
    Calls Tryz.prog 295 #[.pointer (some ⟨b, 0, none⟩)] w fun e w' => e = .returned (.tuple #[]) ∧ w' = w.setCell ⟨b, 0, none⟩ (.pointer (some ⟨b, 0, none⟩)) := by
  obtain ⟨i0, hi, hz0, hz1, hz2⟩ := info_parts builderInfo
  have hto := Lib.run_to_unsafe (P := Tryz.prog) w ⟨b, 0, none⟩ Tryz.underlying344 Tryz.underlying420 hi (by omega) hsh (by show 0 < n; omega)
  have hfr := Lib.run_from_unsafe (P := Tryz.prog) w ⟨b, 0, none⟩ Tryz.underlying420 Tryz.underlying344 hi hsh (liesAt_mono (by rw [builderCells]; omega) builderLies)
  have hne := fun W => Lib.run_neq_ptr_same (P := Tryz.prog) W ⟨b, 0, none⟩ Tryz.underlying344 hi
  clear hsh hn
  go_enter Tryz.func295, Tryz.ntmps295
  go_wp2
  rw [run_callFunc_extern Tryz.func322 (by kernel_rfl) (by kernel_rfl) (by kernel_rfl) (e := Extern.AbiNoEscape.same) (by kernel_rfl), Lib.run_noEscape]
  simp only [Result.andThen]
  rw [Oper.upon_value]
  go_wp2
  go_end0
  exact ⟨rfl, rfl⟩
set_option maxRecDepth 100000 in
set_option maxHeartbeats 1000000 in
theorem copyUsed_calls (b : Nat) (w : World) (c0 : w.cell? ⟨b, 0, none⟩ = some (.pointer (some ⟨b, 0, none⟩))) :
    Calls Tryz.prog 295 #[.pointer (some ⟨b, 0, none⟩)] w fun e w' => e = .returned (.tuple #[]) ∧ w = w' := by
  obtain ⟨i0, hi, hz0, hz1, hz2⟩ := info_parts builderInfo
  have hne := fun W => Lib.run_neq_ptr_same (P := Tryz.prog) W ⟨b, 0, none⟩ Tryz.underlying344 hi
  go_enter Tryz.func295, Tryz.ntmps295
  go_wp2
  go_end0
  exact ⟨rfl, rfl⟩
end Go.Proofs.YtpnoiagjgkajdaaGreatDoor
noncomputable section
namespace Go.Proofs.YtpnoiagjgkajdaaGreatDoor.Av
open Go Go.RowKit
/-- The keys of a map that has none. -/
noncomputable def noKeys (fs : List Nat) (args : List AV) (σ : AH) : RV := match args with
  | [.fn f [] [.ptr (some (l, 0))]] => cnd (memN f fs) (match cellsAt σ l with
    | some cs => match nth cs 0 with
      | some (.map (some m)) => (match mapAt σ m with
        | some ([], _) => .ok (.sl none 0 (.k 0)) σ
        | _ => .bad f 0 1010)
      | _ => .bad f 1 1010
    | none => .bad f 2 1010) (.bad f 4 1010)
  | _ => .bad 0 3 1010
noncomputable def copyK (args : List AV) (σ : AH) : RV := match args with
  | [.ptr (some (l, 0))] => (match σ.get l with
    | some (.cells [.ptr none, _] t false _) => cnd (Nat.beq t 346) (rvOf (storeN l 0 [.ptr (some (l, 0))] σ fun σ => .val (.tup []) σ)) (.bad 325 0 5)
    | some (.cells (.ptr (some a) :: _) _ _ _) => cnd (Nat.beq a.1 l) (cnd (Nat.beq a.2 0) (.ok (.tup []) σ) (.bad 325 0 1)) (.bad 325 0 2)
    | _ => .bad 325 0 3)
  | _ => .bad 325 0 4
noncomputable def told0 : Told := fun f => cnd (Nat.beq f 134) (some (noKeys [234]))
  (cnd (Nat.beq f 259) (some (noKeys [316, 261])) (cnd (Nat.beq f 295) (some copyK) none))
/-- A world that has only more blocks. -/
theorem Rel.below {e : Env} {σ : AH} {w w' : World} (h : Rel e σ w) (hb : Below w.heap.size w w') : Rel e σ w' :=
  ⟨fun l o ho => by
    obtain ⟨b, h1, h2⟩ := h.obj l o ho
    exact ⟨b, h1, h2.mono (.refl e) (hb.block b (h.lt _ _ h1))⟩, h.inj, h.fresh, h.kfresh, h.lb, fun l b hb' => Nat.lt_of_lt_of_le (h.lt l b hb') hb.size, h.nx⟩
theorem Step.below {e : Env} {σ : AH} {w w' : World} (h : Rel e σ w) (hb : Below w.heap.size w w') : Step e σ w e σ w' :=
  ⟨.refl e, h.below hb, hb.os, hb.tape, hb.output, hb.size, fun b hlt _ => hb.block b hlt, fun l b h1 h2 h3 => .inl ⟨l, h1, h2, h3⟩, Nat.le_refl _, fun _ _ => rfl⟩
theorem noKeys_ok {f : Nat} {fs : List Nat} (hfs : ∀ g, memN g fs = true → (f, g) = (134, 234) ∨ (f, g) = (259, 316) ∨ (f, g) = (259, 261))
    {args : List AV} {σ σ' : AH} {v : AV} (h : noKeys fs args σ = .ok v σ') {e : Env} {w : World} {args' : List Value} (hr : Rel e σ w) (hv : VRs e args args') : Calls P f args'.toArray w (Post e σ w v σ') := by
  unfold noKeys at h
  split at h
  · rename_i g l
    rcases cnd_eq h with ⟨h1, h2⟩ | ⟨_, h2⟩
    · split at h2
      · rename_i cs hcs
        split at h2
        · rename_i m hm
          split at h2
          · rename_i c hc
            injection h2 with h3 h4
            subst h3 h4
            obtain ⟨t, fz, cv, h5⟩ := cellsAt_eq hcs
            obtain ⟨b, cs', rst, fr, k1, k2, k3, -, -, -⟩ := hr.cells h5
            rw [nth_eq] at hm
            obtain ⟨bm, es', q1, q2, q3⟩ := hr.map (mapAt_eq hc)
            cases q3
            cases k3 with
            | nil => simp at hm
            | cons x x' cs0 cs0' hx hcs' =>
            rw [List.getElem?_cons_zero] at hm
            injection hm with hm
            subst hm
            cases hx with
            | map _ b2 hb2 =>
            obtain rfl : bm = b2 := by rw [q1] at hb2; exact Option.some.inj hb2
            cases hv with
            | cons _ y _ ys hy hys =>
            cases hys
            cases hy with
            | fn _ _ _ fs' cs2 h6 h7 =>
            cases h6
            cases h7 with
            | cons _ z _ zs hz hzs =>
            cases hzs
            cases hz with
            | ptr _ _ b3 hb3 =>
            obtain rfl : b = b3 := by rw [k1] at hb3; exact Option.some.inj hb3
            refine (noKeys_calls f g (hfs g h1) w b bm c (by rw [cell_at k2]; simp) (by simpa using q2)).mono fun e0 w' ⟨he, hb⟩ => ?_
            subst he
            exact ⟨e, .nilsl, Step.below hr hb⟩
          · cases h2
        · cases h2
      · cases h2
    · cases h2
  · cases h
theorem copyK_ok {args : List AV} {σ σ' : AH} {v : AV} (h : copyK args σ = .ok v σ') {e : Env} {w : World} {args' : List Value} (hr : Rel e σ w) (hv : VRs e args args') : Calls P 295 args'.toArray w (Post e σ w v σ') := by
  unfold copyK at h
  split at h
  · rename_i l
    cases hv with
    | cons _ y _ ys hy hys =>
    cases hys
    cases hy with
    | ptr _ _ b hb =>
    split at h
    · rename_i c1 t cv hg
      rw [AH.get_eq] at hg
      obtain ⟨b2, cs', rst, fr, k1, k2, k3, k4, k5, -⟩ := hr.cells hg
      obtain rfl : b = b2 := by rw [hb] at k1; exact Option.some.inj k1
      rcases cnd_eq h with ⟨h1, h2⟩ | ⟨_, h2⟩
      · have h1 := Nat.eq_of_beq_eq_true h1
        subst h1
        have h2' : ∃ σ1, storeN l 0 [.ptr (some (l, 0))] σ (fun σ => .val (.tup []) σ) = .val v σ1 ∧ σ1 = σ' := by
          cases hs : storeN l 0 [.ptr (some (l, 0))] σ (fun σ => .val (.tup []) σ) with
          | val u s =>
            rw [hs] at h2
            injection (show RV.ok u s = RV.ok v σ' from h2) with h3 h4
            subst h3 h4
            exact ⟨s, rfl, rfl⟩
          | call => rw [hs] at h2; cases h2
          | bad => rw [hs] at h2; cases h2
        obtain ⟨σ1, h3, rfl⟩ := h2'
        obtain ⟨σ2, w1, q1, q2, q3⟩ := storeN_ok (P := P) hr h3 hb (.cons _ _ _ _ (.ptr l 0 b hb) .nil) (by simp [AV.one])
        injection q1 with q1 q4
        subst q1 q4
        cases k3 with
        | cons x x' cs0 cs0' hx hcs' =>
        cases hx
        cases hcs' with
        | cons x2 x2' cs1 cs1' hx2 hcs2 =>
        cases hcs2
        have hw1 : w1 = w.setCell ⟨b, 0, none⟩ (.pointer (some ⟨b, 0, none⟩)) := by
          have : (storeCells ⟨b, 0, none⟩ [.pointer (some ⟨b, 0, none⟩)]).run P w = .ok () (w.setCell ⟨b, 0, none⟩ (.pointer (some ⟨b, 0, none⟩))) := by
            have hc : w.cell? ⟨b, 0, none⟩ = some (.pointer none) := by rw [cell_at k2]; simp
            have hf : w.frozen? ⟨b, 0, none⟩ = false := by
              obtain rfl := k5 rfl
              unfold World.frozen?
              rw [k2]
              simp
            have hs := run_store P w ⟨b, 0, none⟩ (.pointer (some ⟨b, 0, none⟩)) .plain rfl
            simp only [hc, hf] at hs
            simp only [storeCells, Sem.run_bind, addr_add, Nat.add_zero]
            rw [hs]
            rfl
          rw [this] at q2
          injection q2 with _ q2
          exact q2.symm
        refine (copyFresh_calls b _ w (by unfold World.shape?; rw [k2]) (by simp) (by rw [cell_at k2]; simp) ?_).mono fun e0 w' ⟨he, hb⟩ => ?_
        · obtain rfl := k5 rfl
          unfold World.frozen?
          rw [k2]
          simp
        · subst he hb
          rw [← hw1]
          exact ⟨e, .tup [] [] .nil, q3⟩
      · cases h2
    · rename_i a cs t fz cv hg
      rw [AH.get_eq] at hg
      obtain ⟨b2, cs', rst, fr, k1, k2, k3, -, -, -⟩ := hr.cells hg
      obtain rfl : b = b2 := by rw [hb] at k1; exact Option.some.inj k1
      rcases cnd_eq h with ⟨h1, h2⟩ | ⟨_, h2⟩
      · rcases cnd_eq h2 with ⟨h3, h4⟩ | ⟨_, h4⟩
        · injection h4 with h4 h5
          subst h4 h5
          obtain ⟨a1, a2⟩ := a
          have h1 := Nat.eq_of_beq_eq_true h1
          have h3 := Nat.eq_of_beq_eq_true h3
          simp only at h1 h3
          subst h1 h3
          cases k3 with
          | cons x x' cs0 cs0' hx hcs' =>
          cases hx with
          | ptr _ _ b4 hb4 =>
          obtain rfl : b = b4 := by rw [hb] at hb4; exact Option.some.inj hb4
          refine (copyUsed_calls b w (by rw [cell_at k2]; simp)).mono fun e0 w' ⟨he, hb⟩ => ?_
          subst he hb
          exact ⟨e, .tup [] [] .nil, .refl hr⟩
        · cases h4
      · cases h2
    · cases h
  · cases h
theorem told0_ok (I : SX → Value → Prop) : ToldOk P 4 I told0 := fun f h hf args σ v σ' hh e w args' hr hB hv => by
  unfold told0 at hf
  rcases cnd_eq hf with ⟨h1, h2⟩ | ⟨_, h2⟩
  · have h1 := Nat.eq_of_beq_eq_true h1
    subst h1
    injection h2 with h2
    subst h2
    refine ⟨run_callFunc Tryz.func134 rfl (by kernel_rfl) _, noKeys_ok (fun g hg => ?_) hh hr hv⟩
    rw [memN_eq] at hg
    simp at hg
    subst hg
    exact .inl rfl
  · rcases cnd_eq h2 with ⟨h1, h2⟩ | ⟨_, h2⟩
    · have h1 := Nat.eq_of_beq_eq_true h1
      subst h1
      injection h2 with h2
      subst h2
      refine ⟨run_callFunc Tryz.func259 rfl (by kernel_rfl) _, noKeys_ok (fun g hg => ?_) hh hr hv⟩
      rw [memN_eq] at hg
      simp at hg
      rcases hg with rfl | rfl
      · exact .inr (.inl rfl)
      · exact .inr (.inr rfl)
    · rcases cnd_eq h2 with ⟨h1, h2⟩ | ⟨_, h2⟩
      · have h1 := Nat.eq_of_beq_eq_true h1
        subst h1
        injection h2 with h2
        subst h2
        exact ⟨run_callFunc Tryz.func295 rfl (by kernel_rfl) _, copyK_ok hh hr hv⟩
      · cases h2
end Go.Proofs.YtpnoiagjgkajdaaGreatDoor.Av
end
