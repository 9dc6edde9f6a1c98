/- All that the evaluator is told of ServiceMay. -/
import Derived.Test.YtdgjkejfmehphaaGreatDoorMTold3
import Derived.Test.YtdgjkejfmehphaaGreatDoorMAwk
set_option linter.unusedVariables false
noncomputable section
namespace Go.Proofs.YtdgjkejfmehphaaGreatDoor
open Go.RowKit
set_option maxRecDepth 100000 in
set_option maxHeartbeats 1000000 in
theorem isOpen_calls (s m : Nat) (c : Int) (a : Addr) (w : World) (h2 : w.cell? ⟨s, 2, none⟩ = some (.map (some m))) (hm : MapN .i64 w m [(c, .pointer (some a))]) :
    Calls Tryz.prog 11 #[.pointer (some ⟨s, 0, none⟩), .int .i64 c] w fun e w' => e = .returned (.bool true) ∧ w = w' := by
  have hl := hm.look (P := Tryz.prog) (t := 64) (k := 3) (e := 83) Tryz.underlying64 Tryz.underlying3 (z := .pointer none) (by go_simp) c
  have hq : (lookN c [(c, Value.pointer (some a))]).getD (.pointer none) = .pointer (some a) := by simp [lookN]
  rw [hq] at hl
  have HM := Lib.hid hm
  clear hm hq
  go_enter Tryz.func11, Tryz.ntmps11
  go_wp2
  go_ret
  exact ⟨rfl, rfl⟩
namespace Av
open Go
section
variable {p : Mp} {e : Env} {v : Value} {w : World} {σ σ' : AH} {args : List AV} {u : AV} {args' : List Value} {fs : List AV} {put : Bool}
noncomputable def isOpenT (args : List AV) (σ : AH) : RV := match args with
  | [.ptr (some (l, 0)), x] => cnd (AV.eqb x (.sp (.i 0 [0, 0, 0, 0, 0, 0, 0, 1]))) (match σ.get l with
    | some (.cells (_ :: _ :: .map (some m) :: _) _ _ _) => (match σ.get m with
      | some (.map [(y, .ptr (some a), n)] cl) => cnd (AV.eqb y (.sp (.i 0 [0, 0, 0, 0, 0, 0, 0, 1]))) (cnd (Nat.blt n cl) (.ok (.bool true) σ) (.bad 0 0 16)) (.bad 0 0 16)
      | _ => .bad 0 0 17)
    | _ => .bad 0 0 18) (.bad 0 0 19)
  | _ => .bad 0 0 19
theorem isOpenT_ok (h : isOpenT args σ = .ok u σ') (hr : Rel e σ w) (hI : e.I = spM p) (hv : VRs e args args') : Calls P 11 args'.toArray w (Post e σ w u σ') := by
  unfold isOpenT at h
  split at h
  · rename_i l x
    rcases cnd_eq h with ⟨h1, h2⟩ | ⟨_, h2⟩
    · obtain rfl := AV.eqb_eq h1
      split at h2
      · rename_i c0 c1 m rest t fz cv hg
        rw [AH.get_eq] at hg
        split at h2
        · rename_i y a n cl hgm
          rw [AH.get_eq] at hgm
          rcases cnd_eq h2 with ⟨h3, h4⟩ | ⟨_, h4⟩
          · obtain rfl := AV.eqb_eq h3
            rcases cnd_eq h4 with ⟨h5, h6⟩ | ⟨_, h6⟩
            · rw [Nat.blt_eq] at h5
              injection h6 with h7 h8
              subst h7 h8
              cases hv with
              | cons _ z _ zs hz hzs =>
              cases hzs with
              | cons _ z2 _ zs2 hz2 hzs2 =>
              cases hzs2
              cases hz with
              | ptr _ _ b hb =>
              have hz2 := lin_val hI hz2
              subst hz2
              rw [lin7]
              obtain ⟨b2, cs', rst, fr, k1, k2, k5, -, -, -⟩ := hr.cells hg
              obtain rfl : b = b2 := by rw [hb] at k1; exact Option.some.inj k1
              cases k5 with
              | cons x0 x0' cs0 cs0' hx0 hcs0 =>
              cases hcs0 with
              | cons x1 x1' cs1 cs1' hx1 hcs1 =>
              cases hcs1 with
              | cons x2 x2' cs2 cs2' hx2 hcs2 =>
              cases hx2 with
              | map _ bm hbm =>
              obtain ⟨bm2, es', m1, m2, m3⟩ := hr.map hgm
              obtain rfl : bm = bm2 := by rw [hbm] at m1; exact Option.some.inj m1
              cases m3 with
              | cons ky vy k' v' _ l0 l' hk hv2 t0 =>
              cases t0
              have hk := lin_val hI hk
              subst hk
              rw [lin7] at m2
              cases hv2 with
              | ptr _ _ ba hba =>
              refine (isOpen_calls b bm (p.c : Int) _ w (by rw [cell_at k2]; simp) ⟨_, cl, m2, rfl, ?_, by simp, by simp⟩).mono fun e0 w' ⟨he, hw⟩ => ?_
              · intro x hx
                simp at hx
                subst hx
                exact h5
              · subst he hw
                exact ⟨e, .bool _, .refl hr⟩
            · cases h6
          · cases h4
        · cases h2
      · cases h2
    · cases h2
  · cases h
theorem vrs_k {k : IntKind} {e : Env} : ∀ {l : List Nat} {vs : List Value}, VRs e (l.map fun n => .int k (.ofNat n)) vs → vs = l.map fun (n : Nat) => Value.int k (n : Int)
  | [], vs, h => by cases h; rfl
  | n :: l, vs, h => by
    cases h with
    | cons _ y _ ys hy hys =>
    cases hy
    rw [vrs_k hys]
    rfl
/-- awake, where the tables are. -/
noncomputable def awakeT (args : List AV) (σ : AH) : RV := match args with
  | [] => (match σ.get 0 with
    | some (.cells c0 _ _ _) => (match σ.get 1 with
      | some (.cells c1 _ _ _) => cnd (AV.eqbs c0 (tab0.map fun n => .int .u32 (.ofNat n))) (cnd (AV.eqbs c1 (tab1.map fun n => .int .u64 (.ofNat n))) (.ok T σ) (.bad 0 0 20)) (.bad 0 0 20)
      | _ => .bad 0 0 20)
    | _ => .bad 0 0 20)
  | _ => .bad 0 0 20
theorem tsN_ok (I : SX → Value → Prop) : TSok P I ttN := ⟨fun t i h => tt_ok t i h, fun h hh => by cases hh⟩
theorem awake_calls {w : World} {ty : Nat → Nat} (h : Tabs w ty) : Calls P 4 #[] w fun x w' => x = .returned (.bool true) ∧ Below w.heap.size w w' := by
  obtain ⟨h1, h2⟩ := start_rel h fun _ _ => False
  obtain ⟨v, σ, h3, h4⟩ := okV_eq (awake_run ty) (by simp)
  obtain rfl := AV.eqb_eq h4
  refine (evF_ok (tsN_ok _) ft_ok (told0_ok _) mixed_ok h3 h1 h2 .nil).mono fun x w' hx => ?_
  cases x with
  | returned v' =>
    obtain ⟨e', q1, q2⟩ := hx
    cases q1
    exact ⟨rfl, start_below q2⟩
  | panicked => exact hx.elim
  | outgrown => exact hx.elim
theorem awakeT_ok {I : SX → Value → Prop} (h : awakeT args σ = .ok u σ') (hr : Rel e σ w) (hB : Glob 4 I e) (hv : VRs e args args') : Calls P 4 args'.toArray w (Post e σ w u σ') := by
  unfold awakeT at h
  split at h
  · split at h
    · rename_i c0 t0 z0 v0 hg0
      split at h
      · rename_i c1 t1 z1 v1 hg1
        rcases cnd_eq h with ⟨h1, h2⟩ | ⟨_, h2⟩
        · obtain rfl := AV.eqbs_eq h1
          rcases cnd_eq h2 with ⟨h3, h4⟩ | ⟨_, h4⟩
          · obtain rfl := AV.eqbs_eq h3
            injection h4 with h5 h6
            subst h5 h6
            cases hv
            rw [AH.get_eq] at hg0 hg1
            obtain ⟨b0, x0, r0, f0, p0, q0, y0, -, -, -⟩ := hr.cells hg0
            obtain ⟨b1, x1, r1, f1, p1, q1, y1, -, -, -⟩ := hr.cells hg1
            obtain rfl : 0 = b0 := by rw [hB.1 0 (by decide)] at p0; exact Option.some.inj p0
            obtain rfl : 1 = b1 := by rw [hB.1 1 (by decide)] at p1; exact Option.some.inj p1
            have e0 := vrs_k y0
            have e1 := vrs_k y1
            subst e0 e1
            have hz : 3 < w.heap.size := hr.lt 3 3 (hB.1 3 (by decide))
            have hT : Tabs w (fun | 0 => t0 | _ => t1) := ⟨⟨r0, f0, q0⟩, ⟨r1, f1, q1⟩, hz⟩
            refine (awake_calls hT).mono fun x w' ⟨he, hb⟩ => ?_
            subst he
            exact ⟨e, .bool _, Step.below hr hb⟩
          · cases h4
        · cases h2
      · cases h
    · cases h
  · cases h
/-- What the evaluator is told. -/
noncomputable def told (fs : List AV) (put : Bool) : Told := fun f => cnd (Nat.beq f 5) (some cutT) (cnd (Nat.beq f 4) (some awakeT) (cnd (Nat.beq f 23) (some idT) (cnd (Nat.beq f 25) (some sumT)
  (cnd (Nat.beq f 238) (some recT) (cnd (Nat.beq f 188) (some headT) (cnd (Nat.beq f 56) (some (writeT fs put)) (cnd (Nat.beq f 291) (some framesT) (cnd (Nat.beq f 80) (some (readT fs put)) (cnd (Nat.beq f 11) (some isOpenT) (told0 f))))))))))
theorem told_case {f g : Nat} {h k : List AV → AH → RV} {r : Option (List AV → AH → RV)} (hf : cnd (Nat.beq f g) (some h) r = some k) : (f = g ∧ h = k) ∨ r = some k := by
  rcases cnd_eq hf with ⟨h1, h2⟩ | ⟨_, h2⟩
  · exact .inl ⟨Nat.eq_of_beq_eq_true h1, Option.some.inj h2⟩
  · exact .inr h2
theorem told_ok (hp : p.Ok) (hf0 : FldOk p fs put) : ToldOk P 4 (spM p) (told fs put) := fun f h hf args σ v σ' hh e w args' hr hB hv => by
  unfold told at hf
  rcases told_case hf with ⟨rfl, rfl⟩ | hf
  · exact ⟨run_callFunc Tryz.func5 rfl (by kernel_rfl) _, cutT_ok hh hr hB.2 hv⟩
  rcases told_case hf with ⟨rfl, rfl⟩ | hf
  · exact ⟨run_callFunc Tryz.func4 rfl (by kernel_rfl) _, awakeT_ok hh hr hB hv⟩
  rcases told_case hf with ⟨rfl, rfl⟩ | hf
  · exact ⟨run_callFunc Tryz.func23 rfl (by kernel_rfl) _, idT_ok hp hh hr hB.2 hv⟩
  rcases told_case hf with ⟨rfl, rfl⟩ | hf
  · exact ⟨run_callFunc Tryz.func25 rfl (by kernel_rfl) _, sumT_ok hh hr hB hv⟩
  rcases told_case hf with ⟨rfl, rfl⟩ | hf
  · exact ⟨run_callFunc Tryz.func238 rfl (by kernel_rfl) _, recT_ok hp hh hr hB hv⟩
  rcases told_case hf with ⟨rfl, rfl⟩ | hf
  · exact ⟨run_callFunc Tryz.func188 rfl (by kernel_rfl) _, headT_ok hh hr hB.2 hv⟩
  rcases told_case hf with ⟨rfl, rfl⟩ | hf
  · exact ⟨run_callFunc Tryz.func56 rfl (by kernel_rfl) _, writeT_ok hp hf0 hh hr hB.2 hv⟩
  rcases told_case hf with ⟨rfl, rfl⟩ | hf
  · exact ⟨run_callFunc Tryz.func291 rfl (by kernel_rfl) _, framesT_ok hp hh hr hB hv⟩
  rcases told_case hf with ⟨rfl, rfl⟩ | hf
  · exact ⟨run_callFunc Tryz.func80 rfl (by kernel_rfl) _, readT_ok hp hf0 hh hr hB.2 hv⟩
  rcases told_case hf with ⟨rfl, rfl⟩ | hf
  · exact ⟨run_callFunc Tryz.func11 rfl (by kernel_rfl) _, isOpenT_ok hh hr hB.2 hv⟩
  exact told0_ok (spM p) f h hf args σ v σ' hh e w args' hr hB hv
end
end Av
end Go.Proofs.YtdgjkejfmehphaaGreatDoor
end
