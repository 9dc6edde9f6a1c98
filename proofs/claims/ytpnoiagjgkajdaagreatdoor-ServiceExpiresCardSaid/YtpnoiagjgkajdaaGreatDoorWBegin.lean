/- What ServiceExpires' runs say of the program: stages, the contracts of calls. -/
import Derived.Test.YtpnoiagjgkajdaaGreatDoorWRa
import Derived.Test.YtpnoiagjgkajdaaGreatDoorWRb
import Derived.Test.YtpnoiagjgkajdaaGreatDoorWRc
import Derived.Test.YtpnoiagjgkajdaaGreatDoorGCmd2
import Derived.Test.YtpnoiagjgkajdaaGreatDoorAppend
set_option linter.unusedVariables false
namespace Go.Proofs.YtpnoiagjgkajdaaGreatDoor.Av
open Go Go.RowKit
/-- The run stands so; nothing that was there before it is touched. -/
structure At (C : Nat → Cm) (z : Int) (W : World) (e : Env) (σ : AH) (w : World) : Prop where
  rel : Rel e σ w
  glob : Glob 4 (spC C z) e
  below : Below W.heap.size W w
  own : ∀ l b, 16 ≤ l → (σ.hp.get l).isSome = true → e.ρ l = some b → W.heap.size ≤ b
  low : ∀ l b, l < 16 → e.ρ l = some b → b < W.heap.size
/-- None of these blocks is the run's. -/
def Avoid (e : Env) (σ : AH) (F : List Nat) : Prop := ∀ l b, 16 ≤ l → (σ.hp.get l).isSome = true → e.ρ l = some b → b ∉ F
section
variable {C : Nat → Cm} {z k : Int} {W w w' : World} {e e' : Env} {σ σ' : AH} {F M : List Nat} {roots : List AV} {vals : List Value}
theorem At.step (h : At C z W e σ w) (k : Step e σ w e' σ' w') : At C z W e' σ' w' where
  rel := k.rel
  glob := h.glob.mono k.le
  below := ⟨k.os.trans h.below.os, k.tape.trans h.below.tape, k.output.trans h.below.output, Nat.le_trans h.below.size k.size, fun b hb =>
    (k.frame b (Nat.lt_of_lt_of_le hb h.below.size) fun l hl hs hr => by have := h.own l b hl hs hr; omega).trans (h.below.block b hb)⟩
  own l b hl hs hr := by
    rcases k.own l b hl hs hr with ⟨l0, h1, h2, h3⟩ | h1
    · exact h.own l0 b h1 h2 h3
    · exact Nat.le_trans h.below.size h1
  low l b hl hr := h.low l b hl (by rw [← k.keep l (Nat.lt_of_lt_of_le hl h.rel.nx)]; exact hr)
theorem Avoid.step (h : Avoid e σ F) (hF : ∀ y ∈ F, y < w.heap.size) (k : Step e σ w e' σ' w') : Avoid e' σ' F := fun l b hl hs hr => by
  rcases k.own l b hl hs hr with ⟨l0, h1, h2, h3⟩ | h1
  · exact h l0 b h1 h2 h3
  · intro hb
    have := hF b hb
    omega
/-- Blocks that aren't the run's are turned. -/
theorem At.keep (h : At C z W e σ w) (ha : Avoid e σ M) (hk : Keep M w w') (hM : ∀ y ∈ M, W.heap.size ≤ y) : At C z W e σ w' where
  rel := ⟨fun l o ho => by
    obtain ⟨b, h1, h2⟩ := h.rel.obj l o ho
    have hb : b ∉ M := by
      rcases Nat.lt_or_ge l 16 with hl | hl
      · intro hm
        have := h.low l b hl h1
        have := hM b hm
        omega
      · exact ha l b hl (by rw [ho]; rfl) h1
    exact ⟨b, h1, h2.mono (.refl e) (hk.block b (h.rel.lt _ _ h1) hb)⟩, h.rel.inj, h.rel.fresh, h.rel.kfresh, h.rel.lb, fun l b hb => Nat.lt_of_lt_of_le (h.rel.lt l b hb) hk.size, h.rel.nx⟩
  glob := h.glob
  below := ⟨hk.os.trans h.below.os, hk.tape.trans h.below.tape, hk.output.trans h.below.output, Nat.le_trans h.below.size hk.size, fun b hb => (hk.block b (Nat.lt_of_lt_of_le hb h.below.size) (fun hm => by have := hM b hm; omega)).trans (h.below.block b hb)⟩
  own := h.own
  low := h.low
theorem At.renew {roots vs : List AV} {vs' : List Value} (h : At C z W e σ w) (ha : Avoid e σ F) (hv : VRs e roots vs') (hn : renew roots σ = some (σ', vs)) : ∃ e', At C z W e' σ' w ∧ VRs e' vs vs' ∧ Avoid e' σ' F := by
  obtain ⟨e', h1, h2, h3, h5, h4⟩ := renew_ok h.rel hv hn
  refine ⟨e', ⟨h1, ⟨fun n hn => (h3 n (by omega)).trans (h.glob.1 n hn), h5.trans h.glob.2⟩, h.below, fun l b hl hs hr => ?_, fun l b hl hr => h.low l b hl (by rw [← h3 l hl]; exact hr)⟩, h2, fun l b hl hs hr => ?_⟩
  · obtain ⟨l0, k1, k2, k3⟩ := h4 l b hl hs hr
    exact h.own l0 b k1 k2 k3
  · obtain ⟨l0, k1, k2, k3⟩ := h4 l b hl hs hr
    exact ha l0 b k1 k2 k3
theorem At.start {ty : Nat → Nat} (h : Tabs W ty) : At C z W (e0 (spC C z)) (s0 ty) W := by
  obtain ⟨h1, h2⟩ := start_rel h (spC C z)
  refine ⟨h1, h2, Below.refl _ _, fun l b hl hs _ => by have := s0_lt hs; omega, fun l b hl hr => ?_⟩
  have hr : (if l < 4 then some l else none) = some b := hr
  have := h.sz
  split at hr
  · injection hr with hr; omega
  · cases hr
/-- The run stands so: with these values, beside these blocks; and so it goes on. -/
def Stage (C : Nat → Cm) (z : Int) (W : World) (F : List Nat) (roots : List AV) (vals : List Value) (R : AH → Prop) (w : World) : Prop := ∃ e σ, At C z W e σ w ∧ VRs e roots vals ∧ Avoid e σ F ∧ R σ
theorem Stage.keep {R : AH → Prop} (h : Stage C z W F roots vals R w) (hk : Keep M w w') (hM : ∀ y ∈ M, y ∈ F) (hF : ∀ y ∈ F, W.heap.size ≤ y) : Stage C z W F roots vals R w' := by
  obtain ⟨e, σ, h1, h2, h3, h4⟩ := h
  exact ⟨e, σ, h1.keep (fun l b hl hs hr hm => h3 l b hl hs hr (hM b hm)) hk fun y hy => hF y (hM y hy), h2, h3, h4⟩
/-- New blocks are none of the run's. -/
theorem Stage.more {R : AH → Prop} (h : Stage C z W F roots vals R w) {N : List Nat} (hN : ∀ y ∈ N, w.heap.size ≤ y) : Stage C z W (N ++ F) roots vals R w := by
  obtain ⟨e, σ, h1, h2, h3, h4⟩ := h
  refine ⟨e, σ, h1, h2, fun l b hl hs hr hm => ?_, h4⟩
  rcases List.mem_append.1 hm with hm | hm
  · have := hN b hm
    have := h1.rel.lt l b hr
    omega
  · exact h3 l b hl hs hr hm
theorem Stage.sub {R : AH → Prop} {N : List Nat} (h : Stage C z W F roots vals R w) (hN : ∀ y ∈ N, y ∈ F) : Stage C z W N roots vals R w := by
  obtain ⟨e, σ, h1, h2, h3, h4⟩ := h
  exact ⟨e, σ, h1, h2, fun l b hl hs hr hm => h3 l b hl hs hr (hN b hm), h4⟩
theorem Stage.grow {R : AH → Prop} (h : Stage C z W F roots vals R w) (hk : Keep [] w w') : Stage C z W F roots vals R w' := by
  obtain ⟨e, σ, h1, h2, h3, h4⟩ := h
  exact ⟨e, σ, h1.keep (M := []) (fun l b _ _ _ hm => by cases hm) hk (fun y hy => by cases hy), h2, h3, h4⟩
theorem Stage.mono {R R' : AH → Prop} (h : Stage C z W F roots vals R w) (hR : ∀ σ, R σ → R' σ) : Stage C z W F roots vals R' w := by
  obtain ⟨e, σ, h1, h2, h3, h4⟩ := h
  exact ⟨e, σ, h1, h2, h3, hR σ h4⟩
theorem Stage.below {R : AH → Prop} (h : Stage C z W F roots vals R w) : Below W.heap.size W w := by
  obtain ⟨e, σ, h1, _⟩ := h
  exact h1.below
/-- These blocks are as they were. -/
def Same (F : List Nat) (w w' : World) : Prop := (∀ y ∈ F, w'.heap[y]? = w.heap[y]?) ∧ w.heap.size ≤ w'.heap.size ∧ w'.os = w.os ∧ w'.tape = w.tape ∧ w'.output = w.output
theorem Stage.call {α : Type} {d y : α} {f : Nat} {args : List AV} {args' : List Value} {G : AV → AH → α} (hC : CsOk C) (hk : nOf z = k) (hd : d ≠ y) (hF : ∀ y ∈ F, y < w.heap.size) (h : Stage C z W F roots vals (fun σ => okV d (run k f args σ) G = y) w) (ha : ∀ e, e.I = spC C z → VRs e roots vals → VRs e args args') :
    Calls Tryz.prog f args'.toArray w fun x w' => ∃ v v', x = .returned v' ∧ Stage C z W F (v :: roots) (v' :: vals) (fun σ => G v σ = y) w' ∧ Same F w w' := by
  obtain ⟨e, σ, h1, h2, h3, h4⟩ := h
  obtain ⟨v, σ1, h5, h6⟩ := okV_eq h4 hd
  refine (evF_ok (ts_ok (bds_ok hC)) ft_ok (told_ok hC hk) mixed_ok h5 h1.rel h1.glob (ha e h1.glob.2 h2)).mono fun x w' hx => ?_
  cases x with
  | returned v' =>
    obtain ⟨e', q1, q2⟩ := hx
    exact ⟨v, v', rfl, ⟨e', σ1, h1.step q2, .cons _ _ _ _ q1 (h2.mono q2.le), h3.step hF q2, h6⟩, fun y hy => q2.frame y (hF y hy) fun l hl hs hr => h3 l y hl hs hr hy, q2.size, q2.os, q2.tape, q2.output⟩
  | panicked => exact hx.elim
  | outgrown => exact hx.elim
theorem unit_val {e : Env} {v : AV} {v' : Value} (h : v.eqb undef0 = true) (hv : VR e v v') : v' = .tuple #[] := by
  obtain rfl := AV.eqb_eq h
  cases hv with
  | tup _ l hl =>
  cases hl
  rfl
/-- A call that gives nothing. -/
theorem Stage.call0 {α : Type} {y : Option α} {f : Nat} {args : List AV} {args' : List Value} {G : AH → Option α} (hC : CsOk C) (hk : nOf z = k) (hy : none ≠ y) (hF : ∀ y ∈ F, y < w.heap.size) (h : Stage C z W F roots vals (fun σ => okV none (run k f args σ) (fun v σ => cnd (v.eqb undef0) (G σ) none) = y) w) (ha : ∀ e, e.I = spC C z → VRs e roots vals → VRs e args args') :
    Calls Tryz.prog f args'.toArray w fun x w' => x = .returned (.tuple #[]) ∧ Stage C z W F roots vals (fun σ => G σ = y) w' ∧ Same F w w' := by
  refine (h.call hC hk hy hF ha).mono fun x w' ⟨v, v', hx, ⟨e, σ, h1, h2, h3, h4⟩, h5⟩ => ?_
  subst hx
  cases h2 with
  | cons _ _ _ _ q1 q2 =>
  rcases cnd_eq h4 with ⟨k1, k2⟩ | ⟨_, k2⟩
  · rw [unit_val k1 q1]
    exact ⟨rfl, ⟨e, σ, h1, q2, h3, k2⟩, h5⟩
  · exact absurd k2 hy
def cfgV (k : Int) : Value := .agg #[.int .i64 3, .int .i64 50000, .int .i64 6, .int .i64 900, .int .i64 1, .int .i64 2, .int .i64 0, .int .i64 50, .int .i64 300, .int .i64 k, .int .i64 4194304]
theorem new_run (ty : Nat → Nat) (z : Int) : newR (nOf z) ty = some (SS ty (nOf z), cl) := by
  rcases nOf_cases z with h | h | h <;> rw [h]
  · exact new_run1 ty
  · exact new_run2 ty
  · exact new_run3 ty
theorem per_run (ty : Nat → Nat) (z : Int) : per (nOf z) (SS ty (nOf z)) = some (SS ty (nOf z), cl) := by
  rcases nOf_cases z with h | h | h <;> rw [h]
  · exact per_run1 ty
  · exact per_run2 ty
  · exact per_run3 ty
theorem ch_run (ty : Nat → Nat) (z : Int) : chB (nOf z) 14 0 (SS ty (nOf z)) = true := by
  rcases nOf_cases z with h | h | h <;> rw [h]
  · exact ch_run1 ty
  · exact ch_run2 ty
  · exact ch_run3 ty
end
section
variable {C : Nat → Cm} {z : Int} {W w w' : World} {F : List Nat} {b : Nat}
def ptrV (b : Nat) : Value := .pointer (some ⟨b, 0, none⟩)
/-- So many drives are to be mended yet, from this one on. -/
def BkAt (C : Nat → Cm) (z : Int) (W : World) (F : List Nat) (b n : Nat) (j : Int) (w : World) : Prop := ∃ ty c, Stage C z W F [c] [ptrV b] (fun σ => bk (nOf z) c n j σ = some (SS ty (nOf z), cl)) w
/-- So many rounds are left. -/
def RdAt (C : Nat → Cm) (z : Int) (W : World) (F : List Nat) (b n : Nat) (w : World) : Prop := ∃ ty c, Stage C z W F [c] [ptrV b] (fun σ => rnd (nOf z) c n σ = some (SS ty (nOf z), cl)) w
theorem cnew_calls {ty : Nat → Nat} {G : List Nat} (hC : CsOk C) (hT : Tabs W ty) (hw : Keep [] W w) (hG : ∀ y ∈ G, y < w.heap.size) : Calls Tryz.prog 45 #[cfgV (nOf z)] w fun x w' => ∃ b, x = .returned (.tuple #[ptrV b, .int .i64 0]) ∧ BkAt C z W G b 3 0 w' ∧ Keep [] w w' := by
  have h0 : Stage C z W (List.range w.heap.size) [] [] (fun σ => okV none (run (nOf z) 45 [cfgA (nOf z)] σ) (fun v σ => opt none (isNew v) fun c => bk (nOf z) c 3 0 σ) = some (SS ty (nOf z), cl)) W :=
    ⟨_, _, At.start hT, .nil, fun l b hl hs _ => by have := s0_lt hs; omega, new_run ty z⟩
  refine ((h0.grow hw).call hC rfl (by simp) (fun y hy => List.mem_range.1 hy) (fun e _ _ => .cons _ _ _ _ (val_cfgA e _) .nil)).mono fun x w' ⟨v, v', hx, ⟨e, σ, h1, h2, h3, h4⟩, hsm⟩ => ?_
  subst hx
  cases h2 with
  | cons _ _ _ _ q1 q2 =>
  obtain ⟨c, h5, h6⟩ := opt_some h4
  unfold isNew at h5
  split at h5
  · rename_i l o n
    rcases cnd_eq h5 with ⟨k1, k2⟩ | ⟨_, k2⟩
    · rcases cnd_eq k2 with ⟨k3, k4⟩ | ⟨_, k4⟩
      · injection k4 with k4
        subst k4
        obtain rfl := Nat.eq_of_beq_eq_true k1
        obtain rfl := Nat.eq_of_beq_eq_true k3
        cases q1 with
        | tup _ l' hl =>
        cases hl with
        | cons _ x1 _ l1 g1 hl =>
        cases hl with
        | cons _ x2 _ l2 g2 hl =>
        cases hl
        cases g2
        cases g1 with
        | ptr _ _ bb hb =>
        exact ⟨bb, rfl, ⟨ty, _, e, σ, h1, .cons _ _ _ _ (.ptr _ _ _ hb) .nil, fun l b hl hs hr hm => h3 l b hl hs hr (List.mem_range.2 (hG b hm)), h6⟩, hsm.2.2.1, hsm.2.2.2.1, hsm.2.2.2.2, hsm.2.1, fun y hy _ => hsm.1 y (List.mem_range.2 hy)⟩
      · cases k4
    · cases k2
  · cases h5
/-- A drive is mended: the site, the library, the call. -/
theorem site_calls {n : Nat} {j : Int} (hC : CsOk C) (hF : ∀ y ∈ F, y < w.heap.size) (h : BkAt C z W F b (n + 1) j w) : Calls Tryz.prog 23 #[ptrV b] w fun x w' => ∃ v', x = .returned v' ∧ (∃ ty c s, Stage C z W F [s, c] [v', ptrV b] (fun σ => bk2 (nOf z) s j (bk (nOf z) c n (j + 1)) σ = some (SS ty (nOf z), cl)) w') ∧ Same F w w' := by
  obtain ⟨ty, c, h⟩ := h
  refine (Stage.call hC rfl (by simp) hF h (fun e _ hv => hv)).mono fun x w' ⟨v, v', hx, h1, h2⟩ => ⟨v', hx, ⟨ty, c, v, h1⟩, h2⟩
theorem lib_calls {n : Nat} {j : Int} {s' : Value} (hC : CsOk C) (hF : ∀ y ∈ F, y < w.heap.size) (h : ∃ ty c s, Stage C z W F [s, c] [s', ptrV b] (fun σ => bk2 (nOf z) s j (bk (nOf z) c n (j + 1)) σ = some (SS ty (nOf z), cl)) w) : Calls Tryz.prog 24 #[s'] w fun x w' => ∃ v', x = .returned v' ∧ (∃ ty c l, Stage C z W F [l, c] [v', ptrV b] (fun σ => bk3 (nOf z) l j (bk (nOf z) c n (j + 1)) σ = some (SS ty (nOf z), cl)) w') ∧ Same F w w' := by
  obtain ⟨ty, c, s, h⟩ := h
  refine (Stage.call hC rfl (by simp) hF h (fun e _ hv => by cases hv with | cons _ _ _ _ q1 q2 => exact .cons _ _ _ _ q1 .nil)).mono fun x w' ⟨v, v', hx, ⟨e, σ, h1, h3, h4⟩, h2⟩ => ⟨v', hx, ⟨ty, c, v, e, σ, h1, ?_, h4⟩, h2⟩
  cases h3 with
  | cons _ _ _ _ q1 q2 => cases q2 with
    | cons _ _ _ _ q3 q4 => exact .cons _ _ _ _ q1 q4
theorem break_calls {n : Nat} {j : Int} {l' : Value} (hC : CsOk C) (hF : ∀ y ∈ F, y < w.heap.size) (h : ∃ ty c l, Stage C z W F [l, c] [l', ptrV b] (fun σ => bk3 (nOf z) l j (bk (nOf z) c n (j + 1)) σ = some (SS ty (nOf z), cl)) w) : Calls Tryz.prog 25 #[l', .int .i64 j, .bool false] w fun x w' => x = .returned (.tuple #[]) ∧ BkAt C z W F b n (j + 1) w' ∧ Same F w w' := by
  obtain ⟨ty, c, l, h⟩ := h
  refine (Stage.call0 hC rfl (by simp) hF h (fun e _ hv => by cases hv with | cons _ _ _ _ q1 q2 => exact .cons _ _ _ _ q1 (.cons _ _ _ _ (.int _ _) (.cons _ _ _ _ (.bool _) .nil)))).mono fun x w' ⟨hx, ⟨e, σ, h1, h3, h4⟩, h2⟩ => ⟨hx, ⟨ty, c, e, σ, h1, ?_, h4⟩, h2⟩
  cases h3 with
  | cons _ _ _ _ q1 q2 => exact q2
theorem heal_calls {j : Int} (hC : CsOk C) (hF : ∀ y ∈ F, y < w.heap.size) (h : BkAt C z W F b 0 j w) : Calls Tryz.prog 26 #[ptrV b] w fun x w' => x = .returned (.tuple #[]) ∧ RdAt C z W F b (rds (nOf z)) w' ∧ Same F w w' := by
  obtain ⟨ty, c, h⟩ := h
  exact (Stage.call0 hC rfl (by simp) hF h (fun e _ hv => hv)).mono fun x w' ⟨hx, h1, h2⟩ => ⟨hx, ⟨ty, c, h1⟩, h2⟩
theorem anew_ok {R : AH → Prop} {c c' : AV} {v : Value} {σ' : AH} (h : Stage C z W F [c] [v] (fun σ => anew c σ = some (σ', c')) w) (hR : R σ') : Stage C z W F [c'] [v] R w := by
  obtain ⟨e, σ, h1, h2, h3, hn⟩ := h
  obtain ⟨⟨s1, l⟩, h4, h5⟩ := opt_some hn
  obtain ⟨c1, h6, h7⟩ := opt_some h5
  injection h7 with h7
  injection h7 with h7 h8
  simp only at h6 h7
  subst h7 h8
  obtain ⟨e', k1, k2, k5⟩ := h1.renew h3 h2 h4
  cases k2 with
  | cons _ _ _ _ k3 k4 =>
  cases k4
  rw [nth_eq] at h6
  injection h6 with h6
  subst h6
  exact ⟨e', _, k1, .cons _ _ _ _ k3 .nil, k5, hR⟩
/-- There is always one round more. -/
theorem RdAt.more {n : Nat} (h : RdAt C z W F b n w) : RdAt C z W F b (n - 1 + 1) w := by
  cases n with
  | succ n => exact h
  | zero =>
    obtain ⟨ty, c, h⟩ := h
    exact ⟨ty, cl, anew_ok (R := fun σ => rnd (nOf z) cl 1 σ = some (SS ty (nOf z), cl)) h (per_run ty z)⟩
theorem round_calls {n : Nat} (hC : CsOk C) (hF : ∀ y ∈ F, y < w.heap.size) (h : RdAt C z W F b n w) : Calls Tryz.prog 14 #[ptrV b] w fun x w' => x = .returned (.tuple #[]) ∧ RdAt C z W F b (n - 1) w' ∧ Same F w w' := by
  obtain ⟨ty, c, h⟩ := h.more
  exact (Stage.call0 hC rfl (by simp) hF h (fun e _ hv => hv)).mono fun x w' ⟨hx, h1, h2⟩ => ⟨hx, ⟨ty, c, h1⟩, h2⟩
/-- So many commands more can be proposed, from the j-th on. -/
def NowAt (C : Nat → Cm) (z : Int) (W : World) (F : List Nat) (b m j : Nat) (w : World) : Prop := Stage C z W F [cl] [ptrV b] (fun σ => chB (nOf z) m j σ = true) w
theorem RdAt.now (h : RdAt C z W F b 0 w) : NowAt C z W F b 14 0 w := by
  obtain ⟨ty, c, h⟩ := h
  exact anew_ok h (ch_run ty z)
theorem cnd_true {b x : Bool} (h : cnd b x false = true) : b = true ∧ x = true := by
  rcases cnd_eq h with h | ⟨_, h⟩
  · exact h
  · cases h
theorem head_of {e : Env} {σ : AH} (h1 : At C z W e σ w) (hv : VR e cl (ptrV b)) (hh : headIs σ = true) : ∃ bn, VR e net (ptrV bn) ∧ w.cell? ⟨b, 0, none⟩ = some (ptrV bn) := by
  unfold headIs at hh
  split at hh
  · rename_i x xs t fz cv hg
    obtain rfl := AV.eqb_eq hh
    obtain ⟨b2, cs', rst, fr, k1, k2, k3, -, -, -⟩ := h1.rel.cells hg
    have hv : VR e (.ptr (some (16, 0))) (ptrV b) := hv
    cases hv with
    | ptr _ _ b3 hb =>
    obtain rfl : b = b2 := by rw [hb] at k1; exact Option.some.inj k1
    cases k3 with
    | cons x0 x0' cs0 cs0' hx0 hcs0 =>
    have hn := hx0
    have hx0 : VR e (.ptr (some (17, 0))) x0' := hx0
    cases hx0 with
    | ptr _ _ bn hbn =>
    exact ⟨bn, hn, by rw [cell_at k2]; simp [ptrV]⟩
  · cases hh
theorem net_one {e : Env} {x y : Nat} (h1 : VR e net (ptrV x)) (h2 : VR e net (ptrV y)) : x = y := by
  have h1 : VR e (.ptr (some (17, 0))) (ptrV x) := h1
  have h2 : VR e (.ptr (some (17, 0))) (ptrV y) := h2
  cases h1 with
  | ptr _ _ _ a => cases h2 with
    | ptr _ _ _ c => rw [a] at c; exact Option.some.inj c
/-- Where the Net lies. -/
theorem Stage.head {G : AH → Bool} (h : Stage C z W F [cl] [ptrV b] (fun σ => cnd (headIs σ) (G σ) false = true) w) : ∃ bn, Stage C z W F [net, cl] [ptrV bn, ptrV b] (fun σ => G σ = true) w ∧ w.cell? ⟨b, 0, none⟩ = some (ptrV bn) := by
  obtain ⟨e, σ, h1, h2, h3, h4⟩ := h
  obtain ⟨k1, k2⟩ := cnd_true h4
  cases h2 with
  | cons _ _ _ _ q1 q2 =>
  cases q2
  obtain ⟨bn, k3, k4⟩ := head_of h1 q1 k1
  exact ⟨bn, ⟨e, σ, h1, .cons _ _ _ _ k3 (.cons _ _ _ _ q1 .nil), h3, k2⟩, k4⟩
theorem Stage.head2 {G : AH → Bool} {bn : Nat} (h : Stage C z W F [net, cl] [ptrV bn, ptrV b] (fun σ => cnd (headIs σ) (G σ) false = true) w) : Stage C z W F [net, cl] [ptrV bn, ptrV b] (fun σ => G σ = true) w ∧ w.cell? ⟨b, 0, none⟩ = some (ptrV bn) := by
  obtain ⟨e, σ, h1, h2, h3, h4⟩ := h
  obtain ⟨k1, k2⟩ := cnd_true h4
  cases h2 with
  | cons _ _ _ _ q1 q2 =>
  cases q2 with
  | cons _ _ _ _ q3 q4 =>
  cases q4
  obtain ⟨bn', k3, k4⟩ := head_of h1 q3 k1
  obtain rfl := net_one q1 k3
  exact ⟨⟨e, σ, h1, .cons _ _ _ _ k3 (.cons _ _ _ _ q3 .nil), h3, k2⟩, k4⟩
/-- Behind the Net: who leads. -/
theorem lead_calls {G : AH → Bool} {bn : Nat} (hC : CsOk C) (hF : ∀ y ∈ F, y < w.heap.size) (h : Stage C z W F [net, cl] [ptrV bn, ptrV b] (fun σ => okV false (run (nOf z) 51 [net] σ) (fun v σ => cnd (v.eqb (i 0)) (G σ) false) = true) w) :
    Calls Tryz.prog 51 #[ptrV bn] w fun x w' => x = .returned (.int .i64 0) ∧ Stage C z W F [net, cl] [ptrV bn, ptrV b] (fun σ => G σ = true) w' ∧ Same F w w' := by
  refine (Stage.call hC rfl (by simp) hF h (fun e _ hv => by cases hv with | cons _ _ _ _ q1 q2 => exact .cons _ _ _ _ q1 .nil)).mono fun x w' ⟨v, v', hx, ⟨e, σ, h1, h2, h3, h4⟩, h5⟩ => ?_
  subst hx
  obtain ⟨k1, k2⟩ := cnd_true h4
  obtain rfl := AV.eqb_eq k1
  cases h2 with
  | cons _ _ _ _ q1 q2 =>
  have q1 : VR e (.int .i64 0) v' := q1
  cases q1
  exact ⟨rfl, ⟨e, σ, h1, q2, h3, k2⟩, h5⟩
/-- What is known ahead of Net.Propose; ahead of receive. -/
def PropAt (C : Nat → Cm) (z : Int) (W : World) (F : List Nat) (b bn m j : Nat) (w : World) : Prop := Stage C z W F [net, cl] [ptrV bn, ptrV b] (fun σ => r3 (nOf z) j (chB (nOf z) m (j + 1)) σ = true) w
def RecvAt (C : Nat → Cm) (z : Int) (W : World) (F : List Nat) (b bn m j : Nat) (w : World) : Prop := Stage C z W F [net, cl] [ptrV bn, ptrV b] (fun σ => r4 (nOf z) (chB (nOf z) m (j + 1)) σ = true) w
/-- What is known ahead of the second look at who leads. -/
def SecAt (C : Nat → Cm) (z : Int) (W : World) (F : List Nat) (b bn m j : Nat) (w : World) : Prop := Stage C z W F [net, cl] [ptrV bn, ptrV b] (fun σ => r2 (nOf z) j (chB (nOf z) m (j + 1)) σ = true) w
theorem lead1_calls {m j : Nat} (hC : CsOk C) (hF : ∀ y ∈ F, y < w.heap.size) (h : NowAt C z W F b (m + 1) j w) : ∃ bn, w.cell? ⟨b, 0, none⟩ = some (ptrV bn) ∧
    Calls Tryz.prog 51 #[ptrV bn] w fun x w' => x = .returned (.int .i64 0) ∧ SecAt C z W F b bn m j w' ∧ Same F w w' := by
  obtain ⟨bn, h1, h2⟩ := Stage.head (G := fun σ => okV false (run (nOf z) 51 [net] σ) fun v σ => cnd (v.eqb (i 0)) (r2 (nOf z) j (chB (nOf z) m (j + 1)) σ) false) h
  exact ⟨bn, h2, lead_calls hC hF h1⟩
theorem lead2_calls {m j bn : Nat} (hC : CsOk C) (hF : ∀ y ∈ F, y < w.heap.size) (h : SecAt C z W F b bn m j w) : w.cell? ⟨b, 0, none⟩ = some (ptrV bn) ∧
    Calls Tryz.prog 51 #[ptrV bn] w fun x w' => x = .returned (.int .i64 0) ∧ PropAt C z W F b bn m j w' ∧ w'.cell? ⟨b, 0, none⟩ = some (ptrV bn) ∧ Same F w w' := by
  obtain ⟨h1, h2⟩ := Stage.head2 (G := fun σ => okV false (run (nOf z) 51 [net] σ) fun v σ => cnd (v.eqb (i 0)) (cnd (headIs σ) (r3 (nOf z) j (chB (nOf z) m (j + 1)) σ) false) false) h
  refine ⟨h2, (lead_calls hC hF h1).mono fun x w' ⟨hx, h3, h4⟩ => ?_⟩
  obtain ⟨h5, h6⟩ := Stage.head2 h3
  exact ⟨hx, h5, h6, h4⟩
theorem nprop_calls {m j bn : Nat} (hC : CsOk C) (hF : ∀ y ∈ F, y < w.heap.size) (h : PropAt C z W F b bn m j w) :
    Calls Tryz.prog 60 #[ptrV bn, .int .i64 0, .string (bs (encC (C j)))] w fun x w' => ∃ x1 x2 x3 : Int, x = .returned (.tuple #[.int .i64 x1, .int .i64 x2, .int .i64 x3]) ∧ RecvAt C z W F b bn m j w' ∧ w'.cell? ⟨b, 0, none⟩ = some (ptrV bn) ∧ Same F w w' := by
  refine (Stage.call hC rfl (by simp) hF h (args' := [ptrV bn, .int .i64 0, .string (bs (encC (C j)))]) (fun e hI hv => by
    cases hv with
    | cons _ _ _ _ q1 q2 =>
    refine .cons _ _ _ _ q1 (.cons _ _ _ _ (.int _ _) (.cons _ _ _ _ ?_ .nil))
    have := val_at hI (2 * j)
    rwa [atoms_even] at this)).mono fun x w' ⟨v, v', hx, ⟨e, σ, h1, h2, h3, h4⟩, h5⟩ => ?_
  subst hx
  obtain ⟨k1, k2⟩ := cnd_true h4
  cases h2 with
  | cons _ _ _ _ q1 q2 =>
  obtain ⟨h6, h7⟩ := Stage.head2 (G := r4 (nOf z) (chB (nOf z) m (j + 1))) ⟨e, σ, h1, q2, h3, k2⟩
  unfold isTup3 at k1
  split at k1
  · cases q1 with
    | tup _ l hl =>
    cases hl with
    | cons _ x1 _ l1 g1 hl =>
    cases hl with
    | cons _ x2 _ l2 g2 hl =>
    cases hl with
    | cons _ x3 _ l3 g3 hl =>
    cases hl
    cases g1
    cases g2
    cases g3
    exact ⟨_, _, _, rfl, h6, h7, h5⟩
  · cases k1
theorem recv_calls {m j bn : Nat} (hC : CsOk C) (hF : ∀ y ∈ F, y < w.heap.size) (h : RecvAt C z W F b bn m j w) :
    Calls Tryz.prog 37 #[ptrV b] w fun x w' => x = .returned (.tuple #[]) ∧ NowAt C z W F b m (j + 1) w' ∧ Same F w w' := by
  refine (Stage.call hC rfl (by simp) hF h (fun e _ hv => by cases hv with | cons _ _ _ _ q1 q2 => exact q2)).mono fun x w' ⟨v, v', hx, ⟨e, σ, h1, h2, h3, h4⟩, h5⟩ => ?_
  subst hx
  obtain ⟨k1, k2⟩ := cnd_true h4
  cases h2 with
  | cons _ _ _ _ q1 q2 =>
  cases q2 with
  | cons _ _ _ _ q3 q4 =>
  refine ⟨by rw [unit_val k1 q1], ?_, h5⟩
  cases hq : anew cl σ with
  | none => rw [hq] at k2; cases k2
  | some q =>
  rw [hq] at k2
  obtain ⟨k3, k4⟩ := cnd_true k2
  obtain ⟨q1', q2'⟩ := q
  have k3 := AV.eqb_eq k3
  simp only at k3 k4
  subst k3
  exact anew_ok (R := fun σ => chB (nOf z) m (j + 1) σ = true) ⟨e, σ, h1, q4, h3, hq⟩ k4
end
end Go.Proofs.YtpnoiagjgkajdaaGreatDoor.Av
/- The walk of cluster.Propose at one List. -/
set_option linter.unusedVariables false
namespace Go.Proofs.YtpnoiagjgkajdaaGreatDoor
open Go.RowKit
attribute [local go_sem] size_bs bs_append
namespace Av
theorem Same.trans {F : List Nat} {a b c : World} (h : Same F a b) (k : Same F b c) : Same F a c := ⟨fun y hy => (k.1 y hy).trans (h.1 y hy), Nat.le_trans h.2.1 k.2.1, k.2.2.1.trans h.2.2.1, k.2.2.2.1.trans h.2.2.2.1, k.2.2.2.2.trans h.2.2.2.2⟩
theorem Same.of_keep {F : List Nat} {a b : World} (hk : Keep [] a b) (hF : ∀ y ∈ F, y < a.heap.size) : Same F a b := ⟨fun y hy => hk.block y (hF y hy) (by simp), hk.size, hk.os, hk.tape, hk.output⟩
theorem Same.lt {F : List Nat} {a b : World} (h : Same F a b) (hF : ∀ y ∈ F, y < a.heap.size) : ∀ y ∈ F, y < b.heap.size := fun y hy => Nat.lt_of_lt_of_le (hF y hy) h.2.1
theorem Same.sub {F G : List Nat} {a b : World} (h : Same F a b) (hs : ∀ y ∈ G, y ∈ F) : Same G a b := ⟨fun y hy => h.1 y (hs y hy), h.2⟩
theorem Same.refl (F : List Nat) (a : World) : Same F a a := ⟨fun _ _ => rfl, Nat.le_refl _, rfl, rfl, rfl⟩
end Av
open Av (Same)
set_option maxRecDepth 100000 in
set_option maxHeartbeats 4000000 in
theorem wpropose_calls {C : Nat → Cm} {z : Int} {W w : World} {F : List Nat} {b bn n j g cl sq : Nat} (hC : Av.CsOk C) (hF : ∀ y ∈ F, y < w.heap.size) (h : Av.SecAt C z W F b bn n j w) (hx : C j = lsC cl sq) (hc1 : cl ≤ 1000) (hc2 : sq ≤ 1000) (hg : Blk w g 81 #[.int .i64 4, .int .i64 (cl : Int), .int .i64 (sq : Int), .string (bs []), .int .u64 0, .int .i64 0, .int .u32 0, .slice none 0 0, .int .i64 0, .int .i64 0, .int .i64 0]) (hgF : g ∈ F) :
    Calls Tryz.prog 32 #[.pointer (some ⟨b, 0, none⟩), .slice (some ⟨g, 0, none⟩) 1 1] w fun e w' => ∃ v, e = .returned v ∧ Av.NowAt C z W F b n (j + 1) w' ∧ Same F w w' := by
  have hb0 : w.cell? ⟨b, 0, none⟩ = some (.pointer (some ⟨bn, 0, none⟩)) := (Av.lead2_calls hC hF h).1
  have HLC := Lib.hid (Av.lead2_calls hC hF h).2
  have HC := Lib.hid hC
  have HF := Lib.hid hF
  have HG := Lib.hid hg
  have HGF := Lib.hid hgF
  have HX := Lib.hid hx
  have HW := Lib.hid (fun W => cwrite_calls (lsC cl sq) (lsC_ok hc1 hc2) (.slice none 0 0) W (IntSl.nil W))
  clear hC h hx hg hF hgF hc1 hc2
  go_enter Tryz.func32, Tryz.ntmps32
  go_wp2_with (go_at_call 51; refine HLC.out.mono ?_; rintro e w1 ⟨rfl, hp, hb1, hs1⟩; have HP := Lib.hid hp; have HS1 := Lib.hid hs1; clear hp hs1)
  have hb1 : w1.cell? ⟨b, 0, none⟩ = some (.pointer (some ⟨bn, 0, none⟩)) := hb1
  have HG1 : Hid (Blk w1 g 81 #[.int .i64 4, .int .i64 (cl : Int), .int .i64 (sq : Int), .string (bs []), .int .u64 0, .int .i64 0, .int .u32 0, .slice none 0 0, .int .i64 0, .int .i64 0, .int .i64 0]) := Lib.hid ((HS1.out.1 g HGF.out).trans HG.out)
  have HF1 := Lib.hid (HS1.out.lt HF.out)
  go_loopw [9, 10, 25] (fun x9 x10 x25 wr => (∃ m e : Int, x9 = .int .i64 m ∧ x10 = .int .i64 e) ∧ ((x25 = .int .i64 0 ∧ wr = w1) ∨ (x25 = .int .i64 1 ∧ Av.RecvAt C z W F b bn n j wr ∧ Same F w wr))) (fun _ _ x25 _ => 1 - (intOf x25).toNat)
  case atStart => exact ⟨⟨0, 0, rfl, rfl⟩, .inl ⟨rfl, rfl⟩⟩
  case round =>
    obtain ⟨⟨m, e, rfl, rfl⟩, ⟨rfl, rfl⟩ | ⟨rfl, hp2, hs2⟩⟩ := hrel
    · have g0 := HG1.out.cell 0
      have g1 := HG1.out.cell 1
      have g2 := HG1.out.cell 2
      have g3 := HG1.out.cell 3
      have g4 := HG1.out.cell 4
      have g5 := HG1.out.cell 5
      have g6 := HG1.out.cell 6
      have g7 := HG1.out.cell 7
      have g8 := HG1.out.cell 8
      have g9 := HG1.out.cell 9
      have g10 := HG1.out.cell 10
      simp only [List.getElem?_toArray, List.getElem?_cons_zero, List.getElem?_cons_succ] at g0 g1 g2 g3 g4 g5 g6 g7 g8 g9 g10
      go_wp2_with fail
      have HX0 : Hid (Blk (wr.alloc (.cells #[.int .i64 4, .int .i64 (cl : Int), .int .i64 (sq : Int), .string (bs []), .int .u64 0, .int .i64 0, .int .u32 0, .slice none 0 0, .int .i64 0, .int .i64 0, .int .i64 0] 81)) wr.heap.size 81 #[.int .i64 4, .int .i64 (cl : Int), .int .i64 (sq : Int), .string (bs []), .int .u64 0, .int .i64 0, .int .u32 0, .slice none 0 0, .int .i64 0, .int .i64 0, .int .i64 0]) := Lib.hid (Blk.new _ _ _)
      have HB1 : Hid ((wr.alloc (.cells #[.int .i64 4, .int .i64 (cl : Int), .int .i64 (sq : Int), .string (bs []), .int .u64 0, .int .i64 0, .int .u32 0, .slice none 0 0, .int .i64 0, .int .i64 0, .int .i64 0] 81)).cell? ⟨b, 0, none⟩ = some (.pointer (some ⟨bn, 0, none⟩))) := Lib.hid (by rw [World.cell?_alloc_old _ _ _ (Nat.ne_of_lt (World.block_lt_of_cell? _ _ hb1))]; exact hb1)
      have HPP : Hid (Av.PropAt C z W ([wr.heap.size] ++ F) b bn n j (wr.alloc (.cells #[.int .i64 4, .int .i64 (cl : Int), .int .i64 (sq : Int), .string (bs []), .int .u64 0, .int .i64 0, .int .u32 0, .slice none 0 0, .int .i64 0, .int .i64 0, .int .i64 0] 81))) := Lib.hid ((Av.Stage.more HP.out (N := [wr.heap.size]) (by simp)).grow ((Keep.refl _ _).alloc _))
      have HFF : Hid (∀ y ∈ [wr.heap.size] ++ F, y < (wr.alloc (.cells #[.int .i64 4, .int .i64 (cl : Int), .int .i64 (sq : Int), .string (bs []), .int .u64 0, .int .i64 0, .int .u32 0, .slice none 0 0, .int .i64 0, .int .i64 0, .int .i64 0] 81)).heap.size) := Lib.hid (by
        intro y hy
        rw [World.size_alloc]
        rcases List.mem_append.1 hy with hy | hy
        · simp at hy; omega
        · have := HF1.out y hy; omega)
      have HSA : Hid (Same F w (wr.alloc (.cells #[.int .i64 4, .int .i64 (cl : Int), .int .i64 (sq : Int), .string (bs []), .int .u64 0, .int .i64 0, .int .u32 0, .slice none 0 0, .int .i64 0, .int .i64 0, .int .i64 0] 81))) := Lib.hid (HS1.out.trans (Same.of_keep ((Keep.refl _ _).alloc _) HF1.out))
      clear g0 g1 g2 g3 g4 g5 g6 g7 g8 g9 g10 hb1
      generalize wr.alloc (.cells #[.int .i64 4, .int .i64 (cl : Int), .int .i64 (sq : Int), .string (bs []), .int .u64 0, .int .i64 0, .int .u32 0, .slice none 0 0, .int .i64 0, .int .i64 0, .int .i64 0] 81) = W1 at *
      generalize wr.heap.size = m at *
      have HSS : Hid (∀ W, World.cell? W ⟨b, 0, none⟩ = some (.pointer (some ⟨bn, 0, none⟩)) → Blk W m 81 #[.int .i64 4, .int .i64 (cl : Int), .int .i64 (sq : Int), .string (bs []), .int .u64 0, .int .i64 0, .int .u32 0, .slice none 0 0, .int .i64 0, .int .i64 0, .int .i64 0] → World.cell? W ⟨b, 0, none⟩ = some (.pointer (some ⟨bn, 0, none⟩)) ∧ World.cell? W ⟨m, 0, none⟩ = some (.int .i64 4) ∧ World.cell? W ⟨m, 1, none⟩ = some (.int .i64 (cl : Int)) ∧ World.cell? W ⟨m, 2, none⟩ = some (.int .i64 (sq : Int)) ∧ World.cell? W ⟨m, 3, none⟩ = some (.string (bs [])) ∧ World.cell? W ⟨m, 4, none⟩ = some (.int .u64 0) ∧ World.cell? W ⟨m, 5, none⟩ = some (.int .i64 0) ∧ World.cell? W ⟨m, 6, none⟩ = some (.int .u32 0) ∧ World.cell? W ⟨m, 7, none⟩ = some (.slice none 0 0) ∧ World.cell? W ⟨m, 8, none⟩ = some (.int .i64 0) ∧ World.cell? W ⟨m, 9, none⟩ = some (.int .i64 0) ∧ World.cell? W ⟨m, 10, none⟩ = some (.int .i64 0)) := Lib.hid fun W h0 h => ⟨h0, h.cell 0, h.cell 1, h.cell 2, h.cell 3, h.cell 4, h.cell 5, h.cell 6, h.cell 7, h.cell 8, h.cell 9, h.cell 10⟩
      refine wp_region_held_drew (S := fun W => World.cell? W ⟨b, 0, none⟩ = some (.pointer (some ⟨bn, 0, none⟩)) ∧ World.cell? W ⟨m, 0, none⟩ = some (.int .i64 4) ∧ World.cell? W ⟨m, 1, none⟩ = some (.int .i64 (cl : Int)) ∧ World.cell? W ⟨m, 2, none⟩ = some (.int .i64 (sq : Int)) ∧ World.cell? W ⟨m, 3, none⟩ = some (.string (bs [])) ∧ World.cell? W ⟨m, 4, none⟩ = some (.int .u64 0) ∧ World.cell? W ⟨m, 5, none⟩ = some (.int .i64 0) ∧ World.cell? W ⟨m, 6, none⟩ = some (.int .u32 0) ∧ World.cell? W ⟨m, 7, none⟩ = some (.slice none 0 0) ∧ World.cell? W ⟨m, 8, none⟩ = some (.int .i64 0) ∧ World.cell? W ⟨m, 9, none⟩ = some (.int .i64 0) ∧ World.cell? W ⟨m, 10, none⟩ = some (.int .i64 0)) (by kernel_rfl) (HSS.out _ HB1.out HX0.out.drew) (fun hHeld => ?_)
      refine th 0 hHeld ?_
      refine th 1 hHeld ?_
      refine th 2 hHeld ?_
      refine th 3 hHeld ?_
      refine th 4 hHeld ?_
      refine th 5 hHeld ?_
      clear hHeld
      refine wpAnyH_ready (rs := [6]) (by kernel_rfl) (by simp) (AllReadyH.cons rfl (fun K hK => ?_) AllReadyH.nil)
      go_simp
      go_at_call 61
      refine (HW.out _).mono ?_
      rintro e2 w2 ⟨rfl, hk2⟩
      have HK2 : Hid (Keep [] W1 w2) := Lib.hid ((Keep.refl _ _).drew.trans hk2)
      clear hk2
      have HX2 : Hid (Blk w2 m 81 #[.int .i64 4, .int .i64 (cl : Int), .int .i64 (sq : Int), .string (bs []), .int .u64 0, .int .i64 0, .int .u32 0, .slice none 0 0, .int .i64 0, .int .i64 0, .int .i64 0]) := Lib.hid (HX0.out.keep HK2.out (by simp))
      have hHeld := HSS.out w2 ((HK2.out.cell (p := ⟨b, 0, none⟩) (World.block_lt_of_cell? _ _ HB1.out) (by simp)).trans HB1.out) HX2.out
      go_simp
      refine hK.out _ _ hHeld (fun _ => ?_)
      clear hK K hHeld
      try simp only [Act.put, List.setIfInBounds_toArray, List.set_cons_zero, List.set_cons_succ]
      refine wpAnyH_ready (rs := [7]) (by kernel_rfl) (by simp) (AllReadyH.cons rfl (fun K hK => ?_) AllReadyH.nil)
      go_simp
      go_at_call 60
      have HF2 : Hid (∀ y ∈ [m] ++ F, y < w2.heap.size) := Lib.hid fun y hy => Nat.lt_of_lt_of_le (HFF.out y hy) HK2.out.size
      have hpc := Av.nprop_calls (j := j) (b := b) (bn := bn) HC.out HF2.out (Av.Stage.grow HPP.out HK2.out)
      rw [HX.out] at hpc
      refine hpc.mono ?_
      clear hpc
      rintro e3 w3 ⟨y1, y2, y3, rfl, hp2, hb3, hs3⟩
      have HP2 : Hid (Av.RecvAt C z W F b bn n j w3) := Lib.hid (hp2.sub fun y hy => List.mem_append_right _ hy)
      have HS3 : Hid (Same F w w3) := Lib.hid ((HSA.out.trans (Same.of_keep HK2.out fun y hy => HFF.out y (List.mem_append_right _ hy))).trans (hs3.sub fun y hy => List.mem_append_right _ hy))
      have hHeld := HSS.out w3 hb3 ((hs3.1 m (by simp)).trans HX2.out)
      clear hp2 hb3 hs3
      go_simp
      refine hK.out _ _ hHeld (fun _ => ?_)
      clear hK K
      try simp only [Act.put, List.setIfInBounds_toArray, List.set_cons_zero, List.set_cons_succ]
      refine th 8 hHeld ?_
      refine th 9 hHeld ?_
      refine th 10 hHeld ?_
      refine th 11 hHeld ?_
      refine th 12 hHeld ?_
      refine th 13 hHeld ?_
      refine th 14 hHeld ?_
      refine wpAnyH_done (by kernel_rfl) ?_ _
      clear hHeld
      by_cases hy3 : y3 = 0
      · subst hy3
        go_wp2_with fail
        go_roundw
        case rel => exact ⟨⟨_, _, rfl, rfl⟩, .inr ⟨rfl, HP2.out, HS3.out⟩⟩
        case measure => simp [intOf]
      · have hne : (y3 != 0) = true := bne_iff_ne.2 hy3
        have HF3 := Lib.hid (HS3.out.lt HF.out)
        go_wp2_with (go_at_call 37; refine (Av.recv_calls (j := j) HC.out HF3.out HP2.out).mono ?_; rintro e w4 ⟨rfl, h4, hs4⟩; have H4 := Lib.hid h4; have HS4 := Lib.hid hs4; clear h4 hs4)
        refine bodyPost_ret (by simp [results, Tryz.results32, go_sem]; try rfl) rfl ?_
        exact ⟨_, rfl, H4.out, HS3.out.trans HS4.out⟩
    · have HP2 := Lib.hid hp2
      have HS2 := Lib.hid hs2
      have HF2 := Lib.hid (hs2.lt HF.out)
      clear hp2 hs2
      go_wp2_with (go_at_call 37; refine (Av.recv_calls (j := j) HC.out HF2.out HP2.out).mono ?_; rintro e w4 ⟨rfl, h4, hs4⟩; have H4 := Lib.hid h4; have HS4 := Lib.hid hs4; clear h4 hs4)
      refine bodyPost_ret (by simp [results, Tryz.results32, go_sem]; try rfl) rfl ?_
      exact ⟨_, rfl, H4.out, HS2.out.trans HS4.out⟩
end Go.Proofs.YtpnoiagjgkajdaaGreatDoor
/- Rows of one's own. No program in sight. -/
namespace Go.Proofs.YtpnoiagjgkajdaaGreatDoor
open Go.RowKit
section
variable {w W : World}
theorem own_own_ne {B B' e e' s s' n n' : Nat} {v v' : Value} {xs xs' : List Value} (h : W.ownsRow B e s v n xs) (h' : W.ownsRow B' e' s' v' n' xs') (hne : e ≠ e') {k : Nat} (hk : v.ownBlock = some k) : v'.ownBlock ≠ some k := fun e9 => by
  rcases h.2 with ⟨rfl, _⟩ | ⟨g, cap, cur, rfl, _, hb, _⟩
  · cases hk
  · obtain rfl : g = k := Option.some.inj hk
    exact own_blk_ne (g := g) h' hb (Ne.symm hne) e9
theorem owns0 {B n size : Nat} {e : TypeId} {v : Value} {xs : List Value} (h : W.ownsRow B e size v n xs) : W.ownsRow 0 e size v n xs :=
  ⟨h.1, h.2.imp_right fun ⟨g, cap, cur, a, _, b⟩ => ⟨g, cap, cur, a, Nat.zero_le _, b⟩⟩
theorem owns_base {B n size g c : Nat} {e : TypeId} {xs : List Value} (h : W.ownsRow 0 e size (.slice (some ⟨g, 0, none⟩) n c) n xs) (hg : B ≤ g) : W.ownsRow B e size (.slice (some ⟨g, 0, none⟩) n c) n xs :=
  ⟨h.1, h.2.imp_right fun ⟨g', cap, cur, a, _, b⟩ => ⟨g', cap, cur, a, (by injection a with a _ _; injection a with a; injection a with a _ _; omega), b⟩⟩
theorem row_blk {B e s n k : Nat} {v : Value} {xs : List Value} (h : w.ownsRow B e s v n xs) (hk : v.ownBlock = some k) : ∃ cs, Blk w k e cs := by
  rcases h.2 with ⟨rfl, _⟩ | ⟨g, cap, cur, rfl, _, hb, _⟩
  · cases hk
  · obtain rfl : g = k := Option.some.inj hk
    exact ⟨cur, hb⟩
theorem row_slice {B e s n : Nat} {v : Value} {xs : List Value} (h : w.ownsRow B e s v n xs) : ∃ A c, v = .slice A n c := by
  rcases h.2 with ⟨e, h2⟩ | ⟨g, cap, cur, e, _⟩
  · exact ⟨none, 0, by rw [e, h2]⟩
  · exact ⟨_, _, e⟩
end
end Go.Proofs.YtpnoiagjgkajdaaGreatDoor
/- The service, as ServiceExpires has it: where it lies; IsOpen, Open, Waits, refuse. -/
set_option linter.unusedVariables false
namespace Go.Proofs.YtpnoiagjgkajdaaGreatDoor
open Go.RowKit
open Av (Same)
attribute [local go_sem] size_bs bs_append
/-- Open calls, as the map has them. -/
def ptrs (O : List (Int × Nat)) : List (Int × Value) := O.map fun p => (p.1, .pointer (some ⟨p.2, 0, none⟩))
def keys (O : List (Int × Nat)) : List Int := O.map (·.1)
theorem ptrs_len (O : List (Int × Nat)) : (ptrs O).length = O.length := by simp [ptrs]
theorem ptrs_keys (O : List (Int × Nat)) : (ptrs O).map (·.1) = keys O := by simp [ptrs, keys]
theorem ptrs_look (c : Int) : ∀ O : List (Int × Nat), (lookN c (ptrs O) = none ∧ c ∉ keys O) ∨ ∃ k, (c, k) ∈ O ∧ lookN c (ptrs O) = some (.pointer (some ⟨k, 0, none⟩)) ∧ c ∈ keys O
  | [] => .inl ⟨rfl, by simp [keys]⟩
  | p :: O => by
    by_cases h : c = p.1
    · exact .inr ⟨p.2, by simp [h], by simp [ptrs, lookN, h], by simp [keys, h]⟩
    · rcases ptrs_look c O with ⟨h1, h2⟩ | ⟨k, h1, h2, h3⟩
      · exact .inl ⟨by simp only [ptrs, List.map_cons, lookN, h, if_false]; exact h1, by simp only [keys, List.map_cons, List.mem_cons, not_or]; exact ⟨h, h2⟩⟩
      · exact .inr ⟨k, by simp [h1], by simp only [ptrs, List.map_cons, lookN, h, if_false]; exact h2, by simp only [keys, List.map_cons, List.mem_cons]; exact .inr h3⟩
def putO (c : Int) (k : Nat) : List (Int × Nat) → List (Int × Nat)
  | [] => [(c, k)]
  | p :: O => if c = p.1 then (c, k) :: O else p :: putO c k O
def delO (c : Int) : List (Int × Nat) → List (Int × Nat)
  | [] => []
  | p :: O => if c = p.1 then O else p :: delO c O
theorem ptrs_put (c : Int) (k : Nat) : ∀ O, putN c (.pointer (some ⟨k, 0, none⟩)) (ptrs O) = ptrs (putO c k O)
  | [] => rfl
  | p :: O => by
    have ih := ptrs_put c k O
    simp only [ptrs, List.map_cons, putN, putO] at ih ⊢
    by_cases h : c = p.1
    · rw [if_pos h, if_pos h]; rfl
    · rw [if_neg h, if_neg h, ih]; rfl
theorem ptrs_del (c : Int) : ∀ O, delN c (ptrs O) = ptrs (delO c O)
  | [] => rfl
  | p :: O => by
    have ih := ptrs_del c O
    simp only [ptrs, List.map_cons, delN, delO] at ih ⊢
    by_cases h : c = p.1
    · rw [if_pos h, if_pos h]
    · rw [if_neg h, if_neg h, ih]; rfl
theorem putO_mem {c : Int} {k : Nat} : ∀ {O : List (Int × Nat)} {p : Int × Nat}, p ∈ putO c k O → p = (c, k) ∨ p ∈ O
  | [], p, h => by simp [putO] at h; exact .inl h
  | q :: O, p, h => by
    simp only [putO] at h
    split at h
    · rcases List.mem_cons.1 h with h | h
      · exact .inl h
      · exact .inr (by simp [h])
    · rcases List.mem_cons.1 h with h | h
      · exact .inr (by simp [h])
      · rcases putO_mem h with h | h
        · exact .inl h
        · exact .inr (by simp [h])
theorem delO_mem {c : Int} : ∀ {O : List (Int × Nat)} {p : Int × Nat}, p ∈ delO c O → p ∈ O
  | q :: O, p, h => by
    simp only [delO] at h
    split at h
    · simp [h]
    · rcases List.mem_cons.1 h with h | h
      · simp [h]
      · simp [delO_mem h]
theorem putO_keys {c : Int} {k : Nat} : ∀ {O : List (Int × Nat)}, c ∉ keys O → keys (putO c k O) = keys O ++ [c]
  | [], _ => rfl
  | q :: O, h => by
    simp only [keys, List.map_cons, List.mem_cons, not_or] at h
    simp only [putO, if_neg h.1, keys, List.map_cons, List.cons_append]
    congr 1
    exact putO_keys h.2
theorem delO_keys (c : Int) : ∀ O : List (Int × Nat), keys (delO c O) = (keys O).erase c
  | [] => rfl
  | q :: O => by
    simp only [delO, keys, List.map_cons]
    by_cases h : c = q.1
    · rw [if_pos h, h, List.erase_cons_head]
    · rw [if_neg h, List.map_cons, List.erase_cons_tail (by simpa using Ne.symm h)]
      congr 1
      exact delO_keys c O
/-- An open call: a List. -/
def CallAt (w : World) (k : Nat) : Prop := ∃ cs : Array Value, Blk w k 92 cs ∧ cs[0]? = some (.int .i64 4) ∧ (∃ nm, cs[3]? = some (.string nm)) ∧ ∃ st, cs[11]? = some (.int .i64 st)
/-- The service: at s; its cluster at b, its maps, how often it was called, what is over. -/
structure SvcAt (w : World) (s b lm om : Nat) (L : List (Int × Value)) (O : List (Int × Nat)) (n : Nat) (ov : Value) (r : Nat) (xs : List Value) (F : List Nat) : Prop where
  blk : Blk w s 78 #[.pointer (some ⟨b, 0, none⟩), .map (some lm), .map (some om), .slice none 0 0, .int .i64 (n : Int), ov]
  last : MapN .i64 w lm L
  opn : MapN .i64 w om (ptrs O)
  calls : ∀ p ∈ O, CallAt w p.2
  over : w.ownsRow 0 96 8 ov r xs
  ne : lm ≠ om
  mem : s ∈ F ∧ lm ∈ F ∧ om ∈ F
  memC : ∀ p ∈ O, p.2 ∈ F
  memO : ∀ g, ov.ownBlock = some g → g ∈ F
section
variable {w w' : World} {s b lm om n r : Nat} {L : List (Int × Value)} {O : List (Int × Nat)} {ov : Value} {xs : List Value} {F M : List Nat}
theorem SvcAt.keep (h : SvcAt w s b lm om L O n ov r xs F) (hk : Keep M w w') (hM : ∀ y ∈ M, y ∉ F) : SvcAt w' s b lm om L O n ov r xs F :=
  ⟨h.blk.keep hk fun hm => hM _ hm h.mem.1, h.last.keep hk fun hm => hM _ hm h.mem.2.1, h.opn.keep hk fun hm => hM _ hm h.mem.2.2, fun p hp => by
    obtain ⟨cs, h1, h2⟩ := h.calls p hp
    exact ⟨cs, h1.keep hk fun hm => hM _ hm (h.memC p hp), h2⟩, hk.owns h.over fun k hk' hm => hM k hm (h.memO k hk'), h.ne, h.mem, h.memC, h.memO⟩
theorem SvcAt.grow (h : SvcAt w s b lm om L O n ov r xs F) (hk : Keep [] w w') : SvcAt w' s b lm om L O n ov r xs F := h.keep hk (by simp)
theorem SvcAt.same (h : SvcAt w s b lm om L O n ov r xs F) (hs : Same F w w') : SvcAt w' s b lm om L O n ov r xs F := by
  have hb : ∀ k, k ∈ F → w'.heap[k]? = w.heap[k]? := hs.1
  refine ⟨(hb _ h.mem.1).trans h.blk, ?_, ?_, fun p hp => ?_, ?_, h.ne, h.mem, h.memC, h.memO⟩
  · obtain ⟨es, c, h1, h2⟩ := h.last
    exact ⟨es, c, (hb _ h.mem.2.1).trans h1, h2⟩
  · obtain ⟨es, c, h1, h2⟩ := h.opn
    exact ⟨es, c, (hb _ h.mem.2.2).trans h1, h2⟩
  · obtain ⟨cs, h1, h2⟩ := h.calls p hp
    exact ⟨cs, (hb _ (h.memC p hp)).trans h1, h2⟩
  · rcases h.over.2 with ⟨e, h2⟩ | ⟨g, cap, cur, e, q1, q2⟩
    · exact ⟨h.over.1, .inl ⟨e, h2⟩⟩
    · refine ⟨h.over.1, .inr ⟨g, cap, cur, e, q1, ?_⟩⟩
      have hg := hb g (h.memO g (by rw [e]; rfl))
      simpa [hg] using q2
theorem SvcAt.more (h : SvcAt w s b lm om L O n ov r xs F) {G : List Nat} (hs : ∀ y ∈ F, y ∈ G) : SvcAt w s b lm om L O n ov r xs G :=
  ⟨h.blk, h.last, h.opn, h.calls, h.over, h.ne, ⟨hs _ h.mem.1, hs _ h.mem.2.1, hs _ h.mem.2.2⟩, fun p hp => hs _ (h.memC p hp), fun g hg => hs _ (h.memO g hg)⟩
theorem SvcAt.ov_slice (h : SvcAt w s b lm om L O n ov r xs F) : ∃ A c, ov = .slice A r c := row_slice h.over
theorem SvcAt.look (h : SvcAt w s b lm om L O n ov r xs F) (c : Int) : (Instr.lookup 72 (.map (some om)) (.int .i64 c) false).run Tryz.prog w = .ok ((lookN c (ptrs O)).getD (.pointer none)) w :=
  h.opn.look (P := Tryz.prog) (t := 72) (k := 3) (e := 87) Tryz.underlying72 Tryz.underlying3 (z := .pointer none) (by go_simp) c
theorem SvcAt.len (h : SvcAt w s b lm om L O n ov r xs F) (ty : TypeId) : (Builtin.len_ #[72] ty #[.map (some om)]).run Tryz.prog w = .ok (.int .i64 (O.length : Int)) w := by
  have := h.opn.len_ (P := Tryz.prog) (t := 72) Tryz.underlying72 ty
  rwa [ptrs_len] at this
set_option maxRecDepth 100000 in
set_option maxHeartbeats 1000000 in
theorem isOpen_calls (h : SvcAt w s b lm om L O n ov r xs F) (c : Int) : Calls Tryz.prog 11 #[.pointer (some ⟨s, 0, none⟩), .int .i64 c] w fun e w' => e = .returned (.bool (decide (c ∈ keys O))) ∧ w = w' := by
  have hl := h.look c
  have h2 : w.cell? ⟨s, 2, none⟩ = some (.map (some om)) := h.blk.cell 2
  rcases ptrs_look c O with ⟨q1, q2⟩ | ⟨k, _, q1, q2⟩
  · rw [q1] at hl
    simp only [Option.getD_none] at hl
    have HQ : Hid (decide (c ∈ keys O) = false) := Lib.hid (decide_eq_false q2)
    clear h q1 q2
    go_enter Tryz.func11, Tryz.ntmps11
    go_wp2
    go_ret
    exact ⟨by rw [HQ.out]; rfl, rfl⟩
  · rw [q1] at hl
    simp only [Option.getD_some] at hl
    have HQ : Hid (decide (c ∈ keys O) = true) := Lib.hid (decide_eq_true q2)
    clear h q1 q2
    go_enter Tryz.func11, Tryz.ntmps11
    go_wp2
    go_ret
    exact ⟨by rw [HQ.out]; rfl, rfl⟩
set_option maxRecDepth 100000 in
set_option maxHeartbeats 1000000 in
theorem open_calls (h : SvcAt w s b lm om L O n ov r xs F) : Calls Tryz.prog 12 #[.pointer (some ⟨s, 0, none⟩)] w fun e w' => e = .returned (.int .i64 (O.length : Int)) ∧ w = w' := by
  have hl := h.len
  have h2 : w.cell? ⟨s, 2, none⟩ = some (.map (some om)) := h.blk.cell 2
  clear h
  go_enter Tryz.func12, Tryz.ntmps12
  go_wp2
  go_ret
  exact ⟨rfl, rfl⟩
set_option maxRecDepth 100000 in
set_option maxHeartbeats 1000000 in
theorem qlen_calls (h3 : w.cell? ⟨s, 3, none⟩ = some (.slice none 0 0)) : Calls Tryz.prog 33 #[.pointer (some ⟨s, 3, none⟩)] w fun e w' => e = .returned (.int .i64 0) ∧ w = w' := by
  go_enter Tryz.func33, Tryz.ntmps33
  go_wp2
  go_ret
  exact ⟨rfl, rfl⟩
set_option maxRecDepth 100000 in
set_option maxHeartbeats 1000000 in
theorem waits_calls (h : SvcAt w s b lm om L O n ov r xs F) : Calls Tryz.prog 9 #[.pointer (some ⟨s, 0, none⟩)] w fun e w' => e = .returned (.int .i64 0) ∧ w = w' := by
  have HQ := Lib.hid (qlen_calls (w := w) (s := s) (h.blk.cell 3))
  clear h
  go_enter Tryz.func9, Tryz.ntmps9
  go_wp2_with (go_at_call 33; refine HQ.out.mono ?_; rintro e w1 ⟨rfl, rfl⟩)
  go_ret
  exact ⟨rfl, rfl⟩
set_option maxRecDepth 100000 in
set_option maxHeartbeats 1000000 in
theorem cluster_calls (h : SvcAt w s b lm om L O n ov r xs F) : Calls Tryz.prog 13 #[.pointer (some ⟨s, 0, none⟩)] w fun e w' => e = .returned (.pointer (some ⟨b, 0, none⟩)) ∧ w = w' := by
  have h0 : w.cell? ⟨s, 0, none⟩ = some (.pointer (some ⟨b, 0, none⟩)) := h.blk.cell 0
  clear h
  go_enter Tryz.func13, Tryz.ntmps13
  go_wp2
  go_ret
  exact ⟨rfl, rfl⟩
set_option maxRecDepth 100000 in
set_option maxHeartbeats 1000000 in
theorem refuse_busy (h : SvcAt w s b lm om L O n ov r xs F) {c : Int} (hc : 1 ≤ c ∧ c ≤ 12) (hb : c ∈ keys O ∨ 8 ≤ O.length) : Calls Tryz.prog 27 #[.pointer (some ⟨s, 0, none⟩), .int .i64 c, .int .i64 4, .string (bs []), .string (bs [])] w fun e w' => e = .returned (.int .i64 10) ∧ w = w' := by
  have h2 : w.cell? ⟨s, 2, none⟩ = some (.map (some om)) := h.blk.cell 2
  have hl := h.len
  have HI := Lib.hid (isOpen_calls h c)
  obtain ⟨hc1, hc2⟩ := hc
  have hem : (bs []).toList = [] := by rw [ByteArray.toList_eq]; rfl
  have e1 : decide (c < 1) = false := decide_eq_false (by omega)
  have e2 : decide (1000 < c) = false := decide_eq_false (by omega)
  by_cases hk : c ∈ keys O
  · rw [decide_eq_true hk] at HI
    clear h hb hk
    go_enter Tryz.func27, Tryz.ntmps27
    go_wp2_with (go_at_call 11; refine HI.out.mono ?_; rintro e w1 ⟨rfl, rfl⟩)
    go_ret
    exact ⟨rfl, rfl⟩
  · rw [decide_eq_false hk] at HI
    have h8 : 8 ≤ O.length := hb.resolve_left hk
    have e3 : decide ((8 : Int) ≤ (O.length : Int)) = true := decide_eq_true (by omega)
    clear h hb hk
    go_enter Tryz.func27, Tryz.ntmps27
    go_wp2_with (go_at_call 11; refine HI.out.mono ?_; rintro e w1 ⟨rfl, rfl⟩)
    go_ret
    exact ⟨rfl, rfl⟩
set_option maxRecDepth 100000 in
set_option maxHeartbeats 1000000 in
theorem refuse_ok {C : Nat → Cm} {z : Int} {W : World} {m j : Nat} (hC : Av.CsOk C) (hF : ∀ y ∈ F, y < w.heap.size) (hn : Av.NowAt C z W F b (m + 1) j w) (h : SvcAt w s b lm om L O n ov r xs F) {c : Int} (hc : 1 ≤ c ∧ c ≤ 12) (hb : c ∉ keys O) (hb2 : O.length < 8) :
    Calls Tryz.prog 27 #[.pointer (some ⟨s, 0, none⟩), .int .i64 c, .int .i64 4, .string (bs []), .string (bs [])] w fun e w' => e = .returned (.int .i64 0) ∧ (∃ bn, Av.SecAt C z W F b bn m j w') ∧ Same F w w' := by
  have h2 : w.cell? ⟨s, 2, none⟩ = some (.map (some om)) := h.blk.cell 2
  have h0 : w.cell? ⟨s, 0, none⟩ = some (.pointer (some ⟨b, 0, none⟩)) := h.blk.cell 0
  have hl := h.len
  have HI := Lib.hid (isOpen_calls h c)
  rw [decide_eq_false hb] at HI
  obtain ⟨hc1, hc2⟩ := hc
  obtain ⟨bn, hb0, hL⟩ := Av.lead1_calls hC hF hn
  have hb0 : w.cell? ⟨b, 0, none⟩ = some (.pointer (some ⟨bn, 0, none⟩)) := hb0
  have HL := Lib.hid hL
  have hem : (bs []).toList = [] := by rw [ByteArray.toList_eq]; rfl
  have e1 : decide (c < 1) = false := decide_eq_false (by omega)
  have e2 : decide (1000 < c) = false := decide_eq_false (by omega)
  have e3 : decide ((8 : Int) ≤ (O.length : Int)) = false := decide_eq_false (by omega)
  clear h hb hL hn hC hF
  go_enter Tryz.func27, Tryz.ntmps27
  go_wp2_with (first
    | (go_at_call 11; refine HI.out.mono ?_; rintro e w1 ⟨rfl, rfl⟩)
    | (go_at_call 51; refine HL.out.mono ?_; rintro e w1 ⟨rfl, hs, hm⟩; have HS := Lib.hid hs; have HM := Lib.hid hm; clear hs hm))
  go_ret
  exact ⟨rfl, ⟨bn, HS.out⟩, HM.out⟩
end
end Go.Proofs.YtpnoiagjgkajdaaGreatDoor
/- The service's Begin of a List. -/
set_option linter.unusedVariables false
namespace Go.Proofs.YtpnoiagjgkajdaaGreatDoor
open Go.RowKit
open Av (Same)
attribute [local go_sem] size_bs bs_append
/-- Numbers of clients, as the map has them. -/
def ivs (l : List (Int × Nat)) : List (Int × Value) := l.map fun p => (p.1, .int .i64 (p.2 : Int))
def seqI (c : Int) : List (Int × Nat) → Nat
  | [] => 0
  | p :: l => if c = p.1 then p.2 else seqI c l
theorem ivs_look (c : Int) : ∀ l, (lookN c (ivs l)).getD (.int .i64 0) = .int .i64 (seqI c l : Int)
  | [] => rfl
  | p :: l => by
    have ih := ivs_look c l
    simp only [ivs, List.map_cons, lookN, seqI] at ih ⊢
    by_cases h : c = p.1
    · rw [if_pos h, if_pos h]; rfl
    · rw [if_neg h, if_neg h]; exact ih
theorem ivs_put (c : Int) (v : Nat) : ∀ l, putN c (.int .i64 (v : Int)) (ivs l) = ivs (putO c v l)
  | [] => rfl
  | p :: l => by
    have ih := ivs_put c v l
    simp only [ivs, List.map_cons, putN, putO] at ih ⊢
    by_cases h : c = p.1
    · rw [if_pos h, if_pos h]; rfl
    · rw [if_neg h, if_neg h, ih]; rfl
/-- All but these are as they were. -/
def Off (M F : List Nat) (w w' : World) : Prop := ∀ y ∈ F, y ∉ M → w'.heap[y]? = w.heap[y]?
theorem Off.trans {M F : List Nat} {a b c : World} (h : Off M F a b) (k : Off M F b c) : Off M F a c := fun y hy hm => (k y hy hm).trans (h y hy hm)
theorem Off.of_keep {M F : List Nat} {a b : World} (hk : Keep M a b) (hF : ∀ y ∈ F, y < a.heap.size) : Off M F a b := fun y hy hm => hk.block y (hF y hy) hm
theorem Off.of_same {M F : List Nat} {a b : World} (h : Same F a b) : Off M F a b := fun y hy _ => h.1 y hy
theorem Off.wide {M N F : List Nat} {a b : World} (h : Off M F a b) (hs : ∀ y ∈ M, y ∈ N) : Off N F a b := fun y hy hm => h y hy fun hx => hm (hs y hx)
theorem Off.sub {M F G : List Nat} {a b : World} (h : Off M F a b) (hs : ∀ y ∈ G, y ∈ F) : Off M G a b := fun y hy hm => h y (hs y hy) hm
section
variable {w w' W : World} {s b lm om n r : Nat} {L : List (Int × Value)} {O : List (Int × Nat)} {ov : Value} {xs : List Value} {F M : List Nat}
/-- The clock goes on. -/
theorem SvcAt.tick (h : SvcAt w s b lm om L O n ov r xs F) : SvcAt (w.setCell ⟨s, 4, none⟩ (.int .i64 ((n : Int) + 1))) s b lm om L O (n + 1) ov r xs F ∧ Keep [s] w (w.setCell ⟨s, 4, none⟩ (.int .i64 ((n : Int) + 1))) := by
  have hk : Keep [s] w (w.setCell ⟨s, 4, none⟩ (.int .i64 ((n : Int) + 1))) := (Keep.refl _ _).setCell (.inl (by simp)) _
  refine ⟨⟨?_, h.last.keep hk (by simpa using h.last.ne_ h.blk), h.opn.keep hk (by simpa using h.opn.ne_ h.blk), fun p hp => ?_, hk.owns h.over fun k hk' hm => ?_, h.ne, h.mem, h.memC, h.memO⟩, hk⟩
  · have := h.blk.set_ 4 (.int .i64 ((n : Int) + 1))
    rw [show ((n + 1 : Nat) : Int) = (n : Int) + 1 by omega]
    exact this
  · obtain ⟨cs, h1, h2⟩ := h.calls p hp
    exact ⟨cs, h1.keep hk (by simpa using h1.ne_ h.blk (by decide)), h2⟩
  · simp only [List.mem_singleton] at hm
    subst hm
    exact own_blk_ne h.over h.blk (by decide) hk'
/-- The numbers of clients are turned. -/
theorem SvcAt.setLast {L' : List (Int × Value)} (h : SvcAt w s b lm om L O n ov r xs F) (hk : Keep [lm] w w') (hm : MapN .i64 w' lm L') : SvcAt w' s b lm om L' O n ov r xs F := by
  refine ⟨h.blk.keep hk (by simpa using Ne.symm (h.last.ne_ h.blk)), hm, h.opn.keep hk (by simpa using Ne.symm h.ne), fun p hp => ?_, hk.owns h.over fun k hk' hm => ?_, h.ne, h.mem, h.memC, h.memO⟩
  · obtain ⟨cs, h1, h2⟩ := h.calls p hp
    exact ⟨cs, h1.keep hk (by simpa using Ne.symm (h.last.ne_ h1)), h2⟩
  · simp only [List.mem_singleton] at hm
    subst hm
    obtain ⟨cs, hb⟩ := row_blk h.over hk'
    exact h.last.ne_ hb rfl
/-- A call is open. -/
theorem SvcAt.setOpen {c : Int} {K : Nat} (h : SvcAt w s b lm om L O n ov r xs F) (hk : Keep [om] w w') (hm : MapN .i64 w' om (ptrs (putO c K O))) (hc : CallAt w' K) (hK : K ∈ F) : SvcAt w' s b lm om L (putO c K O) n ov r xs F := by
  refine ⟨h.blk.keep hk (by simpa using Ne.symm (h.opn.ne_ h.blk)), h.last.keep hk (by simpa using h.ne), hm, fun p hp => ?_, hk.owns h.over fun k hk' hm => ?_, h.ne, h.mem, fun p hp => ?_, h.memO⟩
  · rcases putO_mem hp with rfl | hp
    · exact hc
    · obtain ⟨cs, h1, h2⟩ := h.calls p hp
      exact ⟨cs, h1.keep hk (by simpa using Ne.symm (h.opn.ne_ h1)), h2⟩
  · simp only [List.mem_singleton] at hm
    subst hm
    obtain ⟨cs, hb⟩ := row_blk h.over hk'
    exact h.opn.ne_ hb rfl
  · rcases putO_mem hp with rfl | hp
    · exact hK
    · exact h.memC p hp
set_option maxRecDepth 100000 in
set_option maxHeartbeats 1000000 in
theorem begin_busy (h : SvcAt w s b lm om L O n ov r xs F) {c : Int} (hc : 1 ≤ c ∧ c ≤ 12) (hb : c ∈ keys O ∨ 8 ≤ O.length) (hn : n ≤ 100) : Calls Tryz.prog 8 #[.pointer (some ⟨s, 0, none⟩), .int .i64 c, .int .i64 4, .string (bs []), .string (bs [])] w fun e w' => e = .returned (.int .i64 10) ∧ SvcAt w' s b lm om L O (n + 1) ov r xs F ∧ Keep [s] w w' := by
  have h4 : w.cell? ⟨s, 4, none⟩ = some (.int .i64 (n : Int)) := h.blk.cell 4
  have hf := h.blk.frozen 4
  have hw : IntKind.i64.wrap ((n : Int) + 1) = (n : Int) + 1 := IntWalk.i64_in _ (by omega)
  have HT := Lib.hid h.tick
  have HR := Lib.hid (refuse_busy h.tick.1 hc hb)
  clear h hb hc
  go_enter Tryz.func8, Tryz.ntmps8
  go_wp2_with (go_at_call 27; refine HR.out.mono ?_; rintro e w1 ⟨rfl, rfl⟩)
  go_ret
  exact ⟨rfl, HT.out.1, HT.out.2⟩
end
end Go.Proofs.YtpnoiagjgkajdaaGreatDoor
/- The service's Begin of a List that may begin. -/
set_option linter.unusedVariables false
namespace Go.Proofs.YtpnoiagjgkajdaaGreatDoor
open Go.RowKit
open Av (Same)
attribute [local go_sem] size_bs bs_append
/-- What a Begin leaves. -/
def BegTo (C : Nat → Cm) (z : Int) (W w : World) (s b lm om m j cn sq n r : Nat) (Ln : List (Int × Nat)) (O : List (Int × Nat)) (ov : Value) (xs : List Value) (F : List Nat) (e : Ending) (w' : World) : Prop :=
  e = .returned (.int .i64 0) ∧ ∃ K F', Av.NowAt C z W F' b m (j + 1) w' ∧ SvcAt w' s b lm om (ivs (putO (cn : Int) sq Ln)) (putO (cn : Int) K O) (n + 1) ov r xs F' ∧ (∀ y ∈ F, y ∈ F') ∧ (∀ y ∈ F', y < w'.heap.size ∧ W.heap.size ≤ y) ∧ Off [s, lm, om] F w w'
section
variable {C : Nat → Cm} {z : Int} {w w' W : World} {s b lm om n r m j cn sq : Nat} {Ln : List (Int × Nat)} {O : List (Int × Nat)} {ov : Value} {xs : List Value} {F M : List Nat}
set_option maxRecDepth 100000 in
set_option maxHeartbeats 4000000 in
theorem begin_ok (hC : Av.CsOk C) (hF : ∀ y ∈ F, y < w.heap.size ∧ W.heap.size ≤ y) (hn : Av.NowAt C z W F b (m + 1) j w) (h : SvcAt w s b lm om (ivs Ln) O n ov r xs F) (hc : 1 ≤ cn ∧ cn ≤ 12) (hq : sq = seqI (cn : Int) Ln + 1) (hq2 : sq ≤ 1000) (hx : C j = lsC cn sq) (hb : (cn : Int) ∉ keys O) (hb2 : O.length < 8) (hn1 : n ≤ 100) :
    Calls Tryz.prog 8 #[.pointer (some ⟨s, 0, none⟩), .int .i64 (cn : Int), .int .i64 4, .string (bs []), .string (bs [])] w (BegTo C z W w s b lm om m j cn sq n r Ln O ov xs F) := by
  have h4 : w.cell? ⟨s, 4, none⟩ = some (.int .i64 (n : Int)) := h.blk.cell 4
  have hf := h.blk.frozen 4
  have hw : IntKind.i64.wrap ((n : Int) + 1) = (n : Int) + 1 := IntWalk.i64_in _ (by omega)
  have hws : IntKind.i64.wrap ((seqI (cn : Int) Ln : Int) + 1) = (sq : Int) := by rw [IntWalk.i64_in _ (by omega)]; omega
  obtain ⟨ht, hkt⟩ := h.tick
  have HKT := Lib.hid hkt
  have hn2 : Av.NowAt C z W F b (m + 1) j (w.setCell ⟨s, 4, none⟩ (.int .i64 ((n : Int) + 1))) := hn.keep hkt (by simpa using h.mem.1) (fun y hy => (hF y hy).2)
  have HR := Lib.hid (refuse_ok hC (fun y hy => Nat.lt_of_lt_of_le (hF y hy).1 hkt.size) hn2 ht (c := (cn : Int)) (by omega) hb hb2)
  have HT := Lib.hid ht
  have HC := Lib.hid hC
  have HF := Lib.hid hF
  have HX := Lib.hid hx
  have HCN : Hid (cn ≤ 1000 ∧ sq ≤ 1000) := Lib.hid ⟨by omega, hq2⟩
  have HMS := Lib.hid h.mem
  clear h hb hc hq hq2 hx hb2 hn hn2 ht hkt hC hF hn1
  go_enter Tryz.func8, Tryz.ntmps8
  go_upto_region 5 with (go_at_call 27; refine HR.out.mono ?_; rintro e w1 ⟨rfl, ⟨bn, hs⟩, hm⟩; have HS := Lib.hid hs; have HM := Lib.hid hm; clear hs hm)
  have HV1 := Lib.hid (HT.out.same HM.out)
  have HO1 : Hid (Off [s, lm, om] F w w1) := Lib.hid ((Off.wide (Off.of_keep HKT.out fun y hy => (HF.out y hy).1) (by simp)).trans (Off.of_same HM.out))
  have HZ1 : Hid (w.heap.size ≤ w1.heap.size) := Lib.hid (Nat.le_trans HKT.out.size HM.out.2.1)
  clear h4 hf hw HKT HR HT HM
  have s1 : w1.cell? ⟨s, 1, none⟩ = some (.map (some lm)) := HV1.out.blk.cell 1
  have hl := HV1.out.last.look (P := Tryz.prog) (t := 71) (k := 3) (e := 3) Tryz.underlying71 Tryz.underlying3 (z := .int .i64 0) (by go_simp) (cn : Int)
  rw [ivs_look] at hl
  go_upto_region 14 with fail
  have HX0 : Hid (Blk (w1.alloc (.cells #[.int .i64 4, .int .i64 (cn : Int), .int .i64 (sq : Int), .string ⟨#[]⟩, .int .u64 0, .int .i64 0, .int .u32 0, .slice none 0 0, .int .i64 0, .int .i64 0, .int .i64 0] 81)) w1.heap.size 81 #[.int .i64 4, .int .i64 (cn : Int), .int .i64 (sq : Int), .string (bs []), .int .u64 0, .int .i64 0, .int .u32 0, .slice none 0 0, .int .i64 0, .int .i64 0, .int .i64 0]) := Lib.hid (Blk.new _ _ _)
  have HV2 : Hid (SvcAt (w1.alloc (.cells #[.int .i64 4, .int .i64 (cn : Int), .int .i64 (sq : Int), .string ⟨#[]⟩, .int .u64 0, .int .i64 0, .int .u32 0, .slice none 0 0, .int .i64 0, .int .i64 0, .int .i64 0] 81)) s b lm om (ivs Ln) O (n + 1) ov r xs F) := Lib.hid (HV1.out.grow ((Keep.refl _ _).alloc _))
  have HS2 : Hid (Av.SecAt C z W F b bn m j (w1.alloc (.cells #[.int .i64 4, .int .i64 (cn : Int), .int .i64 (sq : Int), .string ⟨#[]⟩, .int .u64 0, .int .i64 0, .int .u32 0, .slice none 0 0, .int .i64 0, .int .i64 0, .int .i64 0] 81))) := Lib.hid (HS.out.grow ((Keep.refl _ _).alloc _))
  have HF1 : Hid (∀ y ∈ F, y < w1.heap.size ∧ W.heap.size ≤ y) := Lib.hid fun y hy => ⟨Nat.lt_of_lt_of_le (HF.out y hy).1 HZ1.out, (HF.out y hy).2⟩
  have HO2 : Hid (Off [s, lm, om] F w (w1.alloc (.cells #[.int .i64 4, .int .i64 (cn : Int), .int .i64 (sq : Int), .string ⟨#[]⟩, .int .u64 0, .int .i64 0, .int .u32 0, .slice none 0 0, .int .i64 0, .int .i64 0, .int .i64 0] 81))) := Lib.hid (HO1.out.trans (Off.wide (Off.of_keep ((Keep.refl [] _).alloc _) fun y hy => (HF1.out y hy).1) (by simp)))
  have HF2 : Hid (∀ y ∈ F, y < (w1.alloc (.cells #[.int .i64 4, .int .i64 (cn : Int), .int .i64 (sq : Int), .string ⟨#[]⟩, .int .u64 0, .int .i64 0, .int .u32 0, .slice none 0 0, .int .i64 0, .int .i64 0, .int .i64 0] 81)).heap.size ∧ W.heap.size ≤ y) := Lib.hid fun y hy => ⟨by have := (HF1.out y hy).1; rw [World.size_alloc]; omega, (HF1.out y hy).2⟩
  have HXF : Hid (w1.heap.size ∉ F) := Lib.hid fun hm => by have := (HF1.out _ hm).1; omega
  clear s1 hl hws HO1 HZ1 HV1 HS HF1
  generalize (w1.alloc (.cells #[.int .i64 4, .int .i64 (cn : Int), .int .i64 (sq : Int), .string ⟨#[]⟩, .int .u64 0, .int .i64 0, .int .u32 0, .slice none 0 0, .int .i64 0, .int .i64 0, .int .i64 0] 81)) = W2 at *
  generalize w1.heap.size = X at *
  have HS14 : Hid (∀ W, Keep [] W2 W → World.cell? W ⟨s, 1, none⟩ = some (.map (some lm)) ∧ World.cell? W ⟨X, 2, none⟩ = some (.int .i64 (sq : Int))) := Lib.hid fun W hW => ⟨(HV2.out.grow hW).blk.cell 1, (HX0.out.keep hW (by simp)).cell 2⟩
  have hHeld := HS14.out _ (Keep.refl _ _).drew
  refine wp_region_K (S := fun W => World.cell? W ⟨s, 1, none⟩ = some (.map (some lm)) ∧ World.cell? W ⟨X, 2, none⟩ = some (.int .i64 (sq : Int))) (z := 7) (by kernel_rfl) ?_
  refine tk 0 hHeld ?_
  refine tk 1 hHeld ?_
  refine tk 2 hHeld ?_
  refine tk 3 hHeld ?_
  refine tk 4 hHeld ?_
  refine tk 5 hHeld ?_
  refine tk 6 hHeld ?_
  clear hHeld HS14
  obtain ⟨w3, hmu, hm3, hk3, -⟩ := (HV2.out.grow (Keep.refl _ _).drew).last.put (P := Tryz.prog) (t := 71) (k := 3) (e := 3) Tryz.underlying71 Tryz.underlying3 (cn : Int) (.int .i64 (sq : Int))
  rw [ivs_put] at hm3
  have HK3 : Hid (Keep [lm] W2 w3) := Lib.hid ((Keep.refl _ _).drew.trans hk3)
  have HV3 := Lib.hid (HV2.out.setLast HK3.out hm3)
  have HX3 : Hid (Blk w3 X 81 #[.int .i64 4, .int .i64 (cn : Int), .int .i64 (sq : Int), .string (bs []), .int .u64 0, .int .i64 0, .int .u32 0, .slice none 0 0, .int .i64 0, .int .i64 0, .int .i64 0]) := Lib.hid (HX0.out.keep HK3.out (by simpa using Ne.symm (HV2.out.last.ne_ HX0.out)))
  have HS3 : Hid (Av.SecAt C z W F b bn m j w3) := Lib.hid (HS2.out.keep HK3.out (by simpa using HMS.out.2.1) fun y hy => (HF2.out y hy).2)
  have HF3 : Hid (∀ y ∈ F, y < w3.heap.size ∧ W.heap.size ≤ y) := Lib.hid fun y hy => ⟨Nat.lt_of_lt_of_le (HF2.out y hy).1 HK3.out.size, (HF2.out y hy).2⟩
  have HO3 : Hid (Off [s, lm, om] F w w3) := Lib.hid (HO2.out.trans (Off.wide (Off.of_keep HK3.out fun y hy => (HF2.out y hy).1) (by simp)))
  clear hm3 hk3 HV2 HX0 HS2 HO2 HF2 HK3
  refine wpAnyK_one (k := 7) (by kernel_rfl) rfl (fun K hK => ?_)
  go_simp
  refine hK.out _ _ (fun h => absurd rfl h) ?_
  clear hK K hmu
  try simp only [Act.put, List.setIfInBounds_toArray, List.set_cons_zero, List.set_cons_succ]
  refine wpAnyK_done (by kernel_rfl) ?_
  go_upto_region 15 with fail
  have HS15 : Hid (∀ W, Keep [] w3 W → World.cell? W ⟨s, 2, none⟩ = some (.map (some om)) ∧ World.cell? W ⟨s, 4, none⟩ = some (.int .i64 ((n : Int) + 1)) ∧ World.cell? W ⟨X, 0, none⟩ = some (.int .i64 4) ∧ World.cell? W ⟨X, 1, none⟩ = some (.int .i64 (cn : Int)) ∧ World.cell? W ⟨X, 2, none⟩ = some (.int .i64 (sq : Int)) ∧ World.cell? W ⟨X, 3, none⟩ = some (.string (bs [])) ∧ World.cell? W ⟨X, 4, none⟩ = some (.int .u64 0) ∧ World.cell? W ⟨X, 5, none⟩ = some (.int .i64 0) ∧ World.cell? W ⟨X, 6, none⟩ = some (.int .u32 0) ∧ World.cell? W ⟨X, 7, none⟩ = some (.slice none 0 0) ∧ World.cell? W ⟨X, 8, none⟩ = some (.int .i64 0) ∧ World.cell? W ⟨X, 9, none⟩ = some (.int .i64 0) ∧ World.cell? W ⟨X, 10, none⟩ = some (.int .i64 0)) := Lib.hid fun W hW => ⟨(HV3.out.grow hW).blk.cell 2, (HV3.out.grow hW).blk.cell 4, (HX3.out.keep hW (by simp)).cell 0, (HX3.out.keep hW (by simp)).cell 1, (HX3.out.keep hW (by simp)).cell 2, (HX3.out.keep hW (by simp)).cell 3, (HX3.out.keep hW (by simp)).cell 4, (HX3.out.keep hW (by simp)).cell 5, (HX3.out.keep hW (by simp)).cell 6, (HX3.out.keep hW (by simp)).cell 7, (HX3.out.keep hW (by simp)).cell 8, (HX3.out.keep hW (by simp)).cell 9, (HX3.out.keep hW (by simp)).cell 10⟩
  have hHeld := HS15.out _ (Keep.refl _ _).drew
  refine wp_region_K (S := fun W => World.cell? W ⟨s, 2, none⟩ = some (.map (some om)) ∧ World.cell? W ⟨s, 4, none⟩ = some (.int .i64 ((n : Int) + 1)) ∧ World.cell? W ⟨X, 0, none⟩ = some (.int .i64 4) ∧ World.cell? W ⟨X, 1, none⟩ = some (.int .i64 (cn : Int)) ∧ World.cell? W ⟨X, 2, none⟩ = some (.int .i64 (sq : Int)) ∧ World.cell? W ⟨X, 3, none⟩ = some (.string (bs [])) ∧ World.cell? W ⟨X, 4, none⟩ = some (.int .u64 0) ∧ World.cell? W ⟨X, 5, none⟩ = some (.int .i64 0) ∧ World.cell? W ⟨X, 6, none⟩ = some (.int .u32 0) ∧ World.cell? W ⟨X, 7, none⟩ = some (.slice none 0 0) ∧ World.cell? W ⟨X, 8, none⟩ = some (.int .i64 0) ∧ World.cell? W ⟨X, 9, none⟩ = some (.int .i64 0) ∧ World.cell? W ⟨X, 10, none⟩ = some (.int .i64 0)) (z := 12) (by kernel_rfl) ?_
  refine tk 0 hHeld ?_
  refine tk 1 hHeld ?_
  refine tk 2 hHeld ?_
  refine tk 3 hHeld ?_
  refine tk 4 hHeld ?_
  refine tk 5 hHeld ?_
  refine tk 6 hHeld ?_
  refine tk 7 hHeld ?_
  refine tk 8 hHeld ?_
  refine tk 9 hHeld ?_
  refine tk 10 hHeld ?_
  clear hHeld
  refine wpAnyK_one (k := 11) (by kernel_rfl) rfl (fun K hK => ?_)
  go_simp
  refine hK.out _ _ (fun _ => HS15.out _ (((Keep.refl _ _).alloc _).drew)) ?_
  clear hK K HS15
  try simp only [Act.put, List.setIfInBounds_toArray, List.set_cons_zero, List.set_cons_succ]
  have HKF : Hid (w3.heap.size ∉ F) := Lib.hid fun hm => by have := (HF3.out _ hm).1; omega
  have HB4 : Hid (Blk (w3.alloc (.cells #[.int .i64 4, .int .i64 (cn : Int), .int .i64 (sq : Int), .string (bs []), .int .u64 0, .int .i64 0, .int .u32 0, .slice none 0 0, .int .i64 0, .int .i64 0, .int .i64 0, .int .i64 ((n : Int) + 1), .bool false, .string ⟨#[]⟩, .bool false, .int .i64 0, .int .i64 0, .bool false, .bool false] 92)).drew w3.heap.size 92 #[.int .i64 4, .int .i64 (cn : Int), .int .i64 (sq : Int), .string (bs []), .int .u64 0, .int .i64 0, .int .u32 0, .slice none 0 0, .int .i64 0, .int .i64 0, .int .i64 0, .int .i64 ((n : Int) + 1), .bool false, .string ⟨#[]⟩, .bool false, .int .i64 0, .int .i64 0, .bool false, .bool false]) := Lib.hid (Blk.new _ _ _).drew
  have HV4 := Lib.hid ((HV3.out.grow (((Keep.refl [] w3).alloc (.cells #[.int .i64 4, .int .i64 (cn : Int), .int .i64 (sq : Int), .string (bs []), .int .u64 0, .int .i64 0, .int .u32 0, .slice none 0 0, .int .i64 0, .int .i64 0, .int .i64 0, .int .i64 ((n : Int) + 1), .bool false, .string ⟨#[]⟩, .bool false, .int .i64 0, .int .i64 0, .bool false, .bool false] 92)).drew)).more (G := [w3.heap.size] ++ F) fun y hy => List.mem_append_right _ hy)
  have HX4 := Lib.hid (HX3.out.keep (((Keep.refl [] w3).alloc (.cells #[.int .i64 4, .int .i64 (cn : Int), .int .i64 (sq : Int), .string (bs []), .int .u64 0, .int .i64 0, .int .u32 0, .slice none 0 0, .int .i64 0, .int .i64 0, .int .i64 0, .int .i64 ((n : Int) + 1), .bool false, .string ⟨#[]⟩, .bool false, .int .i64 0, .int .i64 0, .bool false, .bool false] 92)).drew) (by simp))
  have HS4 : Hid (Av.SecAt C z W ([w3.heap.size] ++ F) b bn m j (w3.alloc (.cells #[.int .i64 4, .int .i64 (cn : Int), .int .i64 (sq : Int), .string (bs []), .int .u64 0, .int .i64 0, .int .u32 0, .slice none 0 0, .int .i64 0, .int .i64 0, .int .i64 0, .int .i64 ((n : Int) + 1), .bool false, .string ⟨#[]⟩, .bool false, .int .i64 0, .int .i64 0, .bool false, .bool false] 92)).drew) := Lib.hid ((Av.Stage.more HS3.out (N := [w3.heap.size]) (by simp)).grow (((Keep.refl [] w3).alloc _).drew))
  have HF4 : Hid (∀ y ∈ [w3.heap.size] ++ F, y < (w3.alloc (.cells #[.int .i64 4, .int .i64 (cn : Int), .int .i64 (sq : Int), .string (bs []), .int .u64 0, .int .i64 0, .int .u32 0, .slice none 0 0, .int .i64 0, .int .i64 0, .int .i64 0, .int .i64 ((n : Int) + 1), .bool false, .string ⟨#[]⟩, .bool false, .int .i64 0, .int .i64 0, .bool false, .bool false] 92)).drew.heap.size ∧ W.heap.size ≤ y) := Lib.hid fun y hy => by
    have hz : (w3.alloc (.cells #[.int .i64 4, .int .i64 (cn : Int), .int .i64 (sq : Int), .string (bs []), .int .u64 0, .int .i64 0, .int .u32 0, .slice none 0 0, .int .i64 0, .int .i64 0, .int .i64 0, .int .i64 ((n : Int) + 1), .bool false, .string ⟨#[]⟩, .bool false, .int .i64 0, .int .i64 0, .bool false, .bool false] 92)).drew.heap.size = w3.heap.size + 1 := World.size_alloc _ _
    rw [hz]
    rcases List.mem_append.1 hy with hy | hy
    · simp only [List.mem_singleton] at hy
      subst hy
      exact ⟨by omega, Nat.le_trans (HS3.out.below.size) (Nat.le_refl _)⟩
    · exact ⟨by have := (HF3.out y hy).1; omega, (HF3.out y hy).2⟩
  have HO4 : Hid (Off [s, lm, om] F w (w3.alloc (.cells #[.int .i64 4, .int .i64 (cn : Int), .int .i64 (sq : Int), .string (bs []), .int .u64 0, .int .i64 0, .int .u32 0, .slice none 0 0, .int .i64 0, .int .i64 0, .int .i64 0, .int .i64 ((n : Int) + 1), .bool false, .string ⟨#[]⟩, .bool false, .int .i64 0, .int .i64 0, .bool false, .bool false] 92)).drew) := Lib.hid (HO3.out.trans (Off.wide (Off.of_keep (((Keep.refl [] w3).alloc _).drew) fun y hy => (HF3.out y hy).1) (by simp)))
  clear HV3 HX3 HS3 HF3 HO3
  generalize (w3.alloc (.cells #[.int .i64 4, .int .i64 (cn : Int), .int .i64 (sq : Int), .string (bs []), .int .u64 0, .int .i64 0, .int .u32 0, .slice none 0 0, .int .i64 0, .int .i64 0, .int .i64 0, .int .i64 ((n : Int) + 1), .bool false, .string ⟨#[]⟩, .bool false, .int .i64 0, .int .i64 0, .bool false, .bool false] 92)).drew = W4 at *
  generalize w3.heap.size = Kc at *
  obtain ⟨w5, hmu, hm5, hk5, -⟩ := HV4.out.opn.put (P := Tryz.prog) (t := 72) (k := 3) (e := 87) Tryz.underlying72 Tryz.underlying3 (cn : Int) (.pointer (some ⟨Kc, 0, none⟩))
  rw [ptrs_put] at hm5
  have HK5 := Lib.hid hk5
  have HC5 : Hid (CallAt w5 Kc) := Lib.hid ⟨_, HB4.out.keep hk5 (by simpa using Ne.symm (HV4.out.opn.ne_ HB4.out)), rfl, ⟨_, rfl⟩, ⟨_, rfl⟩⟩
  have HV5 := Lib.hid (HV4.out.setOpen hk5 hm5 HC5.out (by simp))
  have HX5 : Hid (Blk w5 X 81 #[.int .i64 4, .int .i64 (cn : Int), .int .i64 (sq : Int), .string (bs []), .int .u64 0, .int .i64 0, .int .u32 0, .slice none 0 0, .int .i64 0, .int .i64 0, .int .i64 0]) := Lib.hid (HX4.out.keep hk5 (by simpa using Ne.symm (HV4.out.opn.ne_ HX4.out)))
  have HS5 : Hid (Av.SecAt C z W ([Kc] ++ F) b bn m j w5) := Lib.hid (HS4.out.keep hk5 (fun y hy => by simp only [List.mem_singleton] at hy; subst hy; exact List.mem_append_right _ HMS.out.2.2) fun y hy => (HF4.out y hy).2)
  have HF5 : Hid (∀ y ∈ [Kc] ++ F, y < w5.heap.size ∧ W.heap.size ≤ y) := Lib.hid fun y hy => ⟨Nat.lt_of_lt_of_le (HF4.out y hy).1 hk5.size, (HF4.out y hy).2⟩
  have HO5 : Hid (Off [s, lm, om] F w w5) := Lib.hid (HO4.out.trans (Off.wide (Off.of_keep hk5 fun y hy => (HF4.out y (List.mem_append_right _ hy)).1) (by simp)))
  clear hm5 hk5 HB4 HV4 HX4 HS4 HF4 HO4 HK5
  refine wpAnyK_one (k := 12) (by kernel_rfl) rfl (fun K hK => ?_)
  go_simp
  refine hK.out _ _ (fun h => absurd rfl h) ?_
  clear hK K hmu
  try simp only [Act.put, List.setIfInBounds_toArray, List.set_cons_zero, List.set_cons_succ]
  refine wpAnyK_done (by kernel_rfl) ?_
  go_upto_region 16 with fail
  have HS16 : Hid (∀ W, Keep [] w5 W → World.cell? W ⟨s, 0, none⟩ = some (.pointer (some ⟨b, 0, none⟩)) ∧ World.cell? W ⟨X, 0, none⟩ = some (.int .i64 4) ∧ World.cell? W ⟨X, 1, none⟩ = some (.int .i64 (cn : Int)) ∧ World.cell? W ⟨X, 2, none⟩ = some (.int .i64 (sq : Int)) ∧ World.cell? W ⟨X, 3, none⟩ = some (.string (bs [])) ∧ World.cell? W ⟨X, 4, none⟩ = some (.int .u64 0) ∧ World.cell? W ⟨X, 5, none⟩ = some (.int .i64 0) ∧ World.cell? W ⟨X, 6, none⟩ = some (.int .u32 0) ∧ World.cell? W ⟨X, 7, none⟩ = some (.slice none 0 0) ∧ World.cell? W ⟨X, 8, none⟩ = some (.int .i64 0) ∧ World.cell? W ⟨X, 9, none⟩ = some (.int .i64 0) ∧ World.cell? W ⟨X, 10, none⟩ = some (.int .i64 0)) := Lib.hid fun W hW => ⟨(HV5.out.grow hW).blk.cell 0, (HX5.out.keep hW (by simp)).cell 0, (HX5.out.keep hW (by simp)).cell 1, (HX5.out.keep hW (by simp)).cell 2, (HX5.out.keep hW (by simp)).cell 3, (HX5.out.keep hW (by simp)).cell 4, (HX5.out.keep hW (by simp)).cell 5, (HX5.out.keep hW (by simp)).cell 6, (HX5.out.keep hW (by simp)).cell 7, (HX5.out.keep hW (by simp)).cell 8, (HX5.out.keep hW (by simp)).cell 9, (HX5.out.keep hW (by simp)).cell 10⟩
  have hHeld := HS16.out _ (Keep.refl _ _).drew
  refine wp_region_K (S := fun W => World.cell? W ⟨s, 0, none⟩ = some (.pointer (some ⟨b, 0, none⟩)) ∧ World.cell? W ⟨X, 0, none⟩ = some (.int .i64 4) ∧ World.cell? W ⟨X, 1, none⟩ = some (.int .i64 (cn : Int)) ∧ World.cell? W ⟨X, 2, none⟩ = some (.int .i64 (sq : Int)) ∧ World.cell? W ⟨X, 3, none⟩ = some (.string (bs [])) ∧ World.cell? W ⟨X, 4, none⟩ = some (.int .u64 0) ∧ World.cell? W ⟨X, 5, none⟩ = some (.int .i64 0) ∧ World.cell? W ⟨X, 6, none⟩ = some (.int .u32 0) ∧ World.cell? W ⟨X, 7, none⟩ = some (.slice none 0 0) ∧ World.cell? W ⟨X, 8, none⟩ = some (.int .i64 0) ∧ World.cell? W ⟨X, 9, none⟩ = some (.int .i64 0) ∧ World.cell? W ⟨X, 10, none⟩ = some (.int .i64 0)) (z := 6) (by kernel_rfl) ?_
  refine tk 0 hHeld ?_
  refine tk 1 hHeld ?_
  refine tk 2 hHeld ?_
  refine tk 3 hHeld ?_
  refine tk 4 hHeld ?_
  clear hHeld
  refine wpAnyK_one (k := 5) (by kernel_rfl) rfl (fun K hK => ?_)
  go_simp
  refine hK.out _ _ (fun _ => HS16.out _ (((Keep.refl _ _).alloc _).drew)) ?_
  clear hK K
  try simp only [Act.put, List.setIfInBounds_toArray, List.set_cons_zero, List.set_cons_succ]
  have HK6 : Hid (Keep [] w5 (w5.alloc (.cells #[.int .i64 4, .int .i64 (cn : Int), .int .i64 (sq : Int), .string (bs []), .int .u64 0, .int .i64 0, .int .u32 0, .slice none 0 0, .int .i64 0, .int .i64 0, .int .i64 0] 81)).drew) := Lib.hid (((Keep.refl [] w5).alloc _).drew)
  have HG6 : Hid (Blk (w5.alloc (.cells #[.int .i64 4, .int .i64 (cn : Int), .int .i64 (sq : Int), .string (bs []), .int .u64 0, .int .i64 0, .int .u32 0, .slice none 0 0, .int .i64 0, .int .i64 0, .int .i64 0] 81)).drew w5.heap.size 81 #[.int .i64 4, .int .i64 (cn : Int), .int .i64 (sq : Int), .string (bs []), .int .u64 0, .int .i64 0, .int .u32 0, .slice none 0 0, .int .i64 0, .int .i64 0, .int .i64 0]) := Lib.hid (Blk.new _ _ _).drew
  have HV6 := Lib.hid ((HV5.out.grow HK6.out).more (G := [w5.heap.size] ++ ([Kc] ++ F)) fun y hy => List.mem_append_right _ hy)
  have HS6 : Hid (Av.SecAt C z W ([w5.heap.size] ++ ([Kc] ++ F)) b bn m j (w5.alloc (.cells #[.int .i64 4, .int .i64 (cn : Int), .int .i64 (sq : Int), .string (bs []), .int .u64 0, .int .i64 0, .int .u32 0, .slice none 0 0, .int .i64 0, .int .i64 0, .int .i64 0] 81)).drew) := Lib.hid ((Av.Stage.more HS5.out (N := [w5.heap.size]) (by simp)).grow HK6.out)
  have HF6 : Hid (∀ y ∈ [w5.heap.size] ++ ([Kc] ++ F), y < (w5.alloc (.cells #[.int .i64 4, .int .i64 (cn : Int), .int .i64 (sq : Int), .string (bs []), .int .u64 0, .int .i64 0, .int .u32 0, .slice none 0 0, .int .i64 0, .int .i64 0, .int .i64 0] 81)).drew.heap.size ∧ W.heap.size ≤ y) := Lib.hid fun y hy => by
    have hz : (w5.alloc (.cells #[.int .i64 4, .int .i64 (cn : Int), .int .i64 (sq : Int), .string (bs []), .int .u64 0, .int .i64 0, .int .u32 0, .slice none 0 0, .int .i64 0, .int .i64 0, .int .i64 0] 81)).drew.heap.size = w5.heap.size + 1 := World.size_alloc _ _
    rw [hz]
    rcases List.mem_append.1 hy with hy | hy
    · simp only [List.mem_singleton] at hy
      subst hy
      exact ⟨by omega, HS5.out.below.size⟩
    · exact ⟨by have := (HF5.out y hy).1; omega, (HF5.out y hy).2⟩
  have HO6 : Hid (Off [s, lm, om] F w (w5.alloc (.cells #[.int .i64 4, .int .i64 (cn : Int), .int .i64 (sq : Int), .string (bs []), .int .u64 0, .int .i64 0, .int .u32 0, .slice none 0 0, .int .i64 0, .int .i64 0, .int .i64 0] 81)).drew) := Lib.hid (HO5.out.trans (Off.wide (Off.of_keep HK6.out fun y hy => (HF5.out y (List.mem_append_right _ hy)).1) (by simp)))
  have HR6 : Hid (∀ W, Keep [] (w5.alloc (.cells #[.int .i64 4, .int .i64 (cn : Int), .int .i64 (sq : Int), .string (bs []), .int .u64 0, .int .i64 0, .int .u32 0, .slice none 0 0, .int .i64 0, .int .i64 0, .int .i64 0] 81)).drew W → World.cell? W ⟨s, 0, none⟩ = some (.pointer (some ⟨b, 0, none⟩)) ∧ World.cell? W ⟨X, 0, none⟩ = some (.int .i64 4) ∧ World.cell? W ⟨X, 1, none⟩ = some (.int .i64 (cn : Int)) ∧ World.cell? W ⟨X, 2, none⟩ = some (.int .i64 (sq : Int)) ∧ World.cell? W ⟨X, 3, none⟩ = some (.string (bs [])) ∧ World.cell? W ⟨X, 4, none⟩ = some (.int .u64 0) ∧ World.cell? W ⟨X, 5, none⟩ = some (.int .i64 0) ∧ World.cell? W ⟨X, 6, none⟩ = some (.int .u32 0) ∧ World.cell? W ⟨X, 7, none⟩ = some (.slice none 0 0) ∧ World.cell? W ⟨X, 8, none⟩ = some (.int .i64 0) ∧ World.cell? W ⟨X, 9, none⟩ = some (.int .i64 0) ∧ World.cell? W ⟨X, 10, none⟩ = some (.int .i64 0)) := Lib.hid fun W hW => HS16.out W (HK6.out.trans hW)
  clear HV5 HS5 HF5 HO5 HX5 HC5 HS16 HK6
  generalize (w5.alloc (.cells #[.int .i64 4, .int .i64 (cn : Int), .int .i64 (sq : Int), .string (bs []), .int .u64 0, .int .i64 0, .int .u32 0, .slice none 0 0, .int .i64 0, .int .i64 0, .int .i64 0] 81)).drew = W6 at *
  generalize w5.heap.size = G at *
  refine wpAnyK_one (k := 6) (by kernel_rfl) rfl (fun K hK => ?_)
  go_simp
  go_at_call 32
  refine (wpropose_calls HC.out (fun y hy => (HF6.out y hy).1) HS6.out HX.out HCN.out.1 HCN.out.2 HG6.out (by simp)).mono ?_
  rintro e w7 ⟨v7, rfl, hn7, hs7⟩
  have HN7 := Lib.hid hn7
  have HS7 := Lib.hid hs7
  clear hn7 hs7
  go_simp
  refine hK.out _ _ (fun h => absurd rfl h) ?_
  clear hK K
  try simp only [Act.put, List.setIfInBounds_toArray, List.set_cons_zero, List.set_cons_succ]
  refine wpAnyK_done (by kernel_rfl) ?_
  go_wp2_with fail
  refine bodyPost_ret (by simp [results, Tryz.results8, go_sem]; try rfl) rfl ?_
  exact ⟨rfl, Kc, _, HN7.out, HV6.out.same HS7.out, fun y hy => List.mem_append_right _ (List.mem_append_right _ hy), fun y hy => ⟨Nat.lt_of_lt_of_le (HF6.out y hy).1 HS7.out.2.1, (HF6.out y hy).2⟩, HO6.out.trans (Off.of_same (HS7.out.sub fun y hy => List.mem_append_right _ (List.mem_append_right _ hy)))⟩
end
end Go.Proofs.YtpnoiagjgkajdaaGreatDoor
