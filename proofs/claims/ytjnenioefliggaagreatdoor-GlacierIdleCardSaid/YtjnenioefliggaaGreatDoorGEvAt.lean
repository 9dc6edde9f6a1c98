/- What GlacierIdle's runs say of the program: the contracts of its calls. -/
import Derived.Test.YtjnenioefliggaaGreatDoorGEvRa
set_option linter.unusedVariables false
namespace Go.Proofs.YtjnenioefliggaaGreatDoor.Av
open Go Go.RowKit
/-- The program's tables. -/
structure Tabs (w : World) (ty : Nat → Nat) : Prop where
  a : ∃ fr, w.heap[0]? = some (.cells (tab0.map fun (n : Nat) => Value.int .u32 (n : Int)).toArray (ty 0) fr)
  b : ∃ fr, w.heap[1]? = some (.cells (tab1.map fun (n : Nat) => Value.int .u64 (n : Int)).toArray (ty 1) fr)
  sz : 4 ≤ w.heap.size
theorem Tabs.size {w : World} {ty : Nat → Nat} (h : Tabs w ty) : 4 ≤ w.heap.size := h.sz
theorem Tabs.below {w w' : World} {ty : Nat → Nat} (h : Tabs w ty) (hb : Below w.heap.size w w') : Tabs w' ty := by
  have hs := h.size
  obtain ⟨⟨f0, h0⟩, ⟨f1, h1⟩, _⟩ := h
  exact ⟨⟨f0, (hb.block 0 (by omega)).trans h0⟩, ⟨f1, (hb.block 1 (by omega)).trans h1⟩, Nat.le_trans hs hb.size⟩
/-- The run stands so; nothing that was there before it is touched. -/
structure At (C : Nat → Cm) (W : World) (e : Env) (σ : AH) (w : World) : Prop where
  rel : Rel e σ w
  glob : Glob 4 (spC C) e
  below : Below W.heap.size W w
  own : ∀ l b, 16 ≤ l → (σ.hp.get l).isSome = true → e.ρ l = some b → W.heap.size ≤ b
variable {C : Nat → Cm}
theorem At.step {W w w' : World} {e e' : Env} {σ σ' : AH} (h : At C W e σ w) (k : Step e σ w e' σ' w') : At C W e' σ' w' where
  rel := k.rel
  glob := h.glob.mono k.le
  below := ⟨k.os.trans h.below.os, k.tape.trans h.below.tape, k.output.trans h.below.output, Nat.le_trans h.below.size k.size, fun b hb =>
    (k.frame b (Nat.lt_of_lt_of_le hb h.below.size) fun l hl hs hr => by have := h.own l b hl hs hr; omega).trans (h.below.block b hb)⟩
  own l b hl hs hr := by
    rcases k.own l b hl hs hr with ⟨l0, h1, h2, h3⟩ | h1
    · exact h.own l0 b h1 h2 h3
    · exact Nat.le_trans h.below.size h1
theorem At.grow {W w w' : World} {e : Env} {σ : AH} (h : At C W e σ w) (hb : Below w.heap.size w w') : At C W e σ w' := h.step (Step.below h.rel hb)
theorem At.renew {W w : World} {e : Env} {σ σ' : AH} {roots vs : List AV} {vs' : List Value} (h : At C W e σ w) (hv : VRs e roots vs') (hn : renew roots σ = some (σ', vs)) : ∃ e', At C W e' σ' w ∧ VRs e' vs vs' := by
  obtain ⟨e', h1, h2, h3, h5, h4⟩ := renew_ok h.rel hv hn
  refine ⟨e', ⟨h1, ⟨fun n hn => (h3 n (by omega)).trans (h.glob.1 n hn), h5.trans h.glob.2⟩, h.below, fun l b hl hs hr => ?_⟩, h2⟩
  obtain ⟨l0, k1, k2, k3⟩ := h4 l b hl hs hr
  exact h.own l0 b k1 k2 k3
theorem tab_or {k : IntKind} {l : List Nat} {t b : Nat} {w : World} {e : Env} (h : ∃ fr, w.heap[b]? = some (.cells (l.map fun (n : Nat) => Value.int k (n : Int)).toArray t fr)) : OR e w b (tabO k l t) := by
  obtain ⟨fr, h⟩ := h
  refine ⟨l.map fun (n : Nat) => Value.int k (n : Int), [], fr, by simpa using h, ?_, fun x hx => ?_, fun hf => (by cases hf), fun c s hc => (by cases hc)⟩
  · clear h
    induction l with
    | nil => exact .nil
    | cons n l ih => exact .cons _ _ _ _ (.int k _) ih
  · obtain ⟨n, _, rfl⟩ := List.mem_map.1 hx
    rfl
theorem At.start {W : World} {ty : Nat → Nat} (h : Tabs W ty) : ∃ e, At C W e (s0 ty) W := by
  have hs := h.size
  have hg : ∀ l, (s0 ty).hp.get l = if l = 1 then some (tabO .u64 tab1 (ty 1)) else if l = 0 then some (tabO .u32 tab0 (ty 0)) else none := fun l => by
    show (h0 ty).get l = _
    unfold h0
    rw [Tr.get_put, Tr.get_put]
    rfl
  have hl : ∀ l, ((s0 ty).hp.get l).isSome = true → l < 2 := fun l hl => by
    rw [hg] at hl
    rcases Nat.lt_or_ge l 2 with h1 | h1
    · exact h1
    · rw [if_neg (by omega), if_neg (by omega)] at hl
      cases hl
  refine ⟨⟨fun l => if l < 4 then some l else none, fun _ => none, spC C⟩, ⟨fun l o ho => ?_, fun l l' b hl1 hl2 hb hb' => ?_, fun l hn => ?_, fun q _ => rfl, fun q x hx => (by cases hx), fun l b hb => ?_, Nat.le_refl 16⟩, ⟨fun n hn => if_pos hn, rfl⟩, Below.refl _ _, fun l b h16 hs _ => (by have := hl l hs; omega)⟩
  · have h4 := hl l (by rw [ho]; rfl)
    refine ⟨l, if_pos (by omega), ?_⟩
    rw [hg] at ho
    have h5 : l = 0 ∨ l = 1 := by omega
    rcases h5 with rfl | rfl
    · injection ho with ho; subst ho; exact tab_or h.a
    · injection ho with ho; subst ho; exact tab_or h.b
  · have h1 := hl l hl1
    have h2 := hl l' hl2
    have hb : (if l < 4 then some l else none) = some b := hb
    have hb' : (if l' < 4 then some l' else none) = some b := hb'
    rw [if_pos (by omega)] at hb hb'
    injection hb with hb
    injection hb' with hb'
    omega
  · have hn : 16 ≤ l := hn
    exact if_neg (by omega)
  · have hb : (if l < 4 then some l else none) = some b := hb
    split at hb
    · injection hb with hb; omega
    · cases hb
theorem okV_eq {α : Type} {d y : α} {r : RV} {k : AV → AH → α} (h : okV d r k = y) (hd : d ≠ y) : ∃ v σ, r = .ok v σ ∧ k v σ = y := by
  cases r with
  | ok v σ => exact ⟨v, σ, rfl, h⟩
  | bad => exact absurd h hd
theorem at_call {W w : World} (hC : CsOk C) {e : Env} {σ σ' : AH} {f : Nat} {args : List AV} {args' : List Value} {v : AV} (h : At C W e σ w) (hr : run f args σ = .ok v σ') (hv : VRs e args args') :
    Calls Tryz.prog f args'.toArray w fun x w' => ∃ v' e', x = .returned v' ∧ VR e' v v' ∧ At C W e' σ' w' ∧ e.le e' := by
  refine (evF_ok (ts_ok (bds_ok hC)) ft_ok (told_ok hC) mixed_ok hr h.rel h.glob hv).mono fun x w' hx => ?_
  cases x with
  | returned v' =>
    obtain ⟨e', h1, h2⟩ := hx
    exact ⟨v', e', rfl, h1, h.step h2, h2.le⟩
  | panicked => exact hx.elim
  | outgrown => exact hx.elim
theorem at_call0 {W w : World} (hC : CsOk C) {e : Env} {σ σ' : AH} {f : Nat} {args : List AV} {args' : List Value} {v : AV} (h : At C W e σ w) (hr : run0 f args σ = .ok v σ') (hv : VRs e args args') :
    Calls Tryz.prog f args'.toArray w fun x w' => ∃ v' e', x = .returned v' ∧ VR e' v v' ∧ At C W e' σ' w' ∧ e.le e' := by
  refine (evF_ok (ts_ok (bds_ok hC)) ft_ok (told0_ok _) mixed_ok hr h.rel h.glob hv).mono fun x w' hx => ?_
  cases x with
  | returned v' =>
    obtain ⟨e', h1, h2⟩ := hx
    exact ⟨v', e', rfl, h1, h.step h2, h2.le⟩
  | panicked => exact hx.elim
  | outgrown => exact hx.elim
/-- So many rounds are done at the start. -/
def Pre (C : Nat → Cm) (W : World) (n b : Nat) (w : World) : Prop := ∃ ty e σ c, At C W e σ w ∧ VR e c (.pointer (some ⟨b, 0, none⟩)) ∧ rnd n c σ = some (S0 ty, cl)
/-- So many commands were told. -/
def Now (C : Nat → Cm) (W : World) (k b : Nat) (w : World) : Prop := ∃ ty e, At C W e (St ty k) w ∧ VR e cl (.pointer (some ⟨b, 0, none⟩))
theorem Pre.grow {W w w' : World} {n b : Nat} (h : Pre C W n b w) (hb : Below w.heap.size w w') : Pre C W n b w' := by
  obtain ⟨ty, e, σ, c, h1, h2⟩ := h
  exact ⟨ty, e, σ, c, h1.grow hb, h2⟩
theorem Now.grow {W w w' : World} {k b : Nat} (h : Now C W k b w) (hb : Below w.heap.size w w') : Now C W k b w' := by
  obtain ⟨ty, e, h1, h2⟩ := h
  exact ⟨ty, e, h1.grow hb, h2⟩
theorem Now.below {W w : World} {k b : Nat} (h : Now C W k b w) : Below W.heap.size W w := by
  obtain ⟨ty, e, h1, h2⟩ := h
  exact h1.below
theorem At.anew {W w : World} {e : Env} {σ σ' : AH} {c c' : AV} {b : Nat} (h : At C W e σ w) (hv : VR e c (.pointer (some ⟨b, 0, none⟩))) (hn : anew c σ = some (σ', c')) : ∃ e', At C W e' σ' w ∧ VR e' c' (.pointer (some ⟨b, 0, none⟩)) := by
  obtain ⟨r, h1, h2⟩ := opt_some hn
  obtain ⟨c2, h3, h4⟩ := opt_some h2
  injection h4 with h4
  injection h4 with h5 h6
  subst h5 h6
  obtain ⟨s, vs⟩ := r
  obtain ⟨e', k1, k2⟩ := h.renew (.cons _ _ _ _ hv .nil) h1
  cases k2 with
  | cons x y xs ys hx hxs =>
  have h3 : nth (x :: xs) 0 = some c2 := h3
  rw [nth_eq, List.getElem?_cons_zero] at h3
  injection h3 with h3
  subst h3
  exact ⟨e', k1, hx⟩
theorem Pre.now {W w : World} {b : Nat} (h : Pre C W 0 b w) : Now C W 0 b w := by
  obtain ⟨ty, e, σ, c, h1, h2, h3⟩ := h
  obtain ⟨e', k1, k2⟩ := h1.anew h2 h3
  exact ⟨ty, e', k1, k2⟩
theorem round_calls {W w : World} {n b : Nat} (hC : CsOk C) (h : Pre C W (n + 1) b w) : Calls Tryz.prog 9 #[.pointer (some ⟨b, 0, none⟩)] w fun x w' => x = .returned (.tuple #[]) ∧ Pre C W n b w' := by
  obtain ⟨ty, e, σ, c, h1, h2, h3⟩ := h
  obtain ⟨v, σ1, h4, h5⟩ := okV_eq (show okV none (run0 9 [c] σ) (fun v σ => cnd (v.eqb undef0) (rnd n c σ) none) = some (S0 ty, cl) from h3) (by simp)
  rcases cnd_eq h5 with ⟨h6, h7⟩ | ⟨_, h7⟩
  · obtain rfl := AV.eqb_eq h6
    refine (at_call0 hC h1 h4 (.cons _ _ _ _ h2 .nil)).mono fun x w' ⟨v', e', hx, hv, ha, hl⟩ => ?_
    subst hx
    cases hv with
    | tup _ l hl2 =>
    cases hl2
    exact ⟨rfl, ty, e', σ1, c, ha, h2.mono hl, h7⟩
  · cases h7
noncomputable def k3 (sv : AV) (σ : AH) : Option (AH × AV) := okV none (run0 8 [sv] σ) fun c σ => rnd 6 c σ
noncomputable def k2 (u : AV) (σ : AH) : Option (AH × AV) := okV none (run0 7 [u] σ) k3
noncomputable def k1 (σ : AH) : Option (AH × AV) := okV none (run0 5 [cfgA] σ) fun v σ => opt none (newA v) fun u => k2 u σ
noncomputable def k0 (σ : AH) : Option (AH × AV) := okV none (run0 6 [i 0, i 0, i 0, i 900] σ) fun v σ => cnd (v.eqb cfgA) (k1 σ) none
/-- Behind live. -/
def L0 (C : Nat → Cm) (W w : World) : Prop := ∃ ty e σ, At C W e σ w ∧ k0 σ = some (S0 ty, cl)
/-- Behind Config. -/
def L1 (C : Nat → Cm) (W w : World) : Prop := ∃ ty e σ, At C W e σ w ∧ k1 σ = some (S0 ty, cl)
/-- Behind New. -/
def L2 (C : Nat → Cm) (W : World) (b : Nat) (w : World) : Prop := ∃ ty e σ u, At C W e σ w ∧ VR e u (.pointer (some ⟨b, 0, none⟩)) ∧ k2 u σ = some (S0 ty, cl)
theorem live_calls {W : World} {ty : Nat → Nat} (hC : CsOk C) (h : Tabs W ty) : Calls Tryz.prog 4 #[] W fun x w' => x = .returned (.bool true) ∧ L0 C W w' := by
  obtain ⟨e, h1⟩ := At.start (C := C) h
  obtain ⟨v, σ, h2, h3⟩ := okV_eq (show okV none (run0 4 [] (s0 ty)) (fun v σ => cnd (v.eqb T) (k0 σ) none) = some (S0 ty, cl) from pre_run ty) (by simp)
  rcases cnd_eq h3 with ⟨h4, h5⟩ | ⟨_, h5⟩
  · obtain rfl := AV.eqb_eq h4
    refine (at_call0 hC h1 h2 .nil).mono fun x w' ⟨v', e', hx, hv, ha, _⟩ => ?_
    subst hx
    cases hv
    exact ⟨rfl, ty, e', σ, ha, h5⟩
  · cases h5
theorem vrs_i {e : Env} : ∀ {l : List Int} {vs : List Value}, VRs e (l.map Av.i) vs → vs = l.map (Value.int .i64)
  | [], vs, h => by cases h; rfl
  | n :: l, vs, h => by
    cases h with
    | cons _ y _ ys hy hys =>
    cases hy
    rw [vrs_i hys]
    rfl
def cfgL : List Int := [3, 50000, 6, 900, 1, 2, 0, 50, 300, 1, 4194304]
def cfgV : Value := .agg (cfgL.map (Value.int .i64)).toArray
theorem cfgA_val {e : Env} {v : Value} (h : VR e cfgA v) : v = cfgV := by
  have h : VR e (.agg (cfgL.map Av.i)) v := h
  cases h with
  | agg _ l _ hl =>
  rw [vrs_i hl]
  rfl
theorem val_cfgA (e : Env) : VR e cfgA cfgV := by
  have key : ∀ l : List Int, VRs e (l.map Av.i) (l.map (Value.int .i64)) := fun l => by
    induction l with
    | nil => exact .nil
    | cons n l ih => exact .cons _ _ _ _ (.int _ _) ih
  exact .agg (cfgL.map Av.i) _ (fun x hx => by obtain ⟨n, _, rfl⟩ := List.mem_map.1 hx; rfl) (key cfgL)
theorem config_calls {W w : World} (hC : CsOk C) (h : L0 C W w) : Calls Tryz.prog 6 #[.int .i64 0, .int .i64 0, .int .i64 0, .int .i64 900] w fun x w' => x = .returned cfgV ∧ L1 C W w' := by
  obtain ⟨ty, e, σ, h1, h2⟩ := h
  obtain ⟨v, σ1, h3, h4⟩ := okV_eq h2 (by simp)
  rcases cnd_eq h4 with ⟨h5, h6⟩ | ⟨_, h6⟩
  · obtain rfl := AV.eqb_eq h5
    refine (at_call0 hC h1 h3 (.cons _ _ _ _ (.int _ _) (.cons _ _ _ _ (.int _ _) (.cons _ _ _ _ (.int _ _) (.cons _ _ _ _ (.int _ _) .nil))))).mono fun x w' ⟨v', e', hx, hv, ha, _⟩ => ?_
    subst hx
    rw [cfgA_val hv]
    exact ⟨rfl, ty, e', σ1, ha, h6⟩
  · cases h6
theorem cluster_calls {W w : World} {b : Nat} (hC : CsOk C) (h : ∃ ty e σ u, At C W e σ w ∧ VR e u (.pointer (some ⟨b, 0, none⟩)) ∧ k3 u σ = some (S0 ty, cl)) : Calls Tryz.prog 8 #[.pointer (some ⟨b, 0, none⟩)] w fun x w' => ∃ e' c v ty σ, x = .returned v ∧ At C W e' σ w' ∧ VR e' c v ∧ rnd 6 c σ = some (S0 ty, cl) := by
  obtain ⟨ty, e, σ, u, h1, h2, h3⟩ := h
  obtain ⟨v, σ1, h4, h5⟩ := okV_eq h3 (by simp)
  refine (at_call0 hC h1 h4 (.cons _ _ _ _ h2 .nil)).mono fun x w' ⟨v', e', hx, hv, ha, _⟩ => ?_
  subst hx
  exact ⟨e', v, v', ty, σ1, rfl, ha, hv, h5⟩
theorem new_calls {W w : World} (hC : CsOk C) (h : L1 C W w) : Calls Tryz.prog 5 #[cfgV] w fun x w' => ∃ b, x = .returned (.tuple #[.pointer (some ⟨b, 0, none⟩), .int .i64 0]) ∧ L2 C W b w' := by
  obtain ⟨ty, e, σ, h1, h2⟩ := h
  obtain ⟨v, σ1, h3, h4⟩ := okV_eq h2 (by simp)
  obtain ⟨u, h5, h6⟩ := opt_some h4
  refine (at_call0 hC h1 h3 (.cons _ _ _ _ (val_cfgA e) .nil)).mono fun x w' ⟨v', e', hx, hv, ha, _⟩ => ?_
  subst hx
  unfold newA at h5
  split at h5
  · injection h5 with h5
    subst h5
    cases hv with
    | tup _ l hl =>
    cases hl with
    | cons _ y _ ys hy hys =>
    cases hys with
    | cons _ z _ zs hz hzs =>
    cases hzs
    cases hz
    cases hy with
    | ptr _ _ b hb => exact ⟨b, rfl, ty, e', σ1, _, ha, .ptr _ _ b hb, h6⟩
  · cases h5
theorem service_calls {W w : World} {b : Nat} (hC : CsOk C) (h : L2 C W b w) : Calls Tryz.prog 7 #[.pointer (some ⟨b, 0, none⟩)] w fun x w' => ∃ e' c v ty σ, x = .returned v ∧ At C W e' σ w' ∧ VR e' c v ∧ k3 c σ = some (S0 ty, cl) := by
  obtain ⟨ty, e, σ, u, h1, h2, h3⟩ := h
  obtain ⟨v, σ1, h4, h5⟩ := okV_eq h3 (by simp)
  refine (at_call0 hC h1 h4 (.cons _ _ _ _ h2 .nil)).mono fun x w' ⟨v', e', hx, hv, ha, _⟩ => ?_
  subst hx
  exact ⟨e', v, v', ty, σ1, rfl, ha, hv, h5⟩
end Go.Proofs.YtjnenioefliggaaGreatDoor.Av
