/- What ClusterIdle's runs say of the program: the contracts of its calls. -/
import Derived.Test.YtmfimllokjhgmaaGreatDoorEvRa
import Derived.Test.YtmfimllokjhgmaaGreatDoorEvRb
import Derived.Test.YtmfimllokjhgmaaGreatDoorEvRc
import Derived.Test.YtmfimllokjhgmaaGreatDoorEvRd
import Derived.Test.YtmfimllokjhgmaaGreatDoorEvRe
import Derived.Test.YtmfimllokjhgmaaGreatDoorEvRf
set_option linter.unusedVariables false
namespace Go.Proofs.YtmfimllokjhgmaaGreatDoor.Av
open Go Go.RowKit
/-- The program's tables. -/
structure Tabs (w : World) (ty : Nat → Nat) : Prop where
  a : ∃ fr, w.heap[0]? = some (.cells (tab0.map fun (n : Nat) => Value.int .u32 (n : Int)).toArray (ty 0) fr)
  b : ∃ fr, w.heap[1]? = some (.cells (tab1.map fun (n : Nat) => Value.int .u64 (n : Int)).toArray (ty 1) fr)
  c : ∃ fr, w.heap[2]? = some (.cells (tab2.map fun (n : Nat) => Value.int .u8 (n : Int)).toArray (ty 2) fr)
  d : ∃ fr, w.heap[3]? = some (.cells (tab3.map fun (n : Nat) => Value.int .u8 (n : Int)).toArray (ty 3) fr)
theorem Tabs.size {w : World} {ty : Nat → Nat} (h : Tabs w ty) : 4 ≤ w.heap.size := by
  obtain ⟨fr, h1⟩ := h.d
  rcases Nat.lt_or_ge 3 w.heap.size with hlt | hge
  · exact hlt
  · rw [Array.getElem?_eq_none hge] at h1; cases h1
theorem Tabs.below {w w' : World} {ty : Nat → Nat} (h : Tabs w ty) (hb : Below w.heap.size w w') : Tabs w' ty := by
  have hs := h.size
  obtain ⟨⟨f0, h0⟩, ⟨f1, h1⟩, ⟨f2, h2⟩, ⟨f3, h3⟩⟩ := h
  exact ⟨⟨f0, (hb.block 0 (by omega)).trans h0⟩, ⟨f1, (hb.block 1 (by omega)).trans h1⟩, ⟨f2, (hb.block 2 (by omega)).trans h2⟩, ⟨f3, (hb.block 3 (by omega)).trans h3⟩⟩
/-- The run stands so; nothing that was there before it is touched. -/
structure At (W : World) (e : Env) (σ : AH) (w : World) : Prop where
  rel : Rel e σ w
  glob : Glob 4 e
  below : Below W.heap.size W w
  own : ∀ l b, 16 ≤ l → (σ.hp.get l).isSome = true → e.ρ l = some b → W.heap.size ≤ b
theorem At.step {W w w' : World} {e e' : Env} {σ σ' : AH} (h : At W e σ w) (k : Step e σ w e' σ' w') : At W e' σ' w' where
  rel := k.rel
  glob := h.glob.mono k.le
  below := ⟨k.os.trans h.below.os, k.tape.trans h.below.tape, k.output.trans h.below.output, Nat.le_trans h.below.size k.size, fun b hb =>
    (k.frame b (Nat.lt_of_lt_of_le hb h.below.size) fun l hl hs hr => by have := h.own l b hl hs hr; omega).trans (h.below.block b hb)⟩
  own l b hl hs hr := by
    rcases k.own l b hl hs hr with ⟨l0, h1, h2, h3⟩ | h1
    · exact h.own l0 b h1 h2 h3
    · exact Nat.le_trans h.below.size h1
theorem At.grow {W w w' : World} {e : Env} {σ : AH} (h : At W e σ w) (hb : Below w.heap.size w w') : At W e σ w' := h.step (Step.below h.rel hb)
theorem At.renew {W w : World} {e : Env} {σ σ' : AH} {roots vs : List AV} {vs' : List Value} (h : At W e σ w) (hv : VRs e roots vs') (hn : renew roots σ = some (σ', vs)) : ∃ e', At W e' σ' w ∧ VRs e' vs vs' := by
  obtain ⟨e', h1, h2, h3, h4⟩ := renew_ok h.rel hv hn
  refine ⟨e', ⟨h1, fun n hn => (h3 n (by omega)).trans (h.glob n hn), h.below, fun l b hl hs hr => ?_⟩, h2⟩
  obtain ⟨l0, k1, k2, k3⟩ := h4 l b hl hs hr
  exact h.own l0 b k1 k2 k3
theorem tab_or {k : IntKind} {l : List Nat} {t b : Nat} {w : World} {e : Env} (h : ∃ fr, w.heap[b]? = some (.cells (l.map fun (n : Nat) => Value.int k (n : Int)).toArray t fr)) : OR e w b (tabO k l t) := by
  obtain ⟨fr, h⟩ := h
  refine ⟨l.map fun (n : Nat) => Value.int k (n : Int), [], fr, by simpa using h, ?_, fun x hx => ?_, fun hf => (by cases hf), fun c s hc => (by cases hc)⟩
  · clear h
    induction l with
    | nil => exact .nil
    | cons n l ih => exact .cons _ _ _ _ (.int k _) ih
  · obtain ⟨n, _, rfl⟩ := List.mem_map.1 hx
    rfl
theorem At.start {W : World} {ty : Nat → Nat} (h : Tabs W ty) : ∃ e, At W e (s0 ty) W := by
  have hs := h.size
  have hg : ∀ l, (s0 ty).hp.get l = if l = 3 then some (tabO .u8 tab3 (ty 3)) else if l = 2 then some (tabO .u8 tab2 (ty 2)) else if l = 1 then some (tabO .u64 tab1 (ty 1)) else if l = 0 then some (tabO .u32 tab0 (ty 0)) else none := fun l => by
    show (h0 ty).get l = _
    unfold h0
    rw [Tr.get_put, Tr.get_put, Tr.get_put, Tr.get_put]
    rfl
  have hl : ∀ l, ((s0 ty).hp.get l).isSome = true → l < 4 := fun l hl => by
    rw [hg] at hl
    rcases Nat.lt_or_ge l 4 with h1 | h1
    · exact h1
    · rw [if_neg (by omega), if_neg (by omega), if_neg (by omega), if_neg (by omega)] at hl
      cases hl
  refine ⟨⟨fun l => if l < 4 then some l else none, fun _ => none⟩, ⟨fun l o ho => ?_, fun l l' b hl1 hl2 hb hb' => ?_, fun l hn => ?_, fun q _ => rfl, fun q x hx => (by cases hx), fun l b hb => ?_, Nat.le_refl 16⟩, fun n hn => if_pos hn, Below.refl _ _, fun l b h16 hs _ => (by have := hl l hs; omega)⟩
  · have h4 := hl l (by rw [ho]; rfl)
    refine ⟨l, if_pos (by omega), ?_⟩
    rw [hg] at ho
    have h5 : l = 0 ∨ l = 1 ∨ l = 2 ∨ l = 3 := by omega
    rcases h5 with rfl | rfl | rfl | rfl
    · injection ho with ho; subst ho; exact tab_or h.a
    · injection ho with ho; subst ho; exact tab_or h.b
    · injection ho with ho; subst ho; exact tab_or h.c
    · injection ho with ho; subst ho; exact tab_or h.d
  · have h1 := hl l hl1
    have h2 := hl l' hl2
    have hb : (if l < 4 then some l else none) = some b := hb
    have hb' : (if l' < 4 then some l' else none) = some b := hb'
    rw [if_pos (by omega)] at hb hb'
    injection hb with hb
    injection hb' with hb'
    omega
  · have hn : 16 ≤ l := hn
    exact if_neg (by omega)
  · have hb : (if l < 4 then some l else none) = some b := hb
    split at hb
    · injection hb with hb; omega
    · cases hb
theorem okV_eq {α : Type} {d y : α} {r : RV} {k : AV → AH → α} (h : okV d r k = y) (hd : d ≠ y) : ∃ v σ, r = .ok v σ ∧ k v σ = y := by
  cases r with
  | ok v σ => exact ⟨v, σ, rfl, h⟩
  | bad => exact absurd h hd
theorem at_call {W w : World} {e : Env} {σ σ' : AH} {f : Nat} {args : List AV} {args' : List Value} {v : AV} (h : At W e σ w) (hr : run f args σ = .ok v σ') (hv : VRs e args args') :
    Calls Tryz.prog f args'.toArray w fun x w' => ∃ v' e', x = .returned v' ∧ VR e' v v' ∧ At W e' σ' w' ∧ e.le e' := by
  refine (evF_ok tt_ok ft_ok told_ok mixed_ok hr h.rel h.glob hv).mono fun x w' hx => ?_
  cases x with
  | returned v' =>
    obtain ⟨e', h1, h2⟩ := hx
    exact ⟨v', e', rfl, h1, h.step h2, h2.le⟩
  | panicked => exact hx.elim
  | outgrown => exact hx.elim
theorem awake_calls {W : World} {ty : Nat → Nat} (h : Tabs W ty) : Calls Tryz.prog 4 #[] W fun x w' => x = .returned (.bool true) ∧ Below W.heap.size W w' := by
  obtain ⟨e, h1⟩ := At.start h
  obtain ⟨v, σ, h2, h3⟩ := okV_eq (awake_run ty) (by simp)
  injection h3 with h3
  subst h3
  refine (at_call h1 h2 .nil).mono fun x w' ⟨v', e', hx, hv, ha, _⟩ => ?_
  subst hx
  cases hv
  exact ⟨rfl, ha.below⟩
/-- A state from which the cluster goes on for ever. -/
def Fine (ty : Nat → Nat) (S : AH) : Prop := S = S0_8 ty ∨ S = S1_8 ty ∨ S = S1_12 ty ∨ S = S2_8 ty ∨ S = S2_12 ty
theorem goS_some (n : Nat) (S : AH) (c : AV) : goS n (some (S, c)) = stepN n c S (anew c) := rfl
theorem Fine.go {ty : Nat → Nat} {S : AH} (h : Fine ty S) : ∃ S', Fine ty S' ∧ stepN 4 (p 16 0) S (anew (p 16 0)) = some (S', p 16 0) := by
  rcases h with rfl | rfl | rfl | rfl | rfl
  · exact ⟨_, .inl rfl, (goS_some _ _ _).symm.trans (per0 ty)⟩
  · exact ⟨_, .inr (.inr (.inl rfl)), (goS_some _ _ _).symm.trans (run1_12 ty)⟩
  · exact ⟨_, .inr (.inr (.inl rfl)), (goS_some _ _ _).symm.trans (per1 ty)⟩
  · exact ⟨_, .inr (.inr (.inr (.inr rfl))), (goS_some _ _ _).symm.trans (run2_12 ty)⟩
  · exact ⟨_, .inr (.inr (.inr (.inr rfl))), (goS_some _ _ _).symm.trans (per2 ty)⟩
/-- The cluster, ahead of a round. -/
def Inv (W : World) (b : Nat) (w : World) : Prop := ∃ ty e σ c n S, At W e σ w ∧ VR e c (.pointer (some ⟨b, 0, none⟩)) ∧ Fine ty S ∧ stepN n c σ (anew c) = some (S, p 16 0)
/-- Behind the round, ahead of the work. -/
def Mid (W : World) (b : Nat) (w : World) : Prop := ∃ ty e σ c n S, At W e σ w ∧ VR e c (.pointer (some ⟨b, 0, none⟩)) ∧ Fine ty S ∧ workS c σ (fun σ => stepN n c σ (anew c)) = some (S, p 16 0)
theorem Inv.grow {W w w' : World} {b : Nat} (h : Inv W b w) (hb : Below w.heap.size w w') : Inv W b w' := by
  obtain ⟨ty, e, σ, c, n, S, h1, h2⟩ := h
  exact ⟨ty, e, σ, c, n, S, h1.grow hb, h2⟩
theorem Mid.grow {W w w' : World} {b : Nat} (h : Mid W b w) (hb : Below w.heap.size w w') : Mid W b w' := by
  obtain ⟨ty, e, σ, c, n, S, h1, h2⟩ := h
  exact ⟨ty, e, σ, c, n, S, h1.grow hb, h2⟩
theorem Inv.below {W w : World} {b : Nat} (h : Inv W b w) : Below W.heap.size W w := by
  obtain ⟨ty, e, σ, c, n, S, h1, h2⟩ := h
  exact h1.below
theorem Mid.below {W w : World} {b : Nat} (h : Mid W b w) : Below W.heap.size W w := by
  obtain ⟨ty, e, σ, c, n, S, h1, h2⟩ := h
  exact h1.below
theorem anew_ok {W w : World} {e : Env} {σ σ' : AH} {c c' : AV} {x : Value} (h : At W e σ w) (hv : VR e c x) (hn : anew c σ = some (σ', c')) : ∃ e', At W e' σ' w ∧ VR e' c' x := by
  obtain ⟨⟨s1, l⟩, h1, h2⟩ := opt_some hn
  obtain ⟨c1, h3, h4⟩ := opt_some h2
  injection h4 with h4
  injection h4 with h4 h5
  simp only at h3 h4
  subst h4 h5
  obtain ⟨e', k1, k2⟩ := h.renew (.cons _ _ _ _ hv .nil) h1
  cases k2 with
  | cons _ _ _ _ k3 k4 =>
  cases k4
  rw [nth_eq] at h3
  injection h3 with h3
  subst h3
  exact ⟨e', k1, k3⟩
/-- There is always one more. -/
theorem Inv.more {W w : World} {b : Nat} (h : Inv W b w) : ∃ ty e σ c n S, At W e σ w ∧ VR e c (.pointer (some ⟨b, 0, none⟩)) ∧ Fine ty S ∧ stepN (n + 1) c σ (anew c) = some (S, p 16 0) := by
  obtain ⟨ty, e, σ, c, n, S, h1, h2, h3, h4⟩ := h
  cases n with
  | succ n => exact ⟨ty, e, σ, c, n, S, h1, h2, h3, h4⟩
  | zero =>
    obtain ⟨e', k1, k2⟩ := anew_ok h1 h2 h4
    obtain ⟨S', k3, k4⟩ := h3.go
    exact ⟨ty, e', S, p 16 0, 3, S', k1, k2, k3, k4⟩
theorem new_calls {W w : World} {ty : Nat → Nat} (hT : Tabs w ty) (hW : Below W.heap.size W w) (n : Int) (hn : n = 1 ∨ n = 2 ∨ n = 3) : Calls Tryz.prog 5 #[.agg #[.int .i64 3, .int .i64 50000, .int .i64 6, .int .i64 2000, .int .i64 1, .int .i64 2, .int .i64 0, .int .i64 50, .int .i64 300, .int .i64 n, .int .i64 4194304]] w fun x w' => ∃ b, x = .returned (.tuple #[.pointer (some ⟨b, 0, none⟩), .int .i64 0]) ∧ Inv W b w' := by
  obtain ⟨S, hF, hS⟩ : ∃ S, Fine ty S ∧ goS 8 (newA n ty) = some (S, p 16 0) := by
    rcases hn with rfl | rfl | rfl
    · exact ⟨_, .inl rfl, run0_8 ty⟩
    · exact ⟨_, .inr (.inl rfl), run1_8 ty⟩
    · exact ⟨_, .inr (.inr (.inr (.inl rfl))), run2_8 ty⟩
  obtain ⟨⟨σ1, c1⟩, h1, h2⟩ := opt_some hS
  obtain ⟨v, σ, h3, h4⟩ := okV_eq h1 (by simp)
  split at h4
  · rename_i l0
    obtain ⟨e, hA0⟩ := At.start hT
    have hA : At W e (s0 ty) w := ⟨hA0.rel, hA0.glob, hW, fun l b hl hs hr => Nat.le_trans hW.size (hA0.own l b hl hs hr)⟩
    have hv : VRs e [cfgA n] [.agg #[.int .i64 3, .int .i64 50000, .int .i64 6, .int .i64 2000, .int .i64 1, .int .i64 2, .int .i64 0, .int .i64 50, .int .i64 300, .int .i64 n, .int .i64 4194304]] := by
      refine .cons _ _ _ _ (.agg _ [.int .i64 3, .int .i64 50000, .int .i64 6, .int .i64 2000, .int .i64 1, .int .i64 2, .int .i64 0, .int .i64 50, .int .i64 300, .int .i64 n, .int .i64 4194304] (fun x hx => ?_) ?_) .nil
      · simp only [List.mem_cons, List.not_mem_nil, or_false] at hx
        rcases hx with rfl | rfl | rfl | rfl | rfl | rfl | rfl | rfl | rfl | rfl | rfl <;> rfl
      · repeat first | exact .nil | refine .cons _ _ _ _ (.int .i64 _) ?_
    refine (at_call hA h3 hv).mono fun x w' ⟨v', e', hx, hv', ha, _⟩ => ?_
    subst hx
    cases hv' with
    | tup _ l' hl =>
    cases hl with
    | cons _ x1 _ l1 hc hl =>
    cases hl with
    | cons _ x2 _ l2 hz hl =>
    cases hl
    cases hz
    obtain ⟨e2, k1, k2⟩ := anew_ok ha hc h4
    obtain ⟨b, rfl⟩ : ∃ b, x1 = .pointer (some ⟨b, 0, none⟩) := by
      cases hc with
      | ptr l o b hb => exact ⟨b, rfl⟩
    exact ⟨b, rfl, ty, e2, σ1, c1, 8, S, k1, k2, hF, h2⟩
  · cases h4
theorem round_calls {W w : World} {b : Nat} (h : Inv W b w) : Calls Tryz.prog 7 #[.pointer (some ⟨b, 0, none⟩)] w fun x w' => x = .returned (.tuple #[]) ∧ Mid W b w' := by
  obtain ⟨ty, e, σ, c, n, S, h1, h2, h3, h4⟩ := h.more
  rcases cnd_eq (show cnd (finS c σ) (okV none (run 7 [c] σ) fun v σ => cnd (v.eqb undef0) (workS c σ fun σ => stepN n c σ (anew c)) none) none = some (S, p 16 0) from h4) with ⟨_, h5⟩ | ⟨_, h5⟩
  · obtain ⟨v, σ', h6, h7⟩ := okV_eq h5 (by simp)
    rcases cnd_eq h7 with ⟨h8, h9⟩ | ⟨_, h9⟩
    · have h8 := AV.eqb_eq h8
      subst h8
      refine (at_call h1 h6 (.cons _ _ _ _ h2 .nil)).mono fun x w' ⟨v', e', hx, hv', ha, hle⟩ => ?_
      subst hx
      cases hv' with
      | tup _ l' hl =>
      cases hl
      exact ⟨rfl, ty, e', σ', c, n, S, ha, h2.mono hle, h3, h9⟩
    · cases h9
  · cases h5
theorem work_calls {W w : World} {b : Nat} (h : Mid W b w) : Calls Tryz.prog 8 #[.pointer (some ⟨b, 0, none⟩)] w fun x w' => x = .returned (.tuple #[.agg #[.int .i64 0, .int .u64 0, .int .i64 0, .int .i64 0], .bool false]) ∧ Inv W b w' := by
  obtain ⟨ty, e, σ, c, n, S, h1, h2, h3, h4⟩ := h
  obtain ⟨v, σ', h6, h7⟩ := okV_eq h4 (by simp)
  rcases cnd_eq h7 with ⟨h8, h9⟩ | ⟨_, h9⟩
  · have h8 := AV.eqb_eq h8
    subst h8
    refine (at_call h1 h6 (.cons _ _ _ _ h2 .nil)).mono fun x w' ⟨v', e', hx, hv', ha, hle⟩ => ?_
    subst hx
    have hv : VR e' noWork (.tuple #[.agg #[.int .i64 0, .int .u64 0, .int .i64 0, .int .i64 0], .bool false]) → v' = .tuple #[.agg #[.int .i64 0, .int .u64 0, .int .i64 0, .int .i64 0], .bool false] := fun _ => by
      cases hv' with
      | tup _ l' hl =>
      cases hl with
      | cons _ x1 _ l1 hc hl =>
      cases hl with
      | cons _ x2 _ l2 hz hl =>
      cases hl
      cases hz
      cases hc with
      | agg _ l3 _ hl =>
      cases hl with
      | cons _ y1 _ m1 d1 hl =>
      cases hl with
      | cons _ y2 _ m2 d2 hl =>
      cases hl with
      | cons _ y3 _ m3 d3 hl =>
      cases hl with
      | cons _ y4 _ m4 d4 hl =>
      cases hl
      cases d1
      cases d2
      cases d3
      cases d4
      rfl
    have hv2 : VR e' noWork (.tuple #[.agg #[.int .i64 0, .int .u64 0, .int .i64 0, .int .i64 0], .bool false]) :=
      .tup _ [.agg #[.int .i64 0, .int .u64 0, .int .i64 0, .int .i64 0], .bool false] (.cons _ _ _ _ (.agg _ [.int .i64 0, .int .u64 0, .int .i64 0, .int .i64 0] (fun x hx => by
        simp only [List.mem_cons, List.not_mem_nil, or_false] at hx
        rcases hx with rfl | rfl | rfl | rfl <;> rfl) (.cons _ _ _ _ (.int _ _) (.cons _ _ _ _ (.int _ _) (.cons _ _ _ _ (.int _ _) (.cons _ _ _ _ (.int _ _) .nil))))) (.cons _ _ _ _ (.bool _) .nil))
    refine ⟨by rw [hv hv2], ty, e', σ', c, n, S, ha, h2.mono hle, h3, h9⟩
  · cases h9
/-- What the law asks for behind its rounds. -/
def FB (W : World) (a : Addr) (w : World) : Prop := ∃ e σ m, At W e σ w ∧ VR e m (.pointer (some a)) ∧ finC m σ = true
def FD (W : World) (a : Addr) (w : World) : Prop := ∃ e σ m, At W e σ w ∧ VR e m (.pointer (some a)) ∧ finD m σ = true
def FE (W : World) (x : Value) (w : World) : Prop := ∃ e σ v, At W e σ w ∧ VR e v x ∧ okV false (run 12 [v] σ) (fun l _ => finL l) = true
theorem furthest_calls {W w : World} {b : Nat} (h : Inv W b w) : Calls Tryz.prog 9 #[.pointer (some ⟨b, 0, none⟩)] w fun x w' => ∃ a, x = .returned (.pointer (some a)) ∧ FB W a w' := by
  obtain ⟨ty, e, σ, c, n, S, h1, h2, h3, h4⟩ := h.more
  rcases cnd_eq (show cnd (finS c σ) _ none = some (S, p 16 0) from h4) with ⟨h5, _⟩ | ⟨_, h5⟩
  · obtain ⟨v, σ', h6, h7⟩ := okV_eq h5 (by simp)
    unfold finB at h7
    split at h7
    · refine (at_call h1 h6 (.cons _ _ _ _ h2 .nil)).mono fun x w' ⟨v', e', hx, hv', ha, hle⟩ => ?_
      subst hx
      have hv2 := hv'
      cases hv' with
      | ptr l o bb hb => exact ⟨_, rfl, e', σ', _, ha, hv2, h7⟩
    · cases h7
  · cases h5
theorem count_calls {W w : World} {a : Addr} (h : FB W a w) : Calls Tryz.prog 10 #[.pointer (some a)] w fun x w' => ∃ n, x = .returned (.int .i64 n) ∧ n ≤ 1 ∧ FD W a w' := by
  obtain ⟨e, σ, m, h1, h2, h3⟩ := h
  obtain ⟨v, σ', h6, h7⟩ := okV_eq h3 (by simp)
  unfold finN at h7
  split at h7
  · rename_i z
    obtain ⟨h8, h9⟩ := and_cnd h7
    refine (at_call h1 h6 (.cons _ _ _ _ h2 .nil)).mono fun x w' ⟨v', e', hx, hv', ha, hle⟩ => ?_
    subst hx
    cases hv'
    rw [ltI_eq] at h8
    exact ⟨z, rfl, by have := of_decide_eq_true h8; omega, e', σ', m, ha, h2.mono hle, h9⟩
  · cases h7
theorem catalog_calls {W w : World} {a : Addr} (h : FD W a w) : Calls Tryz.prog 11 #[.pointer (some a)] w fun x w' => ∃ v, x = .returned v ∧ FE W v w' := by
  obtain ⟨e, σ, m, h1, h2, h3⟩ := h
  obtain ⟨v, σ', h6, h7⟩ := okV_eq h3 (by simp)
  refine (at_call h1 h6 (.cons _ _ _ _ h2 .nil)).mono fun x w' ⟨v', e', hx, hv', ha, hle⟩ => ?_
  exact ⟨v', hx, e', σ', v, ha, hv', h7⟩
theorem blobs_calls {W w : World} {x : Value} (h : FE W x w) : Calls Tryz.prog 12 #[x] w fun y w' => ∃ A c, y = .returned (.slice A 0 c) ∧ Below W.heap.size W w' := by
  obtain ⟨e, σ, m, h1, h2, h3⟩ := h
  obtain ⟨v, σ', h6, h7⟩ := okV_eq h3 (by simp)
  refine (at_call h1 h6 (.cons _ _ _ _ h2 .nil)).mono fun y w' ⟨v', e', hx, hv', ha, hle⟩ => ?_
  subst hx
  unfold finL at h7
  split at h7
  · cases hv'
    exact ⟨_, _, rfl, ha.below⟩
  · cases hv' <;> exact ⟨_, _, rfl, ha.below⟩
  · cases h7
theorem FB.grow {W w w' : World} {a : Addr} (h : FB W a w) (hb : Below w.heap.size w w') : FB W a w' := by
  obtain ⟨e, σ, m, h1, h2⟩ := h
  exact ⟨e, σ, m, h1.grow hb, h2⟩
theorem FD.grow {W w w' : World} {a : Addr} (h : FD W a w) (hb : Below w.heap.size w w') : FD W a w' := by
  obtain ⟨e, σ, m, h1, h2⟩ := h
  exact ⟨e, σ, m, h1.grow hb, h2⟩
end Go.Proofs.YtmfimllokjhgmaaGreatDoor.Av
