/- GlacierIdle's further contracts: rounds, a command more, what its end asks for. -/
import Derived.Test.YtjnenioefliggaaGreatDoorGEvAt
import Derived.KernelRfl
set_option linter.unusedVariables false
namespace Go.Proofs.YtjnenioefliggaaGreatDoor.Av
open Go Go.RowKit
variable {C : Nat → Cm}
/-- So many rounds are left at the start; the cluster is v. -/
def Pre2 (C : Nat → Cm) (W : World) (n : Nat) (v : Value) (w : World) : Prop := ∃ ty e σ c, At C W e σ w ∧ VR e c v ∧ rnd n c σ = some (S0 ty, cl)
/-- So many commands were told; all that the run has lies below n. -/
def NowL (C : Nat → Cm) (W : World) (k b n : Nat) (w : World) : Prop := ∃ ty e, At C W e (St ty k) w ∧ VR e cl (.pointer (some ⟨b, 0, none⟩)) ∧ ∀ l b, e.ρ l = some b → b < n
/-- And the Net lies at bn. -/
def NowN (C : Nat → Cm) (W : World) (k b bn n : Nat) (w : World) : Prop := ∃ ty e, At C W e (St ty k) w ∧ VR e cl (.pointer (some ⟨b, 0, none⟩)) ∧ VR e net (.pointer (some ⟨bn, 0, none⟩)) ∧ ∀ l b, e.ρ l = some b → b < n
theorem Now.lim {W w : World} {k b : Nat} (h : Now C W k b w) : NowL C W k b w.heap.size w := by
  obtain ⟨ty, e, h1, h2⟩ := h
  exact ⟨ty, e, h1, h2, h1.rel.lt⟩
theorem NowL.grow {W w w' : World} {k b n : Nat} (h : NowL C W k b n w) (hb : Below w.heap.size w w') : NowL C W k b n w' := by
  obtain ⟨ty, e, h1, h2⟩ := h
  exact ⟨ty, e, h1.grow hb, h2⟩
theorem NowL.now {W w : World} {k b n : Nat} (h : NowL C W k b n w) : Now C W k b w := by
  obtain ⟨ty, e, h1, h2, _⟩ := h
  exact ⟨ty, e, h1, h2⟩
theorem Pre2.grow {W w w' : World} {n : Nat} {v : Value} (h : Pre2 C W n v w) (hb : Below w.heap.size w w') : Pre2 C W n v w' := by
  obtain ⟨ty, e, σ, c, h1, h2⟩ := h
  exact ⟨ty, e, σ, c, h1.grow hb, h2⟩
theorem L0.grow {W w w' : World} (h : L0 C W w) (hb : Below w.heap.size w w') : L0 C W w' := by
  obtain ⟨ty, e, σ, h1, h2⟩ := h
  exact ⟨ty, e, σ, h1.grow hb, h2⟩
theorem L1.grow {W w w' : World} (h : L1 C W w) (hb : Below w.heap.size w w') : L1 C W w' := by
  obtain ⟨ty, e, σ, h1, h2⟩ := h
  exact ⟨ty, e, σ, h1.grow hb, h2⟩
theorem L2.grow {W w w' : World} {b : Nat} (h : L2 C W b w) (hb : Below w.heap.size w w') : L2 C W b w' := by
  obtain ⟨ty, e, σ, u, h1, h2⟩ := h
  exact ⟨ty, e, σ, u, h1.grow hb, h2⟩
def L3 (C : Nat → Cm) (W : World) (v : Value) (w : World) : Prop := ∃ ty e σ c, At C W e σ w ∧ VR e c v ∧ k3 c σ = some (S0 ty, cl)
theorem service2_calls {W w : World} {b : Nat} (hC : CsOk C) (h : L2 C W b w) : Calls Tryz.prog 7 #[.pointer (some ⟨b, 0, none⟩)] w fun x w' => ∃ v, x = .returned v ∧ L3 C W v w' :=
  (service_calls hC h).mono fun x w' ⟨e', c, v, ty, σ, h1, h2, h3, h4⟩ => ⟨v, h1, ty, e', σ, c, h2, h3, h4⟩
theorem cluster2_calls {W w : World} {v : Value} (hC : CsOk C) (h : L3 C W v w) : Calls Tryz.prog 8 #[v] w fun x w' => ∃ u, x = .returned u ∧ Pre2 C W 6 u w' := by
  obtain ⟨ty, e, σ, u, h1, h2, h3⟩ := h
  obtain ⟨v, σ1, h4, h5⟩ := okV_eq h3 (by simp)
  refine (at_call0 hC h1 h4 (.cons _ _ _ _ h2 .nil)).mono fun x w' ⟨v', e', hx, hv, ha, _⟩ => ?_
  subst hx
  exact ⟨v', rfl, ty, e', σ1, v, ha, hv, h5⟩
theorem round2_calls {W w : World} {n : Nat} {u : Value} (hC : CsOk C) (h : Pre2 C W (n + 1) u w) : Calls Tryz.prog 9 #[u] w fun x w' => x = .returned (.tuple #[]) ∧ Pre2 C W n u w' := by
  obtain ⟨ty, e, σ, c, h1, h2, h3⟩ := h
  obtain ⟨v, σ1, h4, h5⟩ := okV_eq (show okV none (run0 9 [c] σ) (fun v σ => cnd (v.eqb undef0) (rnd n c σ) none) = some (S0 ty, cl) from h3) (by simp)
  rcases cnd_eq h5 with ⟨h6, h7⟩ | ⟨_, h7⟩
  · obtain rfl := AV.eqb_eq h6
    refine (at_call0 hC h1 h4 (.cons _ _ _ _ h2 .nil)).mono fun x w' ⟨v', e', hx, hv, ha, hl⟩ => ?_
    subst hx
    cases hv with
    | tup _ l hl2 =>
    cases hl2
    exact ⟨rfl, ty, e', σ1, c, ha, h2.mono hl, h7⟩
  · cases h7
theorem anew2 {W w : World} {e : Env} {σ σ' : AH} {c c' : AV} {x : Value} (h : At C W e σ w) (hv : VR e c x) (hn : anew c σ = some (σ', c')) : ∃ e', At C W e' σ' w ∧ VR e' c' x := by
  obtain ⟨r, h1, h2⟩ := opt_some hn
  obtain ⟨c2, h3, h4⟩ := opt_some h2
  injection h4 with h4
  injection h4 with h5 h6
  subst h5 h6
  obtain ⟨s, vs⟩ := r
  obtain ⟨e', k1, k2⟩ := h.renew (.cons _ _ _ _ hv .nil) h1
  cases k2 with
  | cons x y xs ys hx hxs =>
  have h3 : nth (x :: xs) 0 = some c2 := h3
  rw [nth_eq, List.getElem?_cons_zero] at h3
  injection h3 with h3
  subst h3
  exact ⟨e', k1, hx⟩
theorem clus_cells (ty : Nat → Nat) : ∀ k, k ≤ 10 → ∃ cs t, (St ty k).hp.get 16 = some (.cells (net :: cs) t false none)
  | 0, _ => ⟨_, _, rfl⟩
  | 1, _ => ⟨_, _, rfl⟩
  | 2, _ => ⟨_, _, rfl⟩
  | 3, _ => ⟨_, _, rfl⟩
  | 4, _ => ⟨_, _, rfl⟩
  | 5, _ => ⟨_, _, rfl⟩
  | 6, _ => ⟨_, _, rfl⟩
  | 7, _ => ⟨_, _, rfl⟩
  | 8, _ => ⟨_, _, rfl⟩
  | 9, _ => ⟨_, _, rfl⟩
  | 10, _ => ⟨_, _, rfl⟩
  | k + 11, h => absurd h (by omega)
theorem Pre2.now {W w : World} {v : Value} (h : Pre2 C W 0 v w) : ∃ b, v = .pointer (some ⟨b, 0, none⟩) ∧ Now C W 0 b w := by
  obtain ⟨ty, e, σ, c, h1, h2, h3⟩ := h
  obtain ⟨e', k1, k2⟩ := anew2 h1 h2 h3
  have k3 := k2
  have k2 : VR e' (.ptr (some (16, 0))) v := k2
  cases k2 with
  | ptr _ _ b hb => exact ⟨b, rfl, ty, e', k1, k3⟩
theorem NowL.net {W w : World} {k b n : Nat} (h : NowL C W k b n w) (hk : k ≤ 10) : ∃ bn, NowN C W k b bn n w ∧ w.cell? ⟨b, 0, none⟩ = some (.pointer (some ⟨bn, 0, none⟩)) ∧ b < n := by
  obtain ⟨ty, e, h1, h2, h0⟩ := h
  obtain ⟨cs, t, hg⟩ := clus_cells ty k hk
  obtain ⟨b2, cs', rst, fr, k1, k2, k3, -, -, -⟩ := h1.rel.cells hg
  have hb := h2
  cases hb with
  | ptr _ _ b3 hb =>
  obtain rfl : b = b2 := by rw [hb] at k1; exact Option.some.inj k1
  cases k3 with
  | cons x0 x0' cs0 cs0' hx0 hcs0 =>
  have hn := hx0
  cases hx0 with
  | ptr _ _ bn hbn =>
  have hc : w.cell? ⟨b, 0, none⟩ = some (.pointer (some ⟨bn, 0, none⟩)) := by rw [cell_at k2]; simp
  exact ⟨bn, ⟨ty, e, h1, h2, hn, h0⟩, hc, h0 _ _ hb⟩
theorem at_callF {W w : World} (hC : CsOk C) {e : Env} {σ σ' : AH} {f : Nat} {args : List AV} {args' : List Value} {v : AV} {n : Nat} (h : At C W e σ w) (hr : run f args σ = .ok v σ') (hv : VRs e args args') (hn : ∀ l b, e.ρ l = some b → b < n) :
    Calls Tryz.prog f args'.toArray w fun x w' => ∃ v' e', x = .returned v' ∧ VR e' v v' ∧ At C W e' σ' w' ∧ e.le e' ∧ ∀ b, n ≤ b → b < w.heap.size → w'.heap[b]? = w.heap[b]? := by
  refine (evF_ok (ts_ok (bds_ok hC)) ft_ok (told_ok hC) mixed_ok hr h.rel h.glob hv).mono fun x w' hx => ?_
  cases x with
  | returned v' =>
    obtain ⟨e', h1, h2⟩ := hx
    exact ⟨v', e', rfl, h1, h.step h2, h2.le, fun b hb1 hb2 => h2.frame b hb2 fun l _ _ hl => by have := hn l b hl; omega⟩
  | panicked => exact hx.elim
  | outgrown => exact hx.elim
noncomputable def q2 (σ : AH) : Option (AH × AV) := okV none (run 26 [cl] σ) fun v σ => cnd (v.eqb undef0) (anew cl σ) none
noncomputable def q1 (k : Nat) (σ : AH) : Option (AH × AV) := okV none (run 31 [net, i 0, .sp (.s [.at (Nat.mul 2 k)])] σ) fun v σ => cnd (isTup3 v) (q2 σ) none
/-- The cluster's first cell is the Net yet. -/
noncomputable def headIs (σ : AH) : Bool := match σ.hp.get 16 with
  | some (.cells (x :: _) _ _ _) => x.eqb net
  | _ => false
noncomputable def propH (k : Nat) (σ : AH) : Bool := okV false (run 31 [net, i 0, .sp (.s [.at (Nat.mul 2 k)])] σ) fun _ σ => headIs σ
noncomputable def leadS (k : Nat) (σ : AH) : Bool := okV false (run 30 [net] σ) fun _ σ => cnd (headIs σ) (propH k σ) false
/-- Behind Leader; all that the run has lies below n. -/
def P1 (C : Nat → Cm) (W : World) (k b bn n : Nat) (w : World) : Prop := ∃ ty e σ, At C W e σ w ∧ VR e cl (.pointer (some ⟨b, 0, none⟩)) ∧ VR e net (.pointer (some ⟨bn, 0, none⟩)) ∧ (∀ l b, e.ρ l = some b → b < n) ∧ propH k σ = true ∧ q1 k σ = some (St ty (k + 1), cl)
/-- Behind Net.Propose. -/
def P2 (C : Nat → Cm) (W : World) (k b : Nat) (w : World) : Prop := ∃ ty e σ, At C W e σ w ∧ VR e cl (.pointer (some ⟨b, 0, none⟩)) ∧ q2 σ = some (St ty (k + 1), cl)
theorem P1.grow {W w w' : World} {k b bn n : Nat} (h : P1 C W k b bn n w) (hb : Below w.heap.size w w') : P1 C W k b bn n w' := by
  obtain ⟨ty, e, σ, h1, h2⟩ := h
  exact ⟨ty, e, σ, h1.grow hb, h2⟩
theorem P2.grow {W w w' : World} {k b : Nat} (h : P2 C W k b w) (hb : Below w.heap.size w w') : P2 C W k b w' := by
  obtain ⟨ty, e, σ, h1, h2⟩ := h
  exact ⟨ty, e, σ, h1.grow hb, h2⟩
theorem lead_run (ty : Nat → Nat) : ∀ k, k < 10 → leadS k (St ty k) = true
  | 0, _ => by kernel_rfl
  | 1, _ => by kernel_rfl
  | 2, _ => by kernel_rfl
  | 3, _ => by kernel_rfl
  | 4, _ => by kernel_rfl
  | 5, _ => by kernel_rfl
  | 6, _ => by kernel_rfl
  | 7, _ => by kernel_rfl
  | 8, _ => by kernel_rfl
  | 9, _ => by kernel_rfl
  | k + 10, h => absurd h (by omega)
theorem head_cell {e : Env} {σ : AH} {w : World} {b bn : Nat} (h : headIs σ = true) (hr : Rel e σ w) (hb : VR e cl (.pointer (some ⟨b, 0, none⟩))) (hn : VR e net (.pointer (some ⟨bn, 0, none⟩))) : w.cell? ⟨b, 0, none⟩ = some (.pointer (some ⟨bn, 0, none⟩)) := by
  unfold headIs at h
  split at h
  · rename_i x cs t fz cv hg
    obtain rfl := AV.eqb_eq h
    obtain ⟨b2, cs', rst, fr, k1, k2, k3, -, -, -⟩ := hr.cells hg
    cases hb with
    | ptr _ _ b3 hb =>
    obtain rfl : b = b2 := by rw [hb] at k1; exact Option.some.inj k1
    cases k3 with
    | cons x0 x0' cs0 cs0' hx0 hcs0 =>
    cases hx0 with
    | ptr _ _ bm hbm =>
    cases hn with
    | ptr _ _ bn2 hbn =>
    obtain rfl : bn = bm := by rw [hbn] at hbm; exact Option.some.inj hbm
    rw [cell_at k2]
    simp
  · cases h
theorem leader_calls {W w : World} {k b bn n : Nat} (hC : CsOk C) (h : NowN C W k b bn n w) (hk : k < 10) : Calls Tryz.prog 30 #[.pointer (some ⟨bn, 0, none⟩)] w fun x w' => x = .returned (.int .i64 0) ∧ P1 C W k b bn w'.heap.size w' ∧ w'.cell? ⟨b, 0, none⟩ = some (.pointer (some ⟨bn, 0, none⟩)) ∧ ∀ q, n ≤ q → q < w.heap.size → w'.heap[q]? = w.heap[q]? := by
  obtain ⟨ty, e, h1, h2, h3, h0⟩ := h
  obtain ⟨v, σ1, h4, h5⟩ := okV_eq (show okV none (run 30 [net] (St ty k)) (fun v σ => cnd (v.eqb (i 0)) (q1 k σ) none) = some (St ty (k + 1), cl) from prop_run ty k hk) (by simp)
  have h8 : headIs σ1 = true ∧ propH k σ1 = true := by
    have := lead_run ty k hk
    unfold leadS at this
    rw [h4] at this
    exact and_cnd this
  rcases cnd_eq h5 with ⟨h6, h7⟩ | ⟨_, h7⟩
  · obtain rfl := AV.eqb_eq h6
    refine (at_callF hC h1 h4 (.cons _ _ _ _ h3 .nil) h0).mono fun x w' ⟨v', e', hx, hv, ha, hl, hf⟩ => ?_
    subst hx
    cases hv
    exact ⟨rfl, ⟨ty, e', σ1, ha, h2.mono hl, h3.mono hl, ha.rel.lt, h8.2, h7⟩, head_cell h8.1 ha.rel (h2.mono hl) (h3.mono hl), hf⟩
  · cases h7
theorem npropose_calls {W w : World} {k b bn n : Nat} (hC : CsOk C) (h : P1 C W k b bn n w) : Calls Tryz.prog 31 #[.pointer (some ⟨bn, 0, none⟩), .int .i64 0, .string (bs (encC (C k)))] w fun x w' => ∃ m n', x = .returned (.tuple #[.int .i64 m, .int .i64 n', .int .i64 0]) ∧ P2 C W k b w' ∧ w'.cell? ⟨b, 0, none⟩ = some (.pointer (some ⟨bn, 0, none⟩)) ∧ ∀ q, n ≤ q → q < w.heap.size → w'.heap[q]? = w.heap[q]? := by
  obtain ⟨ty, e, σ, h1, h2, h3, hn, h9, h0⟩ := h
  obtain ⟨v, σ1, h4, h5⟩ := okV_eq h0 (by simp)
  have h8 : headIs σ1 = true := by
    unfold propH at h9
    rw [h4] at h9
    exact h9
  rcases cnd_eq h5 with ⟨h6, h7⟩ | ⟨_, h7⟩
  · have hs : VR e (.sp (.s [.at (Nat.mul 2 k)])) (.string (bs (encC (C k)))) := by
      have := val_at h1.glob.2 (2 * k)
      rwa [atoms_even] at this
    refine (at_callF hC h1 h4 (.cons _ _ _ _ h3 (.cons _ _ _ _ (.int _ _) (.cons _ _ _ _ hs .nil))) hn).mono fun x w' ⟨v', e', hx, hv, ha, hle, hf⟩ => ?_
    subst hx
    unfold isTup3 at h6
    split at h6
    · cases hv with
      | tup _ l hl =>
      cases hl with
      | cons _ x1 _ l1 hx1 hl =>
      cases hl with
      | cons _ x2 _ l2 hx2 hl =>
      cases hl with
      | cons _ x3 _ l3 hx3 hl =>
      cases hl
      cases hx1
      cases hx2
      cases hx3
      exact ⟨_, _, rfl, ⟨ty, e', σ1, ha, h2.mono hle, h7⟩, head_cell h8 ha.rel (h2.mono hle) (h3.mono hle), hf⟩
    · cases h6
  · cases h7
theorem receive_calls {W w : World} {k b : Nat} (hC : CsOk C) (h : P2 C W k b w) : Calls Tryz.prog 26 #[.pointer (some ⟨b, 0, none⟩)] w fun x w' => x = .returned (.tuple #[]) ∧ Now C W (k + 1) b w' := by
  obtain ⟨ty, e, σ, h1, h2, h3⟩ := h
  obtain ⟨v, σ1, h4, h5⟩ := okV_eq h3 (by simp)
  rcases cnd_eq h5 with ⟨h6, h7⟩ | ⟨_, h7⟩
  · obtain rfl := AV.eqb_eq h6
    refine (at_call hC h1 h4 (.cons _ _ _ _ h2 .nil)).mono fun x w' ⟨v', e', hx, hv, ha, hl⟩ => ?_
    subst hx
    cases hv with
    | tup _ l hl2 =>
    cases hl2
    obtain ⟨e2, g1, g2⟩ := ha.anew (h2.mono hl) h7
    exact ⟨rfl, ty, e2, g1, g2⟩
  · cases h7
/-- What the law asks for at its end. -/
noncomputable def f6 (cat w : AV) (σ : AH) : Bool := okV false (run 16 [cat, w] σ) fun l σ => finL l
noncomputable def f5 (cat s : AV) (σ : AH) : Bool := okV false (run 18 [s] σ) fun w σ => f6 cat w σ
noncomputable def f4 (cat : AV) (σ : AH) : Bool := okV false (run 17 [cl] σ) fun s σ => f5 cat s σ
noncomputable def f3 (m : AV) (σ : AH) : Bool := okV false (run 14 [m] σ) fun cat σ => f4 cat σ
noncomputable def f2 (m cat : AV) (σ : AH) : Bool := okV false (run 15 [cat] σ) fun l σ => cnd (finL l) (f3 m σ) false
noncomputable def f1 (m : AV) (σ : AH) : Bool := okV false (run 14 [m] σ) fun cat σ => f2 m cat σ
def E1 (C : Nat → Cm) (W : World) (b : Nat) (a : Addr) (w : World) : Prop := ∃ e σ m, At C W e σ w ∧ VR e cl (.pointer (some ⟨b, 0, none⟩)) ∧ VR e m (.pointer (some a)) ∧ f1 m σ = true
def E2 (C : Nat → Cm) (W : World) (b : Nat) (a : Addr) (v : Value) (w : World) : Prop := ∃ e σ m c, At C W e σ w ∧ VR e cl (.pointer (some ⟨b, 0, none⟩)) ∧ VR e m (.pointer (some a)) ∧ VR e c v ∧ f2 m c σ = true
def E3 (C : Nat → Cm) (W : World) (b : Nat) (a : Addr) (w : World) : Prop := ∃ e σ m, At C W e σ w ∧ VR e cl (.pointer (some ⟨b, 0, none⟩)) ∧ VR e m (.pointer (some a)) ∧ f3 m σ = true
def E4 (C : Nat → Cm) (W : World) (b : Nat) (v : Value) (w : World) : Prop := ∃ e σ c, At C W e σ w ∧ VR e cl (.pointer (some ⟨b, 0, none⟩)) ∧ VR e c v ∧ f4 c σ = true
def E5 (C : Nat → Cm) (W : World) (v u : Value) (w : World) : Prop := ∃ e σ c s, At C W e σ w ∧ VR e c v ∧ VR e s u ∧ f5 c s σ = true
def E6 (C : Nat → Cm) (W : World) (v u : Value) (w : World) : Prop := ∃ e σ c s, At C W e σ w ∧ VR e c v ∧ VR e s u ∧ f6 c s σ = true
theorem E1.grow {W w w' : World} {b : Nat} {a : Addr} (h : E1 C W b a w) (hb : Below w.heap.size w w') : E1 C W b a w' := by
  obtain ⟨e, σ, m, h1, h2⟩ := h
  exact ⟨e, σ, m, h1.grow hb, h2⟩
theorem E3.grow {W w w' : World} {b : Nat} {a : Addr} (h : E3 C W b a w) (hb : Below w.heap.size w w') : E3 C W b a w' := by
  obtain ⟨e, σ, m, h1, h2⟩ := h
  exact ⟨e, σ, m, h1.grow hb, h2⟩
theorem finL_len {e : Env} {l : AV} {x : Value} (h : finL l = true) (hv : VR e l x) : ∃ A c, x = .slice A 0 c := by
  unfold finL at h
  split at h
  · cases hv
    exact ⟨_, _, rfl⟩
  · cases hv <;> exact ⟨_, _, rfl⟩
  · cases h
theorem isP_ptr {e : Env} {l : AV} {x : Value} (h : isP l = true) (hv : VR e l x) : ∃ a, x = .pointer (some a) := by
  unfold isP at h
  split at h
  · cases hv
    exact ⟨_, rfl⟩
  · cases h
theorem furthest_calls {W w : World} {k b : Nat} (hC : CsOk C) (h : Now C W k b w) (hk : k ≤ 10) : Calls Tryz.prog 13 #[.pointer (some ⟨b, 0, none⟩)] w fun x w' => ∃ a, x = .returned (.pointer (some a)) ∧ E1 C W b a w' := by
  obtain ⟨ty, e, h1, h2⟩ := h
  obtain ⟨v, σ1, h4, h5⟩ := okV_eq (show okV false (run 13 [cl] (St ty k)) (fun m σ => cnd (isP m) (f1 m σ) false) = true from fin_run ty k hk) (by simp)
  rcases cnd_eq h5 with ⟨h6, h7⟩ | ⟨_, h7⟩
  · refine (at_call hC h1 h4 (.cons _ _ _ _ h2 .nil)).mono fun x w' ⟨v', e', hx, hv, ha, hl⟩ => ?_
    subst hx
    obtain ⟨a, rfl⟩ := isP_ptr h6 hv
    exact ⟨a, rfl, e', σ1, v, ha, h2.mono hl, hv, h7⟩
  · cases h7
theorem catalog1_calls {W w : World} {b : Nat} {a : Addr} (hC : CsOk C) (h : E1 C W b a w) : Calls Tryz.prog 14 #[.pointer (some a)] w fun x w' => ∃ v, x = .returned v ∧ E2 C W b a v w' := by
  obtain ⟨e, σ, m, h1, h2, h3, h0⟩ := h
  obtain ⟨v, σ1, h4, h5⟩ := okV_eq h0 (by simp)
  refine (at_call hC h1 h4 (.cons _ _ _ _ h3 .nil)).mono fun x w' ⟨v', e', hx, hv, ha, hl⟩ => ?_
  exact ⟨v', hx, e', σ1, m, v, ha, h2.mono hl, h3.mono hl, hv, h5⟩
theorem blobs_calls {W w : World} {b : Nat} {a : Addr} {u : Value} (hC : CsOk C) (h : E2 C W b a u w) : Calls Tryz.prog 15 #[u] w fun x w' => ∃ A c, x = .returned (.slice A 0 c) ∧ E3 C W b a w' := by
  obtain ⟨e, σ, m, c, h1, h2, h3, h8, h0⟩ := h
  obtain ⟨v, σ1, h4, h5⟩ := okV_eq h0 (by simp)
  rcases cnd_eq h5 with ⟨h6, h7⟩ | ⟨_, h7⟩
  · refine (at_call hC h1 h4 (.cons _ _ _ _ h8 .nil)).mono fun x w' ⟨v', e', hx, hv, ha, hl⟩ => ?_
    subst hx
    obtain ⟨A, c, rfl⟩ := finL_len h6 hv
    exact ⟨A, c, rfl, e', σ1, m, ha, h2.mono hl, h3.mono hl, h7⟩
  · cases h7
theorem catalog2_calls {W w : World} {b : Nat} {a : Addr} (hC : CsOk C) (h : E3 C W b a w) : Calls Tryz.prog 14 #[.pointer (some a)] w fun x w' => ∃ v, x = .returned v ∧ E4 C W b v w' := by
  obtain ⟨e, σ, m, h1, h2, h3, h0⟩ := h
  obtain ⟨v, σ1, h4, h5⟩ := okV_eq h0 (by simp)
  refine (at_call hC h1 h4 (.cons _ _ _ _ h3 .nil)).mono fun x w' ⟨v', e', hx, hv, ha, hl⟩ => ?_
  exact ⟨v', hx, e', σ1, v, ha, h2.mono hl, hv, h5⟩
theorem site_calls {W w : World} {b : Nat} {u : Value} (hC : CsOk C) (h : E4 C W b u w) : Calls Tryz.prog 17 #[.pointer (some ⟨b, 0, none⟩)] w fun x w' => ∃ v, x = .returned v ∧ E5 C W u v w' := by
  obtain ⟨e, σ, c, h1, h2, h3, h0⟩ := h
  obtain ⟨v, σ1, h4, h5⟩ := okV_eq h0 (by simp)
  refine (at_call hC h1 h4 (.cons _ _ _ _ h2 .nil)).mono fun x w' ⟨v', e', hx, hv, ha, hl⟩ => ?_
  exact ⟨v', hx, e', σ1, c, v, ha, h3.mono hl, hv, h5⟩
theorem world_calls {W w : World} {u s : Value} (hC : CsOk C) (h : E5 C W u s w) : Calls Tryz.prog 18 #[s] w fun x w' => ∃ v, x = .returned v ∧ E6 C W u v w' := by
  obtain ⟨e, σ, c, s, h1, h2, h3, h0⟩ := h
  obtain ⟨v, σ1, h4, h5⟩ := okV_eq h0 (by simp)
  refine (at_call hC h1 h4 (.cons _ _ _ _ h3 .nil)).mono fun x w' ⟨v', e', hx, hv, ha, hl⟩ => ?_
  exact ⟨v', hx, e', σ1, c, v, ha, h2.mono hl, hv, h5⟩
theorem jobs_calls {W w : World} {u s : Value} (hC : CsOk C) (h : E6 C W u s w) : Calls Tryz.prog 16 #[u, s] w fun x w' => ∃ A c, x = .returned (.slice A 0 c) ∧ Below W.heap.size W w' := by
  obtain ⟨e, σ, c, s, h1, h2, h3, h0⟩ := h
  obtain ⟨v, σ1, h4, h5⟩ := okV_eq h0 (by simp)
  refine (at_call hC h1 h4 (.cons _ _ _ _ h2 (.cons _ _ _ _ h3 .nil))).mono fun x w' ⟨v', e', hx, hv, ha, hl⟩ => ?_
  subst hx
  obtain ⟨A, c, rfl⟩ := finL_len h5 hv
  exact ⟨A, c, rfl, ha.below⟩
end Go.Proofs.YtjnenioefliggaaGreatDoor.Av
