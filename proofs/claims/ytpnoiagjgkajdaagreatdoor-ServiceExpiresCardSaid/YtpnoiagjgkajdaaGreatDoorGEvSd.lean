/- The evaluator is sound: regions whose order is drawn, code, calls; labels laid anew. -/
import Derived.Test.YtpnoiagjgkajdaaGreatDoorGEvSc
set_option linter.unusedVariables false
set_option linter.unusedSimpArgs false
noncomputable section
namespace Go.Proofs.YtpnoiagjgkajdaaGreatDoor.Av
open Go
section
variable {P : Program} {I : SX → Value → Prop} {tt : TT} {e e1 : Env} {σ σ0 σ1 σ' : AH} {w w' : World} {g g' g1 : Tr AV} {B n m : Nat} {all : Array Oper} {o : Oper} {call : Nat → List AV → AH → RV} {rs : List Rec} {a a' : Act} {listed : Array Bool} {Q : Exit → Act → World → Prop} {base : Nat} {p' : Pend}
theorem set_D {i : Nat} (hi : i < listed.size) (k : Nat) : (listed.setIfInBounds i true).getD k false = true ↔ listed.getD k false = true ∨ k = i := by
  rw [Array.getD_eq_getD_getElem?, Array.getElem?_setIfInBounds, Array.getD_eq_getD_getElem?]
  by_cases h : i = k
  · subst h
    rw [if_pos rfl, if_pos hi]
    simp
  · rw [if_neg h]
    constructor
    · exact .inl
    · rintro (h1 | h1)
      · exact h1
      · exact absurd h1.symm h
theorem not_D {b : Bool} : (b = true → False) ↔ b = false := by cases b <;> simp
theorem aE_lt {j : Nat} (h : j ∈ aE tt all) : j < all.toList.length := by
  obtain ⟨o, h1, _⟩ := aE_ok.1 h
  rcases Nat.lt_or_ge j all.toList.length with hlt | hge
  · exact hlt
  · rw [List.getElem?_eq_none hge] at h1; cases h1
theorem DInv.le (hD : DInv P tt B I n all base g e σ w rs g' σ' a listed a' w' e1 g1 m) : m ≤ all.toList.length := by
  rcases hD.mm with rfl | ⟨j, hj, rfl⟩
  · exact Nat.zero_le _
  · exact aE_lt hj
theorem put_hp (τ : AH) (L : Nat) (o : AO) (k : Nat) : (τ.put L o).hp.get k = if k = L then some o else τ.hp.get k := by
  obtain ⟨h0, nn, c, lb⟩ := τ
  show (Tr.put h0 L (some o)).get k = _
  rw [Tr.get_put]
  rfl
theorem put_nx (τ : AH) (L : Nat) (o : AO) : (τ.put L o).nx = τ.nx := by cases τ; rfl
/-- What was hidden is shown. -/
theorem Step.show {τ : AH} (h : Step e σ w e1 τ w') {L b : Nat} {o : AO} (hb : e1.ρ L = some b) (ho : OR e1 w' b o) (hs : w.heap.size ≤ b) (hn : ∀ l, (τ.hp.get l).isSome = true → e1.ρ l ≠ some b) : Step e σ w e1 (τ.put L o) w' where
  le := h.le
  rel := h.rel.show hb ho hn
  os := h.os
  tape := h.tape
  output := h.output
  size := h.size
  frame := h.frame
  own l x hl hs' hx := by
    rw [put_hp] at hs'
    split at hs'
    · rename_i he
      subst he
      rw [hb] at hx
      injection hx with hx
      exact .inr (hx ▸ hs)
    · exact h.own l x hl hs' hx
  nxle := by rw [put_nx]; exact h.nxle
  keep := h.keep
theorem shows_step {f : Nat → Bool} : ∀ {p : Pend} {τ : AH}, Step e σ w e1 τ w' → (∀ x ∈ p, f x.1 = true → ∃ b, e1.ρ x.2.1 = some b ∧ OR e1 w' b x.2.2 ∧ w.heap.size ≤ b ∧ ∀ l, (τ.hp.get l).isSome = true → e1.ρ l ≠ some b) →
    p.Pairwise (fun x y => y.1 < x.1) → (∀ x ∈ p, ∀ y ∈ p, f x.1 = true → f y.1 = true → ∀ b, e1.ρ x.2.1 = some b → e1.ρ y.2.1 = some b → x.1 = y.1) →
    Step e σ w e1 (shows f p τ) w' ∧ (shows f p τ).nx = τ.nx ∧ ∀ l, ((shows f p τ).hp.get l).isSome = true → (τ.hp.get l).isSome = true ∨ ∃ x ∈ p, f x.1 = true ∧ x.2.1 = l
  | [], τ, h, _, _, _ => ⟨h, rfl, fun l hl => .inl hl⟩
  | x :: p, τ, h, hp, hw, hi => by
    have hw' := List.pairwise_cons.1 hw
    have hi' : ∀ x ∈ p, ∀ y ∈ p, f x.1 = true → f y.1 = true → ∀ b, e1.ρ x.2.1 = some b → e1.ρ y.2.1 = some b → x.1 = y.1 := fun y hy z hz => hi y (List.mem_cons_of_mem _ hy) z (List.mem_cons_of_mem _ hz)
    show Step e σ w e1 (shows f p (cnd (f x.1) (τ.put x.2.1 x.2.2) τ)) w' ∧ (shows f p (cnd (f x.1) (τ.put x.2.1 x.2.2) τ)).nx = τ.nx ∧ ∀ l, ((shows f p (cnd (f x.1) (τ.put x.2.1 x.2.2) τ)).hp.get l).isSome = true → _
    cases hf : f x.1 with
    | false =>
      obtain ⟨h1, h2, h3⟩ := shows_step h (fun y hy => hp y (List.mem_cons_of_mem _ hy)) hw'.2 hi'
      refine ⟨h1, h2, fun l hl => ?_⟩
      rcases h3 l hl with h4 | ⟨y, h4, h5, h6⟩
      · exact .inl h4
      · exact .inr ⟨y, List.mem_cons_of_mem _ h4, h5, h6⟩
    | true =>
      obtain ⟨b, k1, k2, k3, k4⟩ := hp x List.mem_cons_self hf
      obtain ⟨h1, h2, h3⟩ := shows_step (h.show k1 k2 k3 k4) (fun y hy hfy => by
        obtain ⟨b', q1, q2, q3, q4⟩ := hp y (List.mem_cons_of_mem _ hy) hfy
        refine ⟨b', q1, q2, q3, fun l hl hll => ?_⟩
        rw [put_hp] at hl
        split at hl
        · rename_i he
          subst he
          have := hi x List.mem_cons_self y (List.mem_cons_of_mem _ hy) hf hfy b' hll q1
          have := hw'.1 y hy
          omega
        · exact q4 l hl hll) hw'.2 hi'
      refine ⟨h1, h2.trans (put_nx _ _ _), fun l hl => ?_⟩
      rcases h3 l hl with h4 | ⟨y, h4, h5, h6⟩
      · rw [put_hp] at h4
        split at h4
        · rename_i he
          exact .inr ⟨x, List.mem_cons_self, hf, he.symm⟩
        · exact .inl h4
      · exact .inr ⟨y, List.mem_cons_of_mem _ h4, h5, h6⟩
/-- Those that are shown where an operation wants them. -/
theorem DInv.shown (hL : Laid tt call all base g σ0 rs g' σ' p') (hD : DInv P tt B I n all base g e σ w rs g' σ' a listed a' w' e1 g1 m) {i : Nat} (hi : i ≤ all.toList.length) (hmi : m ≤ i) (hS : stAt rs σ' m = stAt rs σ' i) {f : Nat → Bool} (hf : ∀ k, f k = true → listed.getD k false = true) :
    Step e σ w e1 (shows f (pAt rs p' i) (stAt rs σ' i)) w' ∧ (shows f (pAt rs p' i) (stAt rs σ' i)).nx = (stAt rs σ' i).nx ∧ ∀ l, ((shows f (pAt rs p' i) (stAt rs σ' i)).hp.get l).isSome = true → ((stAt rs σ' i).hp.get l).isSome = true ∨ ∃ k, l = base + k ∧ f k = true ∧ Hid tt all m k := by
  obtain ⟨h1, h2⟩ := hL.pMem i hi
  have hH : ∀ k, (memN k (aF tt all) = true ∧ ∀ j ∈ aE tt all, j < i → ancB (aA all) j k = false) → Hid tt all m k := fun k ⟨q1, q2⟩ => ⟨q1, fun j hj hlt => q2 j hj (by omega)⟩
  have hst := hD.step
  rw [hS] at hst
  obtain ⟨k1, k2, k3⟩ := shows_step (f := f) (p := pAt rs p' i) hst (fun x hx hfx => by
    obtain ⟨k, q1, q2, rfl, q3⟩ := (h1 x).1 hx
    have := hD.hid k (hH k ⟨q2, q3⟩) (hf k hfx)
    rw [hS] at this
    exact this) h2 (fun x hx y hy hfx hfy b hb hb' => by
    obtain ⟨k, q1, q2, rfl, q3⟩ := (h1 x).1 hx
    obtain ⟨k', q4, q5, rfl, q6⟩ := (h1 y).1 hy
    exact hD.hinj k k' b (hH k ⟨q2, q3⟩) (hH k' ⟨q5, q6⟩) (hf k hfx) (hf k' hfy) hb hb')
  refine ⟨k1, k2, fun l hl => ?_⟩
  rcases k3 l hl with h4 | ⟨x, hx, hfx, rfl⟩
  · exact .inl h4
  · obtain ⟨k, q1, q2, rfl, q3⟩ := (h1 x).1 hx
    exact .inr ⟨k, rfl, hfx, hH k ⟨q2, q3⟩⟩
theorem DInv.done (hL : Laid tt call all base g σ0 rs g' σ' p') (hD : DInv P tt B I n all base g e σ w rs g' σ' a listed a' w' e1 g1 m) (hall : ∀ i o, all.toList[i]? = some o → listed.getD i false = true)
    (hQ : ∀ e' a' w', Step e σ w e' (shows (fun _ => true) p' σ') w' → FR e' g' a' → a'.tmps.size = n → a'.defers = a.defers → Q .normal a' w') : Q .normal a' w' := by
  obtain ⟨c1, -⟩ := canon_ok hL.can
  have hnone : nth rs all.toList.length = none := by rw [nth_eq, List.getElem?_eq_none (by omega)]
  have hS0 : stAt rs σ' all.toList.length = σ' := by
    unfold stAt
    rw [hnone]
    rfl
  have hP0 : pAt rs p' all.toList.length = p' := by
    unfold pAt
    rw [hnone]
    rfl
  have hS : stAt rs σ' m = stAt rs σ' all.toList.length := hL.sSame all.toList.length (Nat.le_refl _) m hD.le fun j h1 h2 h3 => by
    obtain ⟨o, h4, _⟩ := aE_ok.1 h3
    have := (hD.eff j h3).1 (hall j o h4)
    omega
  have hG : gAt rs g' all.toList.length = g' := by
    unfold gAt
    rw [hnone]
    rfl
  have hdn : ∀ x ∈ pAt rs p' all.toList.length, listed.getD x.1 false = true := fun x hx => by
    obtain ⟨k, q1, _, rfl, _⟩ := ((hL.pMem _ (Nat.le_refl _)).1 x).1 hx
    exact hall k _ (List.getElem?_eq_getElem q1)
  have hsh : ∀ (p : Pend) (τ : AH), (∀ x ∈ p, listed.getD x.1 false = true) → shows (fun _ => true) p τ = shows (fun k => listed.getD k false) p τ := fun p => by
    induction p with
    | nil => intro τ _; rfl
    | cons x p ih =>
      intro τ hx
      show shows (fun _ => true) p (cnd true (τ.put x.2.1 x.2.2) τ) = shows (fun k => listed.getD k false) p (cnd (listed.getD x.1 false) (τ.put x.2.1 x.2.2) τ)
      rw [hx x List.mem_cons_self]
      exact ih _ fun y hy => hx y (List.mem_cons_of_mem _ hy)
  obtain ⟨hst, -, -⟩ := hD.shown hL (Nat.le_refl _) hD.le hS (f := fun k => listed.getD k false) fun k hk => hk
  rw [← hsh _ _ hdn, hS0, hP0] at hst
  refine hQ e1 a' w' hst (fun t => ?_) hD.sz hD.df
  have ht : g1.get t = g'.get t := by
    rw [← hG]
    by_cases hex : ∃ (j : Nat) (p : Oper), all.toList[j]? = some p ∧ p.dst = some t
    · obtain ⟨j, p, h1, h2⟩ := hex
      have hlt : j < all.toList.length := by
        rcases Nat.lt_or_ge j all.toList.length with hlt | hge
        · exact hlt
        · rw [List.getElem?_eq_none hge] at h1; cases h1
      rw [hD.tin j t p h1 h2 (hall j p h1), hL.gIn _ (Nat.le_refl _) j t p hlt h1 h2]
    · rw [hD.tout t fun j p h1 h2 => absurd ⟨j, p, h1, h2⟩ hex, hL.gOut _ (Nat.le_refl _) t fun j p _ h1 h2 => hex ⟨j, p, h1, h2⟩]
  have : opnd g' (.tmp t) = opnd g1 (.tmp t) := by
    show opt undef0 (g'.get t) (fun v => v) = opt undef0 (g1.get t) fun v => v
    rw [ht]
  rw [this]
  exact hD.fr t
theorem DInv.anc1 (hD : DInv P tt B I n all base g e σ w rs g' σ' a listed a' w' e1 g1 m) {i : Nat} (hi : all.toList[i]? = some o) (hedge : ∀ x ∈ o.after.toList, Region.binds .any x = true → listed.getD x.on false = true) {j : Nat} (h : ancB (aA all) i j = true) : j < i ∧ listed.getD j false = true := by
  obtain ⟨h1, h2⟩ := anc_ok (D := fun k => listed.getD k false = true ∨ k = i) (fun i' o' ho' hD' x hx hb => by
    rcases hD' with h3 | rfl
    · exact .inl (hD.closed i' o' ho' h3 x hx hb)
    · rw [hi] at ho'
      injection ho' with ho'
      subst ho'
      exact .inl (hedge x hx hb)) h
  refine ⟨h1, ?_⟩
  rcases h2 (.inr rfl) with h3 | h3
  · exact h3
  · omega
theorem DInv.anc2 (hD : DInv P tt B I n all base g e σ w rs g' σ' a listed a' w' e1 g1 m) {i : Nat} (hnot : listed.getD i false = false) {j : Nat} (h : ancB (aA all) j i = true) : i < j ∧ listed.getD j false = false := by
  obtain ⟨h1, h2⟩ := anc_ok (D := fun k => listed.getD k false = true) hD.closed h
  exact ⟨h1, not_D.1 fun h3 => by rw [h2 h3] at hnot; cases hnot⟩
theorem DInv.reads (hL : Laid tt call all base g σ0 rs g' σ' p') (hD : DInv P tt B I n all base g e σ w rs g' σ' a listed a' w' e1 g1 m) {i : Nat} (hi : all.toList[i]? = some o) (hnot : listed.getD i false = false) (hedge : ∀ x ∈ o.after.toList, Region.binds .any x = true → listed.getD x.on false = true) :
    ∀ t ∈ o.looksAt all, g1.get t = (gAt rs g' i).get t := fun t ht => by
  have hile : i ≤ all.toList.length := by
    rcases Nat.lt_or_ge i all.toList.length with hlt | hge
    · omega
    · rw [List.getElem?_eq_none hge] at hi; cases hi
  by_cases hex : ∃ (j : Nat) (p : Oper), all.toList[j]? = some p ∧ p.dst = some t
  · obtain ⟨j, p, h1, h2⟩ := hex
    have uniq : ∀ (k : Nat) (q : Oper), all.toList[k]? = some q → q.dst = some t → k = j := fun k q h3 h4 => by
      by_cases hk : k = j
      · exact hk
      · exact absurd h4 (hL.dst_ne h3 h1 hk h2)
    by_cases hji : j = i
    · subst hji
      rw [hD.tout t fun k q h3 h4 => by rw [uniq k q h3 h4]; exact hnot, hL.gOut _ hile t fun k q h5 h3 h4 => by have := uniq k q h3 h4; omega]
    · rcases hL.read hi h1 (Ne.symm hji) h2 ht with h3 | h3
      · obtain ⟨h4, h5⟩ := hD.anc1 hi hedge h3
        rw [hD.tin j t p h1 h2 h5, hL.gIn _ hile j t p h4 h1 h2]
      · obtain ⟨h4, h5⟩ := hD.anc2 hnot h3
        rw [hD.tout t fun k q h6 h7 => by rw [uniq k q h6 h7]; exact h5, hL.gOut _ hile t fun k q h8 h6 h7 => by have := uniq k q h6 h7; omega]
  · rw [hD.tout t fun j p h1 h2 => absurd ⟨j, p, h1, h2⟩ hex, hL.gOut _ hile t fun j p _ h1 h2 => hex ⟨j, p, h1, h2⟩]
/-- What an operation adds to the frame, and to what is done. -/
theorem DInv.add (hL : Laid tt call all base g σ0 rs g' σ' p') (hok : okOps B n all.toList = true) (hD : DInv P tt B I n all base g e σ w rs g' σ' a listed a' w' e1 g1 m) {i : Nat} (hi : all.toList[i]? = some o) (hnot : listed.getD i false = false) (hedge : ∀ x ∈ o.after.toList, Region.binds .any x = true → listed.getD x.on false = true)
    {e2 : Env} {w2 : World} {u' : Value} {m' : Nat} (hle : e1.le e2) (hs : Step e σ w e2 (stAt rs σ' m') w2) (hu : VR e2 (uAt rs i) u') (hmm : m' = 0 ∨ ∃ j ∈ aE tt all, m' = j + 1) (heff : ∀ j ∈ aE tt all, (listed.getD j false = true ∨ j = i) ↔ j < m')
    (hnx : ∀ k, memN k (aF tt all) = true → base + k < (stAt rs σ' m').nx) (hund : ∀ k, memN k (aF tt all) = true → listed.getD k false = false → k ≠ i → e2.ρ (base + k) = none)
    (hhid : ∀ k, Hid tt all m' k → listed.getD k false = true ∨ k = i → ∃ b, e2.ρ (base + k) = some b ∧ OR e2 w2 b (oAt tt all rs g' base k) ∧ w.heap.size ≤ b ∧ ∀ l, ((stAt rs σ' m').hp.get l).isSome = true → e2.ρ l ≠ some b)
    (hhinj : ∀ k k' b, Hid tt all m' k → Hid tt all m' k' → listed.getD k false = true ∨ k = i → listed.getD k' false = true ∨ k' = i → e2.ρ (base + k) = some b → e2.ρ (base + k') = some b → k = k') :
    DInv P tt B I n all base g e σ w rs g' σ' a (listed.setIfInBounds i true) (a'.put o.dst u') w2 e2 (putD g1 o.dst (uAt rs i)) m' := by
  have hlt : i < listed.size := by
    rw [hD.size, ← Array.length_toList]
    rcases Nat.lt_or_ge i all.toList.length with hlt | hge
    · exact hlt
    · rw [List.getElem?_eq_none hge] at hi; cases hi
  obtain ⟨-, k2⟩ := okOps_at hok i o hi
  have hd : ∀ t, o.dst = some t → t < a'.tmps.size := fun t ht => by
    rw [ht] at k2
    have : Nat.blt t n = true := k2
    rw [Nat.blt_eq] at this
    rw [hD.sz]; exact this
  refine ⟨by simpa using hD.size, fun i' o' ho' h1 x hx hb => ?_, hD.rel0, hD.bs, hs, (hD.fr.mono hle).put hd hu, (put_size _ _ _).trans hD.sz, (put_defers _ _ _).trans hD.df, hD.gl.mono hle, hmm, fun j hj => (set_D hlt j).trans (heff j hj), fun j t p hp ht h1 => ?_, fun t h1 => ?_, hnx, fun k hk h1 => ?_, fun k hk h1 => hhid k hk ((set_D hlt k).1 h1), fun k k' b hk hk' h1 h2 => hhinj k k' b hk hk' ((set_D hlt k).1 h1) ((set_D hlt k').1 h2)⟩
  · rw [set_D hlt] at h1 ⊢
    rcases h1 with h1 | rfl
    · exact .inl (hD.closed i' o' ho' h1 x hx hb)
    · rw [hi] at ho'
      injection ho' with ho'
      subst ho'
      exact .inl (hedge x hx hb)
  · rw [putD_get]
    rcases (set_D hlt j).1 h1 with h1 | rfl
    · have hne : i ≠ j := by rintro rfl; rw [hnot] at h1; cases h1
      rw [if_neg (hL.dst_ne hi hp hne ht)]
      exact hD.tin j t p hp ht h1
    · rw [hi] at hp
      injection hp with hp
      subst hp
      rw [if_pos ht]
  · rw [putD_get, if_neg fun ho => by
      have := h1 i o hi ho
      rw [(set_D hlt i).2 (.inr rfl)] at this
      cases this]
    exact hD.tout t fun j p hp ht => not_D.1 fun h2 => by
      have := h1 j p hp ht
      rw [(set_D hlt j).2 (.inl h2)] at this
      cases this
  · refine hund k hk (not_D.1 fun h2 => ?_) ?_
    · rw [(set_D hlt k).2 (.inl h2)] at h1; cases h1
    · rintro rfl
      rw [(set_D hlt k).2 (.inr rfl)] at h1; cases h1
/-- An operation that looks at what is shown. -/
theorem DInv.next (hL : Laid tt call all base g σ0 rs g' σ' p') (hok : okOps B n all.toList = true) (hD : DInv P tt B I n all base g e σ w rs g' σ' a listed a' w' e1 g1 m) {i : Nat} (hi : all.toList[i]? = some o) (hnot : listed.getD i false = false) (hedge : ∀ x ∈ o.after.toList, Region.binds .any x = true → listed.getD x.on false = true)
    {e2 : Env} {w2 : World} {u' : Value} {m' : Nat} {τ : AH} (hfi : memN i (aF tt all) = false) (h0 : Step e σ w e1 τ w') (hτ : τ.nx = (stAt rs σ' m).nx) (hs : Step e1 τ w' e2 (stAt rs σ' m') w2) (hu : VR e2 (uAt rs i) u') (hmm : m' = 0 ∨ ∃ j ∈ aE tt all, m' = j + 1) (heff : ∀ j ∈ aE tt all, (listed.getD j false = true ∨ j = i) ↔ j < m')
    (hH : ∀ k, Hid tt all m' k → Hid tt all m k) (hlive : ∀ l, (τ.hp.get l).isSome = true → ((stAt rs σ' m).hp.get l).isSome = true ∨ ∃ k, l = base + k ∧ listed.getD k false = true ∧ Hid tt all m k ∧ ¬ Hid tt all m' k) :
    DInv P tt B I n all base g e σ w rs g' σ' a (listed.setIfInBounds i true) (a'.put o.dst u') w2 e2 (putD g1 o.dst (uAt rs i)) m' := by
  have hne : ∀ k, Hid tt all m' k → listed.getD k false = true ∨ k = i → listed.getD k false = true := fun k hk h1 => by
    rcases h1 with h1 | rfl
    · exact h1
    · rw [hk.1] at hfi; cases hfi
  have hkey : ∀ k, Hid tt all m' k → listed.getD k false = true → ∃ b, e1.ρ (base + k) = some b ∧ e2.ρ (base + k) = some b ∧ OR e2 w2 b (oAt tt all rs g' base k) ∧ w.heap.size ≤ b ∧ ∀ l, ((stAt rs σ' m').hp.get l).isSome = true → e2.ρ l ≠ some b := fun k hk h1 => by
    obtain ⟨b, q1, q2, q3, q4⟩ := hD.hid k (hH k hk) h1
    have hnl : ∀ l, (τ.hp.get l).isSome = true → e1.ρ l ≠ some b := fun l hl hll => by
      rcases hlive l hl with h2 | ⟨k', rfl, h2, h3, h4⟩
      · exact q4 l h2 hll
      · have := hD.hinj k' k b h3 (hH k hk) h2 h1 hll q1
        subst this
        exact h4 hk
    have hlt := h0.rel.lt _ _ q1
    refine ⟨b, q1, hs.le.1 _ _ q1, q2.mono hs.le (hs.frame b hlt fun l _ hl => hnl l hl), q3, fun l hl hll => ?_⟩
    rcases Nat.lt_or_ge l 16 with h16 | h16
    · have h5 : l < σ.nx := Nat.lt_of_lt_of_le h16 hD.rel0.nx
      have h6 := hs.keep l (Nat.lt_of_lt_of_le h5 h0.nxle)
      have h7 := h0.keep l h5
      rw [h6, h7] at hll
      have := hD.rel0.lt _ _ hll
      omega
    · rcases hs.own l b h16 hl hll with ⟨l0, _, h3, h4⟩ | h3
      · exact hnl l0 h3 h4
      · omega
  refine hD.add hL hok hi hnot hedge hs.le (h0.trans hs) hu hmm heff (fun k hk => ?_) (fun k hk h1 _ => ?_) (fun k hk h1 => ?_) fun k k' b hk hk' h1 h2 hb hb' => ?_
  · have := hD.nx k hk
    have := hs.nxle
    omega
  · rw [hs.keep _ (by rw [hτ]; exact hD.nx k hk)]
    exact hD.und k hk h1
  · obtain ⟨b, _, q2⟩ := hkey k hk (hne k hk h1)
    exact ⟨b, q2⟩
  · obtain ⟨b1, q1, q2, _⟩ := hkey k hk (hne k hk h1)
    obtain ⟨b2, q3, q4, _⟩ := hkey k' hk' (hne k' hk' h2)
    rw [hb] at q2
    rw [hb'] at q4
    injection q2 with q2
    injection q4 with q4
    subst q2
    subst q4
    exact hD.hinj k k' _ (hH k hk) (hH k' hk') (hne k hk h1) (hne k' hk' h2) q1 q3
theorem Step.hide {τ : AH} (h : Step e σ w e1 τ w') {L : Nat} (hn : e1.ρ L = none) (h1 : σ.nx ≤ L) (h2 : L < τ.nx) (ob : Obj) : Step e σ w (e1.new L w'.heap.size) τ { w' with heap := w'.heap.push ob } where
  le := h.le.trans (Env.new_le hn)
  rel := h.rel.hide hn h2 ob
  os := h.os
  tape := h.tape
  output := h.output
  size := by have := h.size; simp only [Array.size_push]; omega
  frame b hb hl := by
    have := h.size
    show (w'.heap.push ob)[b]? = _
    rw [Array.getElem?_push, if_neg (by omega)]
    exact h.frame b hb hl
  own l b hl hs hb := by
    refine h.own l b hl hs ?_
    have hb : (if l = L then some w'.heap.size else e1.ρ l) = some b := hb
    split at hb
    · rename_i he
      subst he
      obtain ⟨o, ho⟩ := Option.isSome_iff_exists.1 hs
      obtain ⟨x, q1, _⟩ := h.rel.obj l o ho
      rw [q1] at hn
      cases hn
    · exact hb
  nxle := h.nxle
  keep l hl := (show (if l = L then some w'.heap.size else e1.ρ l) = _ by rw [if_neg (by omega)]; exact h.keep l hl)
/-- What is made in no fixed order. -/
theorem DInv.free (hL : Laid tt call all base g σ0 rs g' σ' p') (hok : okOps B n all.toList = true) (hD : DInv P tt B I n all base g e σ w rs g' σ' a listed a' w' e1 g1 m) {i : Nat} (hi : all.toList[i]? = some o) (hnot : listed.getD i false = false) (hedge : ∀ x ∈ o.after.toList, Region.binds .any x = true → listed.getD x.on false = true)
    {ob : Obj} {u' : Value} (hfi : memN i (aF tt all) = true) (hu : ∀ e' : Env, e'.ρ (base + i) = some w'.heap.size → VR e' (uAt rs i) u') (ho : ∀ b w2, w2.heap[b]? = some ob → OR e1 w2 b (oAt tt all rs g' base i)) :
    DInv P tt B I n all base g e σ w rs g' σ' a (listed.setIfInBounds i true) (a'.put o.dst u') { w' with heap := w'.heap.push ob } (e1.new (base + i) w'.heap.size) (putD g1 o.dst (uAt rs i)) m := by
  have hn := hD.und i hfi hnot
  have hle : e1.le (e1.new (base + i) w'.heap.size) := Env.new_le hn
  have hnew : (e1.new (base + i) w'.heap.size).ρ (base + i) = some w'.heap.size := if_pos rfl
  have hρ : ∀ l, l ≠ base + i → (e1.new (base + i) w'.heap.size).ρ l = e1.ρ l := fun l hl => if_neg hl
  have hold : ∀ b, b < w'.heap.size → (w'.heap.push ob)[b]? = w'.heap[b]? := fun b hb => by rw [Array.getElem?_push]; rw [if_neg (by omega)]
  have hlv : ∀ l, ((stAt rs σ' m).hp.get l).isSome = true → l ≠ base + i := fun l hl hh => by
    subst hh
    obtain ⟨o, ho⟩ := Option.isSome_iff_exists.1 hl
    obtain ⟨x, q1, _⟩ := hD.step.rel.obj _ o ho
    rw [q1] at hn
    cases hn
  have hsz := hD.step.size
  refine hD.add hL hok hi hnot hedge hle (hD.step.hide hn (by have := hD.bs; omega) (hD.nx i hfi) ob) (hu _ hnew) hD.mm (fun j hj => ?_) hD.nx (fun k hk h1 h2 => ?_) (fun k hk h1 => ?_) fun k k' b hk hk' h1 h2 hb hb' => ?_
  · have hji : j ≠ i := by
      rintro rfl
      obtain ⟨_, _, _, h6⟩ := aE_ok.1 hj
      rw [hfi] at h6
      cases h6
    rw [← hD.eff j hj]
    exact ⟨fun h => h.resolve_right hji, .inl⟩
  · rw [hρ _ (by omega)]
    exact hD.und k hk h1
  · by_cases hki : k = i
    · subst hki
      refine ⟨_, hnew, (ho w'.heap.size { w' with heap := w'.heap.push ob } (by simp)).mono hle rfl, hsz, fun l hl hll => ?_⟩
      rw [hρ l (hlv l hl)] at hll
      have := hD.step.rel.lt _ _ hll
      omega
    · obtain ⟨b, q1, q2, q3, q4⟩ := hD.hid k hk (h1.resolve_right hki)
      refine ⟨b, hle.1 _ _ q1, q2.mono hle (hold b (hD.step.rel.lt _ _ q1)), q3, fun l hl hll => ?_⟩
      rw [hρ l (hlv l hl)] at hll
      exact q4 l hl hll
  · by_cases hki : k = i <;> by_cases hki' : k' = i
    · rw [hki, hki']
    · exfalso
      subst hki
      rw [hnew] at hb
      injection hb with hb
      rw [hρ _ (by omega)] at hb'
      have := hD.step.rel.lt _ _ hb'
      omega
    · exfalso
      subst hki'
      rw [hnew] at hb'
      injection hb' with hb'
      rw [hρ _ (by omega)] at hb
      have := hD.step.rel.lt _ _ hb
      omega
    · rw [hρ _ (by omega)] at hb hb'
      exact hD.hinj k k' b hk hk' (h1.resolve_right hki) (h2.resolve_right hki') hb hb'
theorem count_set {i fuel : Nat} (hi : i < listed.size) (hnot : listed.getD i false = false) (h : listed.toList.count false = fuel + 1) : (listed.setIfInBounds i true).toList.count false = fuel := by
  rw [Array.toList_setIfInBounds, List.count_set (by simpa using hi)]
  rw [Array.getD_eq_getD_getElem?, Array.getElem?_eq_getElem hi] at hnot
  have hnot : listed[i] = false := hnot
  have : listed.toList[i]'(by simpa using hi) = false := by simpa using hnot
  rw [this, h]
  simp
end
end Go.Proofs.YtpnoiagjgkajdaaGreatDoor.Av
end
noncomputable section
namespace Go.Proofs.YtpnoiagjgkajdaaGreatDoor.Av
open Go
section
variable {P : Program} {I : SX → Value → Prop} {tt : TT} {e e1 : Env} {σ σ0 σ1 σ' : AH} {w w' : World} {g g' g1 : Tr AV} {B n m : Nat} {all : Array Oper} {o : Oper} {call : Nat → List AV → AH → RV} {rs : List Rec} {a a' : Act} {listed : Array Bool} {Q : Exit → Act → World → Prop} {base : Nat} {p' : Pend}
theorem all_done (hL : Laid tt call all base g σ0 rs g' σ' p') (hs : listed.size = all.size) (h : Region.ready .any all listed = []) : ∀ (i : Nat) (o : Oper), all.toList[i]? = some o → listed.getD i false = true := by
  intro i
  induction i using Nat.strongRecOn with
  | _ i ih =>
    intro o ho
    cases hd : listed.getD i false with
    | true => rfl
    | false =>
      exfalso
      have : i ∈ Region.ready .any all listed := (ready_mem hs).2 ⟨o, ho, hd, fun x hx hb => by
        have hlt := hL.edge ho x hx hb
        have hi : i < all.toList.length := by
          rcases Nat.lt_or_ge i all.toList.length with h1 | h1
          · exact h1
          · rw [List.getElem?_eq_none h1] at ho; cases ho
        exact ih x.on hlt _ (List.getElem?_eq_getElem (by omega))⟩
      rw [h] at this
      cases this
theorem drawn_any (hT : TSok P I tt) (hC : CallOk P B I call) (hL : Laid tt call all base g σ0 rs g' σ' p') (hok : okOps B n all.toList = true)
    (hQ : ∀ e' a' w', Step e σ w e' (shows (fun _ => true) p' σ') w' → FR e' g' a' → a'.tmps.size = n → a'.defers = a.defers → Q .normal a' w') :
    ∀ (fuel : Nat) (listed : Array Bool) (a' : Act) (w' : World) (e1 : Env) (g1 : Tr AV) (m : Nat), DInv P tt B I n all base g e σ w rs g' σ' a listed a' w' e1 g1 m → listed.toList.count false = fuel → wpAny P .any all Q fuel listed a' w'
  | 0, listed, a', w', e1, g1, m, hD, hc => by
    have hall : ∀ (i : Nat) (o : Oper), all.toList[i]? = some o → listed.getD i false = true := fun i o ho => by
      have hi : i < listed.size := by
        rw [hD.size, ← Array.length_toList]
        rcases Nat.lt_or_ge i all.toList.length with h1 | h1
        · exact h1
        · rw [List.getElem?_eq_none h1] at ho; cases ho
      rw [Array.getD_eq_getD_getElem?, Array.getElem?_eq_getElem hi]
      show listed[i] = true
      cases hb : listed[i] with
      | true => rfl
      | false =>
        have := List.count_eq_zero.1 hc
        exact absurd (by rw [← hb]; simp) this
    refine ⟨?_, hD.done hL hall hQ⟩
    rw [List.eq_nil_iff_forall_not_mem]
    intro i hi
    obtain ⟨o, h1, h2, _⟩ := (ready_mem hD.size).1 hi
    rw [hall i o h1] at h2
    cases h2
  | fuel + 1, listed, a', w', e1, g1, m, hD, hc => by
    refine ⟨fun h => hD.done hL (all_done hL hD.size h) hQ, fun i hi => ?_⟩
    obtain ⟨o, ho, hnot, hedge⟩ := (ready_mem hD.size).1 hi
    have hoa : all[i]? = some o := by rw [← Array.getElem?_toList]; exact ho
    have hlt : i < listed.size := by
      rw [hD.size, ← Array.length_toList]
      rcases Nat.lt_or_ge i all.toList.length with h1 | h1
      · exact h1
      · rw [List.getElem?_eq_none h1] at ho; cases ho
    have hile : i < all.toList.length := by rw [Array.length_toList, ← hD.size]; exact hlt
    have hreads := hD.reads hL ho hnot hedge
    have hnew := count_set hlt hnot hc
    obtain ⟨-, ⟨hfi, obj, c1, c2, c3⟩ | ⟨hfi, heff, c1, c3⟩ | ⟨hfi, heff, ⟨s', c1⟩, c2, c3⟩⟩ := hL.at_ ho
    · have hob : oAt tt all rs g' base i = obj := by
        unfold oAt
        rw [nth_eq, ho]
        show opt (AO.map [] 0) (made tt (gAt rs g' i) o.op (base + i)) (fun m => m.2) = obj
        rw [c1]
        rfl
      rw [← made_congr hreads] at c1
      refine free_wp hT hoa hok hD.fr hD.gl (aF_ok hfi ho) (hL.guard ho hfi) c1 fun ob u' k1 k2 => ?_
      exact drawn_any hT hC hL hok hQ fuel _ _ _ _ _ m (hD.free hL hok ho hnot hedge hfi k2 (by rw [hob]; exact k1)) hnew
    · have hie : i ∈ aE tt all := aE_ok.2 ⟨o, ho, heff, hfi⟩
      have hmi : m ≤ i := by
        have h1 := hD.eff i hie
        rw [hnot] at h1
        rcases Nat.lt_or_ge i m with h2 | h2
        · cases h1.2 h2
        · exact h2
      have hord : ∀ j ∈ aE tt all, j ≠ i → (listed.getD j false = true ↔ j < i) := fun j hj hne => by
        rcases hL.effs hie hj (Ne.symm hne) with h1 | h1
        · obtain ⟨h2, h3⟩ := hD.anc1 ho hedge h1
          exact ⟨fun _ => h2, fun _ => h3⟩
        · obtain ⟨h2, h3⟩ := hD.anc2 hnot h1
          rw [h3]
          exact ⟨fun h => by (cases h), fun h => by omega⟩
      have hS : stAt rs σ' m = stAt rs σ' i := hL.sSame i (by omega) m hmi fun j h1 h2 h3 => by
        have h4 := (hord j h3 (by omega)).2 h2
        have h5 := (hD.eff j h3).1 h4
        omega
      obtain ⟨s1, s2, s3⟩ := hD.shown hL (Nat.le_of_lt hile) hmi hS (f := ancB (aA all) i) fun k hk => (hD.anc1 ho hedge hk).2
      have hone : one tt call all g1 (shows (ancB (aA all) i) (pAt rs p' i) (stAt rs σ' i)) o = some (uAt rs i, stAt rs σ' (i + 1)) := by
        rw [one_congr hreads, c1]
      refine one_wp hT hC hoa hok hD.fr hD.sz s1.rel hD.gl hone fun e2 w2 u' hs hu => ?_
      refine drawn_any hT hC hL hok hQ fuel _ _ _ e2 _ (i + 1) (hD.next hL hok ho hnot hedge hfi s1 (by rw [s2, hS]) hs hu (.inr ⟨i, hie, rfl⟩) (fun j hj => ?_) (fun k hk => ⟨hk.1, fun j hj hlt => hk.2 j hj (by omega)⟩) fun l hl => ?_) hnew
      · by_cases hji : j = i
        · subst hji
          exact ⟨fun _ => by omega, fun _ => .inr rfl⟩
        · have := hord j hj hji
          constructor
          · rintro (h1 | h1)
            · have := this.1 h1; omega
            · exact absurd h1 hji
          · intro h1
            exact .inl (this.2 (by omega))
      · rw [hS]
        rcases s3 l hl with h1 | ⟨k, h1, h2, h3⟩
        · exact .inl h1
        · refine .inr ⟨k, h1, (hD.anc1 ho hedge h2).2, h3, fun h4 => ?_⟩
          have := h4.2 i hie (by omega)
          rw [h2] at this
          cases this
    · have hag := agains_ok hL.again i o ho heff g'
      have hag1 := again_ok hag m hD.mm
      rw [show 0 + i = i by omega] at hag1
      have hmay : maybe (aA all) i m (aE tt all) = true := maybe_ok fun j hj => by
        refine ⟨fun h1 => ?_, fun h1 => ?_⟩
        · rw [← not_D]
          intro h2
          have h3 := (hD.eff j hj).2 h1
          rw [(hD.anc2 hnot h2).2] at h3
          cases h3
        · rw [← not_D]
          intro h2
          exact h1 ((hD.eff j hj).1 (hD.anc1 ho hedge h2).2)
      have h4 : cnd (maybe (aA all) i m (aE tt all)) (opt false (one tt (fun _ _ _ => .bad 0 0 0) all (gAt rs g' i) (stAt rs σ' m) o) fun p => (uAt rs i).eqb p.1) true = true := hag1
      rw [hmay] at h4
      obtain ⟨⟨u2, s2⟩, h5, h6⟩ := opt_eq (show opt false (one tt (fun _ _ _ => .bad 0 0 0) all (gAt rs g' i) (stAt rs σ' m) o) (fun p => (uAt rs i).eqb p.1) = true from h4) (by decide)
      have h6 : uAt rs i = u2 := AV.eqb_eq h6
      subst h6
      have hone : one tt call all g1 (stAt rs σ' m) o = some (uAt rs i, s2) := by
        rw [one_congr hreads]
        exact one_nocall h5
      have hs2 : s2 = stAt rs σ' m := one_same hT (okOps_at hok i o ho).1 hD.fr hD.step.rel hD.gl heff hone
      rw [hs2] at hone
      refine one_wp hT hC hoa hok hD.fr hD.sz hD.step.rel hD.gl hone fun e2 w2 u' hs hu => ?_
      refine drawn_any hT hC hL hok hQ fuel _ _ _ e2 _ m (hD.next hL hok ho hnot hedge hfi hD.step rfl hs hu hD.mm (fun j hj => ?_) (fun k hk => hk) fun l hl => .inl hl) hnew
      have hji : j ≠ i := by
        rintro rfl
        obtain ⟨p, hp, hpe, _⟩ := aE_ok.1 hj
        rw [ho] at hp
        injection hp with hp
        subst hp
        rw [heff] at hpe
        cases hpe
      rw [← hD.eff j hj]
      exact ⟨fun h => h.resolve_right hji, .inl⟩
theorem room_step (hr : Rel e σ w) (k : Nat) : Step e σ w e (σ.room k) w := by
  obtain ⟨h0, nn, c, lb⟩ := σ
  exact ⟨.refl e, ⟨hr.obj, hr.inj, fun l hl => hr.fresh l (Nat.le_trans (Nat.le_add_right _ _) hl), hr.kfresh, hr.lb, hr.lt, Nat.le_trans hr.nx (Nat.le_add_right _ _)⟩, rfl, rfl, rfl, Nat.le_refl _, fun _ _ _ => rfl, fun l b h1 h2 h3 => .inl ⟨l, h1, h2, h3⟩, Nat.le_add_right _ _, fun _ _ => rfl⟩
theorem next_eq (σ : AH) : σ.next = σ.nx := by cases σ; rfl
theorem room_nx (σ : AH) (k : Nat) : (σ.room k).nx = σ.nx + k := by cases σ; rfl
theorem draw_ok (hT : TSok P I tt) (hC : CallOk P B I call) (hm : P.follows .mixedOrders = true) {fid id : Nat} (hok : okOps B n all.toList = true) {x : Ex} (h : evDraw tt call fid id all g σ = .ok x g' σ') (hF : FR e g a) (hn : a.tmps.size = n) (hr : Rel e σ w) (hB : Glob B I e)
    (hQ : ∀ e' a' w', Step e σ w e' σ' w' → FR e' g' a' → a'.tmps.size = n → a'.defers = a.defers → Q .normal a' w') : x = .normal ∧ (Code.region id all true).wp P Q a w := by
  have h : cnd (statOk0 (aE tt all) (aF tt all) (aA all) all all.toList 0) (opt (RC.bad fid id 2000) (canon tt (aA all) (aF tt all) σ.next call all all.toList 0 g (cnd (nilL (aF tt all)) σ (σ.room all.size)) []) fun r =>
    cnd (agains tt (aA all) all (aE tt all) (stAt r.1 r.2.2.1) all.toList 0 r.1) (RC.ok .normal r.2.1 (shows (fun _ => true) r.2.2.2 r.2.2.1)) (RC.bad fid id 2001)) (RC.bad fid id 2002) = .ok x g' σ' := h
  rcases cnd_eq h with ⟨h1, h2⟩ | ⟨_, h2⟩
  · obtain ⟨⟨rs, g2, s2, p2⟩, h3, h4⟩ := opt_eq h2 (by intro h; cases h)
    rcases cnd_eq h4 with ⟨h5, h6⟩ | ⟨_, h6⟩
    · injection h6 with h6 h7 h8
      simp only at h7 h8
      subst h6 h7 h8
      generalize hσ : cnd (nilL (aF tt all)) σ (σ.room all.size) = σ0 at h3
      have hrm : Step e σ { w with drawn := w.drawn + 1 } e σ0 { w with drawn := w.drawn + 1 } ∧ ∀ k, memN k (aF tt all) = true → σ.next + k < σ0.nx := by
        cases hF0 : nilL (aF tt all) with
        | true =>
          rw [hF0] at hσ
          subst hσ
          refine ⟨.refl (hr.drew _), fun k hk => ?_⟩
          cases hL : aF tt all with
          | nil => rw [hL] at hk; cases hk
          | cons y l => rw [hL] at hF0; cases hF0
        | false =>
          rw [hF0] at hσ
          subst hσ
          refine ⟨room_step (hr.drew _) _, fun k hk => ?_⟩
          show _ < (σ.room all.size).nx
          rw [room_nx, next_eq]
          rw [memN_eq] at hk
          obtain ⟨i, o, q1, q2, _⟩ := freeL_ok (List.contains_iff_mem.1 hk)
          have : i < all.size := by
            rcases Nat.lt_or_ge i all.toList.length with hlt | hge
            · simpa using hlt
            · rw [List.getElem?_eq_none hge] at q1; cases q1
          omega
      have hnl : ∀ j, (Array.replicate all.size false).getD j false = true → False := fun j hj => by
        rw [Array.getD_eq_getD_getElem?, Array.getElem?_replicate] at hj
        split at hj <;> cases hj
      refine ⟨rfl, wp_region_any hm (drawn_any (g' := g2) (σ' := s2) (e := e) (σ := σ) (w := { w with drawn := w.drawn + 1 }) (a := a) (base := σ.next) (p' := p2) (σ0 := σ0) hT hC ⟨h3, h1, h5⟩ hok (fun e' a' w' s1 s2 s3 s4 => hQ e' a' w' ((Step.drew hr _).trans s1) s2 s3 s4) all.size _ a _ e g 0
        ⟨by simp, fun i o _ hi => (hnl i hi).elim, hr.drew _, Nat.le_of_eq (next_eq σ).symm, ?_, hF, hn, rfl, hB, .inl rfl, fun j _ => ⟨fun hj => (hnl j hj).elim, fun hj => by omega⟩, fun j t p _ _ hj => (hnl j hj).elim, fun _ _ => rfl, fun k hk => ?_, fun k hk _ => ?_, fun k _ hk => (hnl k hk).elim, fun k k' b _ _ hk => (hnl k hk).elim⟩ (by simp))⟩
      · obtain ⟨-, -, c3, -⟩ := canon_ok h3
        rw [c3]
        exact hrm.1
      · obtain ⟨-, -, c3, -⟩ := canon_ok h3
        rw [c3]
        exact hrm.2 k hk
      · exact hr.fresh _ (by rw [next_eq]; omega)
    · cases h6
  · cases h2
end
end Go.Proofs.YtpnoiagjgkajdaaGreatDoor.Av
end
noncomputable section
namespace Go.Proofs.YtpnoiagjgkajdaaGreatDoor.Av
open Go
/-- Only what the evaluator knows. -/
def okC (B n : Nat) : Code → Bool
  | .region _ ops _ => okOps B n ops.toList
  | .seq x y => cnd (okC B n x) (okC B n y) false
  | .cond x t e => cnd (okX B x) (cnd (okC B n t) (okC B n e) false) false
  | .block _ b => okC B n b
  | .loop b => okC B n b
  | _ => true
def exitOf : Ex → Exit
  | .normal => .normal
  | .exit i => .exit i
  | .ret => .ret
section
variable {P : Program} {I : SX → Value → Prop} {tt : TT} {B : Nat}
theorem least {p : Nat → Prop} (h : ∃ k, p k) : ∃ k, p k ∧ ∀ j, p j → k ≤ j := by
  obtain ⟨k, hk⟩ := h
  induction k using Nat.strongRecOn with
  | _ k ih =>
    by_cases hl : ∃ j, j < k ∧ p j
    · obtain ⟨j, h1, h2⟩ := hl
      exact ih j h1 h2
    · exact ⟨k, hk, fun j hj => Nat.le_of_not_lt fun h => hl ⟨j, h, hj⟩⟩
/-- A loop that ends within so many rounds. -/
def Rem (P : Program) (c : Code) (Q : Exit → Act → World → Prop) : Nat → Act → World → Prop
  | 0 => fun _ _ => False
  | k + 1 => c.wp P (Exit.then (Rem P c Q k) Q)
theorem loop_rem {c : Code} {Q : Exit → Act → World → Prop} {k : Nat} {a : Act} {w : World} (h : Rem P c Q k a w) : (Code.loop c).wp P Q a w := by
  classical
  refine wp_loop (fun a w => ∃ k, Rem P c Q k a w) (fun a w => if h : ∃ k, Rem P c Q k a w then Classical.choose (least h) else 0) ⟨k, h⟩ fun a w hI => ?_
  have h1 := Classical.choose_spec (least hI)
  rw [dif_pos hI]
  generalize Classical.choose (least hI) = m at h1
  obtain ⟨h2, h3⟩ := h1
  cases m with
  | zero => exact h2.elim
  | succ m =>
    refine wp_mono h2 fun e a' w' hq => ?_
    cases e with
    | normal =>
      have hq : Rem P c Q m a' w' := hq
      have hI' : ∃ k, Rem P c Q k a' w' := ⟨m, hq⟩
      refine ⟨hI', ?_⟩
      rw [dif_pos hI']
      have := (Classical.choose_spec (least hI')).2 m hq
      omega
    | _ => exact hq
variable {told : Told} {ft : Tr Func}
theorem evC_ok (hT : TSok P I tt) (hm : P.follows .mixedOrders = true) : ∀ (fuel : Nat), (∀ f, f < fuel → CallOk P B I (callA told tt ft (evC told tt ft f))) →
    (∀ (fid n : Nat) (c : Code) (g : Tr AV) (σ : AH) (x : Ex) (g' : Tr AV) (σ' : AH) (a : Act) (w : World) (e : Env), evC told tt ft fuel fid c g σ = .ok x g' σ' → okC B n c = true → FR e g a → a.tmps.size = n → a.defers = [] → Rel e σ w → Glob B I e →
      ∀ Q : Exit → Act → World → Prop, (∀ e' a' w', Step e σ w e' σ' w' → FR e' g' a' → a'.tmps.size = n → a'.defers = [] → Q (exitOf x) a' w') → c.wp P Q a w) ∧
    (∀ (fid n : Nat) (c : Code) (g : Tr AV) (σ : AH) (x : Ex) (g' : Tr AV) (σ' : AH) (a : Act) (w : World) (e : Env), evC told tt ft fuel fid (.loop c) g σ = .ok x g' σ' → okC B n c = true → FR e g a → a.tmps.size = n → a.defers = [] → Rel e σ w → Glob B I e →
      ∀ Q : Exit → Act → World → Prop, (∀ e' a' w', Step e σ w e' σ' w' → FR e' g' a' → a'.tmps.size = n → a'.defers = [] → Q (exitOf x) a' w') → Rem P c Q fuel a w)
  | 0, _ => ⟨fun fid n c g σ x g' σ' a w e h => (by cases h), fun fid n c g σ x g' σ' a w e h => (by cases h)⟩
  | fuel + 1, hCall => by
    obtain ⟨ih1, ih2⟩ := evC_ok hT hm fuel fun f hf => hCall f (by omega)
    have hC := hCall fuel (by omega)
    have hloop : ∀ (fid n : Nat) (c : Code) (g : Tr AV) (σ : AH) (x : Ex) (g' : Tr AV) (σ' : AH) (a : Act) (w : World) (e : Env), evC told tt ft (fuel + 1) fid (.loop c) g σ = .ok x g' σ' → okC B n c = true → FR e g a → a.tmps.size = n → a.defers = [] → Rel e σ w → Glob B I e →
      ∀ Q : Exit → Act → World → Prop, (∀ e' a' w', Step e σ w e' σ' w' → FR e' g' a' → a'.tmps.size = n → a'.defers = [] → Q (exitOf x) a' w') → Rem P c Q (fuel + 1) a w := by
      intro fid n c g σ x g' σ' a w e h hok hF hn hd hr hB Q hQ
      replace h : thenC (evC told tt ft fuel fid c g σ) (evC told tt ft fuel fid (.loop c)) = .ok x g' σ' := h
      cases hv : evC told tt ft fuel fid c g σ with
      | bad => rw [hv] at h; cases h
      | ok x1 g1 σ1 =>
        rw [hv] at h
        refine ih1 fid n c g σ x1 g1 σ1 a w e hv hok hF hn hd hr hB _ fun e1 a1 w1 s1 s2 s3 s4 => ?_
        cases x1 with
        | normal => exact ih2 fid n c g1 σ1 x g' σ' a1 w1 e1 h hok s2 s3 s4 s1.rel (hB.mono s1.le) Q fun e2 a2 w2 t1 t2 t3 t4 => hQ e2 a2 w2 (s1.trans t1) t2 t3 t4
        | exit i =>
          injection (show RC.ok (.exit i) g1 σ1 = .ok x g' σ' from h) with h1 h2 h3
          subst h1 h2 h3
          exact hQ e1 a1 w1 s1 s2 s3 s4
        | ret =>
          injection (show RC.ok .ret g1 σ1 = .ok x g' σ' from h) with h1 h2 h3
          subst h1 h2 h3
          exact hQ e1 a1 w1 s1 s2 s3 s4
    refine ⟨fun fid n c g σ x g' σ' a w e h hok hF hn hd hr hB Q hQ => ?_, hloop⟩
    cases c with
    | skip =>
      injection (show RC.ok .normal g σ = .ok x g' σ' from h) with h1 h2 h3
      subst h1 h2 h3
      exact wp_skip (hQ e a w (.refl hr) hF hn hd)
    | label l =>
      injection (show RC.ok .normal g σ = .ok x g' σ' from h) with h1 h2 h3
      subst h1 h2 h3
      exact wp_label (hQ e a w (.refl hr) hF hn hd)
    | region id ops d =>
      replace h : cnd d (evDraw tt (callA told tt ft (evC told tt ft fuel)) fid id ops g σ) (evOps tt (callA told tt ft (evC told tt ft fuel)) fid id ops ops.toList g σ) = .ok x g' σ' := h
      have hok : okOps B n ops.toList = true := hok
      cases d with
      | true =>
        have hx : x = .normal := (draw_ok (Q := fun _ _ _ => True) hT hC hm hok h hF hn hr hB fun _ _ _ _ _ _ _ => trivial).1
        subst hx
        exact (draw_ok hT hC hm hok h hF hn hr hB fun e' a' w' s1 s2 s3 s4 => hQ e' a' w' s1 s2 s3 (s4.trans hd)).2
      | false =>
        have hx : x = .normal := (evOps_ok hT hC hok ops.toList g σ a w e h hok hF hn hr hB (fun _ _ _ => True) fun _ _ _ _ _ _ _ => trivial).1
        subst hx
        exact wp_region_list (evOps_ok hT hC hok ops.toList g σ a w e h hok hF hn hr hB Q fun e' a' w' s1 s2 s3 s4 => hQ e' a' w' s1 s2 s3 (s4.trans hd)).2
    | seq c1 c2 =>
      obtain ⟨k1, k2⟩ := and_cnd (show cnd (okC B n c1) (okC B n c2) false = true from hok)
      replace h : thenC (evC told tt ft fuel fid c1 g σ) (evC told tt ft fuel fid c2) = .ok x g' σ' := h
      cases hv : evC told tt ft fuel fid c1 g σ with
      | bad => rw [hv] at h; cases h
      | ok x1 g1 σ1 =>
        rw [hv] at h
        refine wp_seq (ih1 fid n c1 g σ x1 g1 σ1 a w e hv k1 hF hn hd hr hB _ fun e1 a1 w1 s1 s2 s3 s4 => ?_)
        cases x1 with
        | normal => exact ih1 fid n c2 g1 σ1 x g' σ' a1 w1 e1 h k2 s2 s3 s4 s1.rel (hB.mono s1.le) Q fun e2 a2 w2 t1 t2 t3 t4 => hQ e2 a2 w2 (s1.trans t1) t2 t3 t4
        | exit i =>
          injection (show RC.ok (.exit i) g1 σ1 = .ok x g' σ' from h) with h1 h2 h3
          subst h1 h2 h3
          exact hQ e1 a1 w1 s1 s2 s3 s4
        | ret =>
          injection (show RC.ok .ret g1 σ1 = .ok x g' σ' from h) with h1 h2 h3
          subst h1 h2 h3
          exact hQ e1 a1 w1 s1 s2 s3 s4
    | cond c c1 c2 =>
      obtain ⟨k1, k2⟩ := and_cnd (show cnd (okX B c) (cnd (okC B n c1) (okC B n c2) false) false = true from hok)
      obtain ⟨k3, k4⟩ := and_cnd k2
      replace h : opt (.bad fid 0 1005) (opnd g c).asB (fun b => cnd b (evC told tt ft fuel fid c1 g σ) (evC told tt ft fuel fid c2 g σ)) = .ok x g' σ' := h
      obtain ⟨b, h1, h2⟩ := opt_eq h (by intro h; cases h)
      have hc := hF.all hB c k1
      rw [asB_eq h1] at hc
      generalize hz : a.eval c = z at hc
      cases hc
      cases b with
      | true => exact wp_cond_true hz (ih1 fid n c1 g σ x g' σ' a w e h2 k3 hF hn hd hr hB Q hQ)
      | false => exact wp_cond_false hz (ih1 fid n c2 g σ x g' σ' a w e h2 k4 hF hn hd hr hB Q hQ)
    | block id c1 =>
      replace h : blkC id (evC told tt ft fuel fid c1 g σ) = .ok x g' σ' := h
      cases hv : evC told tt ft fuel fid c1 g σ with
      | bad => rw [hv] at h; cases h
      | ok x1 g1 σ1 =>
        rw [hv] at h
        refine wp_block (ih1 fid n c1 g σ x1 g1 σ1 a w e hv hok hF hn hd hr hB _ fun e1 a1 w1 s1 s2 s3 s4 => ?_)
        cases x1 with
        | normal =>
          injection (show RC.ok .normal g1 σ1 = .ok x g' σ' from h) with h1 h2 h3
          subst h1 h2 h3
          exact hQ e1 a1 w1 s1 s2 s3 s4
        | exit i =>
          show (if i = id then Q .normal a1 w1 else Q (.exit i) a1 w1)
          rcases cnd_eq (show cnd (Nat.beq i id) (RC.ok .normal g1 σ1) (.ok (.exit i) g1 σ1) = .ok x g' σ' from h) with ⟨h0, h4⟩ | ⟨h0, h4⟩
          · injection h4 with h1 h2 h3
            subst h1 h2 h3
            rw [if_pos (Nat.eq_of_beq_eq_true h0)]
            exact hQ e1 a1 w1 s1 s2 s3 s4
          · injection h4 with h1 h2 h3
            subst h1 h2 h3
            rw [if_neg (fun hh => by rw [hh] at h0; simp at h0)]
            exact hQ e1 a1 w1 s1 s2 s3 s4
        | ret =>
          injection (show RC.ok .ret g1 σ1 = .ok x g' σ' from h) with h1 h2 h3
          subst h1 h2 h3
          exact hQ e1 a1 w1 s1 s2 s3 s4
    | loop c1 => exact loop_rem (hloop fid n c1 g σ x g' σ' a w e h hok hF hn hd hr hB Q hQ)
    | exit id =>
      injection (show RC.ok (.exit id) g σ = .ok x g' σ' from h) with h1 h2 h3
      subst h1 h2 h3
      exact wp_exit (hQ e a w (.refl hr) hF hn hd)
    | ret =>
      injection (show RC.ok .ret g σ = .ok x g' σ' from h) with h1 h2 h3
      subst h1 h2 h3
      exact wp_ret (hQ e a w (.refl hr) hF hn hd)
    | _ => cases h
end
end Go.Proofs.YtpnoiagjgkajdaaGreatDoor.Av
end
noncomputable section
namespace Go.Proofs.YtpnoiagjgkajdaaGreatDoor.Av
open Go
section
variable {P : Program} {I : SX → Value → Prop} {tt : TT} {B : Nat} {e : Env} {g : Tr AV} {σ σ' : AH} {a : Act} {w : World} {told : Told} {ft : Tr Func}
def resS (a : Act) (r : ResultVar) : Sem Value := match r with
  | .tmp t => pure (a.tmps.getD t undef)
  | .cell b t => do loadVar t (← asAddr (a.tmps.getD b undef))
theorem resA_ok (hT : TTok P tt) (hF : FR e g a) (hr : Rel e σ w) {r : ResultVar} {v : AV} (h : resA tt g σ r = some v) : ∃ v', (resS a r).run P w = .ok v' w ∧ VR e v v' := by
  cases r with
  | tmp t =>
    injection h with h
    subst h
    exact ⟨_, rfl, hF t⟩
  | cell b t =>
    obtain ⟨⟨l, o⟩, h1, h2⟩ := opt_sm h
    have hb := hF b
    rw [asP_eq h1] at hb
    have hev : a.eval (.tmp b) = a.tmps.getD b undef := rfl
    rw [hev] at hb
    unfold resS
    simp only
    generalize a.tmps.getD b undef = z at hb ⊢
    cases hb with
    | ptr _ _ c hc =>
    obtain ⟨v', k1, k2⟩ := loadA_ok hT hr h2 hc
    refine ⟨v', ?_, k2⟩
    have k1 : (loadVar t ⟨c, o, none⟩).run P w = .ok v' w := by simpa [Instr.loadAt, Instr.sureAddr] using k1
    simpa [asAddr] using k1
theorem resL_ok (hT : TTok P tt) (hF : FR e g a) (hr : Rel e σ w) : ∀ {rs : List ResultVar} {vs : List AV}, resL tt g σ rs = some vs → ∃ vs', (rs.mapM (resS a)).run P w = .ok vs' w ∧ VRs e vs vs'
  | [], vs, h => by
    injection h with h
    subst h
    exact ⟨[], by simp, .nil⟩
  | r :: rs, vs, h => by
    obtain ⟨v, h1, h2⟩ := opt_sm (show opt none (resA tt g σ r) (fun v => opt none (resL tt g σ rs) fun vs => some (v :: vs)) = some vs from h)
    obtain ⟨ws, h3, h4⟩ := opt_sm h2
    injection h4 with h4
    subst h4
    obtain ⟨v', k1, k2⟩ := resA_ok hT hF hr h1
    obtain ⟨vs', k3, k4⟩ := resL_ok hT hF hr h3
    refine ⟨v' :: vs', ?_, .cons _ _ _ _ k2 k4⟩
    rw [List.mapM_cons]
    simp only [Sem.run_bind, k1, Result.andThen_ok, k3, Sem.run_pure]
theorem end_ok (hT : TTok P tt) (hF : FR e g a) (hr : Rel e σ w) {fn : Func} {f : Nat} {v : AV} (h : endA tt fn.results.toList f g σ = .ok v σ') : σ' = σ ∧ ∃ v', (results fn a.tmps).run P w = .ok v' w ∧ VR e v v' := by
  have key : ∀ vs, resL tt g σ fn.results.toList = some vs → ∃ vs', VRs e vs vs' ∧ (results fn a.tmps).run P w = .ok (if h : vs'.toArray.size = 1 then vs'.toArray[0] else .tuple vs'.toArray) w := fun vs hvs => by
    obtain ⟨vs', k1, k2⟩ := resL_ok hT hF hr hvs
    refine ⟨vs', k2, ?_⟩
    have h0 : results fn a.tmps = (do let vs ← fn.results.mapM (resS a); pure (if h : vs.size = 1 then vs[0] else .tuple vs)) := rfl
    rw [h0, Array.mapM_eq_mapM_toList]
    simp [k1]
  unfold endA at h
  split at h
  · rename_i v0 hv
    obtain ⟨vs', k1, k2⟩ := key _ hv
    injection h with h1 h2
    subst h1 h2
    cases k1 with
    | cons _ v' _ _ h3 h4 =>
    cases h4
    exact ⟨rfl, v', by rw [k2]; rfl, h3⟩
  · rename_i l hne hv
    obtain ⟨vs', k1, k2⟩ := key _ hv
    injection h with h1 h2
    subst h1 h2
    refine ⟨rfl, .tuple vs'.toArray, ?_, .tup _ _ k1⟩
    rw [k2, dif_neg]
    intro h5
    have : l.length = 1 := by rw [k1.length]; simpa using h5
    match l, this with
    | [v0], _ => exact hne v0 rfl
  · cases h
theorem putArgs_get : ∀ (args : List AV) (i : Nat) (g : Tr AV) (t : Nat), (putArgs args i g).get t = if t < i then g.get t else match args[t - i]? with
    | some v => some v
    | none => g.get t
  | [], i, g, t => by simp [putArgs]
  | v :: l, i, g, t => by
    show (putArgs l (i + 1) (Tr.put g i (some v))).get t = _
    rw [putArgs_get l (i + 1), Tr.get_put]
    by_cases h1 : t < i
    · rw [if_pos (by omega), if_neg (by omega), if_pos h1]
    · by_cases h2 : t = i
      · subst h2; simp
      · rw [if_neg (by omega), if_neg h1, if_neg h2, show t - i = (t - (i + 1)) + 1 by omega, List.getElem?_cons_succ]
theorem args_frame {args : List AV} {args' : List Value} (h : VRs e args args') (k : Nat) : FR e (putArgs args 0 .nil) { tmps := args'.toArray ++ Array.replicate k undef, defers := [] } := fun t => by
  show VR e (opt undef0 ((putArgs args 0 .nil).get t) fun v => v) ((args'.toArray ++ Array.replicate k undef).getD t undef)
  rw [putArgs_get, if_neg (Nat.not_lt_zero t), Nat.sub_zero, Array.getD_eq_getD_getElem?, Array.getElem?_append]
  have hl := h.length
  cases hv : args[t]? with
  | some v =>
    obtain ⟨v', h1, h2⟩ := h.get hv
    have hlt : t < args'.length := by
      rcases Nat.lt_or_ge t args'.length with h3 | h3
      · exact h3
      · rw [List.getElem?_eq_none h3] at h1; cases h1
    rw [if_pos (by simpa using hlt), List.getElem?_toArray, h1]
    exact h2
  | none =>
    have hge : args.length ≤ t := by
      rcases Nat.lt_or_ge t args.length with h3 | h3
      · rw [List.getElem?_eq_getElem h3] at hv; cases hv
      · exact h3
    rw [if_neg (by simp; omega), Array.getElem?_replicate]
    show VR e undef0 _
    split <;> exact .tup [] [] .nil
end
end Go.Proofs.YtpnoiagjgkajdaaGreatDoor.Av
end
noncomputable section
namespace Go.Proofs.YtpnoiagjgkajdaaGreatDoor.Av
open Go
section
variable {P : Program} {I : SX → Value → Prop} {tt : TT} {B : Nat} {told : Told} {ft : Tr Func}
/-- A function that is told what it does, and does it. -/
def ToldOk (P : Program) (B : Nat) (I : SX → Value → Prop) (told : Told) : Prop := ∀ f h, told f = some h → ∀ args σ v σ', h args σ = .ok v σ' → ∀ e w args', Rel e σ w → Glob B I e → VRs e args args' →
  (∀ w, (callFunc f args'.toArray).run P w = .ok (.enter f args'.toArray) w) ∧ Calls P f args'.toArray w (Post e σ w v σ')
/-- The table of the functions. -/
def FTok (P : Program) (B : Nat) (ft : Tr Func) : Prop := ∀ f fn c, ft.get f = some fn → fn.body = some c → P.funcs[f]? = some fn ∧ okC B fn.ntmps c = true ∧ (fn.name == "runtime.NumGoroutine") = false
theorem run_callFunc {f : Nat} {fn : Func} {c : Code} (hf : P.funcs[f]? = some fn) (hb : fn.body = some c) (hn : (fn.name == "runtime.NumGoroutine") = false) (args : Array Value) (w : World) : (callFunc f args).run P w = .ok (.enter f args) w := by
  simp only [callFunc, Sem.run_bind]
  have : program.run P w = .ok P w := rfl
  rw [this]
  simp only [Result.andThen_ok, hf, hn, hb, Option.isNone_some, Bool.false_eq_true, if_false, Sem.run_pure]
theorem bodyA_ok (hT : TSok P I tt) (hFT : FTok P B ft) (hm : P.follows .mixedOrders = true) (fuel : Nat) (ih : ∀ f, f < fuel → CallOk P B I (callA told tt ft (evC told tt ft f))) : CallOk P B I (bodyA tt ft (evC told tt ft fuel)) := by
  intro f args σ v σ' h e w args' hr hB hv
  unfold bodyA at h
  split at h
  · rename_i fn hfn
    split at h
    · rename_i c hc
      obtain ⟨h1, h2, h3⟩ := hFT f fn c hfn hc
      rcases cnd_eq h with ⟨h4, h5⟩ | ⟨_, h5⟩
      · have h4 := Nat.le_of_ble_eq_true h4
        refine ⟨fun w => run_callFunc h1 hc h3 _ w, calls_of_wp h1 hc ?_⟩
        have hl := hv.length
        have hsz : (args'.toArray ++ Array.replicate (fn.ntmps - args'.toArray.size) undef).size = fn.ntmps := by simp; omega
        unfold outA at h5
        have key : ∀ (x : Ex) (g1 : Tr AV) (σ1 : AH), evC told tt ft fuel f c (putArgs args 0 .nil) σ = .ok x g1 σ1 → (x = .normal ∨ x = .ret) → endA tt fn.results.toList f g1 σ1 = .ok v σ' → c.wp P (bodyPost P fn (Post e σ w v σ')) { tmps := args'.toArray ++ Array.replicate (fn.ntmps - args'.toArray.size) undef, defers := [] } w := fun x g1 σ1 h6 h7 h8 => by
          refine (evC_ok hT hm fuel ih).1 f fn.ntmps c _ σ x g1 σ1 _ w e h6 h2 (args_frame hv _) hsz rfl hr hB _ fun e1 a1 w1 s1 s2 s3 s4 => ?_
          obtain ⟨rfl, v', r1, r2⟩ := end_ok hT.1 s2 s1.rel h8
          rcases h7 with rfl | rfl
          · exact ⟨s4, v', r1, e1, r2, s1⟩
          · exact ⟨s4, v', r1, e1, r2, s1⟩
        split at h5
        · rename_i g1 σ1 h6
          exact key _ g1 σ1 h6 (.inl rfl) h5
        · rename_i g1 σ1 h6
          exact key _ g1 σ1 h6 (.inr rfl) h5
        · cases h5
        · cases h5
      · cases h5
    · cases h
  · cases h
theorem callA_ok (hT : TSok P I tt) (hFT : FTok P B ft) (hTo : ToldOk P B I told) (hm : P.follows .mixedOrders = true) (fuel : Nat) (ih : ∀ f, f < fuel → CallOk P B I (callA told tt ft (evC told tt ft f))) : CallOk P B I (callA told tt ft (evC told tt ft fuel)) := by
  intro f args σ v σ' h e w args' hr hB hv
  unfold callA at h
  split at h
  · rename_i k hk
    cases hx : k args σ with
    | ok v0 σ0 =>
      rw [hx] at h
      injection (show RV.ok v0 σ0 = .ok v σ' from h) with h1 h2
      subst h1 h2
      exact hTo f k hk args σ _ _ hx e w args' hr hB hv
    | bad a b c =>
      rw [hx] at h
      exact bodyA_ok hT hFT hm fuel ih f args σ v σ' h e w args' hr hB hv
  · exact bodyA_ok hT hFT hm fuel ih f args σ v σ' h e w args' hr hB hv
theorem calls_ok (hT : TSok P I tt) (hFT : FTok P B ft) (hTo : ToldOk P B I told) (hm : P.follows .mixedOrders = true) (fuel : Nat) : CallOk P B I (callA told tt ft (evC told tt ft fuel)) := by
  induction fuel using Nat.strongRecOn with
  | _ fuel ih => exact callA_ok hT hFT hTo hm fuel ih
/-- A run of the evaluator is one of the program. -/
theorem evF_ok (hT : TSok P I tt) (hFT : FTok P B ft) (hTo : ToldOk P B I told) (hm : P.follows .mixedOrders = true) {fuel f : Nat} {args : List AV} {σ σ' : AH} {v : AV} (h : evF told tt ft fuel f args σ = .ok v σ') {e : Env} {w : World} {args' : List Value} (hr : Rel e σ w) (hB : Glob B I e) (hv : VRs e args args') :
    Calls P f args'.toArray w (Post e σ w v σ') := (calls_ok hT hFT hTo hm fuel f args σ v σ' h e w args' hr hB hv).2
end
end Go.Proofs.YtpnoiagjgkajdaaGreatDoor.Av
end
noncomputable section
namespace Go.Proofs.YtpnoiagjgkajdaaGreatDoor.Av
open Go
/-! Labels are given anew, and what nobody can reach is left out. -/
structure RM where
  m : Tr Nat
  inv : Tr Nat
  nx : Nat
  km : Tr Nat
  kinv : Tr Nat
  cn : Nat
def renL (M : RM) (l : Nat) : Option Nat := cnd (Nat.blt l 16) (some l) (opt none (M.m.get l) fun l' => cnd (Nat.ble 16 l') (cnd (Nat.blt l' M.nx) (opt none (M.inv.get l') fun k => cnd (Nat.beq k l) (some l') none) none) none)
def renQ (M : RM) (c : Nat) : Option Nat := opt none (M.km.get c) fun c' => cnd (Nat.blt c' M.cn) (opt none (M.kinv.get c') fun k => cnd (Nat.beq k c) (some c') none) none
def renP (M : RM) : Option (Nat × Nat) → Option (Option (Nat × Nat))
  | none => some none
  | some p => opt none (renL M p.1) fun l => some (some (l, p.2))
def renK (M : RM) : Kap → Option Kap
  | .k n => some (.k n)
  | .u c m => opt none (renQ M c) fun c' => some (.u c' m)
  | .e => some .e
mutual
def renV (M : RM) : AV → Option AV
  | .bool b => some (.bool b)
  | .int k n => some (.int k n)
  | .str s => some (.str s)
  | .ptr a => opt none (renP M a) fun a => some (.ptr a)
  | .sl a n c => opt none (renP M a) fun a => opt none (renK M c) fun c => some (.sl a n c)
  | .map none => some (.map none)
  | .map (some r) => opt none (renL M r) fun r => some (.map (some r))
  | .fn f a b => opt none (renVs M a) fun a => opt none (renVs M b) fun b => some (.fn f a b)
  | .nilfn => some .nilfn
  | .nilif => some .nilif
  | .iface t v => opt none (renV M v) fun v => some (.iface t v)
  | .agg l => opt none (renVs M l) fun l => some (.agg l)
  | .tup l => opt none (renVs M l) fun l => some (.tup l)
  | .sp i => some (.sp i)
termination_by structural x => x
def renVs (M : RM) : List AV → Option (List AV)
  | [] => some []
  | v :: l => opt none (renV M v) fun v => opt none (renVs M l) fun l => some (v :: l)
termination_by structural x => x
end
def renEs (M : RM) : List (AV × AV × Nat) → Option (List (AV × AV × Nat))
  | [] => some []
  | e :: l => opt none (renV M e.1) fun k => opt none (renV M e.2.1) fun v => opt none (renEs M l) fun l => some ((k, v, e.2.2) :: l)
def renCv (M : RM) : Option (Nat × Nat) → Option (Option (Nat × Nat))
  | none => some none
  | some p => opt none (renQ M p.1) fun c => some (some (c, p.2))
def renO (M : RM) : AO → Option AO
  | .cells cs t fz cv => opt none (renVs M cs) fun cs => opt none (renCv M cv) fun cv => some (.cells cs t fz cv)
  | .map es c => opt none (renEs M es) fun es => some (.map es c)
  | .iter m a b c => opt none (match m with
      | none => some none
      | some r => opt none (renL M r) fun r => some (some r)) fun m => some (.iter m a b c)
  | .opq n => some (.opq n)
/-- The new heap: of each label that it had, in order. -/
def renH (M : RM) (h : Tr AO) : List Nat → Tr AO → Option (Tr AO)
  | [], t => some t
  | l :: ls, t => opt none (renL M l) fun l' => cnd (cnd (Nat.ble 16 l') (Nat.ble 16 l) true) (opt (renH M h ls t) (h.get l) fun o => opt none (renO M o) fun o => renH M h ls (Tr.put t l' (some o))) none
def renB (M : RM) (lb : Tr Nat) : List Nat → Tr Nat → Option (Tr Nat)
  | [], t => some t
  | c :: cs, t => opt none (renQ M c) fun c' => renB M lb cs (Tr.put t c' (lb.get c))
def renA (M : RM) (ls cs : List Nat) (σ : AH) : Option AH := AH.rec (fun h _ _ lb => opt none (renH M h ls .nil) fun h' => opt none (renB M lb cs .nil) fun lb' => cnd (Nat.ble 16 M.nx) (some (.mk h' M.nx M.cn lb')) none) σ
/-! What can be reached. -/
mutual
def labV : AV → List Nat → List Nat
  | .ptr (some p), acc => p.1 :: acc
  | .sl (some p) _ _, acc => p.1 :: acc
  | .map (some r), acc => r :: acc
  | .fn _ a b, acc => labVs a (labVs b acc)
  | .iface _ v, acc => labV v acc
  | .agg l, acc => labVs l acc
  | .tup l, acc => labVs l acc
  | _, acc => acc
termination_by structural x => x
def labVs : List AV → List Nat → List Nat
  | [], acc => acc
  | v :: l, acc => labV v (labVs l acc)
termination_by structural x => x
end
mutual
def capV : AV → List Nat → List Nat
  | .sl _ _ (.u c _), acc => c :: acc
  | .fn _ a b, acc => capVs a (capVs b acc)
  | .iface _ v, acc => capV v acc
  | .agg l, acc => capVs l acc
  | .tup l, acc => capVs l acc
  | _, acc => acc
termination_by structural x => x
def capVs : List AV → List Nat → List Nat
  | [], acc => acc
  | v :: l, acc => capV v (capVs l acc)
termination_by structural x => x
end
def labEs : List (AV × AV × Nat) → List Nat → List Nat
  | [], acc => acc
  | e :: l, acc => labV e.1 (labV e.2.1 (labEs l acc))
def capEs : List (AV × AV × Nat) → List Nat → List Nat
  | [], acc => acc
  | e :: l, acc => capV e.1 (capV e.2.1 (capEs l acc))
def labO : AO → List Nat → List Nat
  | .cells cs _ _ _, acc => labVs cs acc
  | .map es _, acc => labEs es acc
  | .iter (some m) _ _ _, acc => m :: acc
  | _, acc => acc
def capO : AO → List Nat → List Nat
  | .cells cs _ _ cv, acc => (match cv with
      | some p => p.1 :: capVs cs acc
      | none => capVs cs acc)
  | .map es _, acc => capEs es acc
  | _, acc => acc
/-- Labels, in the order in which they are met (backwards), and where each goes. -/
def reachL (h : Tr AO) : Nat → List Nat → Nat → Tr Nat → Tr Nat → List Nat → List Nat → Nat × Tr Nat × Tr Nat × List Nat × List Nat
  | 0, _, n, m, inv, ord, caps => (n, m, inv, ord, caps)
  | _ + 1, [], n, m, inv, ord, caps => (n, m, inv, ord, caps)
  | f + 1, l :: todo, n, m, inv, ord, caps => cnd (Nat.blt l 16) (reachL h f todo n m inv ord caps) (opt (opt (reachL h f todo (Nat.succ n) (m.put l (some n)) (inv.put n (some l)) (l :: ord) caps) (h.get l) fun o => reachL h f (labO o todo) (Nat.succ n) (m.put l (some n)) (inv.put n (some l)) (l :: ord) (capO o caps)) (m.get l) fun _ => reachL h f todo n m inv ord caps)
def reachQ : List Nat → Nat → Tr Nat → Tr Nat → List Nat → Nat × Tr Nat × Tr Nat × List Nat
  | [], n, m, inv, ord => (n, m, inv, ord)
  | c :: todo, n, m, inv, ord => opt (reachQ todo (Nat.succ n) (m.put c (some n)) (inv.put n (some c)) (c :: ord)) (m.get c) fun _ => reachQ todo n m inv ord
/-- Only what these values reach, laid anew. -/
def renew (roots : List AV) (σ : AH) : Option (AH × List AV) := AH.rec (fun h n _ _ =>
  (fun r => (fun q => (fun M => opt none (renA M ([0, 1, 2, 3, 4, 5, 6, 7, 8, 9, 10, 11, 12, 13, 14, 15] ++ r.2.2.2.1) q.2.2.2 σ) fun σ' => opt none (renVs M roots) fun vs => some (σ', vs))
      (RM.mk r.2.1 r.2.2.1 r.1 q.2.1 q.2.2.1 q.1)) (reachQ (capVs roots r.2.2.2.2) 1 .nil .nil []))
    (reachL h (Nat.mul 64 n) (labVs roots []) 16 .nil .nil [] [])) σ
section
variable {e : Env} {σ σ' : AH} {w : World} {M : RM}
/-- The labels' blocks, as they are called now. -/
def renE (M : RM) (e : Env) : Env := ⟨fun l => if l < 16 then e.ρ l else if l < M.nx then opt none (M.inv.get l) e.ρ else none, fun c => if c < M.cn then opt none (M.kinv.get c) e.κ else none, e.I⟩
theorem opt_some {α β : Type} {o : Option α} {f : α → Option β} {y : β} (h : opt none o f = some y) : ∃ x, o = some x ∧ f x = some y := opt_sm h
theorem renL_ok {l l' : Nat} (h : renL M l = some l') : (renE M e).ρ l' = e.ρ l ∧ (l < 16 ∧ l' = l ∨ 16 ≤ l' ∧ l' < M.nx ∧ M.inv.get l' = some l ∧ M.m.get l = some l') := by
  rcases cnd_eq h with ⟨h1, h2⟩ | ⟨h1, h2⟩
  · injection h2 with h2
    subst h2
    rw [Nat.blt_eq] at h1
    exact ⟨if_pos h1, .inl ⟨h1, rfl⟩⟩
  · obtain ⟨k, h3, h4⟩ := opt_some h2
    rcases cnd_eq h4 with ⟨h5, h6⟩ | ⟨_, h6⟩
    · rcases cnd_eq h6 with ⟨h7, h8⟩ | ⟨_, h8⟩
      · obtain ⟨j, h9, h10⟩ := opt_some h8
        rcases cnd_eq h10 with ⟨h11, h12⟩ | ⟨_, h12⟩
        · injection h12 with h12
          subst h12
          have h11 := Nat.eq_of_beq_eq_true h11
          subst h11
          have h5 := Nat.le_of_ble_eq_true h5
          rw [Nat.blt_eq] at h7
          refine ⟨?_, .inr ⟨h5, h7, h9, h3⟩⟩
          show (if k < 16 then e.ρ k else if k < M.nx then opt none (M.inv.get k) e.ρ else none) = _
          rw [if_neg (by omega), if_pos h7, h9]
          rfl
        · cases h12
      · cases h8
    · cases h6
theorem renQ_ok {c c' : Nat} (h : renQ M c = some c') : (renE M e).κ c' = e.κ c ∧ c' < M.cn := by
  obtain ⟨k, h3, h4⟩ := opt_some h
  rcases cnd_eq h4 with ⟨h5, h6⟩ | ⟨_, h6⟩
  · obtain ⟨j, h9, h10⟩ := opt_some h6
    rcases cnd_eq h10 with ⟨h11, h12⟩ | ⟨_, h12⟩
    · injection h12 with h12
      subst h12
      have h11 := Nat.eq_of_beq_eq_true h11
      subst h11
      rw [Nat.blt_eq] at h5
      refine ⟨?_, h5⟩
      show (if k < M.cn then opt none (M.kinv.get k) e.κ else none) = _
      rw [if_pos h5, h9]
      rfl
    · cases h12
  · cases h6
theorem renK_ok {c c' : Kap} {n : Nat} (h : renK M c = some c') (hk : KR e c n) : KR (renE M e) c' n := by
  cases hk with
  | k => injection h with h; subst h; exact .k _
  | u c m q h1 hm =>
    obtain ⟨x, h2, h3⟩ := opt_some h
    injection h3 with h3
    subst h3
    exact .u x m q ((renQ_ok h2).1.trans h1) hm
theorem one_ren {v v' : AV} (h : renV M v = some v') : v'.one = v.one := by
  cases v with
  | ptr a => obtain ⟨a', _, h1⟩ := opt_some h; injection h1 with h1; subst h1; rfl
  | sl a n c => obtain ⟨a', _, h1⟩ := opt_some h; obtain ⟨c', _, h2⟩ := opt_some h1; injection h2 with h2; subst h2; rfl
  | map r =>
    cases r with
    | none => injection h with h; subst h; rfl
    | some r => obtain ⟨a', _, h1⟩ := opt_some h; injection h1 with h1; subst h1; rfl
  | fn f a b => obtain ⟨a', _, h1⟩ := opt_some h; obtain ⟨c', _, h2⟩ := opt_some h1; injection h2 with h2; subst h2; rfl
  | iface t v => obtain ⟨a', _, h1⟩ := opt_some h; injection h1 with h1; subst h1; rfl
  | agg l => obtain ⟨a', _, h1⟩ := opt_some h; injection h1 with h1; subst h1; rfl
  | tup l => obtain ⟨a', _, h1⟩ := opt_some h; injection h1 with h1; subst h1; rfl
  | _ => injection h with h; subst h; rfl
theorem ones_ren : ∀ {l l' : List AV}, renVs M l = some l' → (∀ x ∈ l, x.one = true) → ∀ x ∈ l', x.one = true
  | [], l', h, _, x, hx => by injection h with h; subst h; cases hx
  | v :: l, l', h, h1, x, hx => by
    obtain ⟨v', h2, h3⟩ := opt_some (show opt none (renV M v) (fun v => opt none (renVs M l) fun l => some (v :: l)) = some l' from h)
    obtain ⟨l2, h4, h5⟩ := opt_some h3
    injection h5 with h5
    subst h5
    rcases List.mem_cons.1 hx with rfl | hx
    · rw [one_ren h2]; exact h1 v List.mem_cons_self
    · exact ones_ren h4 (fun y hy => h1 y (List.mem_cons_of_mem _ hy)) x hx
mutual
theorem renV_ok : ∀ {v : AV} {x : Value} {v' : AV}, VR e v x → renV M v = some v' → VR (renE M e) v' x
  | _, _, v', .bool b, h => by injection h with h; subst h; exact .bool b
  | _, _, v', .int k n, h => by injection h with h; subst h; exact .int k n
  | _, _, v', .str s h0, h => by injection h with h; subst h; exact .str s h0
  | _, _, v', .nilp, h => by injection (show some (AV.ptr none) = some v' from h) with h; subst h; exact .nilp
  | _, _, v', .ptr l o b h0, h => by
    obtain ⟨a, h1, h2⟩ := opt_some (show opt none (renP M (some (l, o))) (fun a => some (AV.ptr a)) = some v' from h)
    injection h2 with h2
    subst h2
    obtain ⟨l', h3, h4⟩ := opt_some (show opt none (renL M l) (fun l => some (some (l, o))) = some a from h1)
    injection h4 with h4
    subst h4
    exact .ptr l' o b ((renL_ok h3).1.trans h0)
  | _, _, v', .nilsl, h => by injection (show some (AV.sl none 0 (.k 0)) = some v' from h) with h; subst h; exact .nilsl
  | _, _, v', .sl l o b n c cap h0 hk hn, h => by
    obtain ⟨a, h1, h2⟩ := opt_some (show opt none (renP M (some (l, o))) (fun a => opt none (renK M c) fun c => some (.sl a n c)) = some v' from h)
    obtain ⟨c', h5, h6⟩ := opt_some h2
    injection h6 with h6
    subst h6
    obtain ⟨l', h3, h4⟩ := opt_some (show opt none (renL M l) (fun l => some (some (l, o))) = some a from h1)
    injection h4 with h4
    subst h4
    exact .sl l' o b n c' cap ((renL_ok h3).1.trans h0) (renK_ok h5 hk) hn
  | _, _, v', .sl0 l o b o' cap h0, h => by
    obtain ⟨a, h1, h2⟩ := opt_some (show opt none (renP M (some (l, o))) (fun a => opt none (renK M .e) fun c => some (.sl a 0 c)) = some v' from h)
    obtain ⟨c', h5, h6⟩ := opt_some h2
    injection h5 with h5
    subst h5
    injection h6 with h6
    subst h6
    obtain ⟨l', h3, h4⟩ := opt_some (show opt none (renL M l) (fun l => some (some (l, o))) = some a from h1)
    injection h4 with h4
    subst h4
    exact .sl0 l' o b o' cap ((renL_ok h3).1.trans h0)
  | _, _, v', .nilmap, h => by injection (show some (AV.map none) = some v' from h) with h; subst h; exact .nilmap
  | _, _, v', .map l b h0, h => by
    obtain ⟨l', h3, h4⟩ := opt_some (show opt none (renL M l) (fun r => some (AV.map (some r))) = some v' from h)
    injection h4 with h4
    subst h4
    exact .map l' b ((renL_ok h3).1.trans h0)
  | _, _, v', .fn f fs cs fs' cs' h1 h2, h => by
    obtain ⟨a, h3, h4⟩ := opt_some (show opt none (renVs M fs) (fun a => opt none (renVs M cs) fun b => some (.fn f a b)) = some v' from h)
    obtain ⟨b, h5, h6⟩ := opt_some h4
    injection h6 with h6
    subst h6
    exact .fn f a b fs' cs' (renVs_ok h1 h3) (renVs_ok h2 h5)
  | _, _, v', .nilfn, h => by injection h with h; subst h; exact .nilfn
  | _, _, v', .nilif, h => by injection h with h; subst h; exact .nilif
  | _, _, v', .iface t v x h1, h => by
    obtain ⟨a, h3, h4⟩ := opt_some (show opt none (renV M v) (fun v => some (AV.iface t v)) = some v' from h)
    injection h4 with h4
    subst h4
    exact .iface t a x (renV_ok h1 h3)
  | _, _, v', .agg l l' h1 h2, h => by
    obtain ⟨a, h3, h4⟩ := opt_some (show opt none (renVs M l) (fun l => some (AV.agg l)) = some v' from h)
    injection h4 with h4
    subst h4
    exact .agg a l' (ones_ren h3 h1) (renVs_ok h2 h3)
  | _, _, v', .spi i k n h0, h => by injection (show some (AV.sp i) = some v' from h) with h; subst h; exact .spi i k n h0
  | _, _, v', .sps i s h0 hs, h => by injection (show some (AV.sp i) = some v' from h) with h; subst h; exact .sps i s h0 hs
  | _, _, v', .tup l l' h2, h => by
    obtain ⟨a, h3, h4⟩ := opt_some (show opt none (renVs M l) (fun l => some (AV.tup l)) = some v' from h)
    injection h4 with h4
    subst h4
    exact .tup a l' (renVs_ok h2 h3)
theorem renVs_ok : ∀ {l : List AV} {x : List Value} {l' : List AV}, VRs e l x → renVs M l = some l' → VRs (renE M e) l' x
  | _, _, l', .nil, h => by injection (show some [] = some l' from h) with h; subst h; exact .nil
  | _, _, l', .cons v x l xs hv ht, h => by
    obtain ⟨a, h3, h4⟩ := opt_some (show opt none (renV M v) (fun v => opt none (renVs M l) fun l => some (v :: l)) = some l' from h)
    obtain ⟨b, h5, h6⟩ := opt_some h4
    injection h6 with h6
    subst h6
    exact .cons a x b xs (renV_ok hv h3) (renVs_ok ht h5)
end
theorem renEs_ok : ∀ {l : List (AV × AV × Nat)} {x : List MapEntry} {l' : List (AV × AV × Nat)}, ERs e l x → renEs M l = some l' → ERs (renE M e) l' x
  | _, _, l', .nil, h => by injection (show some [] = some l' from h) with h; subst h; exact .nil
  | _, _, l', .cons k v k' v' n l xs hk hv ht, h => by
    obtain ⟨a, h1, h2⟩ := opt_some (show opt none (renV M k) (fun k => opt none (renV M v) fun v => opt none (renEs M l) fun l => some ((k, v, n) :: l)) = some l' from h)
    obtain ⟨b, h3, h4⟩ := opt_some h2
    obtain ⟨c, h5, h6⟩ := opt_some h4
    injection h6 with h6
    subst h6
    exact .cons a b k' v' n c xs (renV_ok hk h1) (renV_ok hv h3) (renEs_ok ht h5)
theorem renO_ok {b : Nat} : ∀ {o o' : AO}, OR e w b o → renO M o = some o' → OR (renE M e) w b o'
  | .cells cs t fz cv, o', ⟨cs', rst, fr, h1, h2, h0, h3, h4⟩, h => by
    obtain ⟨a, k1, k2⟩ := opt_some (show opt none (renVs M cs) (fun cs => opt none (renCv M cv) fun cv => some (.cells cs t fz cv)) = some o' from h)
    obtain ⟨c, k3, k4⟩ := opt_some k2
    injection k4 with k4
    subst k4
    refine ⟨cs', rst, fr, h1, renVs_ok h2 k1, ones_ren k1 h0, h3, fun q s hc => ?_⟩
    subst hc
    cases cv with
    | none => cases k3
    | some p =>
      obtain ⟨c', k5, k6⟩ := opt_some (show opt none (renQ M p.1) (fun c => some (some (c, p.2))) = some (some (q, s)) from k3)
      injection k6 with k6
      injection k6 with k6
      injection k6 with k6 k7
      subst k6 k7
      obtain ⟨x, k8, k9⟩ := h4 p.1 p.2 rfl
      exact ⟨x, (renQ_ok k5).1.trans k8, k9⟩
  | .map es cl, o', ⟨es', h1, h2⟩, h => by
    obtain ⟨a, k1, k2⟩ := opt_some (show opt none (renEs M es) (fun es => some (.map es cl)) = some o' from h)
    injection k2 with k2
    subst k2
    exact ⟨es', h1, renEs_ok h2 k1⟩
  | .iter m a b' c, o', ⟨m', h1, h2, h3⟩, h => by
    cases m with
    | none =>
      injection (show some (AO.iter none a b' c) = some o' from h) with h
      subst h
      exact ⟨m', h1, fun l hl => (by cases hl), h3⟩
    | some r =>
      obtain ⟨y, k1, k2⟩ := opt_some (show opt none (opt none (renL M r) fun r => some (some r)) (fun m => some (.iter m a b' c)) = some o' from h)
      obtain ⟨r', k3, k4⟩ := opt_some k1
      injection k4 with k4
      subst k4
      injection k2 with k2
      subst k2
      refine ⟨m', h1, ⟨fun l hl => ?_, fun hl => (by cases hl)⟩⟩
      injection hl with hl
      subst hl
      obtain ⟨x, q1, q2⟩ := h2 r rfl
      exact ⟨x, (renL_ok k3).1.trans q1, q2⟩
  | .opq n, o', ⟨ob, h1, h2⟩, h => by
    injection (show some (AO.opq n) = some o' from h) with h
    subst h
    exact ⟨ob, h1, h2⟩
/-- Where an object of the new heap comes from. -/
def From (M : RM) (h : Tr AO) (l' : Nat) (o' : AO) : Prop := ∃ l o, renL M l = some l' ∧ (16 ≤ l' → 16 ≤ l) ∧ h.get l = some o ∧ renO M o = some o'
theorem renH_ok {h : Tr AO} : ∀ {ls : List Nat} {t t' : Tr AO}, renH M h ls t = some t' → (∀ l' o', t.get l' = some o' → From M h l' o') → ∀ l' o', t'.get l' = some o' → From M h l' o'
  | [], t, t', h1, h2 => by injection h1 with h1; subst h1; exact h2
  | l :: ls, t, t', h1, h2 => by
    obtain ⟨l', h3, h4⟩ := opt_some (show opt none (renL M l) (fun l' => cnd (cnd (Nat.ble 16 l') (Nat.ble 16 l) true) (opt (renH M h ls t) (h.get l) fun o => opt none (renO M o) fun o => renH M h ls (Tr.put t l' (some o))) none) = some t' from h1)
    rcases cnd_eq h4 with ⟨h5, h6⟩ | ⟨_, h6⟩
    · cases ho : h.get l with
      | none => rw [ho] at h6; exact renH_ok h6 h2
      | some o =>
        rw [ho] at h6
        obtain ⟨o', h7, h8⟩ := opt_some (show opt none (renO M o) (fun o => renH M h ls (Tr.put t l' (some o))) = some t' from h6)
        refine renH_ok h8 fun k x hk => ?_
        rw [Tr.get_put] at hk
        split at hk
        · rename_i he
          injection hk with hk
          subst he hk
          refine ⟨l, o, h3, fun h16 => ?_, ho, h7⟩
          rcases cnd_eq h5 with ⟨_, h9⟩ | ⟨h9, _⟩
          · exact Nat.le_of_ble_eq_true h9
          · have : Nat.ble 16 k = true := Nat.ble_eq_true_of_le h16
            rw [this] at h9
            cases h9
        · exact h2 k x hk
    · cases h6
theorem renB_ok {lb : Tr Nat} : ∀ {cs : List Nat} {t t' : Tr Nat}, renB M lb cs t = some t' → (∀ q x, t.get q = some x → ∃ c, renQ M c = some q ∧ lb.get c = some x) → ∀ q x, t'.get q = some x → ∃ c, renQ M c = some q ∧ lb.get c = some x
  | [], t, t', h1, h2 => by injection h1 with h1; subst h1; exact h2
  | c :: cs, t, t', h1, h2 => by
    obtain ⟨c', h3, h4⟩ := opt_some (show opt none (renQ M c) (fun c' => renB M lb cs (Tr.put t c' (lb.get c))) = some t' from h1)
    refine renB_ok h4 fun q x hq => ?_
    rw [Tr.get_put] at hq
    split at hq
    · rename_i he
      subst he
      exact ⟨c, h3, hq⟩
    · exact h2 q x hq
theorem renA_ok (hr : Rel e σ w) {ls cs : List Nat} (h : renA M ls cs σ = some σ') : Rel (renE M e) σ' w ∧ (∀ l, l < 16 → (renE M e).ρ l = e.ρ l) ∧ ∀ l b, 16 ≤ l → (σ'.hp.get l).isSome = true → (renE M e).ρ l = some b → ∃ l0, 16 ≤ l0 ∧ (σ.hp.get l0).isSome = true ∧ e.ρ l0 = some b := by
  obtain ⟨h0, n, c, lb⟩ := σ
  obtain ⟨h', h1, h2⟩ := opt_some (show opt none (renH M h0 ls .nil) (fun h' => opt none (renB M lb cs .nil) fun lb' => cnd (Nat.ble 16 M.nx) (some (AH.mk h' M.nx M.cn lb')) none) = some σ' from h)
  obtain ⟨lb', h3, h4⟩ := opt_some h2
  rcases cnd_eq h4 with ⟨h5, h6⟩ | ⟨_, h6⟩
  · injection h6 with h6
    subst h6
    have h5 := Nat.le_of_ble_eq_true h5
    have hF := renH_ok h1 (fun l' o' h => by cases h)
    refine ⟨⟨fun l' o' ho => ?_, fun l1 l2 b hl1 hl2 hb1 hb2 => ?_, fun l hl => ?_, fun q hq => ?_, fun q x hq => ?_, fun l b hb => ?_, h5⟩, fun l hl => if_pos hl, fun l b h16 hl hb => ?_⟩
    · obtain ⟨l, o, k1, -, k2, k3⟩ := hF l' o' ho
      obtain ⟨b, k4, k5⟩ := hr.obj l o k2
      exact ⟨b, (renL_ok k1).1.trans k4, renO_ok k5 k3⟩
    · obtain ⟨o1, ho1⟩ := Option.isSome_iff_exists.1 hl1
      obtain ⟨o2, ho2⟩ := Option.isSome_iff_exists.1 hl2
      obtain ⟨k1, x1, q1, -, q2, -⟩ := hF l1 o1 ho1
      obtain ⟨k2, x2, q3, -, q4, -⟩ := hF l2 o2 ho2
      have := hr.inj k1 k2 b (by show (h0.get k1).isSome = true; rw [q2]; rfl) (by show (h0.get k2).isSome = true; rw [q4]; rfl) ((renL_ok q1).1.symm.trans hb1) ((renL_ok q3).1.symm.trans hb2)
      subst this
      rw [q1] at q3
      exact Option.some.inj q3
    · have hl : M.nx ≤ l := hl
      show (if l < 16 then e.ρ l else if l < M.nx then opt none (M.inv.get l) e.ρ else none) = none
      rw [if_neg (by omega), if_neg (by omega)]
    · have hq : M.cn ≤ q := hq
      show (if q < M.cn then opt none (M.kinv.get q) e.κ else none) = none
      rw [if_neg (by omega)]
    · obtain ⟨c0, k1, k2⟩ := renB_ok h3 (fun q x h => by cases h) q x hq
      obtain ⟨k, k3, k4⟩ := hr.lb c0 x k2
      exact ⟨k, (renQ_ok k1).1.trans k3, k4⟩
    · have hb : (if l < 16 then e.ρ l else if l < M.nx then opt none (M.inv.get l) e.ρ else none) = some b := hb
      split at hb
      · exact hr.lt _ _ hb
      · split at hb
        · obtain ⟨k, _, k2⟩ := opt_some hb
          exact hr.lt _ _ k2
        · cases hb
    · obtain ⟨o1, ho1⟩ := Option.isSome_iff_exists.1 hl
      obtain ⟨k1, x1, q1, q5, q2, -⟩ := hF l o1 ho1
      exact ⟨k1, q5 h16, by show (h0.get k1).isSome = true; rw [q2]; rfl, (renL_ok q1).1.symm.trans hb⟩
  · cases h6
/-- What is laid anew is what it was. -/
theorem renew_ok (hr : Rel e σ w) {roots vs : List AV} {vs' : List Value} (hv : VRs e roots vs') (h : renew roots σ = some (σ', vs)) : ∃ e', Rel e' σ' w ∧ VRs e' vs vs' ∧ (∀ l, l < 16 → e'.ρ l = e.ρ l) ∧ e'.I = e.I ∧ ∀ l b, 16 ≤ l → (σ'.hp.get l).isSome = true → e'.ρ l = some b → ∃ l0, 16 ≤ l0 ∧ (σ.hp.get l0).isSome = true ∧ e.ρ l0 = some b := by
  have key : ∀ (M : RM) (ls cs : List Nat), (opt none (renA M ls cs σ) fun σ' => opt none (renVs M roots) fun vs => some (σ', vs)) = some (σ', vs) → ∃ e', Rel e' σ' w ∧ VRs e' vs vs' ∧ (∀ l, l < 16 → e'.ρ l = e.ρ l) ∧ e'.I = e.I ∧ ∀ l b, 16 ≤ l → (σ'.hp.get l).isSome = true → e'.ρ l = some b → ∃ l0, 16 ≤ l0 ∧ (σ.hp.get l0).isSome = true ∧ e.ρ l0 = some b := fun M ls cs h => by
    obtain ⟨s1, h1, h2⟩ := opt_some h
    obtain ⟨v1, h3, h4⟩ := opt_some h2
    injection h4 with h4
    injection h4 with h4 h5
    subst h4 h5
    obtain ⟨q1, q2, q3⟩ := renA_ok hr h1
    exact ⟨renE M e, q1, renVs_ok hv h3, q2, rfl, q3⟩
  obtain ⟨h0, n, c, lb⟩ := σ
  exact key _ _ _ h
end
end Go.Proofs.YtpnoiagjgkajdaaGreatDoor.Av
end
noncomputable section
namespace Go.Proofs.YtpnoiagjgkajdaaGreatDoor.Av
open Go
/-! Unknown strings and numbers: pieces, linear forms, bounds. -/
abbrev Bds := List (Nat × Nat)
def addL : List Int → List Int → List Int
  | [], b => b
  | a, [] => a
  | x :: a, y :: b => Int.add x y :: addL a b
def negL : List Int → List Int
  | [] => []
  | x :: a => Int.neg x :: negL a
def zeroL : List Int → Bool
  | [] => true
  | x :: a => cnd (eqI x 0) (zeroL a) false
def lowT (k : Int) (lo hi : Nat) : Int := match k with
  | .ofNat n => .ofNat (Nat.mul n lo)
  | .negSucc n => Int.mul (.negSucc n) (.ofNat hi)
def lowB : Int → List Int → Bds → Option Int
  | c, [], _ => some c
  | c, k :: cs, b :: bd => lowB (Int.add c (lowT k b.1 b.2)) cs bd
  | _, _ :: _, [] => none
def uppB (c : Int) (cs : List Int) (bd : Bds) : Option Int := opt none (lowB (Int.neg c) (negL cs) bd) fun m => some (Int.neg m)
def linV (A : Nat → Nat) (c : Int) : List Int → Int
  | [] => c
  | k :: cs => linV (fun i => A (i + 1)) (c + k * A 0) cs
theorem linV_c (c d : Int) : ∀ (cs : List Int) (A : Nat → Nat), linV A (c + d) cs = linV A c cs + d
  | [], A => rfl
  | k :: cs, A => by
    show linV _ (c + d + k * A 0) cs = linV _ (c + k * A 0) cs + d
    rw [← linV_c _ _ cs]
    congr 1
    omega
theorem linV_add (c d : Int) : ∀ (a b : List Int) (A : Nat → Nat), linV A (c + d) (addL a b) = linV A c a + linV A d b
  | [], b, A => by rw [Int.add_comm c d]; show linV A (d + c) b = c + linV A d b; rw [linV_c]; omega
  | x :: a, [], A => by show linV A (c + d) (x :: a) = linV A c (x :: a) + d; rw [linV_c]
  | x :: a, y :: b, A => by
    show linV _ (c + d + (x + y) * A 0) (addL a b) = linV _ (c + x * A 0) a + linV _ (d + y * A 0) b
    rw [← linV_add _ _ a b]
    congr 1
    rw [Int.add_mul]
    omega
theorem linV_neg (c : Int) : ∀ (a : List Int) (A : Nat → Nat), linV A (-c) (negL a) = - linV A c a
  | [], A => rfl
  | x :: a, A => by
    show linV _ (-c + (-x) * A 0) (negL a) = - linV _ (c + x * A 0) a
    rw [← linV_neg _ a]
    congr 1
    rw [Int.neg_mul]
    omega
theorem linV_zero (c : Int) : ∀ (a : List Int) (A : Nat → Nat), zeroL a = true → linV A c a = c
  | [], A, _ => rfl
  | x :: a, A, h => by
    obtain ⟨h1, h2⟩ := and_cnd (show cnd (eqI x 0) (zeroL a) false = true from h)
    rw [eqI_eq] at h1
    have hx : x = 0 := eq_of_beq h1
    subst hx
    show linV _ (c + 0 * A 0) a = c
    rw [Int.zero_mul, Int.add_zero]
    exact linV_zero c a _ h2
def BdOk (A : Nat → Nat) (bd : Bds) : Prop := ∀ i b, bd[i]? = some b → b.1 ≤ A i ∧ A i ≤ b.2
theorem BdOk.tail {A : Nat → Nat} {b : Nat × Nat} {bd : Bds} (h : BdOk A (b :: bd)) : BdOk (fun i => A (i + 1)) bd := fun i b hb => h (i + 1) b hb
theorem lowT_le (k : Int) {lo hi n : Nat} (h1 : lo ≤ n) (h2 : n ≤ hi) : lowT k lo hi ≤ k * (n : Int) := by
  cases k with
  | ofNat m =>
    show ((m * lo : Nat) : Int) ≤ (m : Int) * (n : Int)
    rw [← Int.natCast_mul]
    exact Int.ofNat_le.2 (Nat.mul_le_mul_left _ h1)
  | negSucc m =>
    show Int.negSucc m * (hi : Int) ≤ Int.negSucc m * (n : Int)
    exact Int.mul_le_mul_of_nonpos_left (by omega) (Int.ofNat_le.2 h2)
theorem lowB_le : ∀ {cs : List Int} {bd : Bds} {A : Nat → Nat} {c m : Int}, BdOk A bd → lowB c cs bd = some m → m ≤ linV A c cs
  | [], bd, A, c, m, _, h => by
    injection h with h
    subst h
    exact Int.le_refl _
  | k :: cs, [], A, c, m, _, h => by cases h
  | k :: cs, b :: bd, A, c, m, hA, h => by
    obtain ⟨h1, h2⟩ := hA 0 b rfl
    have := lowB_le hA.tail (show lowB (c + lowT k b.1 b.2) cs bd = some m from h)
    refine Int.le_trans this ?_
    have k1 := lowT_le k h1 h2
    show linV _ (c + lowT k b.1 b.2) cs ≤ linV _ (c + k * A 0) cs
    have e1 : c + k * (A 0 : Int) = c + lowT k b.1 b.2 + (k * (A 0 : Int) - lowT k b.1 b.2) := by omega
    rw [e1, linV_c (c + lowT k b.1 b.2) (k * (A 0 : Int) - lowT k b.1 b.2) cs]
    omega
theorem uppB_le {cs : List Int} {bd : Bds} {A : Nat → Nat} {c m : Int} (hA : BdOk A bd) (h : uppB c cs bd = some m) : linV A c cs ≤ m := by
  obtain ⟨m', h1, h2⟩ := opt_sm h
  injection h2 with h2
  have := lowB_le hA h1
  rw [show Int.neg c = -c from rfl, linV_neg] at this
  have h2 : -m' = m := h2
  omega
/-- The bytes. -/
def bytesS (A : Nat → List Nat) : List SP → List Nat
  | [] => []
  | .lit l :: r => l ++ bytesS A r
  | .at n :: r => A n ++ bytesS A r
theorem bytesS_app (A : Nat → List Nat) : ∀ a b : List SP, bytesS A (a ++ b) = bytesS A a ++ bytesS A b
  | [], b => rfl
  | .lit l :: a, b => by show l ++ bytesS A (a ++ b) = (l ++ bytesS A a) ++ bytesS A b; rw [bytesS_app A a b, List.append_assoc]
  | .at l :: a, b => by show A l ++ bytesS A (a ++ b) = (A l ++ bytesS A a) ++ bytesS A b; rw [bytesS_app A a b, List.append_assoc]
/-- What the unknown values are: strings, and others. -/
def spI (A : Nat → List Nat) (O : Nat → Value → Prop) : SX → Value → Prop
  | .s l, v => v = .string (strB (bytesS A l)) ∧ ∀ x ∈ bytesS A l, x < 256
  | .i c cs, v => v = .int .i64 (linV (fun n => (A n).length) c cs)
  | .a n, v => O n v
def unit : Nat → List Int := Nat.rec [1] fun _ ih => 0 :: ih
def lenS : List SP → Int × List Int
  | [] => (0, [])
  | .lit l :: r => (Int.add (.ofNat l.length) (lenS r).1, (lenS r).2)
  | .at n :: r => ((lenS r).1, addL (unit n) (lenS r).2)
theorem linV_unit (c : Int) : ∀ (n : Nat) (A : Nat → Nat), linV A c (unit n) = c + A n
  | 0, A => by show c + 1 * (A 0 : Int) = _; rw [Int.one_mul]
  | n + 1, A => by show linV _ (c + 0 * (A 0 : Int)) (unit n) = _; rw [linV_unit _ n, Int.zero_mul, Int.add_zero]
theorem lenS_ok (A : Nat → List Nat) : ∀ l : List SP, ((bytesS A l).length : Int) = linV (fun n => (A n).length) (lenS l).1 (lenS l).2
  | [] => rfl
  | .lit l :: r => by
    show ((l ++ bytesS A r).length : Int) = linV _ ((l.length : Int) + (lenS r).1) (lenS r).2
    rw [Int.add_comm, linV_c, ← lenS_ok A r, List.length_append]
    omega
  | .at n :: r => by
    show ((A n ++ bytesS A r).length : Int) = linV _ (lenS r).1 (addL (unit n) (lenS r).2)
    have := linV_add 0 (lenS r).1 (unit n) (lenS r).2 fun n => (A n).length
    rw [Int.zero_add] at this
    rw [this, linV_unit, ← lenS_ok A r, List.length_append]
    omega
def isSp (v : AV) : Bool := match v with
  | .sp _ => true
  | _ => false
def toL : AV → Option (Int × List Int)
  | .int .i64 n => some (n, [])
  | .sp (.i c cs) => some (c, cs)
  | _ => none
def toS : AV → Option (List SP)
  | .str s => some [.lit s]
  | .sp (.s l) => some l
  | _ => none
def mkL (c : Int) (cs : List Int) : AV := cnd (zeroL cs) (.int .i64 c) (.sp (.i c cs))
/-- Does it fit? -/
def mkR (bd : Bds) (c : Int) (cs : List Int) : Option AV := opt none (lowB c cs bd) fun a => opt none (uppB c cs bd) fun b =>
  cnd (ltI a (-9223372036854775808)) none (cnd (ltI 9223372036854775807 b) none (some (mkL c cs)))
/-- Is it below 0, or at least 0? -/
def isNeg (bd : Bds) (c : Int) (cs : List Int) : Option Bool := opt none (uppB c cs bd) fun b => cnd (ltI b 0) (some true) (opt none (lowB c cs bd) fun a => cnd (ltI a 0) none (some false))
def isLt (bd : Bds) (x y : Int × List Int) : Option Bool := isNeg bd (Int.add x.1 (Int.neg y.1)) (addL x.2 (negL y.2))
def isEq (bd : Bds) (x y : Int × List Int) : Option Bool := cnd (zeroL (addL x.2 (negL y.2))) (some (eqI x.1 y.1)) (opt none (isLt bd x y) fun a => cnd a (some false) (opt none (isLt bd y x) fun b => cnd b (some false) none))
def bO (o : Option Bool) (n : Bool) : Option AV := opt none o fun b => some (.bool (cnd n (Bool.not b) b))
def intSp (bd : Bds) (op : BinOp) (x y : Int × List Int) : Option AV := match op with
  | .add => mkR bd (Int.add x.1 y.1) (addL x.2 y.2)
  | .sub => mkR bd (Int.add x.1 (Int.neg y.1)) (addL x.2 (negL y.2))
  | .lss => bO (isLt bd x y) false
  | .gtr => bO (isLt bd y x) false
  | .leq => bO (isLt bd y x) true
  | .geq => bO (isLt bd x y) true
  | .eql => bO (isEq bd x y) false
  | .neq => bO (isEq bd x y) true
  | _ => none
def strSp (bd : Bds) (op : BinOp) (x y : List SP) : Option AV := match op with
  | .add => opt none (uppB (lenS (x ++ y)).1 (lenS (x ++ y)).2 bd) fun m => cnd (ltI 1000000000 m) none (some (.sp (.s (x ++ y))))
  | .eql => opt none (isEq bd (lenS x) (lenS y)) fun b => cnd b none (some (.bool false))
  | .neq => opt none (isEq bd (lenS x) (lenS y)) fun b => cnd b none (some (.bool true))
  | _ => none
def binSp (bd : Bds) (op : BinOp) (x y : AV) : Option AV := match toS x with
  | some a => (match toS y with
    | some b => strSp bd op a b
    | none => none)
  | none => (match toL x with
    | some a => (match toL y with
      | some b => intSp bd op a b
      | none => none)
    | none => none)
/-- The greater or the smaller one. -/
def mmSp (bd : Bds) (isMax : Bool) (x y : AV) : Option AV := opt none (toL x) fun a => opt none (toL y) fun b => opt none (cnd isMax (isLt bd a b) (isLt bd b a)) fun c => some (cnd c (mkL b.1 b.2) (mkL a.1 a.2))
def spH (t : Tr TI) (bd : Bds) (o : Op) (vals : List AV) : Option AV := match o with
  | .binOp op _ _ _ _ => (match vals with
    | [x, y] => cnd (cnd (isSp x) true (isSp y)) (binSp bd op x y) none
    | _ => none)
  | .unOp .neg _ _ => (match vals with
    | [.sp (.i c cs)] => mkR bd (Int.neg c) (negL cs)
    | _ => none)
  | .call c => (match c.callee with
    | .builtin .len => (match vals with
      | [.sp (.s l)] => (match c.argTypes.toList with
        | [ty] => opt none (t.get ty) fun i => (match i.cls with
          | .string => some (mkL (lenS l).1 (lenS l).2)
          | _ => none)
        | _ => none)
      | _ => none)
    | .builtin .max => (match vals with
      | [x, y] => cnd (cnd (isSp x) true (isSp y)) (mmSp bd true x y) none
      | _ => none)
    | .builtin .min => (match vals with
      | [x, y] => cnd (cnd (isSp x) true (isSp y)) (mmSp bd false x y) none
      | _ => none)
    | _ => none)
  | _ => none
end Go.Proofs.YtpnoiagjgkajdaaGreatDoor.Av
end
noncomputable section
namespace Go.Proofs.YtpnoiagjgkajdaaGreatDoor.Av
open Go
section
variable {P : Program} {tt : TT} {t : Tr TI} {bd : Bds} {A : Nat → List Nat} {O : Nat → Value → Prop} {e : Env} {w : World}
theorem toL_ok (hI : e.I = spI A O) {v : AV} {v' : Value} {x : Int × List Int} (h : toL v = some x) (hv : VR e v v') : v' = .int .i64 (linV (fun n => (A n).length) x.1 x.2) := by
  cases hv <;> try (cases h; done)
  · rename_i k n
    cases k <;> first | (cases h; done) | skip
    injection h with h
    subst h
    rfl
  · rename_i i k n h1
    cases i <;> first | (cases h; done) | skip
    injection h with h
    subst h
    rw [hI] at h1
    exact h1
  · rename_i i s h1 h2
    cases i <;> first | (cases h; done) | skip
    rw [hI] at h1
    cases h1
theorem toS_ok (hI : e.I = spI A O) {v : AV} {v' : Value} {x : List SP} (h : toS v = some x) (hv : VR e v v') : v' = .string (strB (bytesS A x)) ∧ ∀ y ∈ bytesS A x, y < 256 := by
  cases hv <;> try (cases h; done)
  · rename_i s hs
    injection h with h
    subst h
    have : bytesS A [.lit s] = s := by show s ++ [] = s; rw [List.append_nil]
    rw [this]
    exact ⟨rfl, hs⟩
  · rename_i i k n h1
    cases i <;> first | (cases h; done) | skip
    rw [hI] at h1
    cases h1.1
  · rename_i i s h1 h2
    cases i <;> first | (cases h; done) | skip
    injection h with h
    subst h
    rw [hI] at h1
    exact h1
theorem mkL_ok (hI : e.I = spI A O) (c : Int) (cs : List Int) : VR e (mkL c cs) (.int .i64 (linV (fun n => (A n).length) c cs)) := by
  unfold mkL
  cases h : zeroL cs with
  | true => rw [linV_zero c cs _ h]; exact .int _ _
  | false =>
    refine .spi _ _ _ ?_
    rw [hI]
    rfl
theorem mkS_ok (hI : e.I = spI A O) {l : List SP} (h : ∀ y ∈ bytesS A l, y < 256) : VR e (.sp (.s l)) (.string (strB (bytesS A l))) := by
  refine .sps _ _ ?_ h
  rw [hI]
  exact ⟨rfl, h⟩
theorem mkR_ok (hA : BdOk (fun n => (A n).length) bd) (hI : e.I = spI A O) {c : Int} {cs : List Int} {v : AV} (h : mkR bd c cs = some v) : VR e v (.int .i64 (IntKind.wrap .i64 (linV (fun n => (A n).length) c cs))) := by
  obtain ⟨a, h1, h2⟩ := opt_sm h
  obtain ⟨b, h3, h4⟩ := opt_sm h2
  rcases cnd_eq h4 with ⟨_, h5⟩ | ⟨h5, h6⟩
  · cases h5
  rcases cnd_eq h6 with ⟨_, h7⟩ | ⟨h7, h8⟩
  · cases h7
  injection h8 with h8
  subst h8
  have k1 := lowB_le hA h1
  have k2 := uppB_le hA h3
  rw [ltI_eq] at h5 h7
  have h5 : ¬ a < -9223372036854775808 := by simpa using h5
  have h7 : ¬ 9223372036854775807 < b := by simpa using h7
  have : IntKind.wrap .i64 (linV (fun n => (A n).length) c cs) = linV (fun n => (A n).length) c cs := by
    rw [IntWalk.i64_in]
    omega
  rw [this]
  exact mkL_ok hI c cs
theorem isNeg_ok {A : Nat → Nat} (hA : BdOk A bd) {c : Int} {cs : List Int} {b : Bool} (h : isNeg bd c cs = some b) : b = decide (linV A c cs < 0) := by
  obtain ⟨m, h1, h2⟩ := opt_sm h
  have k1 := uppB_le hA h1
  rcases cnd_eq h2 with ⟨h3, h4⟩ | ⟨_, h4⟩
  · rw [ltI_eq] at h3
    injection h4 with h4
    have : m < 0 := by simpa using h3
    rw [← h4]
    exact (decide_eq_true (by omega)).symm
  · obtain ⟨a, h5, h6⟩ := opt_sm h4
    have k2 := lowB_le hA h5
    rcases cnd_eq h6 with ⟨_, h7⟩ | ⟨h7, h8⟩
    · cases h7
    · injection h8 with h8
      rw [ltI_eq] at h7
      have : ¬ a < 0 := by simpa using h7
      rw [← h8]
      exact (decide_eq_false (by omega)).symm
theorem linV_sub (A : Nat → Nat) (x y : Int × List Int) : linV A (Int.add x.1 (Int.neg y.1)) (addL x.2 (negL y.2)) = linV A x.1 x.2 - linV A y.1 y.2 := by
  have := linV_add x.1 (-y.1) x.2 (negL y.2) A
  rw [linV_neg] at this
  rw [show Int.add x.1 (Int.neg y.1) = x.1 + -y.1 from rfl, this]
  omega
theorem isLt_ok {A : Nat → Nat} (hA : BdOk A bd) {x y : Int × List Int} {b : Bool} (h : isLt bd x y = some b) : b = decide (linV A x.1 x.2 < linV A y.1 y.2) := by
  rw [isNeg_ok hA h, linV_sub]
  exact decide_eq_decide.2 (by omega)
theorem isEq_ok {A : Nat → Nat} (hA : BdOk A bd) {x y : Int × List Int} {b : Bool} (h : isEq bd x y = some b) : b = decide (linV A x.1 x.2 = linV A y.1 y.2) := by
  rcases cnd_eq h with ⟨h1, h2⟩ | ⟨_, h2⟩
  · injection h2 with h2
    rw [eqI_eq] at h2
    have := linV_sub A x y
    rw [linV_zero _ _ _ h1] at this
    rw [← h2, show (x.1 == y.1) = decide (x.1 = y.1) from rfl]
    refine decide_eq_decide.2 ?_
    have : x.1 + -y.1 = linV A x.1 x.2 - linV A y.1 y.2 := this
    omega
  · obtain ⟨a, h3, h4⟩ := opt_sm h2
    have k1 := isLt_ok hA h3
    rcases cnd_eq h4 with ⟨h5, h6⟩ | ⟨_, h6⟩
    · injection h6 with h6
      rw [h5] at k1
      have := of_decide_eq_true k1.symm
      rw [← h6]
      exact (decide_eq_false (by omega)).symm
    · obtain ⟨a2, h7, h8⟩ := opt_sm h6
      have k2 := isLt_ok hA h7
      rcases cnd_eq h8 with ⟨h9, h10⟩ | ⟨_, h10⟩
      · injection h10 with h10
        rw [h9] at k2
        have := of_decide_eq_true k2.symm
        rw [← h10]
        exact (decide_eq_false (by omega)).symm
      · cases h10
theorem bO_ok {o : Option Bool} {n : Bool} {v : AV} (h : bO o n = some v) : ∃ b, o = some b ∧ v = .bool (if n then !b else b) := by
  obtain ⟨b, h1, h2⟩ := opt_sm h
  injection h2 with h2
  subst h2
  exact ⟨b, h1, by cases n <;> rfl⟩
theorem intSp_ok (hA : BdOk (fun n => (A n).length) bd) (hI : e.I = spI A O) {ty : TypeId} {op : BinOp} {x y : Int × List Int} {v : AV} (h : intSp bd op x y = some v) :
    ∃ v', (binOp op ty (.int .i64 (linV (fun n => (A n).length) x.1 x.2)) (.int .i64 (linV (fun n => (A n).length) y.1 y.2))).run P w = .ok v' w ∧ VR e v v' := by
  cases op <;> simp only [intSp, reduceCtorEq] at h
  case add =>
    have := mkR_ok (e := e) hA hI h
    rw [show Int.add x.1 y.1 = x.1 + y.1 from rfl, linV_add] at this
    exact ⟨_, by simp [binOp, Op.intArith], this⟩
  case sub =>
    have := mkR_ok (e := e) hA hI h
    rw [linV_sub] at this
    exact ⟨_, by simp [binOp, Op.intArith], this⟩
  all_goals generalize hX : linV (fun n => (A n).length) x.1 x.2 = X
  all_goals generalize hY : linV (fun n => (A n).length) y.1 y.2 = Y
  all_goals obtain ⟨b, h1, rfl⟩ := bO_ok h
  case eql => have k := isEq_ok hA h1; rw [hX, hY] at k; subst k; exact ⟨.bool (X == Y), by simp [binOp, Op.intCmp], by rw [if_neg (by decide)]; exact .bool _⟩
  case neq => have k := isEq_ok hA h1; rw [hX, hY] at k; subst k; exact ⟨.bool (X != Y), by simp [binOp, Op.intCmp], by rw [if_pos rfl]; exact .bool _⟩
  case lss => have k := isLt_ok hA h1; rw [hX, hY] at k; subst k; exact ⟨.bool (decide (X < Y)), by simp [binOp, Op.intCmp], by rw [if_neg (by decide)]; exact .bool _⟩
  case leq => have k := isLt_ok hA h1; rw [hX, hY] at k; subst k; exact ⟨.bool (decide (X ≤ Y)), by simp [binOp, Op.intCmp], by rw [if_pos rfl, show (!decide (Y < X)) = decide (X ≤ Y) by rw [Bool.eq_iff_iff]; simp]; exact .bool _⟩
  case gtr => have k := isLt_ok hA h1; rw [hX, hY] at k; subst k; exact ⟨.bool (decide (X > Y)), by simp [binOp, Op.intCmp], by rw [if_neg (by decide)]; exact .bool _⟩
  case geq => have k := isLt_ok hA h1; rw [hX, hY] at k; subst k; exact ⟨.bool (decide (X ≥ Y)), by simp [binOp, Op.intCmp], by rw [if_pos rfl, show (!decide (X < Y)) = decide (X ≥ Y) by rw [Bool.eq_iff_iff]; simp]; exact .bool _⟩
theorem strB_len_ne {a b : List Nat} (h : (a.length : Int) ≠ b.length) : strB a ≠ strB b := fun hh => by
  have := congrArg ByteArray.size hh
  rw [strB_size, strB_size] at this
  exact h (by rw [this])
theorem strSp_ok (hA : BdOk (fun n => (A n).length) bd) (hI : e.I = spI A O) {ty : TypeId} {op : BinOp} {x y : List SP} {v : AV} (h : strSp bd op x y = some v) (hx : ∀ z ∈ bytesS A x, z < 256) (hy : ∀ z ∈ bytesS A y, z < 256) :
    ∃ v', (binOp op ty (.string (strB (bytesS A x))) (.string (strB (bytesS A y)))).run P w = .ok v' w ∧ VR e v v' := by
  cases op <;> simp only [strSp, reduceCtorEq] at h
  case add =>
    obtain ⟨m, h1, h2⟩ := opt_sm h
    rcases cnd_eq h2 with ⟨_, h3⟩ | ⟨h3, h4⟩
    · cases h3
    injection h4 with h4
    subst h4
    have k1 := uppB_le hA h1
    rw [← lenS_ok, bytesS_app, List.length_append] at k1
    rw [ltI_eq] at h3
    have k2 : ¬ 1000000000 < m := by simpa using h3
    have sz : ¬ ((((strB (bytesS A x)).size + (strB (bytesS A y)).size : Nat) : Int) > IntKind.i64.max) := by
      rw [strB_size, strB_size]
      have : IntKind.i64.max = 9223372036854775807 := rfl
      rw [this]; omega
    refine ⟨.string (strB (bytesS A x) ++ strB (bytesS A y)), by simp only [binOp, Op.stringOp, Sem.run_ite, if_neg sz, Sem.run_pure], ?_⟩
    rw [strB_app, ← bytesS_app]
    refine mkS_ok hI fun z hz => ?_
    rw [bytesS_app] at hz
    rcases List.mem_append.1 hz with hz | hz
    · exact hx z hz
    · exact hy z hz
  all_goals
    obtain ⟨b, h1, h2⟩ := opt_sm h
    rcases cnd_eq h2 with ⟨_, h3⟩ | ⟨h3, h4⟩
    · cases h3
    injection h4 with h4
    subst h4
    have k := isEq_ok hA h1
    rw [h3, ← lenS_ok, ← lenS_ok] at k
    have hne : eqL (bytesS A x) (bytesS A y) = false := by
      rw [Bool.eq_false_iff]
      intro hh
      rw [eqL_inj hh] at k
      simp at k
    have h0 : bool_ (eqL (bytesS A x) (bytesS A y)) (.mk .nil 0 0 .nil) = .val (.bool false) (.mk .nil 0 0 .nil) := by rw [hne]; rfl
    have h00 : bool_ (Bool.not (eqL (bytesS A x) (bytesS A y))) (.mk .nil 0 0 .nil) = .val (.bool true) (.mk .nil 0 0 .nil) := by rw [hne]; rfl
  case eql =>
    obtain ⟨v', k1, k2, -⟩ := strA_ok (P := P) (w := w) (e := e) (t := ty) (op := .eql) h0 hx hy
    exact ⟨v', k1, k2⟩
  case neq =>
    obtain ⟨v', k1, k2, -⟩ := strA_ok (P := P) (w := w) (e := e) (t := ty) (op := .neq) h00 hx hy
    exact ⟨v', k1, k2⟩
theorem binSp_ok (hA : BdOk (fun n => (A n).length) bd) (hI : e.I = spI A O) {ty : TypeId} {op : BinOp} {x y v : AV} {x' y' : Value} (h : binSp bd op x y = some v) (hx : VR e x x') (hy : VR e y y') :
    ∃ v', (binOp op ty x' y').run P w = .ok v' w ∧ VR e v v' := by
  unfold binSp at h
  split at h
  · rename_i a ha
    split at h
    · rename_i b hb
      obtain ⟨rfl, h1⟩ := toS_ok hI ha hx
      obtain ⟨rfl, h2⟩ := toS_ok hI hb hy
      exact strSp_ok hA hI h h1 h2
    · cases h
  · split at h
    · rename_i a ha
      split at h
      · rename_i b hb
        obtain rfl := toL_ok hI ha hx
        obtain rfl := toL_ok hI hb hy
        exact intSp_ok hA hI h
      · cases h
    · cases h
theorem mmSp_ok (hA : BdOk (fun n => (A n).length) bd) (hI : e.I = spI A O) {b : Bool} {x y v : AV} {x' y' : Value} (h : mmSp bd b x y = some v) (hx : VR e x x') (hy : VR e y y') :
    ∃ v', ((if b then Builtin.max2 else Builtin.min2) x' y').run P w = .ok v' w ∧ VR e v v' := by
  obtain ⟨a, h1, h2⟩ := opt_sm h
  obtain ⟨a2, h3, h4⟩ := opt_sm h2
  obtain ⟨c, h5, h6⟩ := opt_sm h4
  injection h6 with h6
  subst h6
  obtain rfl := toL_ok hI h1 hx
  obtain rfl := toL_ok hI h3 hy
  have ka := mkL_ok (A := A) (O := O) hI a.1 a.2
  have kb := mkL_ok (A := A) (O := O) hI a2.1 a2.2
  generalize hX : linV (fun n => (A n).length) a.1 a.2 = X at *
  generalize hY : linV (fun n => (A n).length) a2.1 a2.2 = Y at *
  cases b
  · have k := isLt_ok hA (show isLt bd a2 a = some c from h5)
    rw [hX, hY] at k
    subst k
    by_cases hlt : Y < X
    · refine ⟨.int .i64 Y, by simp [Builtin.min2, hlt], ?_⟩
      rw [show decide (Y < X) = true by simp [hlt]]
      exact kb
    · refine ⟨.int .i64 X, by simp [Builtin.min2, hlt], ?_⟩
      rw [show decide (Y < X) = false by simp [hlt]]
      exact ka
  · have k := isLt_ok hA (show isLt bd a a2 = some c from h5)
    rw [hX, hY] at k
    subst k
    by_cases hlt : X < Y
    · refine ⟨.int .i64 Y, by simp [Builtin.max2, hlt], ?_⟩
      rw [show decide (X < Y) = true by simp [hlt]]
      exact kb
    · refine ⟨.int .i64 X, by simp [Builtin.max2, hlt], ?_⟩
      rw [show decide (X < Y) = false by simp [hlt]]
      exact ka
theorem sp_operands {b : Builtin} {args : Array Operand} {ats : Array TypeId} (ρ : Operand → Value) : ((Op.call ⟨.builtin b, args, ats⟩).operands.toList.map ρ) = (args.map ρ).toList := by
  have : (Op.call ⟨.builtin b, args, ats⟩).operands = args := by simp [Op.operands, Call.operands]
  rw [this, Array.toList_map]
theorem mm2_run {b : Bool} {args' : Array Value} {x y v : Value} {ts : Array TypeId} {ty : TypeId} (hL : args'.toList = [x, y]) (h : ((if b then Builtin.max2 else Builtin.min2) x y).run P w = .ok v w) : (if b then Builtin.max_ ts ty args' else Builtin.min_ ts ty args').run P w = .ok v w := by
  cases b
  · simpa [Builtin.min_, hL] using h
  · simpa [Builtin.max_, hL] using h
theorem spH_ok (hT : TTok P ⟨t, some (spH t bd)⟩) (hA : BdOk (fun n => (A n).length) bd) : SpOk P (spI A O) ⟨t, some (spH t bd)⟩ := by
  intro h hh o vals v hv
  injection hh with hh
  subst hh
  obtain ⟨dst, op, ty, pos, after, guard⟩ := o
  simp only at hv
  unfold spH at hv
  split at hv
  · rename_i op t1 x y t2
    refine ⟨rfl, fun ρ e w hI hvs => ?_⟩
    split at hv
    · rename_i X Y
      rcases cnd_eq hv with ⟨h1, h2⟩ | ⟨_, h2⟩
      · have hvs : VRs e [X, Y] [ρ x, ρ y] := hvs
        cases hvs with
        | cons _ _ _ _ k1 k2 => cases k2 with
          | cons _ _ _ _ k3 k4 =>
          obtain ⟨v', r1, r2⟩ := binSp_ok (P := P) (w := w) (ty := t1) hA hI h2 k1 k3
          refine ⟨v', ?_, r2⟩
          have hna : ∀ l, ρ x ≠ .agg l := by
            rintro l hl
            rw [hl] at k1
            cases k1 with
            | agg l l' _ _ =>
            unfold binSp toS toL at h2
            cases h2
          have hg := guard_ok (P := P) (w := w) (op := op) (t := t1) (ox := x) (oy := y) (y' := ρ y) k1 (fun hn => by
            exfalso
            unfold binSp at h2
            cases X <;> first | (cases hn; done) | (simp [toS, toL] at h2; done) | skip) hna
          show (do let v ← (do eqGuard op t1 x y (ρ x) (ρ y); binOp op t1 (ρ x) (ρ y) : Sem Value); pure (Next.value v)).run P w = _
          simp only [Sem.run_bind, hg, Result.andThen_ok, r1, Sem.run_pure]
      · cases h2
    · cases hv
  · rename_i t1 x
    refine ⟨rfl, fun ρ e w hI hvs => ?_⟩
    split at hv
    · rename_i c cs
      have hvs : VRs e [_] [ρ x] := hvs
      cases hvs with
      | cons _ _ _ _ k1 k2 =>
        have hx := toL_ok (x := (c, cs)) hI rfl k1
        have r2 := mkR_ok (e := e) hA hI hv
        rw [show Int.neg c = -c from rfl, linV_neg] at r2
        refine ⟨_, ?_, r2⟩
        show (do let v ← Op.unary .neg (ρ x); pure (Next.value v) : Sem Next).run P w = _
        rw [hx]
        simp [Op.unary, Op.intArith]
    · cases hv
  · rename_i c
    obtain ⟨cl, args, ts⟩ := c
    simp only at hv
    split at hv
    · split at hv
      · rename_i l
        split at hv
        · rename_i t1 hts
          obtain ⟨i, h1, h2⟩ := opt_sm hv
          split at h2
          · rename_i hc
            injection h2 with h2
            subst h2
            refine ⟨rfl, fun ρ e w hI hvs => ?_⟩
            rw [sp_operands] at hvs
            generalize hL : (args.map ρ).toList = L at hvs
            cases hvs with
            | cons _ x' _ _ k1 k2 => cases k2 with
              | nil =>
              obtain ⟨rfl, h3⟩ := toS_ok (x := l) hI rfl k1
              have r2 := mkL_ok (A := A) (O := O) hI (lenS l).1 (lenS l).2
              obtain ⟨info, d, i1, i2, i3, i4, i5, -⟩ := (hT t1 i h1).ex
              rw [hc] at i5
              obtain rfl : d = .string := i5
              refine ⟨_, ?_, r2⟩
              obtain ⟨ts⟩ := ts
              simp only at hts
              subst hts
              have hA0 : args.map ρ = #[.string (strB (bytesS A l))] := Array.ext' hL
              show (do let v ← Builtin.len_ #[t1] ty (args.map ρ); pure (Next.value v) : Sem Next).run P w = _
              rw [hA0]
              simp [Builtin.len_, run_underlying i3, goInt, strB_size, lenS_ok]
          · cases h2
        · cases hv
      · cases hv
    · split at hv
      · rename_i X Y
        rcases cnd_eq hv with ⟨h1, h2⟩ | ⟨_, h2⟩
        · refine ⟨rfl, fun ρ e w hI hvs => ?_⟩
          rw [sp_operands] at hvs
          generalize hL : (args.map ρ).toList = L at hvs
          cases hvs with
          | cons _ x' _ _ k1 k2 => cases k2 with
            | cons _ y' _ _ k3 k4 => cases k4 with
              | nil =>
              obtain ⟨v', r1, r2⟩ := mmSp_ok (P := P) (w := w) hA hI h2 k1 k3
              have r3 := mm2_run (b := true) (ts := ts) (ty := ty) hL r1
              refine ⟨v', ?_, r2⟩
              show (do let v ← Builtin.max_ ts ty (args.map ρ); pure (Next.value v) : Sem Next).run P w = _
              simp only [Sem.run_bind, show (Builtin.max_ ts ty (args.map ρ)).run P w = .ok v' w from r3, Result.andThen_ok, Sem.run_pure]
        · cases h2
      · cases hv
    · split at hv
      · rename_i X Y
        rcases cnd_eq hv with ⟨h1, h2⟩ | ⟨_, h2⟩
        · refine ⟨rfl, fun ρ e w hI hvs => ?_⟩
          rw [sp_operands] at hvs
          generalize hL : (args.map ρ).toList = L at hvs
          cases hvs with
          | cons _ x' _ _ k1 k2 => cases k2 with
            | cons _ y' _ _ k3 k4 => cases k4 with
              | nil =>
              obtain ⟨v', r1, r2⟩ := mmSp_ok (P := P) (w := w) hA hI h2 k1 k3
              have r3 := mm2_run (b := false) (ts := ts) (ty := ty) hL r1
              refine ⟨v', ?_, r2⟩
              show (do let v ← Builtin.min_ ts ty (args.map ρ); pure (Next.value v) : Sem Next).run P w = _
              simp only [Sem.run_bind, show (Builtin.min_ ts ty (args.map ρ)).run P w = .ok v' w from r3, Result.andThen_ok, Sem.run_pure]
        · cases h2
      · cases hv
    · cases hv
  · cases hv
end
end Go.Proofs.YtpnoiagjgkajdaaGreatDoor.Av
end
