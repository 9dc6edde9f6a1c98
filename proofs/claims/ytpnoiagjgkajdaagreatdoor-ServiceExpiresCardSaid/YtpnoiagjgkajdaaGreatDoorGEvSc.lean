/- The evaluator is sound: operations in a frame; regions. -/
import Derived.Orders
import Derived.Test.YtpnoiagjgkajdaaGreatDoorGEvSb
set_option linter.unusedVariables false
set_option linter.unusedSimpArgs false
noncomputable section
namespace Go.Proofs.YtpnoiagjgkajdaaGreatDoor.Av
open Go
section
variable {P : Program} {I : SX → Value → Prop} {tt : TT} {e e' : Env} {σ σ1 σ' : AH} {w : World} {g : Tr AV} {ρ : Operand → Value} {B : Nat}
theorem evOp_ok (hT : TTok P tt) (hr : Rel e σ w) (hG : ∀ x, okX B x = true → VR e (opnd g x) (ρ x)) {o : Oper} {v : AV} (h : evOp tt g o.op σ = .val v σ') (hO : okO B o.op = true) : Did P (execOp ρ o) e σ w v σ' := by
  have key := evOp2_ok (o := o) (v := v) (σ' := σ') hT hr hG
  obtain ⟨dst, op, ty, pos, after, guard⟩ := o
  simp only at h hO key
  cases op <;> first | exact key h hO | skip
  · rename_i x
    replace h : R.val (opnd g x) σ = .val v σ' := h
    injection h with h1 h2
    subst h1 h2
    exact ⟨e, w, .value (ρ x), ρ x, rfl, .inl rfl, hG x hO, .refl hr⟩
  · rename_i x
    replace h : R.val (opnd g x) σ = .val v σ' := h
    injection h with h1 h2
    subst h1 h2
    exact ⟨e, w, .value (ρ x), ρ x, rfl, .inl rfl, hG x hO, .refl hr⟩
  · rename_i t a
    replace h : opLoad tt g t a σ = .val v σ' := h
    obtain ⟨⟨l, o⟩, h1, h2⟩ := opt_val h
    obtain ⟨u, h3, h4⟩ := opt_val h2
    injection h4 with h5 h6
    subst h5 h6
    have ha := hG a hO
    rw [asP_eq h1] at ha
    generalize hρ : ρ a = y at ha
    cases ha with
    | ptr _ _ b hb =>
    obtain ⟨v', k1, k2⟩ := loadA_ok hT hr h3 hb
    have := same_did (P := P) (s := Instr.loadAt t (ρ a)) hr ⟨v', by rw [hρ]; exact k1, k2, rfl⟩
    exact this
  · rename_i t a x
    replace hO : okL B [a, x] = true := hO
    obtain ⟨o1, o2⟩ := okL_cons hO
    obtain ⟨o3, -⟩ := okL_cons o2
    replace h : opStore tt g t a x σ = .val v σ' := h
    obtain ⟨⟨l, o⟩, h1, h2⟩ := opt_val h
    have ha := hG a o1
    rw [asP_eq h1] at ha
    generalize hρ : ρ a = y at ha
    cases ha with
    | ptr _ _ b hb =>
    obtain ⟨w', k1, k2, k3⟩ := storeA_ok hT hr h2 hb (hG x o3)
    exact unit_did (P := P) (s := Instr.storeAt t (ρ a) (ρ x)) ⟨w', by rw [hρ]; exact k1, k2, k3⟩
  · rename_i x
    replace h : opNil g x σ = .val v σ' := h
    rcases cnd_eq h with ⟨h1, h2⟩ | ⟨h1, h2⟩
    · cases h2
    · injection h2 with h3 h4
      subst h3 h4
      have hx := hG x hO
      refine ⟨e, w, .value (ρ x), ρ x, ?_, .inl rfl, hx, .refl hr⟩
      generalize hρ : ρ x = y at hx
      generalize opnd g x = z at hx h1
      cases hx <;> first | (cases h1; done) | simp [execOp, hρ]
  · rename_i op t x y t2
    obtain ⟨o1, o2⟩ := okL_cons (show okL B [x, y] = true from hO)
    obtain ⟨o3, -⟩ := okL_cons o2
    exact same_did (P := P) hr (opBin_ok hT hr h (hG x o1) (hG y o3))
  · rename_i s x f
    exact same_did (P := P) hr (fieldAddr_ok hT hr h (hG x hO))
  · rename_i t x i
    obtain ⟨o1, o2⟩ := okL_cons (show okL B [x, i] = true from hO)
    obtain ⟨o3, -⟩ := okL_cons o2
    exact same_did (P := P) hr (indexAddr_ok hT hr h (hG x o1) (hG i o3))
  · rename_i t i
    exact same_did (P := P) hr (extr_ok h (hG t hO))
theorem callOf_eq (g : Tr AV) (o : Op) : callOf g o = (match o with
    | .call c => (match c.callee with
      | .value f => fnOf (opnd g f) (opnds g c.args.toList)
      | _ => none)
    | _ => none) := by
  cases o <;> try rfl
  rename_i c
  obtain ⟨cl, a, t⟩ := c
  cases cl <;> rfl
theorem callOf_ok (hG : ∀ x, okX B x = true → VR e (opnd g x) (ρ x)) {o : Oper} {f : Nat} {args : List AV} (h : callOf g o.op = some (f, args)) (hO : okO B o.op = true) : ∃ args', VRs e args args' ∧ ∀ w, (execOp ρ o).run P w = (callFunc f args'.toArray).run P w := by
  obtain ⟨dst, op, ty, pos, after, guard⟩ := o
  simp only at h hO
  rw [callOf_eq] at h
  split at h
  · rename_i c
    obtain ⟨h1, h2⟩ := and_cnd (show cnd (okF B c.callee) (okL B c.args.toList) false = true from hO)
    obtain ⟨callee, as, ats⟩ := c
    simp only at h h1 h2
    split at h
    · rename_i x
      have hx := hG x h1
      unfold fnOf at h
      split at h
      · rename_i f' first cap hq
        injection h with h
        injection h with h3 h4
        subst h3 h4
        rw [hq] at hx
        generalize hρ : ρ x = y at hx
        cases hx with
        | fn _ _ _ fs' cs' q1 q2 =>
        refine ⟨fs' ++ (as.toList.map ρ ++ cs'), q1.app ((args_ok hG h2).app q2), fun w => ?_⟩
        have e1 : (fs'.toArray ++ as.map ρ) ++ cs'.toArray = (fs' ++ (as.toList.map ρ ++ cs')).toArray := by apply Array.ext'; simp
        rw [← e1]
        simp [execOp, resolve, hρ, Deferred.ofValue, invoke]
      · cases h
    · cases h
  · cases h
theorem cvB_ok (s : ByteArray) : strB (cvB s) = s ∧ ∀ x ∈ cvB s, x < 256 := by
  refine ⟨?_, fun x hx => ?_⟩
  · obtain ⟨⟨l⟩⟩ := s
    apply ByteArray.ext
    simp only [strB, cvB, List.map_map]
    congr 1
    have : (UInt8.ofNat ∘ UInt8.toNat) = id := by funext a; simp
    rw [this, List.map_id]
  · obtain ⟨a, _, rfl⟩ := List.mem_map.1 hx
    exact a.toNat_lt
theorem cv0_ok {v : Value} {x : AV} (h : cv0 v = some x) : VR e x v ∧ x.one = true := by
  unfold cv0 at h
  split at h <;> first | (cases h; done) | skip
  all_goals (injection h with h; subst h)
  · exact ⟨.bool _, rfl⟩
  · exact ⟨.int _ _, rfl⟩
  · rename_i s
    obtain ⟨h1, h2⟩ := cvB_ok s
    have := VR.str (e := e) _ h2
    rw [h1] at this
    exact ⟨this, rfl⟩
  · exact ⟨.nilp, rfl⟩
  · exact ⟨.nilsl, rfl⟩
  · exact ⟨.nilmap, rfl⟩
  · exact ⟨.nilfn, rfl⟩
  · exact ⟨.nilif, rfl⟩
theorem cvL_ok : ∀ {l : List Value} {r : List AV}, cvL l = some r → VRs e r l ∧ ∀ x ∈ r, x.one = true
  | [], r, h => by
    injection h with h
    subst h
    exact ⟨.nil, fun x hx => by cases hx⟩
  | v :: l, r, h => by
    unfold cvL at h
    split at h
    · rename_i a ha
      split at h
      · rename_i r2 hr2
        injection h with h
        subst h
        obtain ⟨h1, h2⟩ := cvL_ok hr2
        obtain ⟨h3, h4⟩ := cv0_ok (e := e) ha
        refine ⟨.cons _ _ _ _ h3 h1, fun x hx => ?_⟩
        rcases List.mem_cons.1 hx with rfl | hx
        · exact h4
        · exact h2 x hx
      · cases h
    · cases h
theorem cvV_ok {v : Value} {x : AV} (h : cvV v = some x) : VR e x v := by
  unfold cvV at h
  split at h
  · rename_i cs
    split at h
    · rename_i l hl
      injection h with h
      subst h
      obtain ⟨h1, h2⟩ := cvL_ok (e := e) hl
      exact .agg _ _ h2 h1
    · cases h
  · rename_i cs
    split at h
    · rename_i hl
      injection h with h
      subst h
      obtain ⟨l⟩ := cs
      simp only at hl
      subst hl
      exact .tup [] [] .nil
    · cases h
  · exact (cv0_ok h).1
/-- The frame, and what is known of it. -/
def FR (e : Env) (g : Tr AV) (a : Act) : Prop := ∀ t, VR e (opnd g (.tmp t)) (a.eval (.tmp t))
def Glob (B : Nat) (I : SX → Value → Prop) (e : Env) : Prop := (∀ n, n < B → e.ρ n = some n) ∧ e.I = I
theorem FR.mono {a : Act} (h : FR e g a) (hl : e.le e') : FR e' g a := fun t => (h t).mono hl
theorem Glob.mono (h : Glob B I e) (hl : e.le e') : Glob B I e' := ⟨fun n hn => hl.1 _ _ (h.1 n hn), hl.2.2.trans h.2⟩
theorem FR.all {a : Act} (h : FR e g a) (hB : Glob B I e) (x : Operand) (hx : okX B x = true) : VR e (opnd g x) (a.eval x) := by
  cases x with
  | tmp t => exact h t
  | const v =>
    have h1 : opt false (cvV v) (fun _ => true) = true := hx
    show VR e (opt undef0 (cvV v) fun v => v) v
    cases hq : cvV v with
    | none => rw [hq] at h1; cases h1
    | some y => exact cvV_ok hq
  | global n =>
    have h1 : Nat.blt n B = true := hx
    rw [Nat.blt_eq] at h1
    exact .ptr n 0 n (hB.1 n h1)
  | func f => exact .fn f [] [] [] [] .nil .nil
theorem FR.put {a : Act} {d : Option Tmp} {v : AV} {v' : Value} (h : FR e g a) (hd : ∀ t, d = some t → t < a.tmps.size) (hv : VR e v v') : FR e (putD g d v) (a.put d v') := by
  cases d with
  | none => exact h
  | some d =>
    intro t
    have hd := hd d rfl
    show VR e (opt undef0 ((Tr.put g d (some v)).get t) fun v => v) ((a.tmps.setIfInBounds d v').getD t undef)
    rw [Tr.get_put, Array.getD_eq_getD_getElem?, Array.getElem?_setIfInBounds]
    by_cases ht : t = d
    · subst ht
      rw [if_pos rfl, if_pos rfl, if_pos hd]
      exact hv
    · rw [if_neg ht, if_neg (Ne.symm ht), ← Array.getD_eq_getD_getElem?]
      exact h t
theorem put_size (a : Act) (d : Option Tmp) (v : Value) : (a.put d v).tmps.size = a.tmps.size := by cases d <;> simp [Act.put]
theorem put_defers (a : Act) (d : Option Tmp) (v : Value) : (a.put d v).defers = a.defers := by cases d <;> rfl
theorem wanted_ok {a : Act} {all : Array Oper} {o : Oper} (h : FR e g a) : Region.wanted o (yielded all a.tmps) = wantA all g o ∨ ∃ (j : Nat) (oj : Oper) (d : Nat), all[j]? = some oj ∧ oj.dst = some d ∧ a.tmps.size ≤ d := by
  unfold Region.wanted wantA
  cases hg : o.guard with
  | none => exact .inl rfl
  | some jw =>
    obtain ⟨j, b⟩ := jw
    show ((yielded all a.tmps j == some b) = (match all[j]? with
      | some oj => (match oj.dst with
        | some d => opt false (g.get d) fun v => opt false v.asB fun c => cnd c b (Bool.not b)
        | none => false)
      | none => false)) ∨ _
    unfold yielded
    cases hj : all[j]? with
    | none => exact .inl rfl
    | some oj =>
      cases hd : oj.dst with
      | none => left; simp [hd]
      | some d =>
        by_cases hlt : d < a.tmps.size
        · left
          have hv := h d
          have hev : a.eval (.tmp d) = a.tmps[d] := by show a.tmps.getD d undef = _; rw [Array.getD_eq_getD_getElem?, Array.getElem?_eq_getElem hlt]; rfl
          rw [hev] at hv
          have hop : opnd g (.tmp d) = opt undef0 (g.get d) fun v => v := rfl
          rw [hop] at hv
          simp only [Option.bind_some, hd, Array.getElem?_eq_getElem hlt]
          cases hgd : g.get d with
          | none =>
            rw [hgd] at hv
            have hv : VR e (.tup []) a.tmps[d] := hv
            generalize a.tmps[d] = z at hv
            cases hv
            rfl
          | some v =>
            rw [hgd] at hv
            have hv : VR e v a.tmps[d] := hv
            generalize a.tmps[d] = z at hv
            cases hv <;> first | rfl | skip
            rename_i c
            cases c <;> cases b <;> rfl
        · exact .inr ⟨j, oj, d, hj, hd, Nat.le_of_not_lt hlt⟩
/-- What is told of operations on values that are unknown. -/
def SpOk (P : Program) (I : SX → Value → Prop) (tt : TT) : Prop := ∀ h, tt.sp = some h → ∀ (o : Oper) vals v, h o.op vals = some v → effO tt o.op = false ∧ ∀ (ρ : Operand → Value) (e : Env) (w : World), e.I = I → VRs e vals (o.op.operands.toList.map ρ) → ∃ v', (execOp ρ o).run P w = .ok (.value v') w ∧ VR e v v'
/-- The table, and what is told of operations. -/
def TSok (P : Program) (I : SX → Value → Prop) (tt : TT) : Prop := TTok P tt ∧ SpOk P I tt
theorem okO_spK {o : Op} (h : spK o = true) (hO : okO B o = true) : okL B o.operands.toList = true := by
  cases o <;> first | (cases h; done) | skip
  · exact hO
  · rename_i x
    have hO : okX B x = true := hO
    show cnd (okX B x) true false = true
    rw [hO]; rfl
  · rename_i x
    have hO : okX B x = true := hO
    show cnd (okX B x) true false = true
    rw [hO]; rfl
  · exact hO
  · rename_i c
    obtain ⟨cl, a, t⟩ := c
    cases cl <;> first | (cases h; done) | skip
    obtain ⟨-, h2⟩ := and_cnd (show cnd true (okL B a.toList) false = true from hO)
    have : (Op.call ⟨.builtin ‹_›, a, t⟩).operands = a := by simp [Op.operands, Call.operands]
    rw [this]
    exact h2
theorem evOpS_cases {o : Op} {v : AV} (h : evOpS tt g o σ = .val v σ') : evOp tt g o σ = .val v σ' ∨ ∃ f, tt.sp = some f ∧ spK o = true ∧ f o (opnds g o.operands.toList) = some v ∧ σ' = σ := by
  unfold evOpS at h
  cases hf : tt.sp with
  | none => rw [hf] at h; exact .inl h
  | some f =>
    rw [hf] at h
    have h0 : cnd (spK o) (opt (evOp tt g o σ) (f o (opnds g o.operands.toList)) fun v => .val v σ) (evOp tt g o σ) = .val v σ' := h
    rcases cnd_eq h0 with ⟨h1, h2⟩ | ⟨h1, h2⟩
    · cases hq : f o (opnds g o.operands.toList) with
      | none => rw [hq] at h2; exact .inl h2
      | some u =>
        rw [hq] at h2
        have h2 : R.val u σ = .val v σ' := h2
        injection h2 with h3 h4
        exact .inr ⟨f, rfl, h1, by rw [hq, h3], h4.symm⟩
    · exact .inl h2
theorem evOpS_ok (hT : TTok P tt) (hS : SpOk P I tt) (hI : e.I = I) (hr : Rel e σ w) (hG : ∀ x, okX B x = true → VR e (opnd g x) (ρ x)) {o : Oper} {v : AV} (h : evOpS tt g o.op σ = .val v σ') (hO : okO B o.op = true) : Did P (execOp ρ o) e σ w v σ' := by
  rcases evOpS_cases h with h | ⟨f, h1, h2, h3, rfl⟩
  · exact evOp_ok hT hr hG h hO
  · obtain ⟨-, h4⟩ := hS f h1 o _ v h3
    obtain ⟨v', h5, h6⟩ := h4 ρ e w hI (args_ok hG (okO_spK h2 hO))
    exact ⟨e, w, .value v', v', h5, .inl rfl, h6, .refl hr⟩
end
end Go.Proofs.YtpnoiagjgkajdaaGreatDoor.Av
end
noncomputable section
namespace Go.Proofs.YtpnoiagjgkajdaaGreatDoor.Av
open Go
def okDst (n : Nat) : Option Tmp → Bool
  | none => true
  | some d => Nat.blt d n
def okOps (B n : Nat) : List Oper → Bool := List.rec true fun o _ ih => cnd (okO B o.op) (cnd (okDst n o.dst) ih false) false
section
variable {P : Program} {I : SX → Value → Prop} {tt : TT} {e e' : Env} {σ σ1 σ' : AH} {w : World} {g : Tr AV} {B n : Nat}
theorem okOps_cons {o : Oper} {l : List Oper} (h : okOps B n (o :: l) = true) : okO B o.op = true ∧ okDst n o.dst = true ∧ okOps B n l = true := by
  obtain ⟨h1, h2⟩ := and_cnd (show cnd (okO B o.op) (cnd (okDst n o.dst) (okOps B n l) false) false = true from h)
  exact ⟨h1, and_cnd h2⟩
theorem okOps_dst : ∀ {l : List Oper}, okOps B n l = true → ∀ (j : Nat) (o : Oper), l[j]? = some o → ∀ d, o.dst = some d → d < n
  | [], _, j, o, h, _, _ => by simp at h
  | x :: l, h, 0, o, ho, d, hd => by
    rw [List.getElem?_cons_zero] at ho
    injection ho with ho
    subst ho
    have := (okOps_cons h).2.1
    rw [hd] at this
    have : Nat.blt d n = true := this
    rwa [Nat.blt_eq] at this
  | x :: l, h, j + 1, o, ho, d, hd => by
    rw [List.getElem?_cons_succ] at ho
    exact okOps_dst (okOps_cons h).2.2 j o ho d hd
/-- What a call leaves. -/
def Post (e : Env) (σ : AH) (w : World) (v : AV) (σ' : AH) : Ending → World → Prop
  | .returned v', w' => ∃ e', VR e' v v' ∧ Step e σ w e' σ' w'
  | _, _ => False
def CallOk (P : Program) (B : Nat) (I : SX → Value → Prop) (call : Nat → List AV → AH → RV) : Prop := ∀ f args σ v σ', call f args σ = .ok v σ' → ∀ e w args', Rel e σ w → Glob B I e → VRs e args args' →
  (∀ w, (callFunc f args'.toArray).run P w = .ok (.enter f args'.toArray) w) ∧ Calls P f args'.toArray w (Post e σ w v σ')
theorem evOps_ok (hT : TSok P I tt) {call : Nat → List AV → AH → RV} (hC : CallOk P B I call) {fid rid : Nat} {all : Array Oper} (hall : okOps B n all.toList = true) :
    ∀ (l : List Oper) (g : Tr AV) (σ : AH) (a : Act) (w : World) (e : Env) {x : Ex} {g' : Tr AV} {σ' : AH}, evOps tt call fid rid all l g σ = .ok x g' σ' → okOps B n l = true → FR e g a → a.tmps.size = n → Rel e σ w → Glob B I e →
      ∀ Q : Exit → Act → World → Prop, (∀ e' a' w', Step e σ w e' σ' w' → FR e' g' a' → a'.tmps.size = n → a'.defers = a.defers → Q .normal a' w') → x = .normal ∧ wpList P all Q l a w
  | [], g, σ, a, w, e, x, g', σ', h, _, hF, hn, hr, _, Q, hQ => by
    injection h with h1 h2 h3
    subst h1 h2 h3
    exact ⟨rfl, hQ e a w (.refl hr) hF hn rfl⟩
  | o :: l, g, σ, a, w, e, x, g', σ', h, hok, hF, hn, hr, hB, Q, hQ => by
    obtain ⟨k1, k2, k3⟩ := okOps_cons hok
    have hd : ∀ t, o.dst = some t → t < a.tmps.size := fun t ht => by
      rw [ht] at k2
      have : Nat.blt t n = true := k2
      rw [Nat.blt_eq] at this
      rw [hn]; exact this
    have hw : Region.wanted o (yielded all a.tmps) = wantA all g o := by
      rcases wanted_ok (all := all) (o := o) hF with h | ⟨j, oj, d, h1, h2, h3⟩
      · exact h
      · have := okOps_dst hall j oj (by rw [Array.getElem?_toList]; exact h1) d h2
        rw [hn] at h3
        exact absurd this (Nat.not_lt_of_le h3)
    have hG := fun x hx => hF.all hB x hx
    have step : ∀ {e1 : Env} {σ1 : AH} {w1 : World} {u : AV} {u' : Value}, Step e σ w e1 σ1 w1 → VR e1 u u' → evOps tt call fid rid all l (putD g o.dst u) σ1 = .ok x g' σ' → x = .normal ∧ wpList P all Q l (a.put o.dst u') w1 := fun {e1 σ1 w1 u u'} hs hu he =>
      evOps_ok hT hC hall l _ σ1 (a.put o.dst u') w1 e1 he k3 ((hF.mono hs.le).put hd hu) ((put_size a _ _).trans hn) hs.rel (hB.mono hs.le) Q fun e' a' w' s1 s2 s3 s4 => hQ e' a' w' (hs.trans s1) s2 s3 (s4.trans (put_defers a _ _))
    have h0 : cnd (wantA all g o) (opt (R.rec (motive := fun _ => RC) (fun v σ => evOps tt call fid rid all l (putD g o.dst v) σ) (fun _ _ _ => .bad fid rid 0) (.bad fid rid (o.dst.getD 0)) (evOpS tt g o.op σ)) (callOf g o.op) fun c =>
      RV.rec (motive := fun _ => RC) (fun v σ => evOps tt call fid rid all l (putD g o.dst v) σ) (fun f r i => .bad f r i) (call c.1 c.2 σ)) (evOps tt call fid rid all l (putD g o.dst undef0) σ) = .ok x g' σ' := h
    rcases cnd_eq h0 with ⟨h1, h2⟩ | ⟨h1, h2⟩
    · rw [h1] at hw
      have goal : ∀ p : x = .normal ∧ o.wp P a w (wpList P all Q l) Q, x = .normal ∧ wpList P all Q (o :: l) a w := fun p => ⟨p.1, by
        show if Region.wanted o (yielded all a.tmps) then _ else _
        rw [if_pos hw]
        exact .inl p.2⟩
      cases hc : callOf g o.op with
      | none =>
        rw [hc] at h2
        have h3 : R.rec (motive := fun _ => RC) (fun v σ => evOps tt call fid rid all l (putD g o.dst v) σ) (fun _ _ _ => .bad fid rid 0) (.bad fid rid (o.dst.getD 0)) (evOpS tt g o.op σ) = .ok x g' σ' := h2
        cases hv : evOpS tt g o.op σ with
        | bad => rw [hv] at h3; cases h3
        | call => rw [hv] at h3; cases h3
        | val v σ1 =>
          rw [hv] at h3
          obtain ⟨e1, w1, r, v', q1, q2, q3, q4⟩ := evOpS_ok hT.1 hT.2 hB.2 hr hG hv k1
          obtain ⟨p1, p2⟩ := step q4 q3 h3
          refine goal ⟨p1, ?_⟩
          unfold Oper.wp
          rw [q1]
          rcases q2 with rfl | ⟨rfl, rfl⟩
          · exact p2
          · exact p2
      | some fa =>
        obtain ⟨f, args⟩ := fa
        rw [hc] at h2
        have h3 : RV.rec (motive := fun _ => RC) (fun v σ => evOps tt call fid rid all l (putD g o.dst v) σ) (fun f r i => .bad f r i) (call f args σ) = .ok x g' σ' := h2
        cases hv : call f args σ with
        | bad => rw [hv] at h3; cases h3
        | ok v σ1 =>
          rw [hv] at h3
          obtain ⟨args', q1, q2⟩ := callOf_ok hG hc k1
          obtain ⟨q3, q4⟩ := hC f args σ v σ1 hv e w args' hr hB q1
          have hx : x = .normal := by
            obtain ⟨e0, w0, fr, r0, -⟩ := q4 []
            cases e0 with
            | returned v0 =>
              obtain ⟨e1, r1, r2⟩ := r0
              exact (step r2 r1 h3).1
            | panicked => exact r0.elim
            | outgrown => exact r0.elim
          refine goal ⟨hx, ?_⟩
          unfold Oper.wp
          rw [q2 w, q3 w]
          intro cs
          obtain ⟨e0, w0, fr, r0, r9⟩ := q4 cs
          refine ⟨e0, w0, fr, ?_, r9⟩
          cases e0 with
          | returned v0 =>
            obtain ⟨e1, r1, r2⟩ := r0
            exact (step r2 r1 h3).2
          | panicked => exact r0.elim
          | outgrown => exact r0.elim
    · rw [h1] at hw
      obtain ⟨p1, p2⟩ := step (.refl hr) (.tup [] [] .nil) h2
      refine ⟨p1, ?_⟩
      show if Region.wanted o (yielded all a.tmps) then _ else _
      rw [if_neg (by rw [hw]; decide)]
      exact p2
end
end Go.Proofs.YtpnoiagjgkajdaaGreatDoor.Av
end
noncomputable section
namespace Go.Proofs.YtpnoiagjgkajdaaGreatDoor.Av
open Go
section
variable {P : Program} {tt : TT} {e e' : Env} {σ σ1 σ' : AH} {w : World} {g g' : Tr AV} {B n : Nat}
theorem opnds_congr {l : List Operand} (h : ∀ x ∈ l, opnd g x = opnd g' x) : opnds g l = opnds g' l := List.map_congr_left h
theorem opParts_congr {ps : Array (Nat × Operand)} (h : ∀ x ∈ ps.toList.map (·.2), opnd g x = opnd g' x) : opParts g ps = opParts g' ps := List.map_congr_left fun p hp => by rw [h p.2 (List.mem_map.2 ⟨p, hp, rfl⟩)]
theorem optM_congr {o : Option Operand} (h : ∀ x, o = some x → opnd g x = opnd g' x) : o.map (opnd g) = o.map (opnd g') := by
  cases o with
  | none => rfl
  | some x => exact congrArg some (h x rfl)
theorem evOp_congr {o : Op} (h : ∀ x ∈ o.operands.toList, opnd g x = opnd g' x) : evOp tt g o σ = evOp tt g' o σ := by
  cases o <;> first | rfl | simp only [Op.operands] at h
  case move x => have hx := h x (by simp); show opVal g x σ = opVal g' x σ; simp only [opVal, hx]
  case assign x => have hx := h x (by simp); show opVal g x σ = opVal g' x σ; simp only [opVal, hx]
  case pick c a b => have h1 := h c (by simp); have h2 := h a (by simp); have h3 := h b (by simp); show opPick g c a b σ = opPick g' c a b σ; simp only [opPick, h1, h2, h3]
  case box t x => have hx := h x (by simp); show opBox g t x σ = opBox g' t x σ; simp only [opBox, hx]
  case build t ps => have hp := opParts_congr (g := g) (g' := g') (ps := ps) (by simpa using h); show buildA tt t (opParts g ps) σ = buildA tt t (opParts g' ps) σ; rw [hp]
  case buildSlice t n ps => have hp := opParts_congr (g := g) (g' := g') (ps := ps) (by simpa using h); show buildSliceA tt t n (opParts g ps) σ = buildSliceA tt t n (opParts g' ps) σ; rw [hp]
  case load t a => have h1 := h a (by simp); show opLoad tt g t a σ = opLoad tt g' t a σ; simp only [opLoad, h1]
  case store t a x => have h1 := h a (by simp); have h2 := h x (by simp); show opStore tt g t a x σ = opStore tt g' t a x σ; simp only [opStore, h1, h2]
  case nilCheck x => have hx := h x (by simp); show opNil g x σ = opNil g' x σ; simp only [opNil, hx]
  case binOp op t x y t2 => have h1 := h x (by simp); have h2 := h y (by simp); show opBin tt g op t x y σ = opBin tt g' op t x y σ; simp only [opBin, h1, h2]
  case unOp op t x => have hx := h x (by simp); show unA op (opnd g x) σ = unA op (opnd g' x) σ; rw [hx]
  case convert s d x => have hx := h x (by simp); show convA tt s d (opnd g x) σ = convA tt s d (opnd g' x) σ; rw [hx]
  case makeInterface t x => have hx := h x (by simp); show mkIf tt t (opnd g x) σ = mkIf tt t (opnd g' x) σ; rw [hx]
  case makeFunc fn f c =>
    have h1 := opnds_congr (g := g) (g' := g') (l := f.toList) (fun x hx => h x (by simp; exact .inl (by simpa using hx)))
    have h2 := opnds_congr (g := g) (g' := g') (l := c.toList) (fun x hx => h x (by simp; exact .inr (by simpa using hx)))
    show opFn g fn f c σ = opFn g' fn f c σ
    simp only [opFn, h1, h2]
  case makeMap t r =>
    show opMapR tt g t r σ = opMapR tt g' t r σ
    cases r with
    | none => rfl
    | some x => have hx := h x (by simp); simp only [opMapR, hx]
  case makeSlice t n c => have h1 := h n (by simp); have h2 := h c (by simp); show makeSliceA tt t (opnd g n) (opnd g c) σ = makeSliceA tt t (opnd g' n) (opnd g' c) σ; rw [h1, h2]
  case slice t x lo hi mx =>
    have h1 := h x (by simp)
    have h2 := optM_congr (g := g) (g' := g') (o := lo) (fun y hy => h y (by simp [hy]))
    have h3 := optM_congr (g := g) (g' := g') (o := hi) (fun y hy => h y (by simp [hy]))
    have h4 := optM_congr (g := g) (g' := g') (o := mx) (fun y hy => h y (by simp [hy]))
    show opSlice tt g t x lo hi mx σ = opSlice tt g' t x lo hi mx σ
    cases mx with
    | none => simp only [opSlice, h1, h2, h3]
    | some m => have h5 := h m (by simp); simp only [opSlice, h1, h2, h3, h5]
  case fieldAddr s x f => have hx := h x (by simp); show opFA tt g s x f σ = opFA tt g' s x f σ; simp only [opFA, hx]
  case field s x f => have hx := h x (by simp); show fieldA tt s (opnd g x) f σ = fieldA tt s (opnd g' x) f σ; rw [hx]
  case indexAddr t x i => have h1 := h x (by simp); have h2 := h i (by simp); show opIA tt g t x i σ = opIA tt g' t x i σ; simp only [opIA, h1, h2]
  case index t x i => have h1 := h x (by simp); have h2 := h i (by simp); show indexA tt t (opnd g x) (opnd g i) σ = indexA tt t (opnd g' x) (opnd g' i) σ; rw [h1, h2]
  case lookup t x k b => have h1 := h x (by simp); have h2 := h k (by simp); show lookA tt t (opnd g x) (opnd g k) b σ = lookA tt t (opnd g' x) (opnd g' k) b σ; rw [h1, h2]
  case mapUpdate t m k v => have h1 := h m (by simp); have h2 := h k (by simp); have h3 := h v (by simp); show updA tt t (opnd g m) (opnd g k) (opnd g v) σ = updA tt t (opnd g' m) (opnd g' k) (opnd g' v) σ; rw [h1, h2, h3]
  case range t x => have hx := h x (by simp); show rangeA tt t (opnd g x) σ = rangeA tt t (opnd g' x) σ; rw [hx]
  case next x b => have hx := h x (by simp); show opNext g x b σ = opNext g' x b σ; simp only [opNext, hx]
  case extract x i => have hx := h x (by simp); show extrA (opnd g x) i σ = extrA (opnd g' x) i σ; rw [hx]
  case call c =>
    have h2 := opnds_congr (g := g) (g' := g') (l := c.args.toList) (fun x hx => h x (by simp [Call.operands]; exact .inr (by simpa using hx)))
    show opCall tt g c σ = opCall tt g' c σ
    simp only [opCall, h2]
theorem callOf_congr {o : Op} (h : ∀ x ∈ o.operands.toList, opnd g x = opnd g' x) : callOf g o = callOf g' o := by
  cases o <;> first | rfl | simp only [Op.operands] at h
  case call c =>
    have h2 := opnds_congr (g := g) (g' := g') (l := c.args.toList) (fun x hx => h x (by simp [Call.operands]; exact .inr (by simpa using hx)))
    obtain ⟨callee, args, ats⟩ := c
    cases callee with
    | value f =>
      have h1 := h f (by simp [Call.operands])
      simp only [callOf_eq, h1]
      simp only at h2
      rw [h2]
    | _ => rfl
theorem evOpS_congr {o : Op} (h : ∀ x ∈ o.operands.toList, opnd g x = opnd g' x) : evOpS tt g o σ = evOpS tt g' o σ := by
  unfold evOpS
  rw [evOp_congr h, opnds_congr h]
end
end Go.Proofs.YtpnoiagjgkajdaaGreatDoor.Av
end
noncomputable section
namespace Go.Proofs.YtpnoiagjgkajdaaGreatDoor.Av
open Go
theorem eqP_eq {a b : Option (Nat × Nat)} (h : eqP a b = true) : a = b := by
  cases a <;> cases b <;> first | rfl | (cases h; done) | skip
  rename_i x y
  obtain ⟨h1, h2⟩ := and_cnd (show cnd (Nat.beq x.1 y.1) (Nat.beq x.2 y.2) false = true from h)
  obtain ⟨x1, x2⟩ := x
  obtain ⟨y1, y2⟩ := y
  have h1 : x1 = y1 := Nat.eq_of_beq_eq_true h1
  have h2 : x2 = y2 := Nat.eq_of_beq_eq_true h2
  rw [h1, h2]
theorem Kap.eqb_eq {a b : Kap} (h : a.eqb b = true) : a = b := by
  cases a <;> cases b <;> first | (cases h; done) | skip
  · rw [Nat.eq_of_beq_eq_true h]
  · rename_i a b c d
    obtain ⟨h1, h2⟩ := and_cnd (show cnd (Nat.beq a c) (Nat.beq b d) false = true from h)
    rw [Nat.eq_of_beq_eq_true h1, Nat.eq_of_beq_eq_true h2]
  · rfl
theorem eqL_inj : ∀ {a b : List Nat}, eqL a b = true → a = b := by
  intro a
  induction a with
  | nil => intro b h; cases b with
    | nil => rfl
    | cons => cases h
  | cons x a ih => intro b h; cases b with
    | nil => cases h
    | cons y b =>
      obtain ⟨h1, h2⟩ := and_cnd (show cnd (Nat.beq x y) (eqL a b) false = true from h)
      rw [Nat.eq_of_beq_eq_true h1, ih h2]
theorem eqLs_eq {α : Type} {f : α → α → Bool} (hf : ∀ {x y}, f x y = true → x = y) : ∀ {a b : List α}, eqLs f a b = true → a = b
  | [], [], _ => rfl
  | x :: a, y :: b, h => by
    obtain ⟨h1, h2⟩ := and_cnd (show cnd (f x y) (eqLs f a b) false = true from h)
    rw [hf h1, eqLs_eq hf h2]
theorem SP.eqb_eq {a b : SP} (h : a.eqb b = true) : a = b := by
  cases a <;> cases b <;> first | (cases h; done) | skip
  · rw [eqL_inj h]
  · rw [Nat.eq_of_beq_eq_true h]
theorem eqI_eq2 {a b : Int} (h : eqI a b = true) : a = b := by
  rw [eqI_eq] at h
  exact eq_of_beq h
theorem SX.eqb_eq {a b : SX} (h : a.eqb b = true) : a = b := by
  cases a <;> cases b <;> first | (cases h; done) | skip
  · rw [eqLs_eq SP.eqb_eq h]
  · rename_i c a d b
    obtain ⟨h1, h2⟩ := and_cnd (show cnd (eqI c d) (eqLs eqI a b) false = true from h)
    rw [eqI_eq2 h1, eqLs_eq eqI_eq2 h2]
  · rw [Nat.eq_of_beq_eq_true h]
mutual
theorem AV.eqb_eq : ∀ {a b : AV}, a.eqb b = true → a = b
  | .bool a, .bool b, h => by cases a <;> cases b <;> first | rfl | cases h
  | .int k a, .int l b, h => by
    obtain ⟨h1, h2⟩ := and_cnd (show cnd (Nat.beq (ikN k) (ikN l)) (eqI a b) false = true from h)
    rw [eqI_eq] at h2
    rw [ikN_inj h1, eq_of_beq h2]
  | .str a, .str b, h => by
    rw [eqL_inj h]
  | .ptr a, .ptr b, h => by rw [eqP_eq h]
  | .sl a n c, .sl b m d, h => by
    obtain ⟨h1, h2⟩ := and_cnd (show cnd (eqP a b) (cnd (Nat.beq n m) (c.eqb d) false) false = true from h)
    obtain ⟨h3, h4⟩ := and_cnd h2
    rw [eqP_eq h1, Nat.eq_of_beq_eq_true h3, Kap.eqb_eq h4]
  | .map a, .map b, h => by
    cases a <;> cases b <;> first | rfl | (cases h; done) | skip
    rw [Nat.eq_of_beq_eq_true h]
  | .fn f a b, .fn g c d, h => by
    obtain ⟨h1, h2⟩ := and_cnd (show cnd (Nat.beq f g) (cnd (AV.eqbs a c) (AV.eqbs b d) false) false = true from h)
    obtain ⟨h3, h4⟩ := and_cnd h2
    rw [Nat.eq_of_beq_eq_true h1, AV.eqbs_eq h3, AV.eqbs_eq h4]
  | .nilfn, .nilfn, _ => rfl
  | .nilif, .nilif, _ => rfl
  | .iface t v, .iface u w, h => by
    obtain ⟨h1, h2⟩ := and_cnd (show cnd (Nat.beq t u) (v.eqb w) false = true from h)
    rw [Nat.eq_of_beq_eq_true h1, AV.eqb_eq h2]
  | .agg a, .agg b, h => by rw [AV.eqbs_eq (show AV.eqbs a b = true from h)]
  | .tup a, .tup b, h => by rw [AV.eqbs_eq (show AV.eqbs a b = true from h)]
  | .sp a, .sp b, h => by rw [SX.eqb_eq h]
theorem AV.eqbs_eq : ∀ {a b : List AV}, AV.eqbs a b = true → a = b
  | [], [], _ => rfl
  | x :: a, y :: b, h => by
    obtain ⟨h1, h2⟩ := and_cnd (show cnd (x.eqb y) (AV.eqbs a b) false = true from h)
    rw [AV.eqb_eq h1, AV.eqbs_eq h2]
end
end Go.Proofs.YtpnoiagjgkajdaaGreatDoor.Av
end
noncomputable section
namespace Go.Proofs.YtpnoiagjgkajdaaGreatDoor.Av
open Go
section
variable {P : Program} {I : SX → Value → Prop} {tt : TT} {e e' : Env} {σ σ1 σ' : AH} {w : World} {g g' : Tr AV} {B n : Nat} {all : Array Oper} {o : Oper} {call : Nat → List AV → AH → RV}
theorem looks_tmp {t : Nat} (h : Operand.tmp t ∈ o.op.operands.toList) : t ∈ o.looksAt all := by
  unfold Oper.looksAt
  exact List.mem_append_left _ (List.mem_filterMap.2 ⟨_, h, rfl⟩)
theorem wantA_congr (h : ∀ t ∈ o.looksAt all, g.get t = g'.get t) : wantA all g o = wantA all g' o := by
  unfold wantA
  cases hg : o.guard with
  | none => rfl
  | some jw =>
    obtain ⟨j, b⟩ := jw
    show (match all[j]? with
      | some oj => (match oj.dst with
        | some d => opt false (g.get d) fun v => opt false v.asB fun c => cnd c b (Bool.not b)
        | none => false)
      | none => false) = (match all[j]? with
      | some oj => (match oj.dst with
        | some d => opt false (g'.get d) fun v => opt false v.asB fun c => cnd c b (Bool.not b)
        | none => false)
      | none => false)
    cases hj : all[j]? with
    | none => rfl
    | some oj =>
      cases hd : oj.dst with
      | none => simp only [hd]
      | some d =>
        have : d ∈ o.looksAt all := by
          unfold Oper.looksAt
          rw [hg]
          exact List.mem_append_right _ (by simp [hj, hd])
        simp only [hd, h d this]
theorem opnd_congr (h : ∀ t ∈ o.looksAt all, g.get t = g'.get t) : ∀ x ∈ o.op.operands.toList, opnd g x = opnd g' x := fun x hx => by
  cases x with
  | tmp t =>
    show opt undef0 (g.get t) (fun v => v) = opt undef0 (g'.get t) fun v => v
    rw [h t (looks_tmp hx)]
  | _ => rfl
theorem one_congr (h : ∀ t ∈ o.looksAt all, g.get t = g'.get t) : one tt call all g σ o = one tt call all g' σ o := by
  unfold one
  rw [wantA_congr h, evOpS_congr (opnd_congr h), callOf_congr (opnd_congr h)]
theorem one_nocall {p : AV × AH} (h : one tt (fun _ _ _ => .bad 0 0 0) all g σ o = some p) : one tt call all g σ o = some p := by
  unfold one at h ⊢
  cases hw : wantA all g o with
  | false => rw [hw] at h; exact h
  | true =>
    rw [hw] at h
    cases hc : callOf g o.op with
    | none => rw [hc] at h; exact h
    | some c => rw [hc] at h; cases h
theorem eff_same (hT : TTok P tt) (hr : Rel e σ w) {ρ : Operand → Value} (hG : ∀ x, okX B x = true → VR e (opnd g x) (ρ x)) {o : Op} {v : AV} (h : evOp tt g o σ = .val v σ') (hO : okO B o = true) (he : effO tt o = false) : σ' = σ := by
  cases o <;> first | (cases he; done) | skip
  case move x => injection (show R.val (opnd g x) σ = .val v σ' from h) with _ h2; exact h2.symm
  case assign x => injection (show R.val (opnd g x) σ = .val v σ' from h) with _ h2; exact h2.symm
  case pick c a b =>
    replace h : opPick g c a b σ = .val v σ' := h
    obtain ⟨x, h1, h2⟩ := opt_val h
    rcases cnd_eq h2 with ⟨_, h3⟩ | ⟨_, h3⟩ <;> (injection h3 with _ h4; exact h4.symm)
  case build t ps =>
    have hp : PRs e (opParts g ps) (ps.map fun (i, x) => (i, ρ x)).toList := by rw [Array.toList_map]; exact parts_ok hG hO
    obtain ⟨_, _, _, h3⟩ := build_ok (P := P) (w := w) hT (show buildA tt t (opParts g ps) σ = .val v σ' from h) hp
    exact h3
  case load t a =>
    replace h : opLoad tt g t a σ = .val v σ' := h
    obtain ⟨x, h1, h2⟩ := opt_val h
    obtain ⟨u, h3, h4⟩ := opt_val h2
    injection h4 with _ h5
    exact h5.symm
  case nilCheck x =>
    replace h : opNil g x σ = .val v σ' := h
    rcases cnd_eq h with ⟨_, h3⟩ | ⟨_, h3⟩
    · cases h3
    · injection h3 with _ h4; exact h4.symm
  case binOp op t x y t2 =>
    obtain ⟨o1, o2⟩ := okL_cons (show okL B [x, y] = true from hO)
    obtain ⟨o3, -⟩ := okL_cons o2
    obtain ⟨_, _, _, h3⟩ := opBin_ok (P := P) (w := w) hT hr (show opBin tt g op t x y σ = .val v σ' from h) (hG x o1) (hG y o3)
    exact h3
  case unOp op t x =>
    obtain ⟨_, _, _, h3⟩ := unA_ok (P := P) (w := w) (show unA op (opnd g x) σ = .val v σ' from h) (hG x hO)
    exact h3
  case convert s d x =>
    replace h : convA tt s d (opnd g x) σ = .val v σ' := h
    obtain ⟨j, hj, h0⟩ := opt_val h
    obtain ⟨i, h1, h2⟩ := opt_val h0
    have he : opt true (tt.get d) (fun i => sliceC i.cls) = false := he
    rw [h1] at he
    have he : sliceC i.cls = false := he
    split at h2
    · exact (int_eq h2).2
    · injection h2 with _ h3; exact h3.symm
    · obtain ⟨j2, q1, q2⟩ := opt_val h2
      obtain ⟨el, q3, q4⟩ := opt_val q2
      obtain ⟨q5, q6⟩ := cnd_val q4
      obtain ⟨_, _, _, q7, _⟩ := toStr_ok (P := P) hr q6 (hG x hO)
      exact q7
    · rename_i hc hs
      rw [hc] at he
      cases he
    · cases h2
  case makeInterface t x =>
    obtain ⟨_, _, _, h3⟩ := mkIf_ok (P := P) (w := w) hT (show mkIf tt t (opnd g x) σ = .val v σ' from h) (hG x hO)
    exact h3
  case makeFunc fn f c =>
    replace h : opFn g fn f c σ = .val v σ' := h
    unfold opFn at h
    split at h
    · injection h with _ h3; exact h3.symm
    · cases h
  case slice t x lo hi mx =>
    obtain ⟨h1, h2⟩ := and_cnd (show cnd (okX B x) (cnd (okM B lo) (cnd (okM B hi) (okM B mx) false) false) false = true from hO)
    obtain ⟨h3, h4⟩ := and_cnd h2
    obtain ⟨h5, h6⟩ := and_cnd h4
    cases mx with
    | none =>
      obtain ⟨_, _, _, h7⟩ := sliceA_ok (P := P) (mx' := none) hT hr (show sliceA tt t (opnd g x) (lo.map (opnd g)) (hi.map (opnd g)) none σ = .val v σ' from h) (hG x h1) (optM_ok hG h3) (optM_ok hG h5) trivial
      exact h7
    | some m =>
      obtain ⟨_, _, _, h7⟩ := slice3_ok (P := P) hT hr (show slice3A tt t (opnd g x) (lo.map (opnd g)) (hi.map (opnd g)) (opnd g m) σ = .val v σ' from h) (hG x h1) (optM_ok hG h3) (optM_ok hG h5) (hG m h6)
      exact h7
  case fieldAddr s x f =>
    obtain ⟨_, _, _, h3⟩ := fieldAddr_ok (P := P) hT hr (show fieldAddrA tt s (opnd g x) f σ = .val v σ' from h) (hG x hO)
    exact h3
  case field s x f =>
    obtain ⟨_, _, _, h3⟩ := field_ok (P := P) hT hr (show fieldA tt s (opnd g x) f σ = .val v σ' from h) (hG x hO)
    exact h3
  case indexAddr t x i =>
    obtain ⟨o1, o2⟩ := okL_cons (show okL B [x, i] = true from hO)
    obtain ⟨o3, -⟩ := okL_cons o2
    obtain ⟨_, _, _, h3⟩ := indexAddr_ok (P := P) hT hr (show indexAddrA tt t (opnd g x) (opnd g i) σ = .val v σ' from h) (hG x o1) (hG i o3)
    exact h3
  case index t x i =>
    obtain ⟨o1, o2⟩ := okL_cons (show okL B [x, i] = true from hO)
    obtain ⟨o3, -⟩ := okL_cons o2
    obtain ⟨_, _, _, h3⟩ := index_ok (P := P) hT hr (show indexA tt t (opnd g x) (opnd g i) σ = .val v σ' from h) (hG x o1) (hG i o3)
    exact h3
  case lookup t x k b =>
    obtain ⟨o1, o2⟩ := okL_cons (show okL B [x, k] = true from hO)
    obtain ⟨o3, -⟩ := okL_cons o2
    obtain ⟨_, _, _, h3⟩ := look_ok (P := P) hT hr (show lookA tt t (opnd g x) (opnd g k) b σ = .val v σ' from h) (hG x o1) (hG k o3)
    exact h3
  case extract x i =>
    obtain ⟨_, _, _, h3⟩ := extr_ok (P := P) (w := w) (show extrA (opnd g x) i σ = .val v σ' from h) (hG x hO)
    exact h3
  case call c =>
    obtain ⟨h1, h2⟩ := and_cnd (show cnd (okF B c.callee) (okL B c.args.toList) false = true from hO)
    obtain ⟨callee, args, ats⟩ := c
    replace h : opCall tt g ⟨callee, args, ats⟩ σ = .val v σ' := h
    unfold opCall at h
    simp only at h h1 h2
    split at h
    · rename_i b
      have ha := args_ok hG h2
      generalize opnds g args.toList = L at h ha
      generalize args.toList.map ρ = L' at ha
      generalize ats.toList = T at h
      unfold builtinA at h
      split at h <;> first | (cases he; done) | skip
      · cases ha with | cons _ s' _ _ h1 ha =>
        obtain ⟨_, _, _, h3⟩ := lenA_ok (P := P) (ts := #[_]) (ty := 0) hT hr h h1 rfl
        exact h3
      · obtain ⟨_, _, _, h3⟩ := mm_ok (P := P) (w := w) (ts := #[]) (ty := 0) (args' := L'.toArray) h (by simpa using ha)
        exact h3
      · obtain ⟨_, _, _, h3⟩ := mm_ok (P := P) (w := w) (ts := #[]) (ty := 0) (args' := L'.toArray) h (by simpa using ha)
        exact h3
      · injection h with _ h3; exact h3.symm
      · injection h with _ h3; exact h3.symm
      · cases h
    · cases h
end
end Go.Proofs.YtpnoiagjgkajdaaGreatDoor.Av
end
noncomputable section
namespace Go.Proofs.YtpnoiagjgkajdaaGreatDoor.Av
open Go
section
variable {P : Program} {I : SX → Value → Prop} {tt : TT} {e e' : Env} {σ σ1 σ' : AH} {w : World} {g g' : Tr AV} {ρ : Operand → Value} {B n : Nat} {all : Array Oper} {o : Oper} {call : Nat → List AV → AH → RV}
/-- What makes one new block, and nothing else. -/
def NewDid (P : Program) (s : Sem Next) (w : World) (obj : AO) (e : Env) (vf : Nat → AV) : Prop := ∃ (ob : Obj) (vf' : Nat → Value), s.run P w = .ok (.value (vf' w.heap.size)) { w with heap := w.heap.push ob } ∧ (∀ b w', w'.heap[b]? = some ob → OR e w' b obj) ∧ ∀ e' l b, e'.ρ l = some b → VR e' (vf l) (vf' b)
theorem NewDid.of {s : Sem Value} {obj : AO} {vf : Nat → AV} {ob : Obj} {vf' : Nat → Value} (h : s.run P w = .ok (vf' w.heap.size) { w with heap := w.heap.push ob }) (h1 : ∀ b w', w'.heap[b]? = some ob → OR e w' b obj) (h2 : ∀ e' l b, e'.ρ l = some b → VR e' (vf l) (vf' b)) : NewDid P (do pure (.value (← s))) w obj e vf :=
  ⟨ob, vf', by simp [h], h1, h2⟩
theorem new_made {o obj : AO} {vf : Nat → AV} {l : Nat} {v : AV} (h : new o (.mk .nil l 0 .nil) (fun l σ => .val (vf l) σ) = .val v σ1) (hg : σ1.get l = some obj) : v = vf l ∧ obj = o := by
  cases l with
  | zero => cases h
  | succ m =>
    injection (show R.val (vf (m + 1)) (.mk (Tr.put .nil (m + 1) (some o)) (m + 2) 0 .nil) = .val v σ1 from h) with h1 h2
    subst h1 h2
    have hg : (Tr.put .nil (m + 1) (some o)).get (m + 1) = some obj := hg
    rw [Tr.get_put, if_pos rfl] at hg
    exact ⟨rfl, (Option.some.inj hg).symm⟩
theorem var_new {t : TypeId} {cs : List AV} {v' : Value} {σ0 : AH} {l : Nat} {v : AV} {obj : AO} (hσ : σ0 = .mk .nil l 0 .nil) (h : new (.cells cs t false none) σ0 (fun l σ => .val (.ptr (some (l, 0))) σ) = .val v σ1) (hg : σ1.get l = some obj) (hv : VRs e cs v'.cells.toList) (h1 : ∀ x ∈ cs, x.one = true) {s : Sem Value} (hs : s.run P w = .ok (.pointer (some ⟨w.heap.size, 0, none⟩)) { w with heap := w.heap.push (.cells v'.cells t) }) :
    ∃ vf, v = vf l ∧ NewDid P (do pure (.value (← s))) w obj e vf := by
  subst hσ
  obtain ⟨rfl, rfl⟩ := new_made (vf := fun l => .ptr (some (l, 0))) h hg
  exact ⟨fun l => .ptr (some (l, 0)), rfl, .of (vf' := fun b => .pointer (some ⟨b, 0, none⟩)) hs (fun b w' hb => OR.fresh (cs' := v'.cells.toList) (by simpa using hb) hv h1) fun e' l b h => .ptr l 0 b h⟩
theorem map_new {t : TypeId} {r : Option Value} {l : Nat} {v : AV} {obj : AO} (h : opMap (.mk .nil l 0 .nil) = .val v σ1) (hg : σ1.get l = some obj) (hm : ∀ x, r = some x → (∃ k n, x = .int k n) ∧ ∃ a b, P.underlying t = some (.map a b)) :
    ∃ vf, v = vf l ∧ NewDid P (do pure (.value (← Instr.makeMap t r))) w obj e vf := by
  obtain ⟨rfl, rfl⟩ := new_made (vf := fun l => .map (some l)) h hg
  refine ⟨fun l => .map (some l), rfl, .of (ob := .map #[] 0) (vf' := fun b => .map (some b)) ?_ (fun b w' hb => ⟨[], by simpa using hb, .nil⟩) fun e' l b h => .map l b h⟩
  cases r with
  | none => simp [Instr.makeMap, newObj, Sem.run]
  | some x =>
    obtain ⟨⟨k, n, rfl⟩, a, b, hu⟩ := hm x rfl
    simp [Instr.makeMap, newObj, Sem.run, run_underlying hu, asInt, asIntOf]
theorem buildSlice_new (hT : TTok P tt) {t : TypeId} {n : Nat} {parts : List (Nat × AV)} {parts' : Array (Nat × Value)} {l : Nat} {v : AV} {obj : AO} (h : buildSliceA tt t n parts (.mk .nil l 0 .nil) = .val v σ1) (hg : σ1.get l = some obj) (hp : PRs e parts parts'.toList) :
    ∃ vf, v = vf l ∧ NewDid P (do pure (.value (← Instr.buildSlice t n parts'))) w obj e vf := by
  obtain ⟨i, h1, h2⟩ := opt_val h
  obtain ⟨info, d, i1, i2, i3, i4, i5, i6, -⟩ := (hT t i h1).ex
  split at h2
  · rename_i el hc
    rw [hc] at i5
    obtain rfl : d = .slice el := i5
    obtain ⟨j, h3, h4⟩ := opt_val h2
    obtain ⟨z, h5, h6⟩ := opt_val h4
    obtain ⟨cs, h7, h8⟩ := opt_val h6
    obtain ⟨jn, _, j1, j2, j3, j4, j5, j6, -⟩ := (hT el j h3).ex
    obtain ⟨zv, z1, z2⟩ := j6 z h5
    obtain ⟨c1, c2⟩ := (z2 e).cells1 h7
    have hl := c1.length
    rcases cnd_eq h8 with ⟨a1, a2⟩ | ⟨a1, a2⟩
    · obtain ⟨a3, a4⟩ := cnd_val a2
      have hn := Nat.eq_of_beq_eq_true a1
      subst hn
      have hpn : parts'.toList = [] := by
        generalize parts'.toList = q at hp ⊢
        cases hp with
        | nil => rfl
        | cons => cases a3
      obtain ⟨rfl, rfl⟩ := new_made (vf := fun l => .sl (some (l, 0)) 0 (.k 0)) a4 hg
      refine ⟨fun l => .sl (some (l, 0)) 0 (.k 0), rfl, .of (ob := .cells #[] el) (vf' := fun b => .slice (some ⟨b, 0, none⟩) 0 0) ?_ (fun b w' hb => OR.fresh (cs' := []) (by simpa using hb) .nil (fun x hx => by cases hx)) fun e' l b h => .sl l 0 b 0 (.k 0) 0 h (.k 0) (Nat.le_refl _)⟩
      simp [Instr.buildSlice, run_underlying i3, Go.sizeOf, typeInfo, j1, hpn, Instr.fill, newRow, newObj, Sem.run]
      congr 2
      apply Array.ext_getElem?
      intro i
      simp
    · obtain ⟨b1, b2⟩ := cnd_val a2
      obtain ⟨b3, b4⟩ := cnd_val b2
      obtain ⟨b5, b6⟩ := cnd_val b4
      obtain ⟨r, b7, b8⟩ := opt_val b6
      rw [Nat.blt_eq] at b1
      have b3 := Nat.le_of_ble_eq_true b3
      have b5 := Nat.eq_of_beq_eq_true b5
      have hn : n ≠ 0 := by rintro rfl; cases a1
      have b3 : n * j.size ≤ 16777216 := b3
      have hpos : ¬ n * j.size = 0 := by
        intro h0
        rcases Nat.mul_eq_zero.1 h0 with h0 | h0 <;> omega
      have hzs : zv.cells.size = j.size := by rw [← Array.length_toList]; omega
      obtain ⟨r0, r1⟩ := rep_ok (e := e) n c1 c2
      obtain ⟨r', k1, k2, k3⟩ := fillA_ok (pl' := fun i => some (i * j.size, j.size)) (fun i p hip => hip) b7 r0 r1 hp
      obtain ⟨rfl, rfl⟩ := new_made (vf := fun l => .sl (some (l, 0)) n (.k n)) b8 hg
      refine ⟨fun l => .sl (some (l, 0)) n (.k n), rfl, .of (ob := .cells r'.toArray el) (vf' := fun b => .slice (some ⟨b, 0, none⟩) n n) ?_ (fun b w' hb => OR.fresh hb k2 k3) fun e' l b h => .sl l 0 b n (.k n) n h (.k n) (Nat.le_refl _)⟩
      have hfill := k1
      rw [← zero_cells zv.cells n, hzs] at hfill
      have := run_buildSlice (P := P) w t el n parts' r'.toArray jn zv i3 j1 z1 (by rw [j2]; omega) (by rw [j2]; exact hpos) (by rw [j2]; simpa only [hzs] using hfill)
      exact this
  · cases h2
theorem makeSlice_new (hT : TTok P tt) {t : TypeId} {x y v : AV} {x' y' : Value} {l : Nat} {obj : AO} (h : makeSliceA tt t x y (.mk .nil l 0 .nil) = .val v σ1) (hg : σ1.get l = some obj) (hx : VR e x x') (hy : VR e y y') :
    ∃ vf, v = vf l ∧ NewDid P (do pure (.value (← Instr.makeSlice t x' y'))) w obj e vf := by
  obtain ⟨i, h1, h2⟩ := opt_val h
  obtain ⟨el, h3, h4⟩ := opt_val h2
  obtain ⟨n, h5, h6⟩ := opt_val h4
  obtain ⟨c, h7, h8⟩ := opt_val h6
  obtain ⟨j, h9, h10⟩ := opt_val h8
  obtain ⟨z, h11, h12⟩ := opt_val h10
  obtain ⟨cs, h13, h14⟩ := opt_val h12
  obtain ⟨a1, a2⟩ := cnd_val h14
  obtain ⟨a3, a4⟩ := cnd_val a2
  obtain ⟨a5, a6⟩ := cnd_val a4
  have a1 := Nat.le_of_ble_eq_true a1
  have a3 := Nat.le_of_ble_eq_true a3
  have a5 := Nat.eq_of_beq_eq_true a5
  have hu := (hT t i h1).slice h3
  obtain ⟨jn, _, j1, j2, _, _, _, j6, j7⟩ := (hT el j h9).ex
  obtain ⟨zv, z1, z2⟩ := j6 z h11
  obtain ⟨c1, c2⟩ := (z2 e).cells1 h13
  have hl := c1.length
  have hzs : zv.cells.size = j.size := by rw [← Array.length_toList]; omega
  obtain ⟨k1, rfl⟩ := natOf_eq h5
  obtain ⟨k2, rfl⟩ := natOf_eq h7
  cases hx
  cases hy
  obtain ⟨r0, r1⟩ := rep_ok (e := e) c c1 c2
  obtain ⟨rfl, rfl⟩ := new_made (vf := fun l => .sl (some (l, 0)) n (.k c)) a6 hg
  refine ⟨fun l => .sl (some (l, 0)) n (.k c), rfl, .of (ob := .cells (List.replicate c zv.cells.toList).flatten.toArray el) (vf' := fun b => .slice (some ⟨b, 0, none⟩) n c) ?_ (fun b w' hb => OR.fresh hb r0 r1) fun e' l b h => .sl l 0 b n (.k c) c h (.k c) a1⟩
  have hb : (jn.bytes : Int) * (c : Int) ≤ 281474976710656 := by
    have : jn.bytes * c ≤ 1048576 * 100000 := Nat.mul_le_mul j7 a3
    have h2 : ((jn.bytes * c : Nat) : Int) ≤ ((1048576 * 100000 : Nat) : Int) := Int.ofNat_le.2 this
    rw [Int.natCast_mul] at h2
    omega
  have := run_make (P := P) w t el jn zv hu j1 z1 k1 k2 (n : Int) (c : Int) (Int.natCast_nonneg _) (by omega) hb (by omega)
  rw [this]
  simp only [Int.toNat_natCast, madeCells, j2]
  rw [← hzs, zero_cells zv.cells c]
  rfl
/-- What is made in no fixed order: one new block. -/
theorem made_ok (hT : TTok P tt) (hG : ∀ x, okX B x = true → VR e (opnd g x) (ρ x)) (ha : allocO o.op = true) {l : Nat} {v : AV} {obj : AO} (h : made tt g o.op l = some (v, obj)) (hO : okO B o.op = true) : ∃ vf, v = vf l ∧ NewDid P (execOp ρ o) w obj e vf := by
  unfold made at h
  cases hv : evOp tt g o.op (.mk .nil l 0 .nil) with
  | bad => rw [hv] at h; cases h
  | call => rw [hv] at h; cases h
  | val u σ1 =>
    rw [hv] at h
    obtain ⟨ob, hg, h1⟩ := opt_sm (show opt none (σ1.get l) (fun b => some (u, b)) = some (v, obj) from h)
    injection h1 with h1
    injection h1 with h1 h2
    subst h1 h2
    obtain ⟨dst, op, ty, pos, after, guard⟩ := o
    simp only at hv hO ha
    cases op <;> first | (cases ha; done) | skip
    · rename_i t
      obtain ⟨z, h1, h2⟩ := opt_val (show opAlloc tt t (.mk .nil l 0 .nil) = .val u σ1 from hv)
      obtain ⟨cs, h3, h4⟩ := opt_val h2
      obtain ⟨zv, z1, z2⟩ := zeroA_ok (w := w) hT h1
      obtain ⟨c1, c2⟩ := (z2 e).cells1 h3
      exact var_new (s := Instr.alloc t true (.tuple #[])) rfl h4 hg c1 c2 (by simp [Instr.alloc, z1, newVar, newRow, newObj, Sem.run])
    · rename_i t x
      obtain ⟨cs, h3, h4⟩ := opt_val (show opBox g t x (.mk .nil l 0 .nil) = .val u σ1 from hv)
      obtain ⟨c1, c2⟩ := (hG x hO).cells1 h3
      exact var_new (s := Instr.box t (ρ x)) rfl h4 hg c1 c2 (by simp [Instr.box, newVar, newRow, newObj, Sem.run])
    · rename_i t n ps
      have hp : PRs e (opParts g ps) (ps.map fun (i, x) => (i, ρ x)).toList := by rw [Array.toList_map]; exact parts_ok hG hO
      exact buildSlice_new hT hv hg hp
    · rename_i t r
      replace hv : opMapR tt g t r (.mk .nil l 0 .nil) = .val u σ1 := hv
      unfold opMapR at hv
      split at hv
      · exact map_new (r := none) hv hg (fun x hx => by cases hx)
      · rename_i x
        obtain ⟨k, h1, h2⟩ := opt_val hv
        obtain ⟨i, h3, h4⟩ := opt_val h2
        obtain ⟨s, h5, h6⟩ := opt_val h4
        obtain ⟨kt, el, hu⟩ := isMap_ok hT h3 h5
        have hx := hG x hO
        rw [asK_int h1] at hx
        generalize hρ : ρ x = y at hx
        cases hx
        refine map_new (r := some (ρ x)) h6 hg (fun z hz => ?_)
        injection hz with hz
        subst hz
        exact ⟨⟨_, _, hρ⟩, _, _, hu⟩
    · rename_i t n c
      replace hO : okL B [n, c] = true := hO
      obtain ⟨h1, h2⟩ := okL_cons hO
      obtain ⟨h3, -⟩ := okL_cons h2
      exact makeSlice_new hT hv hg (hG n h1) (hG c h3)
theorem made_congr (h : ∀ t ∈ o.looksAt all, g.get t = g'.get t) (l : Nat) : made tt g o.op l = made tt g' o.op l := by
  unfold made
  rw [evOp_congr (opnd_congr h)]
/-- A block that nobody looks at yet. -/
theorem Rel.hide (h : Rel e σ w) {L : Nat} (hn : e.ρ L = none) (hL : L < σ.nx) (ob : Obj) : Rel (e.new L w.heap.size) σ { w with heap := w.heap.push ob } := by
  have hle := Env.new_le (b := w.heap.size) hn
  have hold : ∀ b, b < w.heap.size → (w.heap.push ob)[b]? = w.heap[b]? := fun b hb => by rw [Array.getElem?_push]; rw [if_neg (by omega)]
  have hρ : ∀ l x, (e.new L w.heap.size).ρ l = some x → l = L ∧ x = w.heap.size ∨ l ≠ L ∧ e.ρ l = some x := fun l x hx => by
    have hx' : (if l = L then some w.heap.size else e.ρ l) = some x := hx
    split at hx'
    · exact .inl ⟨by assumption, (Option.some.inj hx').symm⟩
    · exact .inr ⟨by assumption, hx'⟩
  have hlive : ∀ l, (σ.hp.get l).isSome = true → l ≠ L := fun l hl hh => by
    subst hh
    obtain ⟨o, ho⟩ := Option.isSome_iff_exists.1 hl
    obtain ⟨b, h1, _⟩ := h.obj l o ho
    rw [h1] at hn
    cases hn
  refine ⟨fun l o ho => ?_, fun l l' b hl hl' hb hb' => ?_, fun l hl => ?_, h.kfresh, h.lb, fun l b hb => ?_, h.nx⟩
  · obtain ⟨b, h1, h2⟩ := h.obj l o ho
    exact ⟨b, hle.1 _ _ h1, h2.mono hle (hold b (h.lt _ _ h1))⟩
  · rcases hρ l b hb with ⟨h3, _⟩ | ⟨_, h4⟩
    · exact absurd h3 (hlive l hl)
    · rcases hρ l' b hb' with ⟨h5, _⟩ | ⟨_, h6⟩
      · exact absurd h5 (hlive l' hl')
      · exact h.inj l l' b hl hl' h4 h6
  · show (if l = L then some w.heap.size else e.ρ l) = none
    rw [if_neg (by omega)]
    exact h.fresh l hl
  · simp only [Array.size_push]
    rcases hρ l b hb with ⟨_, h4⟩ | ⟨_, h4⟩
    · omega
    · have := h.lt _ _ h4; omega
/-- What was hidden is shown. -/
theorem Rel.show (h : Rel e σ w) {L b : Nat} {o : AO} (hb : e.ρ L = some b) (ho : OR e w b o) (hn : ∀ l, (σ.hp.get l).isSome = true → e.ρ l ≠ some b) : Rel e (σ.put L o) w := by
  obtain ⟨h0, nn, c, lb⟩ := σ
  have hg : ∀ k, (((AH.mk h0 nn c lb).put L o).hp.get k) = if k = L then some o else h0.get k := fun k => by
    show (Tr.put h0 L (some o)).get k = _
    rw [Tr.get_put]
  refine ⟨fun l o' ho' => ?_, fun l l' x hl hl' hx hx' => ?_, h.fresh, h.kfresh, h.lb, h.lt, h.nx⟩
  · rw [hg] at ho'
    split at ho'
    · rename_i he
      injection ho' with ho'
      subst he ho'
      exact ⟨b, hb, ho⟩
    · exact h.obj l o' ho'
  · rw [hg] at hl hl'
    split at hl <;> split at hl'
    · rename_i h1 h2; rw [h1, h2]
    · rename_i h1 _
      subst h1
      rw [hb] at hx
      injection hx with hx
      subst hx
      exact absurd hx' (hn l' hl')
    · rename_i _ h1
      subst h1
      rw [hb] at hx'
      injection hx' with hx'
      subst hx'
      exact absurd hx (hn l hl)
    · exact h.inj l l' x hl hl' hx hx'
end
end Go.Proofs.YtpnoiagjgkajdaaGreatDoor.Av
end
noncomputable section
namespace Go.Proofs.YtpnoiagjgkajdaaGreatDoor.Av
open Go
section
variable {P : Program} {I : SX → Value → Prop} {tt : TT} {e e' : Env} {σ σ1 σ' : AH} {w : World} {g g' : Tr AV} {B n : Nat} {all : Array Oper} {o : Oper} {call : Nat → List AV → AH → RV}
theorem okOps_at : ∀ {l : List Oper}, okOps B n l = true → ∀ (j : Nat) (o : Oper), l[j]? = some o → okO B o.op = true ∧ okDst n o.dst = true
  | [], _, j, o, h => by simp at h
  | x :: l, h, 0, o, ho => by
    rw [List.getElem?_cons_zero] at ho
    injection ho with ho
    subst ho
    exact ⟨(okOps_cons h).1, (okOps_cons h).2.1⟩
  | x :: l, h, j + 1, o, ho => by
    rw [List.getElem?_cons_succ] at ho
    exact okOps_at (okOps_cons h).2.2 j o ho
theorem one_wp (hT : TSok P I tt) (hC : CallOk P B I call) {i : Nat} (hi : all[i]? = some o) (hok : okOps B n all.toList = true) {a : Act} (hF : FR e g a) (hn : a.tmps.size = n) (hr : Rel e σ w) (hB : Glob B I e) {u : AV} (h : one tt call all g σ o = some (u, σ')) {Q : Exit → Act → World → Prop} {K : Act → World → Prop}
    (hK : ∀ e1 w1 u', Step e σ w e1 σ' w1 → VR e1 u u' → K (a.put o.dst u') w1) : wpOp P all Q i K a w := by
  obtain ⟨k1, k2⟩ := okOps_at hok i o (by rw [Array.getElem?_toList]; exact hi)
  have hw : Region.wanted o (yielded all a.tmps) = wantA all g o := by
    rcases wanted_ok (all := all) (o := o) hF with h | ⟨j, oj, d, h1, h2, h3⟩
    · exact h
    · have := okOps_dst hok j oj (by rw [Array.getElem?_toList]; exact h1) d h2
      rw [hn] at h3
      exact absurd this (Nat.not_lt_of_le h3)
  have hG := fun x hx => hF.all hB x hx
  unfold wpOp
  rw [hi]
  simp only
  rcases cnd_eq (show cnd (wantA all g o) _ _ = some (u, σ') from h) with ⟨h1, h2⟩ | ⟨h1, h2⟩
  · rw [h1] at hw
    rw [if_pos hw]
    left
    cases hc : callOf g o.op with
    | none =>
      rw [hc] at h2
      cases hv : evOpS tt g o.op σ with
      | bad => rw [hv] at h2; cases h2
      | call => rw [hv] at h2; cases h2
      | val v σ1 =>
        rw [hv] at h2
        injection (show some (v, σ1) = some (u, σ') from h2) with h2
        injection h2 with h3 h4
        subst h3 h4
        obtain ⟨e1, w1, r, v', q1, q2, q3, q4⟩ := evOpS_ok hT.1 hT.2 hB.2 hr hG hv k1
        have p2 := hK e1 w1 v' q4 q3
        unfold Oper.wp
        rw [q1]
        rcases q2 with rfl | ⟨rfl, rfl⟩
        · exact p2
        · exact p2
    | some fa =>
      obtain ⟨f, args⟩ := fa
      rw [hc] at h2
      replace h2 : RV.rec (motive := fun _ => Option (AV × AH)) (fun v σ => some (v, σ)) (fun _ _ _ => none) (call f args σ) = some (u, σ') := h2
      cases hv : call f args σ with
      | bad => rw [hv] at h2; cases h2
      | ok v σ1 =>
        rw [hv] at h2
        injection (show some (v, σ1) = some (u, σ') from h2) with h2
        injection h2 with h3 h4
        subst h3 h4
        obtain ⟨args', q1, q2⟩ := callOf_ok hG hc k1
        obtain ⟨q3, q4⟩ := hC f args σ v σ1 hv e w args' hr hB q1
        unfold Oper.wp
        rw [q2 w, q3 w]
        intro cs
        obtain ⟨e0, w0, fr, r0, r9⟩ := q4 cs
        refine ⟨e0, w0, fr, ?_, r9⟩
        cases e0 with
        | returned v0 =>
          obtain ⟨e1, r1, r2⟩ := r0
          exact hK e1 w0 v0 r2 r1
        | panicked => exact r0.elim
        | outgrown => exact r0.elim
  · rw [h1] at hw
    rw [if_neg (by rw [hw]; decide)]
    injection h2 with h2
    injection h2 with h3 h4
    subst h3 h4
    exact hK e w undef (.refl hr) (.tup [] [] .nil)
theorem free_wp (hT : TSok P I tt) {i : Nat} (hi : all[i]? = some o) (hok : okOps B n all.toList = true) {a : Act} (hF : FR e g a) (hB : Glob B I e) (ha : allocO o.op = true) (hg : o.guard = none) {l : Nat} {u : AV} {obj : AO} (h : made tt g o.op l = some (u, obj)) {Q : Exit → Act → World → Prop} {K : Act → World → Prop}
    (hK : ∀ ob u', (∀ b w', w'.heap[b]? = some ob → OR e w' b obj) → (∀ e' : Env, e'.ρ l = some w.heap.size → VR e' u u') → K (a.put o.dst u') { w with heap := w.heap.push ob }) : wpOp P all Q i K a w := by
  obtain ⟨k1, -⟩ := okOps_at hok i o (by rw [Array.getElem?_toList]; exact hi)
  have hG := fun x hx => hF.all hB x hx
  obtain ⟨vf, rfl, ob, vf', q1, q2, q3⟩ := made_ok (P := P) (w := w) hT.1 hG ha h k1
  have p2 := hK ob (vf' w.heap.size) q2 fun e' he => q3 e' l _ he
  unfold wpOp
  rw [hi]
  simp only
  have hw : Region.wanted o (yielded all a.tmps) = true := by
    unfold Region.wanted
    rw [hg]
  rw [if_pos hw]
  left
  unfold Oper.wp
  rw [q1]
  exact p2
theorem one_same (hT : TSok P I tt) (hok : okO B o.op = true) {a : Act} (hF : FR e g a) (hr : Rel e σ w) (hB : Glob B I e) (he : effO tt o.op = false) {u : AV} (h : one tt call all g σ o = some (u, σ')) : σ' = σ := by
  rcases cnd_eq (show cnd (wantA all g o) _ _ = some (u, σ') from h) with ⟨h1, h2⟩ | ⟨h1, h2⟩
  · cases hc : callOf g o.op with
    | none =>
      rw [hc] at h2
      cases hv : evOpS tt g o.op σ with
      | bad => rw [hv] at h2; cases h2
      | call => rw [hv] at h2; cases h2
      | val v σ1 =>
        rw [hv] at h2
        injection (show some (v, σ1) = some (u, σ') from h2) with h2
        injection h2 with h3 h4
        subst h4
        rcases evOpS_cases hv with hv | ⟨_, _, _, _, h5⟩
        · exact eff_same hT.1 hr (fun x hx => hF.all hB x hx) hv hok he
        · exact h5
    | some fa =>
      exfalso
      rw [callOf_eq] at hc
      split at hc
      · rename_i c hop
        split at hc
        · rename_i f hcl
          rw [hop] at he
          unfold effO at he
          simp only [hcl] at he
          cases he
        · cases hc
      · cases hc
  · injection h2 with h2
    injection h2 with h3 h4
    exact h4.symm
/-- What the table of a region's order says. -/
theorem mask_ok {acc : List Nat} : ∀ {es : List Edge} {j : Nat}, Nat.testBit (edgesM acc es) j = true → ∃ x ∈ es, Region.binds .any x = true ∧ ∃ A, acc[x.on]? = some A ∧ (j = x.on ∨ Nat.testBit A j = true)
  | [], j, h => by
    have h : Nat.testBit 0 j = true := h
    simp at h
  | x :: es, j, h => by
    have h : Nat.testBit (cnd (Region.binds .any x) (opt (edgesM acc es) (nth acc x.on) fun A => Nat.lor (edgesM acc es) (Nat.lor A (Nat.shiftLeft 1 x.on))) (edgesM acc es)) j = true := h
    have tail : Nat.testBit (edgesM acc es) j = true → ∃ y ∈ x :: es, Region.binds .any y = true ∧ ∃ A, acc[y.on]? = some A ∧ (j = y.on ∨ Nat.testBit A j = true) := fun h => by
      obtain ⟨y, h1, h2⟩ := mask_ok h
      exact ⟨y, List.mem_cons_of_mem _ h1, h2⟩
    cases hb : Region.binds .any x with
    | false => rw [hb] at h; exact tail h
    | true =>
      rw [hb] at h
      cases hA : nth acc x.on with
      | none => rw [hA] at h; exact tail h
      | some A =>
        rw [hA] at h
        have h : Nat.testBit (edgesM acc es ||| (A ||| 1 <<< x.on)) j = true := h
        rw [nth_eq] at hA
        rw [Nat.testBit_or, Nat.testBit_or, Bool.or_eq_true, Bool.or_eq_true] at h
        rcases h with h | h | h
        · exact tail h
        · exact ⟨x, List.mem_cons_self, hb, A, hA, .inr h⟩
        · refine ⟨x, List.mem_cons_self, hb, A, hA, .inl ?_⟩
          rw [Nat.testBit_shiftLeft] at h
          simp only [Bool.and_eq_true, decide_eq_true_eq] at h
          obtain ⟨h1, h2⟩ := h
          have : j - x.on = 0 := by
            rcases Nat.eq_zero_or_pos (j - x.on) with h3 | h3
            · exact h3
            · rw [Nat.testBit_one_eq_true_iff_self_eq_zero] at h2
              exact h2
          omega
/-- A set that holds what must come before. -/
def GoodA (D : Nat → Prop) (acc : List Nat) : Prop := ∀ (k m : Nat), acc[k]? = some m → ∀ j, Nat.testBit m j = true → j < k ∧ (D k → D j)
theorem ancL_good {D : Nat → Prop} : ∀ (l : List Oper) (acc : List Nat), GoodA D acc → (∀ i o, l[i]? = some o → D (acc.length + i) → ∀ x ∈ o.after.toList, Region.binds .any x = true → D x.on) → GoodA D (ancL l acc)
  | [], acc, h, _ => h
  | o :: l, acc, h, hc => by
    refine ancL_good l (acc ++ [edgesM acc o.after.toList]) (fun k m hk j hj => ?_) (fun i o' ho' hD => ?_)
    · rcases Nat.lt_or_ge k acc.length with hlt | hge
      · rw [List.getElem?_append_left hlt] at hk
        exact h k m hk j hj
      · rw [List.getElem?_append_right hge] at hk
        have hk0 : k - acc.length = 0 := by
          rcases Nat.eq_zero_or_pos (k - acc.length) with h3 | h3
          · exact h3
          · rw [List.getElem?_eq_none (by simp; omega)] at hk; cases hk
        rw [hk0] at hk
        injection hk with hk
        subst hk
        have hk1 : k = acc.length := by omega
        subst hk1
        obtain ⟨x, h1, h2, A, h3, h4⟩ := mask_ok hj
        have hx : x.on < acc.length := by
          rcases Nat.lt_or_ge x.on acc.length with hlt | hge
          · exact hlt
          · rw [List.getElem?_eq_none hge] at h3; cases h3
        rcases h4 with rfl | h4
        · exact ⟨hx, fun hD => hc 0 o rfl (by simpa using hD) x h1 h2⟩
        · obtain ⟨h5, h6⟩ := h x.on A h3 j h4
          exact ⟨by omega, fun hD => h6 (hc 0 o rfl (by simpa using hD) x h1 h2)⟩
    · exact hc (i + 1) o' (by simpa using ho') (by rw [List.length_append] at hD; simpa [Nat.add_assoc, Nat.add_comm 1 i] using hD)
theorem anc_ok {D : Nat → Prop} {l : List Oper} (hc : ∀ i o, l[i]? = some o → D i → ∀ x ∈ o.after.toList, Region.binds .any x = true → D x.on) {i j : Nat} (h : ancB (ancL l []) i j = true) : j < i ∧ (D i → D j) := by
  obtain ⟨m, h1, h2⟩ := opt_eq h (by decide)
  rw [nth_eq] at h1
  exact ancL_good l [] (fun k m hk => by simp at hk) (fun i o ho hD => hc i o ho (by simpa using hD)) i m h1 j h2
end
end Go.Proofs.YtpnoiagjgkajdaaGreatDoor.Av
end
noncomputable section
namespace Go.Proofs.YtpnoiagjgkajdaaGreatDoor.Av
open Go
section
variable {P : Program} {I : SX → Value → Prop} {tt : TT} {e e' : Env} {σ σ1 σ' : AH} {w : World} {g g' : Tr AV} {B n : Nat} {all : Array Oper} {o : Oper} {call : Nat → List AV → AH → RV}
/-- What is known before each operation. -/
def gAt (rs : List Rec) (g : Tr AV) (i : Nat) : Tr AV := opt g (nth rs i) fun r => r.1
def uAt (rs : List Rec) (i : Nat) : AV := opt undef0 (nth rs i) fun r => r.2.1
def pAt (rs : List Rec) (p : Pend) (i : Nat) : Pend := opt p (nth rs i) fun r => r.2.2.2
theorem canon_ok {A fs : List Nat} {base : Nat} : ∀ {l : List Oper} {k : Nat} {g : Tr AV} {σ : AH} {p : Pend} {rs : List Rec} {g' : Tr AV} {σ' : AH} {p' : Pend}, canon tt A fs base call all l k g σ p = some (rs, g', σ', p') →
    rs.length = l.length ∧ gAt rs g' 0 = g ∧ stAt rs σ' 0 = σ ∧ pAt rs p' 0 = p ∧ ∀ i o, l[i]? = some o → gAt rs g' (i + 1) = putD (gAt rs g' i) o.dst (uAt rs i) ∧
      ((memN (k + i) fs = true ∧ ∃ obj, made tt (gAt rs g' i) o.op (base + (k + i)) = some (uAt rs i, obj) ∧ stAt rs σ' (i + 1) = stAt rs σ' i ∧ pAt rs p' (i + 1) = (k + i, base + (k + i), obj) :: pAt rs p' i) ∨
      (memN (k + i) fs = false ∧ effO tt o.op = true ∧ one tt call all (gAt rs g' i) (shows (ancB A (k + i)) (pAt rs p' i) (stAt rs σ' i)) o = some (uAt rs i, stAt rs σ' (i + 1)) ∧ pAt rs p' (i + 1) = rest (ancB A (k + i)) (pAt rs p' i)) ∨
      (memN (k + i) fs = false ∧ effO tt o.op = false ∧ (∃ s', one tt call all (gAt rs g' i) (stAt rs σ' i) o = some (uAt rs i, s')) ∧ stAt rs σ' (i + 1) = stAt rs σ' i ∧ pAt rs p' (i + 1) = pAt rs p' i))
  | [], k, g, σ, p, rs, g', σ', p', h => by
    injection h with h
    injection h with h1 h2
    injection h2 with h2 h3
    injection h3 with h3 h4
    subst h1 h2 h3 h4
    exact ⟨rfl, rfl, rfl, rfl, fun i o h => by simp at h⟩
  | o :: l, k, g, σ, p, rs, g', σ', p', h => by
    have hk : ∀ i, k + 1 + i = k + (i + 1) := fun i => by omega
    rcases cnd_eq (show cnd (memN k fs)
        (opt none (made tt g o.op (Nat.add base k)) fun m => opt none (canon tt A fs base call all l (Nat.succ k) (putD g o.dst m.1) σ ((k, Nat.add base k, m.2) :: p)) fun r => some ((g, m.1, σ, p) :: r.1, r.2))
        (cnd (effO tt o.op)
          (opt none (one tt call all g (shows (ancB A k) p σ) o) fun q => opt none (canon tt A fs base call all l (Nat.succ k) (putD g o.dst q.1) q.2 (rest (ancB A k) p)) fun r => some ((g, q.1, σ, p) :: r.1, r.2))
          (opt none (one tt call all g σ o) fun q => opt none (canon tt A fs base call all l (Nat.succ k) (putD g o.dst q.1) σ p) fun r => some ((g, q.1, σ, p) :: r.1, r.2))) = some (rs, g', σ', p') from h) with ⟨hm, h⟩ | ⟨hm, h⟩
    · obtain ⟨⟨u, s⟩, h1, h2⟩ := opt_sm h
      obtain ⟨⟨rs2, g2, s2, p2⟩, h3, h4⟩ := opt_sm h2
      injection h4 with h4
      injection h4 with h5 h6
      injection h6 with h6 h7
      injection h7 with h7 h8
      simp only at h5 h6 h7 h8 h3
      subst h5 h6 h7 h8
      obtain ⟨k1, k2, k3, k5, k4⟩ := canon_ok h3
      refine ⟨congrArg Nat.succ k1, rfl, rfl, rfl, fun i o' hi => ?_⟩
      cases i with
      | zero =>
        rw [List.getElem?_cons_zero] at hi
        injection hi with hi
        subst hi
        exact ⟨k2, .inl ⟨hm, s, h1, k3, k5⟩⟩
      | succ i =>
        rw [List.getElem?_cons_succ] at hi
        have := k4 i o' hi
        rw [show Nat.succ k + i = k + (i + 1) from hk i] at this
        exact this
    · rcases cnd_eq h with ⟨he, h⟩ | ⟨he, h⟩
      · obtain ⟨⟨u, s⟩, h1, h2⟩ := opt_sm h
        obtain ⟨⟨rs2, g2, s2, p2⟩, h3, h4⟩ := opt_sm h2
        injection h4 with h4
        injection h4 with h5 h6
        injection h6 with h6 h7
        injection h7 with h7 h8
        simp only at h5 h6 h7 h8 h3
        subst h5 h6 h7 h8
        obtain ⟨k1, k2, k3, k5, k4⟩ := canon_ok h3
        refine ⟨congrArg Nat.succ k1, rfl, rfl, rfl, fun i o' hi => ?_⟩
        cases i with
        | zero =>
          rw [List.getElem?_cons_zero] at hi
          injection hi with hi
          subst hi
          refine ⟨k2, .inr (.inl ⟨hm, he, ?_, k5⟩)⟩
          rw [show stAt ((g, u, σ, p) :: rs2) s2 (0 + 1) = s from k3]
          exact h1
        | succ i =>
          rw [List.getElem?_cons_succ] at hi
          have := k4 i o' hi
          rw [show Nat.succ k + i = k + (i + 1) from hk i] at this
          exact this
      · obtain ⟨⟨u, s⟩, h1, h2⟩ := opt_sm h
        obtain ⟨⟨rs2, g2, s2, p2⟩, h3, h4⟩ := opt_sm h2
        injection h4 with h4
        injection h4 with h5 h6
        injection h6 with h6 h7
        injection h7 with h7 h8
        simp only at h5 h6 h7 h8 h3
        subst h5 h6 h7 h8
        obtain ⟨k1, k2, k3, k5, k4⟩ := canon_ok h3
        refine ⟨congrArg Nat.succ k1, rfl, rfl, rfl, fun i o' hi => ?_⟩
        cases i with
        | zero =>
          rw [List.getElem?_cons_zero] at hi
          injection hi with hi
          subst hi
          exact ⟨k2, .inr (.inr ⟨hm, he, ⟨s, h1⟩, k3, k5⟩)⟩
        | succ i =>
          rw [List.getElem?_cons_succ] at hi
          have := k4 i o' hi
          rw [show Nat.succ k + i = k + (i + 1) from hk i] at this
          exact this
theorem pairsOk_ok {es A : List Nat} {i : Nat} : ∀ {l : List Oper} {k : Nat}, pairsOk es A all i o l k = true → ∀ j p, l[j]? = some p → i ≠ k + j → pairOk es A all i (k + j) o p = true
  | [], k, _, j, p, h, _ => by simp at h
  | q :: l, k, h, j, p, hp, hne => by
    obtain ⟨h1, h2⟩ := and_cnd (show cnd (cnd (Nat.beq i k) true (pairOk es A all i k o q)) (pairsOk es A all i o l (k + 1)) false = true from h)
    cases j with
    | zero =>
      rw [List.getElem?_cons_zero] at hp
      injection hp with hp
      subst hp
      rcases cnd_eq h1 with ⟨h3, _⟩ | ⟨_, h3⟩
      · exact absurd (Nat.eq_of_beq_eq_true h3) hne
      · exact h3
    | succ j =>
      rw [List.getElem?_cons_succ] at hp
      have := pairsOk_ok h2 j p hp (by omega)
      rwa [show k + 1 + j = k + (j + 1) by omega] at this
theorem edgesLt_ok {i : Nat} : ∀ {es : List Edge}, edgesLt i es = true → ∀ x ∈ es, Region.binds .any x = true → x.on < i
  | [], _, x, hx, _ => by cases hx
  | y :: es, h, x, hx, hb => by
    have h : cnd (Region.binds .any y) (cnd (Nat.blt y.on i) (edgesLt i es) false) (edgesLt i es) = true := h
    rcases List.mem_cons.1 hx with rfl | hx
    · rw [hb] at h
      obtain ⟨h1, _⟩ := and_cnd h
      rwa [Nat.blt_eq] at h1
    · refine edgesLt_ok ?_ x hx hb
      rcases cnd_eq h with ⟨_, h1⟩ | ⟨_, h1⟩
      · exact (and_cnd h1).2
      · exact h1
theorem statOk0_ok {es fs A : List Nat} : ∀ {l : List Oper} {k : Nat}, statOk0 es fs A all l k = true → ∀ i o, l[i]? = some o → pairsOk es A all (k + i) o all.toList 0 = true ∧ edgesLt (k + i) o.after.toList = true ∧ (memN (k + i) fs = true → o.guard = none)
  | [], k, _, i, p, h => by simp at h
  | q :: l, k, h, i, p, hp => by
    obtain ⟨h1, h2⟩ := and_cnd (show cnd (pairsOk es A all k q all.toList 0) (cnd (edgesLt k q.after.toList) (cnd (cnd (memN k fs) (opt true q.guard fun _ => false) true) (statOk0 es fs A all l (k + 1)) false) false) false = true from h)
    obtain ⟨h3, h4⟩ := and_cnd h2
    obtain ⟨h5, h6⟩ := and_cnd h4
    cases i with
    | zero =>
      rw [List.getElem?_cons_zero] at hp
      injection hp with hp
      subst hp
      refine ⟨h1, h3, fun hm => ?_⟩
      have hm : memN k fs = true := hm
      rw [hm] at h5
      cases hg : q.guard with
      | none => rfl
      | some x => rw [hg] at h5; cases h5
    | succ i =>
      rw [List.getElem?_cons_succ] at hp
      have := statOk0_ok h6 i p hp
      rwa [show k + 1 + i = k + (i + 1) by omega] at this
theorem minusL_ok {fs : List Nat} : ∀ {l : List Nat} {j : Nat}, j ∈ minusL fs l ↔ j ∈ l ∧ memN j fs = false
  | [], j => by
    constructor
    · intro h; cases h
    · rintro ⟨h, _⟩; cases h
  | x :: l, j => by
    have h0 : minusL fs (x :: l) = cnd (memN x fs) (minusL fs l) (x :: minusL fs l) := rfl
    rw [h0]
    have ih := minusL_ok (fs := fs) (l := l) (j := j)
    cases hx : memN x fs with
    | true =>
      show j ∈ minusL fs l ↔ _
      rw [ih, List.mem_cons]
      constructor
      · rintro ⟨h1, h2⟩; exact ⟨.inr h1, h2⟩
      · rintro ⟨rfl | h1, h2⟩
        · rw [hx] at h2; cases h2
        · exact ⟨h1, h2⟩
    | false =>
      show j ∈ x :: minusL fs l ↔ _
      rw [List.mem_cons, ih, List.mem_cons]
      constructor
      · rintro (rfl | ⟨h1, h2⟩)
        · exact ⟨.inl rfl, hx⟩
        · exact ⟨.inr h1, h2⟩
      · rintro ⟨rfl | h1, h2⟩
        · exact .inl rfl
        · exact .inr ⟨h1, h2⟩
theorem freeL_ok {A effs : List Nat} : ∀ {l : List Oper} {k j : Nat}, j ∈ freeL A effs l k → ∃ i o, l[i]? = some o ∧ j = k + i ∧ allocO o.op = true
  | [], k, j, h => by cases h
  | q :: l, k, j, h => by
    have h : j ∈ cnd (cnd (allocO q.op) (Bool.not (ordAll A k effs)) false) (k :: freeL A effs l (k + 1)) (freeL A effs l (k + 1)) := h
    have tail : j ∈ freeL A effs l (k + 1) → ∃ i o, (q :: l)[i]? = some o ∧ j = k + i ∧ allocO o.op = true := fun h => by
      obtain ⟨i, o, h1, h2, h3⟩ := freeL_ok h
      exact ⟨i + 1, o, by simpa using h1, by omega, h3⟩
    cases hc : cnd (allocO q.op) (Bool.not (ordAll A k effs)) false with
    | false => rw [hc] at h; exact tail h
    | true =>
      rw [hc] at h
      rcases List.mem_cons.1 (show j ∈ k :: freeL A effs l (k + 1) from h) with rfl | h
      · exact ⟨0, q, rfl, rfl, (and_cnd hc).1⟩
      · exact tail h
theorem rest_eq (f : Nat → Bool) : ∀ p : Pend, rest f p = p.filter fun x => !f x.1
  | [] => rfl
  | x :: p => by
    show cnd (f x.1) (rest f p) (x :: rest f p) = _
    rw [rest_eq f p]
    cases h : f x.1 <;> simp [cnd, h]
theorem effL_ok : ∀ {l : List Oper} {k j : Nat}, j ∈ effL tt l k ↔ ∃ i o, l[i]? = some o ∧ j = k + i ∧ effO tt o.op = true
  | [], k, j => by
    constructor
    · intro h; cases h
    · rintro ⟨i, o, h, _⟩; simp at h
  | q :: l, k, j => by
    have h0 : effL tt (q :: l) k = cnd (effO tt q.op) (k :: effL tt l (k + 1)) (effL tt l (k + 1)) := rfl
    rw [h0]
    have ih := effL_ok (l := l) (k := k + 1) (j := j)
    have tail : j ∈ effL tt l (k + 1) → ∃ i o, (q :: l)[i]? = some o ∧ j = k + i ∧ effO tt o.op = true := fun h => by
      obtain ⟨i, o, h1, h2, h3⟩ := ih.1 h
      exact ⟨i + 1, o, by simpa using h1, by omega, h3⟩
    constructor
    · intro h
      cases hq : effO tt q.op with
      | false => rw [hq] at h; exact tail h
      | true =>
        rw [hq] at h
        rcases List.mem_cons.1 (show j ∈ k :: effL tt l (k + 1) from h) with rfl | h
        · exact ⟨0, q, rfl, rfl, hq⟩
        · exact tail h
    · rintro ⟨i, o, h1, h2, h3⟩
      cases i with
      | zero =>
        rw [List.getElem?_cons_zero] at h1
        injection h1 with h1
        subst h1
        rw [h3, h2]
        exact List.mem_cons_self
      | succ i =>
        rw [List.getElem?_cons_succ] at h1
        have := ih.2 ⟨i, o, h1, by omega, h3⟩
        cases effO tt q.op
        · exact this
        · exact List.mem_cons_of_mem _ this
theorem maybe_ok {A : List Nat} {i m : Nat} : ∀ {l : List Nat}, (∀ j ∈ l, (j < m → ancB A j i = false) ∧ (¬ j < m → ancB A i j = false)) → maybe A i m l = true
  | [], _ => rfl
  | j :: l, h => by
    show cnd (cnd (Nat.blt j m) (ancB A j i) (ancB A i j)) false (maybe A i m l) = true
    obtain ⟨h1, h2⟩ := h j List.mem_cons_self
    have h3 : cnd (Nat.blt j m) (ancB A j i) (ancB A i j) = false := by
      cases hb : Nat.blt j m with
      | true => rw [Nat.blt_eq] at hb; exact h1 hb
      | false => exact h2 fun hlt => by rw [← Nat.blt_eq] at hlt; rw [hlt] at hb; cases hb
    rw [h3]
    exact maybe_ok fun j hj => h j (List.mem_cons_of_mem _ hj)
theorem again_ok {A : List Nat} {effs : List Nat} {S : Nat → AH} {i : Nat} {u : AV} : ∀ {l : List Nat}, again tt A all effs S i o g u l = true → ∀ m, (m = 0 ∨ ∃ j ∈ l, m = j + 1) → again1 tt A all effs S i o g u m = true
  | [], h, m, hm => by
    rcases hm with rfl | ⟨j, hj, _⟩
    · exact h
    · cases hj
  | k :: l, h, m, hm => by
    obtain ⟨h1, h2⟩ := and_cnd (show cnd (again1 tt A all effs S i o g u (k + 1)) (again tt A all effs S i o g u l) false = true from h)
    rcases hm with rfl | ⟨j, hj, rfl⟩
    · exact again_ok h2 0 (.inl rfl)
    · rcases List.mem_cons.1 hj with rfl | hj
      · exact h1
      · exact again_ok h2 _ (.inr ⟨j, hj, rfl⟩)
theorem agains_ok {A : List Nat} {effs : List Nat} {S : Nat → AH} : ∀ {l : List Oper} {k : Nat} {rs : List Rec}, agains tt A all effs S l k rs = true → ∀ i o, l[i]? = some o → effO tt o.op = false → ∀ g', again tt A all effs S (k + i) o (gAt rs g' i) (uAt rs i) effs = true
  | [], k, rs, _, i, p, h, _, _ => by simp at h
  | q :: l, k, [], h, i, p, hp, he, g' => by cases h
  | q :: l, k, r :: rs, h, i, p, hp, he, g' => by
    obtain ⟨h1, h2⟩ := and_cnd (show cnd (cnd (effO tt q.op) true (again tt A all effs S k q r.1 r.2.1 effs)) (agains tt A all effs S l (k + 1) rs) false = true from h)
    cases i with
    | zero =>
      rw [List.getElem?_cons_zero] at hp
      injection hp with hp
      subst hp
      rw [he] at h1
      exact h1
    | succ i =>
      rw [List.getElem?_cons_succ] at hp
      have := agains_ok h2 i p hp he g'
      rw [show k + 1 + i = k + (i + 1) by omega] at this
      exact this
end
end Go.Proofs.YtpnoiagjgkajdaaGreatDoor.Av
end
noncomputable section
namespace Go.Proofs.YtpnoiagjgkajdaaGreatDoor.Av
open Go
section
variable {P : Program} {I : SX → Value → Prop} {tt : TT} {e e1 : Env} {σ σ1 σ' : AH} {w w' : World} {g g' g1 : Tr AV} {B n m : Nat} {all : Array Oper} {o : Oper} {call : Nat → List AV → AH → RV} {rs : List Rec} {a a' : Act} {listed : Array Bool}
theorem putD_get (g : Tr AV) (d : Option Tmp) (v : AV) (t : Nat) : (putD g d v).get t = if d = some t then some v else g.get t := by
  cases d with
  | none => rfl
  | some d =>
    show (Tr.put g d (some v)).get t = _
    rw [Tr.get_put]
    by_cases h : t = d
    · subst h; simp
    · rw [if_neg h, if_neg (fun hh => h (Option.some.inj hh).symm)]
abbrev aA (all : Array Oper) : List Nat := ancL all.toList []
abbrev aF (tt : TT) (all : Array Oper) : List Nat := freeL (aA all) (effL tt all.toList 0) all.toList 0
abbrev aE (tt : TT) (all : Array Oper) : List Nat := minusL (aF tt all) (effL tt all.toList 0)
/-- What a region's order leaves as it is. -/
structure Laid (tt : TT) (call : Nat → List AV → AH → RV) (all : Array Oper) (base : Nat) (g : Tr AV) (σ : AH) (rs : List Rec) (g' : Tr AV) (σ' : AH) (p' : Pend) : Prop where
  can : canon tt (aA all) (aF tt all) base call all all.toList 0 g σ [] = some (rs, g', σ', p')
  stat : statOk0 (aE tt all) (aF tt all) (aA all) all all.toList 0 = true
  again : agains tt (aA all) all (aE tt all) (stAt rs σ') all.toList 0 rs = true
theorem aE_ok {j : Nat} : j ∈ aE tt all ↔ ∃ o, all.toList[j]? = some o ∧ effO tt o.op = true ∧ memN j (aF tt all) = false := by
  rw [minusL_ok, effL_ok]
  constructor
  · rintro ⟨⟨i, o, h1, h2, h3⟩, h4⟩
    obtain rfl : j = i := by omega
    exact ⟨o, h1, h3, h4⟩
  · rintro ⟨o, h1, h2, h3⟩
    exact ⟨⟨j, o, h1, by omega, h2⟩, h3⟩
theorem aF_ok {j : Nat} (h : memN j (aF tt all) = true) (ho : all.toList[j]? = some o) : allocO o.op = true := by
  rw [memN_eq] at h
  obtain ⟨i, o', h1, h2, h3⟩ := freeL_ok (List.contains_iff_mem.1 h)
  obtain rfl : j = i := by omega
  rw [h1] at ho
  injection ho with ho
  rw [← ho]; exact h3
theorem alloc_eff {o : Op} (h : allocO o = true) : effO tt o = true := by
  cases o <;> first | (cases h; done) | rfl
/-- What is made, by place. -/
def oAt (tt : TT) (all : Array Oper) (rs : List Rec) (g' : Tr AV) (base k : Nat) : AO := opt (.map [] 0) (nth all.toList k) fun o => opt (.map [] 0) (made tt (gAt rs g' k) o.op (base + k)) fun m => m.2
theorem anc_lt {i j : Nat} (h : ancB (aA all) i j = true) : j < i := (anc_ok (D := fun _ => False) (fun _ _ _ h => h.elim) h).1
namespace Laid
variable {base : Nat} {p' : Pend} (h : Laid tt call all base g σ rs g' σ' p')
include h
theorem pair {i j : Nat} {o p : Oper} (hi : all.toList[i]? = some o) (hj : all.toList[j]? = some p) (hne : i ≠ j) : pairOk (aE tt all) (aA all) all i j o p = true := by
  have h1 := (statOk0_ok (k := 0) h.stat i o hi).1
  have := pairsOk_ok (k := 0) h1 j p hj (by omega)
  rwa [show 0 + i = i by omega, show 0 + j = j by omega] at this
theorem edge {i : Nat} {o : Oper} (hi : all.toList[i]? = some o) : ∀ x ∈ o.after.toList, Region.binds .any x = true → x.on < i := by
  have h1 := (statOk0_ok (k := 0) h.stat i o hi).2.1
  rw [show 0 + i = i by omega] at h1
  exact edgesLt_ok h1
theorem guard {i : Nat} {o : Oper} (hi : all.toList[i]? = some o) (hf : memN i (aF tt all) = true) : o.guard = none := by
  have h1 := (statOk0_ok (k := 0) h.stat i o hi).2.2
  rw [show 0 + i = i by omega] at h1
  exact h1 hf
theorem dst_ne {i j t : Nat} {o p : Oper} (hi : all.toList[i]? = some o) (hj : all.toList[j]? = some p) (hne : i ≠ j) (ht : p.dst = some t) : o.dst ≠ some t := fun ho => by
  obtain ⟨h1, -⟩ := and_cnd (h.pair hi hj hne)
  rw [ht] at h1
  have h1 : cnd (dstIs o t) false (cnd (memN t (o.looksAt all)) (cnd (ancB (aA all) i j) true (ancB (aA all) j i)) true) = true := h1
  have : dstIs o t = true := by
    unfold dstIs
    rw [ho]
    show Nat.beq t t = true
    simp
  rw [this] at h1
  cases h1
theorem read {i j t : Nat} {o p : Oper} (hi : all.toList[i]? = some o) (hj : all.toList[j]? = some p) (hne : i ≠ j) (ht : p.dst = some t) (hr : t ∈ o.looksAt all) : ancB (aA all) i j = true ∨ ancB (aA all) j i = true := by
  obtain ⟨h1, -⟩ := and_cnd (h.pair hi hj hne)
  rw [ht] at h1
  have h1 : cnd (dstIs o t) false (cnd (memN t (o.looksAt all)) (cnd (ancB (aA all) i j) true (ancB (aA all) j i)) true) = true := h1
  rcases cnd_eq h1 with ⟨_, h2⟩ | ⟨_, h2⟩
  · cases h2
  · have : memN t (o.looksAt all) = true := by rw [memN_eq]; exact List.contains_iff_mem.2 hr
    rw [this] at h2
    rcases cnd_eq (show cnd (ancB (aA all) i j) true (ancB (aA all) j i) = true from h2) with ⟨h3, _⟩ | ⟨_, h3⟩
    · exact .inl h3
    · exact .inr h3
theorem effs {i j : Nat} (hi : i ∈ aE tt all) (hj : j ∈ aE tt all) (hne : i ≠ j) : ancB (aA all) i j = true ∨ ancB (aA all) j i = true := by
  obtain ⟨o, ho, -⟩ := aE_ok.1 hi
  obtain ⟨p, hp, -⟩ := aE_ok.1 hj
  obtain ⟨-, h1⟩ := and_cnd (h.pair ho hp hne)
  have m1 : memN i (aE tt all) = true := by rw [memN_eq]; exact List.contains_iff_mem.2 hi
  have m2 : memN j (aE tt all) = true := by rw [memN_eq]; exact List.contains_iff_mem.2 hj
  rw [m1, m2] at h1
  rcases cnd_eq (show cnd (ancB (aA all) i j) true (ancB (aA all) j i) = true from h1) with ⟨h3, _⟩ | ⟨_, h3⟩
  · exact .inl h3
  · exact .inr h3
theorem at_ {i : Nat} {o : Oper} (hi : all.toList[i]? = some o) : gAt rs g' (i + 1) = putD (gAt rs g' i) o.dst (uAt rs i) ∧
      ((memN i (aF tt all) = true ∧ ∃ obj, made tt (gAt rs g' i) o.op (base + i) = some (uAt rs i, obj) ∧ stAt rs σ' (i + 1) = stAt rs σ' i ∧ pAt rs p' (i + 1) = (i, base + i, obj) :: pAt rs p' i) ∨
      (memN i (aF tt all) = false ∧ effO tt o.op = true ∧ one tt call all (gAt rs g' i) (shows (ancB (aA all) i) (pAt rs p' i) (stAt rs σ' i)) o = some (uAt rs i, stAt rs σ' (i + 1)) ∧ pAt rs p' (i + 1) = rest (ancB (aA all) i) (pAt rs p' i)) ∨
      (memN i (aF tt all) = false ∧ effO tt o.op = false ∧ (∃ s', one tt call all (gAt rs g' i) (stAt rs σ' i) o = some (uAt rs i, s')) ∧ stAt rs σ' (i + 1) = stAt rs σ' i ∧ pAt rs p' (i + 1) = pAt rs p' i)) := by
  have := (canon_ok h.can).2.2.2.2 i o hi
  rw [show 0 + i = i by omega] at this
  exact this
theorem gIn : ∀ (i : Nat), i ≤ all.toList.length → ∀ (j t : Nat) (p : Oper), j < i → all.toList[j]? = some p → p.dst = some t → (gAt rs g' i).get t = some (uAt rs j)
  | 0, _, j, t, p, hj, _, _ => by omega
  | i + 1, hi, j, t, p, hj, hp, ht => by
    obtain ⟨h2, -⟩ := h.at_ (List.getElem?_eq_getElem hi)
    rw [h2, putD_get]
    by_cases hji : j = i
    · subst hji
      rw [List.getElem?_eq_getElem hi] at hp
      injection hp with hp
      subst hp
      rw [if_pos ht]
    · rw [if_neg (h.dst_ne (List.getElem?_eq_getElem hi) hp (Ne.symm hji) ht)]
      exact gIn i (by omega) j t p (by omega) hp ht
theorem gOut : ∀ (i : Nat), i ≤ all.toList.length → ∀ (t : Nat), (∀ (j : Nat) (p : Oper), j < i → all.toList[j]? = some p → p.dst ≠ some t) → (gAt rs g' i).get t = g.get t
  | 0, _, t, _ => by
    obtain ⟨-, h1, -⟩ := canon_ok h.can
    rw [h1]
  | i + 1, hi, t, hn => by
    obtain ⟨h2, -⟩ := h.at_ (List.getElem?_eq_getElem hi)
    rw [h2, putD_get, if_neg (hn i _ (by omega) (List.getElem?_eq_getElem hi))]
    exact gOut i (by omega) t fun j p hj => hn j p (by omega)
theorem sSame : ∀ (b : Nat), b ≤ all.toList.length → ∀ a ≤ b, (∀ j, a ≤ j → j < b → j ∈ aE tt all → False) → stAt rs σ' a = stAt rs σ' b
  | 0, _, a, ha, _ => by rw [show a = 0 by omega]
  | b + 1, hb, a, ha, hn => by
    rcases Nat.lt_or_ge b a with h1 | h1
    · rw [show a = b + 1 by omega]
    · rw [sSame b (by omega) a h1 fun j h2 h3 => hn j h2 (by omega)]
      obtain ⟨-, ⟨-, _, -, h4, -⟩ | ⟨h4, h5, -⟩ | ⟨-, -, -, h4, -⟩⟩ := h.at_ (List.getElem?_eq_getElem hb)
      · exact h4.symm
      · exact (hn b h1 (by omega) (aE_ok.2 ⟨_, List.getElem?_eq_getElem hb, h5, h4⟩)).elim
      · exact h4.symm
theorem pMem : ∀ (i : Nat), i ≤ all.toList.length → (∀ x, x ∈ pAt rs p' i ↔ ∃ k, k < i ∧ memN k (aF tt all) = true ∧ x = (k, base + k, oAt tt all rs g' base k) ∧ ∀ j ∈ aE tt all, j < i → ancB (aA all) j k = false) ∧ (pAt rs p' i).Pairwise fun x y => y.1 < x.1
  | 0, _ => by
    obtain ⟨-, -, -, h1, -⟩ := canon_ok h.can
    rw [h1]
    exact ⟨fun x => ⟨fun h => (by cases h), fun ⟨k, h, _⟩ => (by omega)⟩, .nil⟩
  | i + 1, hi => by
    obtain ⟨ih1, ih2⟩ := pMem i (by omega)
    have ho := List.getElem?_eq_getElem (l := all.toList) hi
    obtain ⟨-, ⟨h3, obj, h4, -, h5⟩ | ⟨h3, h4, -, h5⟩ | ⟨h3, h4, -, -, h5⟩⟩ := h.at_ ho
    · have hobj : oAt tt all rs g' base i = obj := by
        unfold oAt
        rw [nth_eq, ho]
        show opt (AO.map [] 0) (made tt (gAt rs g' i) (all.toList[i]).op (base + i)) (fun m => m.2) = obj
        rw [h4]
        rfl
      have hni : i ∉ aE tt all := fun hh => by
        obtain ⟨o, _, _, h6⟩ := aE_ok.1 hh
        rw [h3] at h6
        cases h6
      rw [h5]
      refine ⟨fun x => ?_, .cons (fun y hy => ?_) ih2⟩
      · rw [List.mem_cons, ih1]
        constructor
        · rintro (rfl | ⟨k, h6, h7, h8, h9⟩)
          · refine ⟨i, by omega, h3, by rw [hobj], fun j hj hlt => ?_⟩
            rw [← Bool.not_eq_true]
            intro hh
            have := anc_lt hh
            omega
          · refine ⟨k, by omega, h7, h8, fun j hj hlt => h9 j hj ?_⟩
            have : j ≠ i := fun hh => hni (hh ▸ hj)
            omega
        · rintro ⟨k, h6, h7, h8, h9⟩
          by_cases hk : k = i
          · subst hk
            exact .inl (by rw [h8, hobj])
          · exact .inr ⟨k, by omega, h7, h8, fun j hj hlt => h9 j hj (by omega)⟩
      · obtain ⟨k, h6, _, h7, _⟩ := (ih1 y).1 hy
        rw [h7]
        exact h6
    · rw [h5, rest_eq]
      have hie : i ∈ aE tt all := aE_ok.2 ⟨_, ho, h4, h3⟩
      refine ⟨fun x => ?_, ih2.filter _⟩
      rw [List.mem_filter, ih1]
      constructor
      · rintro ⟨⟨k, h6, h7, rfl, h9⟩, h10⟩
        refine ⟨k, by omega, h7, rfl, fun j hj hlt => ?_⟩
        by_cases hji : j = i
        · subst hji
          simpa using h10
        · exact h9 j hj (by omega)
      · rintro ⟨k, h6, h7, rfl, h9⟩
        have hki : k ≠ i := by rintro rfl; rw [h7] at h3; cases h3
        exact ⟨⟨k, by omega, h7, rfl, fun j hj hlt => h9 j hj (by omega)⟩, by simpa using h9 i hie (by omega)⟩
    · have hni : i ∉ aE tt all := fun hh => by
        obtain ⟨o, h6, h7, _⟩ := aE_ok.1 hh
        rw [ho] at h6
        injection h6 with h6
        rw [h6, h7] at h4
        cases h4
      rw [h5]
      refine ⟨fun x => ?_, ih2⟩
      rw [ih1]
      constructor
      · rintro ⟨k, h6, h7, h8, h9⟩
        refine ⟨k, by omega, h7, h8, fun j hj hlt => h9 j hj ?_⟩
        have : j ≠ i := fun hh => hni (hh ▸ hj)
        omega
      · rintro ⟨k, h6, h7, h8, h9⟩
        have hki : k ≠ i := by rintro rfl; rw [h7] at h3; cases h3
        exact ⟨k, by omega, h7, h8, fun j hj hlt => h9 j hj (by omega)⟩
end Laid
/-- What isn't shown yet. -/
def Hid (tt : TT) (all : Array Oper) (m k : Nat) : Prop := memN k (aF tt all) = true ∧ ∀ j ∈ aE tt all, j < m → ancB (aA all) j k = false
structure DInv (P : Program) (tt : TT) (B : Nat) (I : SX → Value → Prop) (n : Nat) (all : Array Oper) (base : Nat) (g : Tr AV) (e : Env) (σ : AH) (w : World) (rs : List Rec) (g' : Tr AV) (σ' : AH) (a : Act) (listed : Array Bool) (a' : Act) (w' : World) (e1 : Env) (g1 : Tr AV) (m : Nat) : Prop where
  size : listed.size = all.size
  closed : ∀ i o, all.toList[i]? = some o → listed.getD i false = true → ∀ x ∈ o.after.toList, Region.binds .any x = true → listed.getD x.on false = true
  rel0 : Rel e σ w
  bs : σ.nx ≤ base
  step : Step e σ w e1 (stAt rs σ' m) w'
  fr : FR e1 g1 a'
  sz : a'.tmps.size = n
  df : a'.defers = a.defers
  gl : Glob B I e1
  mm : m = 0 ∨ ∃ j ∈ aE tt all, m = j + 1
  eff : ∀ j ∈ aE tt all, listed.getD j false = true ↔ j < m
  tin : ∀ (j t : Nat) (p : Oper), all.toList[j]? = some p → p.dst = some t → listed.getD j false = true → g1.get t = some (uAt rs j)
  tout : ∀ t, (∀ (j : Nat) (p : Oper), all.toList[j]? = some p → p.dst = some t → listed.getD j false = false) → g1.get t = g.get t
  nx : ∀ k, memN k (aF tt all) = true → base + k < (stAt rs σ' m).nx
  und : ∀ k, memN k (aF tt all) = true → listed.getD k false = false → e1.ρ (base + k) = none
  hid : ∀ k, Hid tt all m k → listed.getD k false = true → ∃ b, e1.ρ (base + k) = some b ∧ OR e1 w' b (oAt tt all rs g' base k) ∧ w.heap.size ≤ b ∧ ∀ l, ((stAt rs σ' m).hp.get l).isSome = true → e1.ρ l ≠ some b
  hinj : ∀ k k' b, Hid tt all m k → Hid tt all m k' → listed.getD k false = true → listed.getD k' false = true → e1.ρ (base + k) = some b → e1.ρ (base + k') = some b → k = k'
theorem ready_mem {i : Nat} (hs : listed.size = all.size) : i ∈ Region.ready .any all listed ↔ ∃ o, all.toList[i]? = some o ∧ listed.getD i false = false ∧ ∀ x ∈ o.after.toList, Region.binds .any x = true → listed.getD x.on false = true := by
  unfold Region.ready
  rw [List.mem_filter, List.mem_range]
  constructor
  · rintro ⟨h1, h2⟩
    have hi : all[i]? = some all[i] := Array.getElem?_eq_getElem h1
    rw [hi] at h2
    simp only [Option.map_some, Option.getD_some, Bool.and_eq_true, Bool.not_eq_true'] at h2
    obtain ⟨h3, h4⟩ := h2
    refine ⟨all[i], by rw [Array.getElem?_toList]; exact hi, ?_, fun x hx hb => ?_⟩
    · rw [Array.getD_eq_getD_getElem?, Array.getElem?_eq_getElem (by omega)] at h3 ⊢
      exact h3
    · rw [Array.all_eq_true'] at h4
      have := h4 x (by simpa using hx)
      rw [hb] at this
      simpa using this
  · rintro ⟨o, h1, h2, h3⟩
    rw [Array.getElem?_toList] at h1
    have hlt : i < all.size := by
      rcases Nat.lt_or_ge i all.size with hlt | hge
      · exact hlt
      · rw [Array.getElem?_eq_none hge] at h1; cases h1
    refine ⟨hlt, ?_⟩
    rw [h1]
    simp only [Option.map_some, Option.getD_some, Bool.and_eq_true, Bool.not_eq_true']
    refine ⟨?_, ?_⟩
    · rw [Array.getD_eq_getD_getElem?, Array.getElem?_eq_getElem (by omega)] at h2 ⊢
      exact h2
    · rw [Array.all_eq_true']
      intro x hx
      cases hb : Region.binds .any x with
      | false => rfl
      | true => simpa using h3 x (by simpa using hx) hb
end
end Go.Proofs.YtpnoiagjgkajdaaGreatDoor.Av
end
