/- A chain of an encoder's calls in a region that draws its order, more general: the encoder may be made in the region, a link may append a list that is given, one operation may follow. -/
import Derived.Test.YtpnoiagjgkajdaaGreatDoorEncChain
namespace Go.Proofs.YtpnoiagjgkajdaaGreatDoor
open Go Go.RowKit

/-- A link: has it a literal of its own; the number of that, of its call; where both put their values. -/
structure Jx where
  lit : Bool
  iB : Nat
  iC : Nat
  dB : Nat
  dC : Nat
/-- What a link appends: a literal's type and cells, or a given slice. -/
structure Dt where
  f : Nat
  n : Nat
  T : TypeId
  vals : Array Value
  arg : Value
  out : List UInt8
def Jx.z : Jx := ⟨true, 0, 0, 0, 0⟩
def Dt.z : Dt := ⟨0, 0, 0, #[], undef, []⟩
def jxs (X : List Jx) (j : Nat) : Jx := X.getD j Jx.z
def dts (Y : List Dt) (j : Nat) : Dt := Y.getD j Dt.z
/-- The slots that a chain turns; its operations. -/
def slotsJ (X : List Jx) (st : Option Nat) (t0 : Nat) : List Nat := (match st with | some _ => [t0] | none => []) ++ X.flatMap fun x => if x.lit then [x.dB, x.dC] else [x.dC]
def opsJ (X : List Jx) (st : Option Nat) (Z : List Nat) : List Nat := (match st with | some i => [i] | none => []) ++ ((X.flatMap fun x => if x.lit then [x.iB, x.iC] else [x.iC]) ++ Z)
structure Agr2 (D : List Nat) (a0 a : Act) : Prop where
  size : a.tmps.size = a0.tmps.size
  defers : a.defers = a0.defers
  at_ : ∀ t, t ∉ D → a.eval (.tmp t) = a0.eval (.tmp t)
theorem Agr2.put {D : List Nat} {a0 a : Act} (h : Agr2 D a0 a) {d : Nat} (hd : d ∈ D) (v : Value) : Agr2 D a0 (a.put (some d) v) := by
  refine ⟨by simp [Act.put, h.size], h.defers, fun t ht => ?_⟩
  rw [Act.put_other, h.at_ t ht]
  rintro rfl
  exact ht hd
theorem Agr2.eval_of {D : List Nat} {a0 a : Act} (h : Agr2 D a0 a) {q : Operand} (hq : ∀ t, q = .tmp t → t ∉ D) : a.eval q = a0.eval q := by
  cases q with
  | tmp t => exact h.at_ t (hq t rfl)
  | const v => rfl
  | global g => rfl
  | func f => rfl
def putsD (a : Act) (D : List Nat) (a0 : Act) : Act := D.foldl (fun q d => q.put (some d) (a.eval (.tmp d))) a0
theorem putsD_size (a : Act) : ∀ (D : List Nat) (a0 : Act), (putsD a D a0).tmps.size = a0.tmps.size ∧ (putsD a D a0).defers = a0.defers
  | [], _ => ⟨rfl, rfl⟩
  | d :: D, a0 => by
    have h := putsD_size a D (a0.put (some d) (a.eval (.tmp d)))
    unfold putsD at h ⊢
    rw [List.foldl_cons]
    exact ⟨h.1.trans (by simp [Act.put]), h.2⟩
theorem putsD_eval (a : Act) (t : Nat) : ∀ (D : List Nat) (a0 : Act), t < a0.tmps.size → (putsD a D a0).eval (.tmp t) = if t ∈ D then a.eval (.tmp t) else a0.eval (.tmp t)
  | [], a0, _ => by simp [putsD]
  | d :: D, a0, ht => by
    have h := putsD_eval a t D (a0.put (some d) (a.eval (.tmp d))) (by simpa [Act.put] using ht)
    unfold putsD at h ⊢
    rw [List.foldl_cons, h]
    by_cases h1 : t ∈ D
    · rw [if_pos h1, if_pos (List.mem_cons_of_mem _ h1)]
    · rw [if_neg h1]
      by_cases h2 : t = d
      · subst h2
        rw [Act.put_same ht, if_pos (by simp)]
      · rw [Act.put_other h2, if_neg (by simp [h1, h2])]
/-- Of a chain's own slots nothing is known behind it. -/
theorem Agr2.act {D : List Nat} {a0 a : Act} (h : Agr2 D a0 a) : a = putsD a D a0 := by
  obtain ⟨h1, h2⟩ := putsD_size a D a0
  have he : ∀ t, t < a0.tmps.size → a.eval (.tmp t) = (putsD a D a0).eval (.tmp t) := fun t ht => by
    rw [putsD_eval a t D a0 ht]
    by_cases h3 : t ∈ D
    · rw [if_pos h3]
    · rw [if_neg h3]
      exact h.at_ t h3
  have e1 : a.tmps = (putsD a D a0).tmps := by
    apply Array.ext
    · rw [h.size, h1]
    · intro i hi hi'
      have := he i (by rw [← h.size]; exact hi)
      simp only [Act.eval] at this
      rw [Array.getD_eq_getD_getElem?, Array.getD_eq_getD_getElem?, Array.getElem?_eq_getElem hi, Array.getElem?_eq_getElem hi'] at this
      exact this
  obtain ⟨t1, d1⟩ := a
  generalize putsD ⟨t1, d1⟩ D a0 = q at *
  obtain ⟨t2, d2⟩ := q
  simp only at e1 h2
  have := h.defers
  simp only at this
  rw [e1, h2, this]

/-- The static part: which operation waits for which. -/
def chainJ (md : Region.Mode) (ops : Array Oper) (X : List Jx) (st : Option Nat) (t0 : Nat) (Z : List Nat) (TA : TypeId) : Bool :=
  (match st with
    | none => X.all fun x => x.dC != t0 && x.dB != t0
    | some iA => (match ops[iA]? with
        | some o => o.dst == some t0 && o.guard.isNone && (match o.op with | .alloc T => T == TA | _ => false) && o.after.all fun e => !Region.binds md e || (e.on < ops.size && !(opsJ X st Z).contains e.on)
        | none => false) && (X.all fun x => x.dC != t0 && x.dB != t0 && x.iB != iA && x.iC != iA) && !Z.contains iA) &&
  (List.range X.length).all fun j =>
    (!(jxs X j).lit || (match ops[(jxs X j).iB]? with
      | some o => o.dst == some (jxs X j).dB && o.guard.isNone && (match o.op with
          | .buildSlice _ _ ps => ps.all fun q => match q.2 with
              | .tmp t => !(slotsJ X st t0).contains t
              | _ => true
          | _ => false) && o.after.all fun e => !Region.binds md e || (e.on < ops.size && !(opsJ X st Z).contains e.on)
      | none => false)) &&
    (match ops[(jxs X j).iC]? with
      | some o => o.dst == some (jxs X j).dC && o.guard.isNone && (match o.op with
          | .call c => (match c.callee with | .value (.func _) => true | _ => false) && (match c.args.toList with | [.tmp x, .tmp y] => x == (if j = 0 then t0 else (jxs X (j - 1)).dC) && y == (jxs X j).dB | _ => false)
          | _ => false) && (!(jxs X j).lit || o.after.any fun e => Region.binds md e && e.on == (jxs X j).iB) && (if j = 0 then (match st with | some iA => o.after.any fun e => Region.binds md e && e.on == iA | none => true) else o.after.any fun e => Region.binds md e && e.on == (jxs X (j - 1)).iC) &&
          o.after.all fun e => !Region.binds md e || ((e.on < ops.size && !(opsJ X st Z).contains e.on) || ((jxs X j).lit && e.on == (jxs X j).iB) || st == some e.on || (List.range j).any fun i => e.on == (jxs X i).iC)
      | none => false) &&
    ((jxs X j).lit || !(slotsJ X st t0).contains (jxs X j).dB) && !Z.contains (jxs X j).iB && !Z.contains (jxs X j).iC &&
    (List.range X.length).all fun i => (i == j || ((jxs X i).iB != (jxs X j).iB && (jxs X i).iC != (jxs X j).iC && (jxs X i).dB != (jxs X j).dB && (jxs X i).dC != (jxs X j).dC)) && (jxs X i).iB != (jxs X j).iC && (jxs X i).dB != (jxs X j).dC
/-- What follows waits for the last call. -/
def behindJ (md : Region.Mode) (ops : Array Oper) (X : List Jx) (Z : List Nat) : Bool :=
  Z.all fun z => match ops[z]? with
    | some o => o.after.any fun e => Region.binds md e && (e.on == (jxs X (X.length - 1)).iC || Z.contains e.on)
    | none => false

section
variable {P : Program} {md : Region.Mode} {ops : Array Oper} {Q : Exit → Act → World → Prop} {S F : World → Prop} {X : List Jx} {Y : List Dt} {st : Option Nat} {t0 : Nat} {Z : List Nat} {TA : TypeId} {wr : World} {L0 : List UInt8} {a0 : Act}
theorem jxs_mem {j : Nat} (h : j < X.length) : jxs X j ∈ X := by
  unfold jxs
  rw [List.getD_eq_getElem?_getD, List.getElem?_eq_getElem h]
  exact List.getElem_mem h
theorem mem_jxs {x : Jx} (h : x ∈ X) : ∃ j, j < X.length ∧ x = jxs X j := by
  obtain ⟨j, hj, rfl⟩ := List.getElem_of_mem h
  exact ⟨j, hj, by unfold jxs; rw [List.getD_eq_getElem?_getD, List.getElem?_eq_getElem hj]; rfl⟩
/-- What the static part says of one link. -/
structure LinkJ (md : Region.Mode) (ops : Array Oper) (X : List Jx) (st : Option Nat) (t0 : Nat) (Z : List Nat) (j : Nat) : Prop where
  b : (jxs X j).lit = true → ∃ t n ps ty pos af, ops[(jxs X j).iB]? = some ⟨some (jxs X j).dB, .buildSlice t n ps, ty, pos, af, none⟩ ∧ (∀ q ∈ ps, ∀ t, q.2 = .tmp t → t ∉ slotsJ X st t0) ∧ ∀ e ∈ af, Region.binds md e = true → e.on < ops.size ∧ e.on ∉ opsJ X st Z
  c : ∃ f ts ty pos af, ops[(jxs X j).iC]? = some ⟨some (jxs X j).dC, .call ⟨.value (.func f), #[.tmp (if j = 0 then t0 else (jxs X (j - 1)).dC), .tmp (jxs X j).dB], ts⟩, ty, pos, af, none⟩ ∧ ((jxs X j).lit = true → ∃ e ∈ af, Region.binds md e = true ∧ e.on = (jxs X j).iB) ∧ (j = 0 → ∀ iA, st = some iA → ∃ e ∈ af, Region.binds md e = true ∧ e.on = iA) ∧ (j ≠ 0 → ∃ e ∈ af, Region.binds md e = true ∧ e.on = (jxs X (j - 1)).iC) ∧
    ∀ e ∈ af, Region.binds md e = true → (e.on < ops.size ∧ e.on ∉ opsJ X st Z) ∨ ((jxs X j).lit = true ∧ e.on = (jxs X j).iB) ∨ st = some e.on ∨ ∃ i, i < j ∧ e.on = (jxs X i).iC
  g : ((jxs X j).lit = false → (jxs X j).dB ∉ slotsJ X st t0) ∧ (jxs X j).iB ∉ Z ∧ (jxs X j).iC ∉ Z
  d : ∀ i, i < X.length → (i = j ∨ ((jxs X i).iB ≠ (jxs X j).iB ∧ (jxs X i).iC ≠ (jxs X j).iC ∧ (jxs X i).dB ≠ (jxs X j).dB ∧ (jxs X i).dC ≠ (jxs X j).dC)) ∧ (jxs X i).iB ≠ (jxs X j).iC ∧ (jxs X i).dB ≠ (jxs X j).dC
theorem chainJ_ok (h : chainJ md ops X st t0 Z TA = true) {j : Nat} (hj : j < X.length) : LinkJ md ops X st t0 Z j := by
  unfold chainJ at h
  rw [Bool.and_eq_true] at h
  replace h := h.2
  rw [List.all_eq_true] at h
  have h1 := h j (List.mem_range.2 hj)
  simp only [Bool.and_eq_true] at h1
  obtain ⟨⟨⟨⟨⟨hB, hC⟩, hG1⟩, hG2⟩, hG3⟩, hD⟩ := h1
  refine ⟨fun hl => ?_, ?_, ⟨fun hl => ?_, ?_, ?_⟩, ?_⟩
  · rw [hl] at hB
    simp only [Bool.not_true, Bool.false_or] at hB
    split at hB
    · rename_i o ho
      obtain ⟨dst, op, ty, pos, af, gd⟩ := o
      simp only [Bool.and_eq_true, beq_iff_eq, Option.isNone_iff_eq_none] at hB
      obtain ⟨⟨⟨rfl, rfl⟩, h3⟩, h4⟩ := hB
      split at h3
      · rename_i t n ps
        refine ⟨t, n, ps, ty, pos, af, ho, fun q hq t ht => ?_, fun e he hb => ?_⟩
        · have h5 := Array.all_eq_true'.1 h3 q hq
          rw [ht] at h5
          simpa using h5
        · have h5 := Array.all_eq_true'.1 h4 e he
          simpa [hb] using h5
      · cases h3
    · cases hB
  · split at hC
    · rename_i o ho
      obtain ⟨dst, op, ty, pos, af, gd⟩ := o
      simp only [Bool.and_eq_true, beq_iff_eq, Option.isNone_iff_eq_none] at hC
      obtain ⟨⟨⟨⟨⟨rfl, rfl⟩, h3⟩, h4⟩, h5⟩, h6⟩ := hC
      split at h3
      · rename_i c
        obtain ⟨callee, args, ts⟩ := c
        simp only [Bool.and_eq_true] at h3
        obtain ⟨h7, h8⟩ := h3
        split at h7
        · rename_i f
          split at h8
          · rename_i x y hxy
            simp only [Bool.and_eq_true, beq_iff_eq] at h8
            obtain ⟨rfl, rfl⟩ := h8
            have ha : args = #[.tmp (if j = 0 then t0 else (jxs X (j - 1)).dC), .tmp (jxs X j).dB] := by
              apply Array.toList_inj.1
              exact hxy
            subst ha
            refine ⟨f, ts, ty, pos, af, ho, fun hl => ?_, fun hj0 iA hA => ?_, fun hj0 => ?_, fun e he hb => ?_⟩
            · rw [hl] at h4
              simp only [Bool.not_true, Bool.false_or] at h4
              obtain ⟨e, he, h9⟩ := Array.any_eq_true'.1 h4
              simp only [Bool.and_eq_true, beq_iff_eq] at h9
              exact ⟨e, he, h9⟩
            · rw [if_pos hj0, hA] at h5
              obtain ⟨e, he, h9⟩ := Array.any_eq_true'.1 h5
              simp only [Bool.and_eq_true, beq_iff_eq] at h9
              exact ⟨e, he, h9⟩
            · rw [if_neg hj0] at h5
              obtain ⟨e, he, h9⟩ := Array.any_eq_true'.1 h5
              simp only [Bool.and_eq_true, beq_iff_eq] at h9
              exact ⟨e, he, h9⟩
            · have h9 := Array.all_eq_true'.1 h6 e he
              simp only [hb, Bool.not_true, Bool.false_or, Bool.or_eq_true, Bool.and_eq_true, decide_eq_true_eq, beq_iff_eq, List.any_eq_true, List.mem_range, Bool.not_eq_true', List.contains_eq_mem, decide_eq_false_iff_not] at h9
              rcases h9 with ((h9 | h9) | h9) | h9
              · exact .inl h9
              · exact .inr (.inl h9)
              · exact .inr (.inr (.inl h9))
              · exact .inr (.inr (.inr h9))
          · cases h8
        · cases h7
      · cases h3
    · cases hC
  · simpa [hl] using hG1
  · simpa using hG2
  · simpa using hG3
  · intro i hi
    rw [List.all_eq_true] at hD
    have h1 := hD i (List.mem_range.2 hi)
    simp only [Bool.and_eq_true, Bool.or_eq_true, beq_iff_eq, bne_iff_ne, ne_eq] at h1
    exact ⟨h1.1.1.imp_right fun h => ⟨h.1.1.1, h.1.1.2, h.1.2, h.2⟩, h1.1.2, h1.2⟩
/-- And of the encoder's making. -/
theorem chainJ_new (h : chainJ md ops X st t0 Z TA = true) : (∀ x ∈ X, x.dC ≠ t0 ∧ x.dB ≠ t0) ∧ ∀ iA, st = some iA → (∀ x ∈ X, x.iB ≠ iA ∧ x.iC ≠ iA) ∧ iA ∉ Z ∧ ∃ ty pos af, ops[iA]? = some ⟨some t0, .alloc TA, ty, pos, af, none⟩ ∧ ∀ e ∈ af, Region.binds md e = true → e.on < ops.size ∧ e.on ∉ opsJ X st Z := by
  unfold chainJ at h
  rw [Bool.and_eq_true] at h
  replace h := h.1
  cases st with
  | none =>
    refine ⟨fun x hx => ?_, fun iA hA => by cases hA⟩
    rw [List.all_eq_true] at h
    simpa using h x hx
  | some iA =>
    simp only [Bool.and_eq_true] at h
    obtain ⟨⟨hA, hX⟩, hZ⟩ := h
    rw [List.all_eq_true] at hX
    refine ⟨fun x hx => ?_, fun iA' hA' => ?_⟩
    · have h1 := hX x hx
      simp only [Bool.and_eq_true, bne_iff_ne, ne_eq] at h1
      exact ⟨h1.1.1.1, h1.1.1.2⟩
    · obtain rfl := Option.some.inj hA'
      refine ⟨fun x hx => ?_, by simpa using hZ, ?_⟩
      · have h1 := hX x hx
        simp only [Bool.and_eq_true, bne_iff_ne, ne_eq] at h1
        exact ⟨h1.1.2, h1.2⟩
      · split at hA
        · rename_i o ho
          obtain ⟨dst, op, ty, pos, af, gd⟩ := o
          simp only [Bool.and_eq_true, beq_iff_eq, Option.isNone_iff_eq_none] at hA
          obtain ⟨⟨⟨rfl, rfl⟩, h3⟩, h4⟩ := hA
          split at h3
          · rename_i T
            obtain rfl := beq_iff_eq.1 h3
            refine ⟨ty, pos, af, ho, fun e he hb => ?_⟩
            have h5 := Array.all_eq_true'.1 h4 e he
            simpa [hb] using h5
          · cases h3
        · cases hA

/-- What holds while the chain goes on. -/
structure ChainJ (ops : Array Oper) (F : World → Prop) (X : List Jx) (Y : List Dt) (st : Option Nat) (t0 : Nat) (Z : List Nat) (wr : World) (L0 : List UInt8) (a0 : Act) (listed : Array Bool) (a : Act) (w : World) : Prop where
  size : listed.size = ops.size
  rest : ∀ i, i < ops.size → i ∉ opsJ X st Z → listed[i]? = some true
  behind : ∀ z ∈ Z, listed[z]? = some false
  agr : Agr2 (slotsJ X st t0) a0 a
  far : F w
  lit : ∀ j, j < X.length → (jxs X j).lit = true → listed[(jxs X j).iB]? = some true → ∃ g, a.eval (.tmp (jxs X j).dB) = .slice (some ⟨g, 0, none⟩) (dts Y j).n (dts Y j).n ∧ Blk w g (dts Y j).T (dts Y j).vals
  enc : (∃ iA, st = some iA ∧ listed[iA]? = some false ∧ Keep [] wr w ∧ L0 = [] ∧ ∀ j, j < X.length → listed[(jxs X j).iC]? = some false) ∨
    (∃ b k, (∀ iA, st = some iA → listed[iA]? = some true) ∧ a.eval (.tmp t0) = .pointer (some ⟨b, 0, none⟩) ∧ k < X.length ∧ (∀ j, j < X.length → listed[(jxs X j).iC]? = some (decide (j < k))) ∧ (∀ j, j < X.length → j < k → a.eval (.tmp (jxs X j).dC) = .pointer (some ⟨b, 0, none⟩)) ∧ EncNew wr w b (L0 ++ (Y.take k).flatMap Dt.out) ∧ ∀ j, j < X.length → j < k → (jxs X j).lit = true → listed[(jxs X j).iB]? = some true)
/-- What holds behind its last call. -/
structure DoneJ (ops : Array Oper) (F : World → Prop) (X : List Jx) (Y : List Dt) (st : Option Nat) (t0 : Nat) (Z : List Nat) (wr : World) (L0 : List UInt8) (a0 : Act) (listed : Array Bool) (a : Act) (w : World) : Prop where
  size : listed.size = ops.size
  all : ∀ i, i < ops.size → i ∉ Z → listed[i]? = some true
  behind : ∀ z ∈ Z, listed[z]? = some false
  agr : Agr2 (slotsJ X st t0) a0 a
  far : F w
  enc : ∃ b, a.eval (.tmp (jxs X (X.length - 1)).dC) = .pointer (some ⟨b, 0, none⟩) ∧ EncNew wr w b (L0 ++ Y.flatMap Dt.out)
/-- What is unlisted comes to an end, or to a state from which it is known. -/
theorem wpAnyH_inv2 {I D : Array Bool → Act → World → Prop} (hsz : ∀ listed a w, I listed a w → listed.size = ops.size) (hS : ∀ listed a w, I listed a w → S w) (hS2 : ∀ listed a w, D listed a w → S w)
    (hstep : ∀ (listed : Array Bool) (a : Act) (w : World) (i : Nat) (oi : Oper), I listed a w → ops[i]? = some oi → listed[i]? = some false → (∀ e ∈ oi.after, Region.binds md e = true → listed.getD e.on false = true) →
      ∀ K : Act → World → Prop, Shut (∀ a' w', I (listed.setIfInBounds i true) a' w' ∨ D (listed.setIfInBounds i true) a' w' → K a' w') → if Region.wanted oi (yielded ops a.tmps) = true then Oper.wp P oi a w K Q else K (a.put oi.dst undef) w)
    (hend : ∀ (listed : Array Bool) (a : Act) (w : World), I listed a w → (∀ (i : Nat) (oi : Oper), ops[i]? = some oi → (∀ e ∈ oi.after, Region.binds md e = true → listed.getD e.on false = true) → listed[i]? = some true) → False)
    (hD : ∀ (fuel : Nat) (listed : Array Bool) (a : Act) (w : World), D listed a w → unl listed ≤ fuel → wpAnyH P md ops Q S fuel listed a w) :
    ∀ (fuel : Nat) (listed : Array Bool) (a : Act) (w : World), I listed a w → unl listed ≤ fuel → wpAnyH P md ops Q S fuel listed a w := by
  have hnil : ∀ listed a w, I listed a w → Region.ready md ops listed = [] → False := fun listed a w hI hr => by
    refine hend listed a w hI fun i oi ho hall => ?_
    have hlt : i < ops.size := by
      rcases Nat.lt_or_ge i ops.size with h | h
      · exact h
      · rw [Array.getElem?_eq_none h] at ho; cases ho
    have hl : i < listed.size := by rw [hsz _ _ _ hI]; exact hlt
    cases hb : listed[i]'hl with
    | true => rw [Array.getElem?_eq_getElem hl, hb]
    | false =>
      have hm : i ∈ Region.ready md ops listed := mem_ready.2 ⟨by simp [Array.getD, hl, hb], oi, ho, hall⟩
      rw [hr] at hm
      cases hm
  intro fuel
  induction fuel with
  | zero =>
    intro listed a w hI hu
    have hr : Region.ready md ops listed = [] := by
      refine List.eq_nil_iff_forall_not_mem.2 fun i hi => ?_
      obtain ⟨h1, oj, h2, h3⟩ := mem_ready.1 hi
      have hlt : i < listed.size := by
        rcases Nat.lt_or_ge i listed.size with h | h
        · exact h
        · simp [Array.getD, Nat.not_lt.2 h] at h1
      have h4 : listed[i]? = some false := by
        rw [Array.getElem?_eq_getElem hlt]
        simpa [Array.getD, hlt] using h1
      have := unl_set h4
      omega
    exact (hnil _ _ _ hI hr).elim
  | succ fuel ih =>
    intro listed a w hI hu
    refine ⟨fun hr => (hnil _ _ _ hI hr).elim, fun i hi => ?_⟩
    obtain ⟨h1, oj, h2, h3⟩ := mem_ready.1 hi
    have hlt : i < listed.size := by
      rcases Nat.lt_or_ge i listed.size with h | h
      · exact h
      · simp [Array.getD, Nat.not_lt.2 h] at h1
    have h4 : listed[i]? = some false := by
      rw [Array.getElem?_eq_getElem hlt]
      simpa [Array.getD, hlt] using h1
    refine wpOp_step h2 fun K hK => hstep listed a w i oj hI h2 h4 h3 K fun a' w' hI' => hK a' w' ?_
    have hu2 := unl_set h4
    rcases hI' with hI' | hI'
    · exact ⟨hS _ _ _ hI', ih _ _ _ hI' (by omega)⟩
    · exact ⟨hS2 _ _ _ hI', hD _ _ _ _ hI' (by omega)⟩
end
end Go.Proofs.YtpnoiagjgkajdaaGreatDoor
