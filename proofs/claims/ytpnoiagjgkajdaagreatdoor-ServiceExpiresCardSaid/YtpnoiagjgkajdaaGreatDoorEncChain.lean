/- A chain of an encoder's calls in a region that draws its order: whatever order its literals come up in. -/
import Derived.Test.YtpnoiagjgkajdaaGreatDoorRegionI
import Derived.Test.YtpnoiagjgkajdaaGreatDoorFrame0
import Derived.Shelf.Abstract
namespace Go.Proofs.YtpnoiagjgkajdaaGreatDoor
open Go Go.RowKit

/-- A link: the number of its literal, of its call; where both put their values. -/
structure Ix where
  iB : Nat
  iC : Nat
  dB : Nat
  dC : Nat
/-- What a link appends. -/
structure Dat where
  f : Nat
  n : Nat
  T : TypeId
  vals : Array Value
  out : List UInt8
def Ix.z : Ix := ⟨0, 0, 0, 0⟩
def Dat.z : Dat := ⟨0, 0, 0, #[], []⟩
def ixs (X : List Ix) (j : Nat) : Ix := X.getD j Ix.z
def dats (Y : List Dat) (j : Nat) : Dat := Y.getD j Dat.z
/-- What an act has beside the chain's own slots. -/
structure Agr (X : List Ix) (a0 a : Act) : Prop where
  size : a.tmps.size = a0.tmps.size
  defers : a.defers = a0.defers
  at_ : ∀ t, (∀ x ∈ X, t ≠ x.dB ∧ t ≠ x.dC) → a.eval (.tmp t) = a0.eval (.tmp t)
theorem Act.put_same {a : Act} {d : Nat} {v : Value} (h : d < a.tmps.size) : (a.put (some d) v).eval (.tmp d) = v := by
  simp [Act.put, Act.eval, h]
theorem Act.put_other {a : Act} {d t : Nat} {v : Value} (h : t ≠ d) : (a.put (some d) v).eval (.tmp t) = a.eval (.tmp t) := by
  simp only [Act.put, Act.eval, Array.getD_eq_getD_getElem?]
  rw [Array.getElem?_setIfInBounds_ne (Ne.symm h)]
theorem Agr.put {X : List Ix} {a0 a : Act} (h : Agr X a0 a) {x : Ix} (hx : x ∈ X) {d : Nat} (hd : d = x.dB ∨ d = x.dC) (v : Value) : Agr X a0 (a.put (some d) v) := by
  refine ⟨by simp [Act.put, h.size], h.defers, fun t ht => ?_⟩
  rw [Act.put_other, h.at_ t ht]
  rintro rfl
  rcases hd with e | e
  · exact (ht x hx).1 e
  · exact (ht x hx).2 e

/-- The static part: which operation waits for which. -/
def chainB (md : Region.Mode) (ops : Array Oper) (X : List Ix) (t0 : Nat) : Bool :=
  (List.range X.length).all fun j =>
    (match ops[(ixs X j).iB]? with
      | some o => o.dst == some (ixs X j).dB && o.guard.isNone && (match o.op with
          | .buildSlice _ _ ps => ps.all fun q => match q.2 with
              | .tmp t => X.all fun x => t != x.dB && t != x.dC
              | _ => true
          | _ => false) && o.after.all fun e => !Region.binds md e || (e.on < ops.size && X.all fun x => e.on != x.iB && e.on != x.iC)
      | none => false) &&
    (match ops[(ixs X j).iC]? with
      | some o => o.dst == some (ixs X j).dC && o.guard.isNone && (match o.op with
          | .call c => (match c.callee with | .value (.func _) => true | _ => false) && (match c.args.toList with | [.tmp x, .tmp y] => x == (if j = 0 then t0 else (ixs X (j - 1)).dC) && y == (ixs X j).dB | _ => false)
          | _ => false) && (o.after.any fun e => Region.binds md e && e.on == (ixs X j).iB) && (j == 0 || o.after.any fun e => Region.binds md e && e.on == (ixs X (j - 1)).iC) &&
          o.after.all fun e => !Region.binds md e || ((e.on < ops.size && X.all fun x => e.on != x.iB && e.on != x.iC) || e.on == (ixs X j).iB || (List.range j).any fun i => e.on == (ixs X i).iC)
      | none => false) &&
    (List.range X.length).all fun i => (i == j || ((ixs X i).iB != (ixs X j).iB && (ixs X i).iC != (ixs X j).iC && (ixs X i).dB != (ixs X j).dB && (ixs X i).dC != (ixs X j).dC)) && (ixs X i).iB != (ixs X j).iC && (ixs X i).dB != (ixs X j).dC

section
variable {P : Program} {md : Region.Mode} {ops : Array Oper} {Q : Exit → Act → World → Prop} {S F : World → Prop} {X : List Ix} {Y : List Dat} {t0 b : Nat} {wr : World} {L0 : List UInt8} {a0 : Act}
/-- What holds while the chain goes on. -/
structure ChainI (ops : Array Oper) (F : World → Prop) (X : List Ix) (Y : List Dat) (b : Nat) (wr : World) (L0 : List UInt8) (a0 : Act) (listed : Array Bool) (a : Act) (w : World) : Prop where
  size : listed.size = ops.size
  rest : ∀ i, i < ops.size → (∀ x ∈ X, i ≠ x.iB ∧ i ≠ x.iC) → listed[i]? = some true
  agr : Agr X a0 a
  far : F w
  lit : ∀ j, j < X.length → listed[(ixs X j).iB]? = some true → ∃ g, a.eval (.tmp (ixs X j).dB) = .slice (some ⟨g, 0, none⟩) (dats Y j).n (dats Y j).n ∧ Blk w g (dats Y j).T (dats Y j).vals
  enc : ∃ k, k ≤ X.length ∧ (∀ j, j < X.length → listed[(ixs X j).iC]? = some (decide (j < k))) ∧ (∀ j, j < X.length → j < k → a.eval (.tmp (ixs X j).dC) = .pointer (some ⟨b, 0, none⟩)) ∧ EncNew wr w b (L0 ++ (Y.take k).flatMap Dat.out)
theorem ixs_mem {j : Nat} (h : j < X.length) : ixs X j ∈ X := by
  unfold ixs
  rw [List.getD_eq_getElem?_getD, List.getElem?_eq_getElem h]
  exact List.getElem_mem h
theorem mem_ixs {x : Ix} (h : x ∈ X) : ∃ j, j < X.length ∧ x = ixs X j := by
  obtain ⟨j, hj, rfl⟩ := List.getElem_of_mem h
  exact ⟨j, hj, by unfold ixs; rw [List.getD_eq_getElem?_getD, List.getElem?_eq_getElem hj]; rfl⟩
/-- What the static part says of one link. -/
structure LinkOk (md : Region.Mode) (ops : Array Oper) (X : List Ix) (t0 j : Nat) : Prop where
  b : ∃ t n ps ty pos af, ops[(ixs X j).iB]? = some ⟨some (ixs X j).dB, .buildSlice t n ps, ty, pos, af, none⟩ ∧ (∀ q ∈ ps, ∀ t, q.2 = .tmp t → ∀ x ∈ X, t ≠ x.dB ∧ t ≠ x.dC) ∧ ∀ e ∈ af, Region.binds md e = true → e.on < ops.size ∧ ∀ x ∈ X, e.on ≠ x.iB ∧ e.on ≠ x.iC
  c : ∃ f ts ty pos af, ops[(ixs X j).iC]? = some ⟨some (ixs X j).dC, .call ⟨.value (.func f), #[.tmp (if j = 0 then t0 else (ixs X (j - 1)).dC), .tmp (ixs X j).dB], ts⟩, ty, pos, af, none⟩ ∧ (∃ e ∈ af, Region.binds md e = true ∧ e.on = (ixs X j).iB) ∧ (j = 0 ∨ ∃ e ∈ af, Region.binds md e = true ∧ e.on = (ixs X (j - 1)).iC) ∧
    ∀ e ∈ af, Region.binds md e = true → (e.on < ops.size ∧ ∀ x ∈ X, e.on ≠ x.iB ∧ e.on ≠ x.iC) ∨ e.on = (ixs X j).iB ∨ ∃ i, i < j ∧ e.on = (ixs X i).iC
  d : ∀ i, i < X.length → (i = j ∨ ((ixs X i).iB ≠ (ixs X j).iB ∧ (ixs X i).iC ≠ (ixs X j).iC ∧ (ixs X i).dB ≠ (ixs X j).dB ∧ (ixs X i).dC ≠ (ixs X j).dC)) ∧ (ixs X i).iB ≠ (ixs X j).iC ∧ (ixs X i).dB ≠ (ixs X j).dC
theorem chainB_ok (h : chainB md ops X t0 = true) {j : Nat} (hj : j < X.length) : LinkOk md ops X t0 j := by
  unfold chainB at h
  rw [List.all_eq_true] at h
  have h1 := h j (List.mem_range.2 hj)
  rw [Bool.and_eq_true, Bool.and_eq_true] at h1
  obtain ⟨⟨hB, hC⟩, hD⟩ := h1
  refine ⟨?_, ?_, ?_⟩
  · split at hB
    · rename_i o ho
      obtain ⟨dst, op, ty, pos, af, gd⟩ := o
      simp only [Bool.and_eq_true, beq_iff_eq, Option.isNone_iff_eq_none] at hB
      obtain ⟨⟨⟨rfl, rfl⟩, h3⟩, h4⟩ := hB
      split at h3
      · rename_i t n ps
        refine ⟨t, n, ps, ty, pos, af, ho, fun q hq t ht x hx => ?_, fun e he hb => ?_⟩
        · have h5 := Array.all_eq_true'.1 h3 q hq
          rw [ht] at h5
          simp only [List.all_eq_true, Bool.and_eq_true, bne_iff_ne, ne_eq] at h5
          exact h5 x hx
        · have h5 := Array.all_eq_true'.1 h4 e he
          simp only [hb, Bool.not_true, Bool.false_or, Bool.and_eq_true, decide_eq_true_eq, List.all_eq_true, bne_iff_ne, ne_eq] at h5
          exact h5
      · cases h3
    · cases hB
  · split at hC
    · rename_i o ho
      obtain ⟨dst, op, ty, pos, af, gd⟩ := o
      simp only [Bool.and_eq_true, beq_iff_eq, Option.isNone_iff_eq_none] at hC
      obtain ⟨⟨⟨⟨⟨rfl, rfl⟩, h3⟩, h4⟩, h5⟩, h6⟩ := hC
      split at h3
      · rename_i c
        obtain ⟨callee, args, ts⟩ := c
        simp only [Bool.and_eq_true] at h3
        obtain ⟨h7, h8⟩ := h3
        split at h7
        · rename_i f
          split at h8
          · rename_i x y hxy
            simp only [Bool.and_eq_true, beq_iff_eq] at h8
            obtain ⟨rfl, rfl⟩ := h8
            have ha : args = #[.tmp (if j = 0 then t0 else (ixs X (j - 1)).dC), .tmp (ixs X j).dB] := by
              apply Array.toList_inj.1
              exact hxy
            subst ha
            refine ⟨f, ts, ty, pos, af, ho, ?_, ?_, fun e he hb => ?_⟩
            · obtain ⟨e, he, h9⟩ := Array.any_eq_true'.1 h4
              simp only [Bool.and_eq_true, beq_iff_eq] at h9
              exact ⟨e, he, h9⟩
            · simp only [Bool.or_eq_true, beq_iff_eq] at h5
              refine h5.imp_right fun h5 => ?_
              obtain ⟨e, he, h9⟩ := Array.any_eq_true'.1 h5
              simp only [Bool.and_eq_true, beq_iff_eq] at h9
              exact ⟨e, he, h9⟩
            · have h9 := Array.all_eq_true'.1 h6 e he
              simp only [hb, Bool.not_true, Bool.false_or, Bool.or_eq_true, Bool.and_eq_true, decide_eq_true_eq, List.all_eq_true, bne_iff_ne, ne_eq, beq_iff_eq, List.any_eq_true, List.mem_range] at h9
              rcases h9 with (h9 | h9) | h9
              · exact .inl h9
              · exact .inr (.inl h9)
              · exact .inr (.inr h9)
          · cases h8
        · cases h7
      · cases h3
    · cases hC
  · intro i hi
    rw [List.all_eq_true] at hD
    have h1 := hD i (List.mem_range.2 hi)
    simp only [Bool.and_eq_true, Bool.or_eq_true, beq_iff_eq, bne_iff_ne, ne_eq] at h1
    obtain ⟨⟨h2, h3⟩, h4⟩ := h1
    refine ⟨h2.imp_right fun h => ?_, h3, h4⟩
    obtain ⟨⟨⟨a, b⟩, c⟩, d⟩ := h
    exact ⟨a, b, c, d⟩
theorem getD_true {l : Array Bool} {i : Nat} (h : l.getD i false = true) : l[i]? = some true := by
  rw [Array.getD_eq_getD_getElem?] at h
  cases he : l[i]? with
  | none => rw [he] at h; cases h
  | some v => rw [he] at h; simpa using h
theorem lset_at {l : Array Bool} {i : Nat} (h : i < l.size) : (l.setIfInBounds i true)[i]? = some true := by simp [h]
theorem lset_ne {l : Array Bool} {i k : Nat} (h : k ≠ i) : (l.setIfInBounds i true)[k]? = l[k]? := Array.getElem?_setIfInBounds_ne (Ne.symm h)
theorem take_succ_out {j : Nat} (h : j < Y.length) : (Y.take (j + 1)).flatMap Dat.out = (Y.take j).flatMap Dat.out ++ (dats Y j).out := by
  have e : dats Y j = Y[j] := by unfold dats; rw [List.getD_eq_getElem?_getD, List.getElem?_eq_getElem h]; rfl
  rw [List.take_succ_eq_append_getElem h, List.flatMap_append, e]
  simp
theorem Agr.eval_of {a : Act} (h : Agr X a0 a) {q : Operand} (hq : ∀ t, q = .tmp t → ∀ x ∈ X, t ≠ x.dB ∧ t ≠ x.dC) : a.eval q = a0.eval q := by
  cases q with
  | tmp t => exact h.at_ t (hq t rfl)
  | const v => rfl
  | global g => rfl
  | func f => rfl
/-- The start, as the kernel reckons it. -/
def startB (ops : Array Oper) (X : List Ix) (listed : Array Bool) (fuel : Nat) : Bool :=
  listed.size == ops.size && ((List.range ops.size).all fun i => (X.any fun x => i == x.iB || i == x.iC) || listed[i]? == some true) && (X.all fun x => listed[x.iB]? == some false && listed[x.iC]? == some false) && Nat.ble (unl listed) fuel
theorem startB_ok {listed : Array Bool} {fuel : Nat} (h : startB ops X listed fuel = true) : listed.size = ops.size ∧ (∀ i, i < ops.size → (∀ x ∈ X, i ≠ x.iB ∧ i ≠ x.iC) → listed[i]? = some true) ∧ (∀ x ∈ X, listed[x.iB]? = some false ∧ listed[x.iC]? = some false) ∧ unl listed ≤ fuel := by
  unfold startB at h
  simp only [Bool.and_eq_true, beq_iff_eq] at h
  obtain ⟨⟨⟨h1, h2⟩, h3⟩, h4⟩ := h
  refine ⟨h1, fun i hi hn => ?_, fun x hx => ?_, Nat.le_of_ble_eq_true h4⟩
  · rw [List.all_eq_true] at h2
    have h5 := h2 i (List.mem_range.2 hi)
    simp only [Bool.or_eq_true, List.any_eq_true, beq_iff_eq] at h5
    rcases h5 with ⟨x, hx, h5⟩ | h5
    · rcases h5 with h5 | h5
      · exact absurd h5 (hn x hx).1
      · exact absurd h5 (hn x hx).2
    · exact h5
  · rw [List.all_eq_true] at h3
    have h5 := h3 x hx
    simpa using h5
def ownB (X : List Ix) (t0 n : Nat) : Bool := X.all fun x => t0 != x.dB && t0 != x.dC && Nat.blt x.dB n && Nat.blt x.dC n
theorem ownB_ok {n : Nat} (h : ownB X t0 n = true) : (∀ x ∈ X, t0 ≠ x.dB ∧ t0 ≠ x.dC) ∧ ∀ x ∈ X, x.dB < n ∧ x.dC < n := by
  unfold ownB at h
  rw [List.all_eq_true] at h
  refine ⟨fun x hx => ?_, fun x hx => ?_⟩
  · have h1 := h x hx
    simp only [Bool.and_eq_true, bne_iff_ne, ne_eq] at h1
    exact h1.1.1
  · have h1 := h x hx
    simp only [Bool.and_eq_true, Nat.blt_eq] at h1
    exact ⟨h1.1.2, h1.2⟩
theorem enc_chain (hch : chainB md ops X t0 = true) (hlen : Y.length = X.length) (hown : ownB X t0 a0.tmps.size = true) (ht0 : a0.eval (.tmp t0) = .pointer (some ⟨b, 0, none⟩))
    (hF1 : ∀ w o, F w → F (w.alloc o)) (hF2 : ∀ w w', F w → OthersE w w' → F w') (hFS : ∀ w, F w → S w)
    (hrun : ∀ j, j < X.length → ∃ o t ps, ops[(ixs X j).iB]? = some o ∧ o.op = .buildSlice t (dats Y j).n ps ∧ ∀ w, (Instr.buildSlice t (dats Y j).n (ps.map fun q => (q.1, a0.eval q.2))).run P w = .ok (.slice (some ⟨w.heap.size, 0, none⟩) (dats Y j).n (dats Y j).n) (w.alloc (.cells (dats Y j).vals (dats Y j).T)))
    (hcall : ∀ j, j < X.length → ∃ o args ts, ops[(ixs X j).iC]? = some o ∧ o.op = .call ⟨.value (.func (dats Y j).f), args, ts⟩) (hent : ∀ j, j < X.length → Go.Proofs.Enters P (dats Y j).f)
    (hT : ∀ j, j < X.length → (dats Y j).T ≠ 230 ∧ (dats Y j).T ≠ 5)
    (hcon : ∀ j, j < X.length → ∀ (w : World) (g : Nat) (L : List UInt8), EncNew wr w b L → L.length ≤ 274877906944 → Blk w g (dats Y j).T (dats Y j).vals → F w →
      Calls P (dats Y j).f #[.pointer (some ⟨b, 0, none⟩), .slice (some ⟨g, 0, none⟩) (dats Y j).n (dats Y j).n] w fun e w' => e = .returned (.pointer (some ⟨b, 0, none⟩)) ∧ EncNew wr w' b (L ++ (dats Y j).out) ∧ OthersE w w')
    (hL : (L0 ++ Y.flatMap Dat.out).length ≤ 274877906944)
    (hend : ∀ a w, Agr X a0 a → F w → EncNew wr w b (L0 ++ Y.flatMap Dat.out) → Q .normal a w) :
    ∀ (fuel : Nat) (listed : Array Bool) (w : World), startB ops X listed fuel = true → F w → EncNew wr w b L0 →
      wpAnyH P md ops Q S fuel listed a0 w := by
  intro fuel listed w hst hF hE
  obtain ⟨hls, hrest, hlinks, hfuel⟩ := startB_ok hst
  obtain ⟨hfr, hsz⟩ := ownB_ok hown
  have LK : ∀ {j}, j < X.length → LinkOk md ops X t0 j := fun hj => chainB_ok hch hj
  have hpre : ∀ k, (L0 ++ (Y.take k).flatMap Dat.out).length ≤ 274877906944 := fun k => by
    have h1 : Y.flatMap Dat.out = (Y.take k).flatMap Dat.out ++ (Y.drop k).flatMap Dat.out := by rw [← List.flatMap_append, List.take_append_drop]
    rw [h1] at hL
    simp only [List.length_append] at hL ⊢
    omega
  refine wpAnyH_inv (I := ChainI ops F X Y b wr L0 a0) (fun _ _ _ h => h.size) (fun _ _ w h => hFS w h.far) ?_ ?_ fuel listed a0 w ⟨hls, hrest, ⟨rfl, rfl, fun _ _ => rfl⟩, hF, fun j hj h => ?_, 0, Nat.zero_le _, fun j hj => ?_, fun j _ h => absurd h (Nat.not_lt_zero _), by simpa using hE⟩ hfuel
  · intro listed a w i oi hI ho hun hdep K hK
    by_cases hx : ∀ x ∈ X, i ≠ x.iB ∧ i ≠ x.iC
    · have hlt : i < ops.size := by
        rcases Nat.lt_or_ge i ops.size with h | h
        · exact h
        · rw [Array.getElem?_eq_none h] at ho; cases ho
      rw [hI.rest i hlt hx] at hun
      cases hun
    · have hx2 : ∃ x ∈ X, i = x.iB ∨ i = x.iC := by
        refine Classical.byContradiction fun hn => hx fun x hm => ⟨fun e => hn ⟨x, hm, .inl e⟩, fun e => hn ⟨x, hm, .inr e⟩⟩
      obtain ⟨x, hxm, hxi⟩ := hx2
      obtain ⟨j, hj, rfl⟩ := mem_ixs hxm
      have hil : i < listed.size := by
        rcases Nat.lt_or_ge i listed.size with h | h
        · exact h
        · rw [Array.getElem?_eq_none h] at hun; cases hun
      rcases hxi with rfl | rfl
      · obtain ⟨t, n, ps, ty, pos, af, hb1, hb2, -⟩ := (LK hj).b
        obtain ⟨o', t', ps', h1, h2, h3⟩ := hrun j hj
        rw [ho] at hb1 h1
        obtain rfl := Option.some.inj hb1
        obtain rfl := Option.some.inj h1
        simp only at h2
        injection h2 with e1 e2 e3
        subst e1 e2 e3
        have hps : (ps.map fun q => (q.1, a.eval q.2)) = ps.map fun q => (q.1, a0.eval q.2) := Array.map_congr_left fun q hq => by rw [hI.agr.eval_of (hb2 q hq)]
        have hw : ∀ f, Region.wanted ⟨some (ixs X j).dB, .buildSlice t (dats Y j).n ps, ty, pos, af, none⟩ f = true := fun _ => rfl
        rw [if_pos (hw _)]
        have hr := h3 w
        rw [← hps] at hr
        unfold Oper.wp execOp
        simp only [Sem.run_bind, Sem.run_pure, hr, Result.andThen_ok, Oper.upon_value]
        refine hK.out _ _ ⟨by simpa using hI.size, fun i' hi' hn => ?_, hI.agr.put hxm (.inl rfl) _, hF1 _ _ hI.far, fun j' hj' h => ?_, ?_⟩
        · rw [lset_ne (fun e => (hn _ hxm).1 e)]
          exact hI.rest i' hi' hn
        · by_cases he : j' = j
          · subst he
            exact ⟨w.heap.size, Act.put_same (by rw [hI.agr.size]; exact (hsz _ hxm).1), Blk.new _ _ _⟩
          · obtain ⟨d1, d2, d3⟩ := (LK hj).d j' hj'
            obtain ⟨d4, d5, d6, d7⟩ := d1.resolve_left he
            rw [lset_ne d4] at h
            obtain ⟨g, g1, g2⟩ := hI.lit j' hj' h
            exact ⟨g, by rw [Act.put_other d6]; exact g1, g2.alloc _⟩
        · obtain ⟨k, k1, k2, k3, k4⟩ := hI.enc
          refine ⟨k, k1, fun i hi => ?_, fun i hi hik => ?_, k4.alloc _⟩
          · rw [lset_ne (fun e => ((LK hi).d j hj).2.1 e.symm)]
            exact k2 i hi
          · rw [Act.put_other (fun e => ((LK hi).d j hj).2.2 e.symm)]
            exact k3 i hi hik
      · obtain ⟨f, ts, ty, pos, af, hc1, ⟨e1, he1, hb1, hon1⟩, hprev, -⟩ := (LK hj).c
        obtain ⟨o', args', ts', h1, h2⟩ := hcall j hj
        rw [ho] at hc1 h1
        obtain rfl := Option.some.inj hc1
        obtain rfl := Option.some.inj h1
        simp only at h2
        injection h2 with e2
        injection e2 with e3 e4 e5
        injection e3 with e6
        injection e6 with e7
        subst e7
        obtain ⟨k, k1, k2, k3, k4⟩ := hI.enc
        have hjk : ¬ j < k := fun h => by
          have h1 := k2 j hj
          rw [hun, decide_eq_true h] at h1
          cases h1
        have hlit := getD_true (hdep e1 he1 hb1)
        rw [hon1] at hlit
        obtain ⟨g, g1, g2⟩ := hI.lit j hj hlit
        have hkj : k = j := by
          rcases hprev with rfl | ⟨e8, h8, h9, h10⟩
          · omega
          · have h11 := getD_true (hdep e8 h8 h9)
            rw [h10] at h11
            by_cases hj0 : j = 0
            · omega
            · have h12 := k2 (j - 1) (by omega)
              rw [h11] at h12
              have h13 : j - 1 < k := by
                refine Classical.byContradiction fun hn => ?_
                rw [decide_eq_false hn] at h12
                cases h12
              omega
        subst hkj
        have harg : a.eval (.tmp (if k = 0 then t0 else (ixs X (k - 1)).dC)) = .pointer (some ⟨b, 0, none⟩) := by
          by_cases hk0 : k = 0
          · rw [if_pos hk0, hI.agr.at_ t0 hfr]
            exact ht0
          · rw [if_neg hk0]
            exact k3 (k - 1) (by omega) (by omega)
        have hw : ∀ q, Region.wanted ⟨some (ixs X k).dC, .call ⟨.value (.func (dats Y k).f), #[.tmp (if k = 0 then t0 else (ixs X (k - 1)).dC), .tmp (ixs X k).dB], ts⟩, ty, pos, af, none⟩ q = true := fun _ => rfl
        rw [if_pos (hw _)]
        unfold Oper.wp
        have hexec : execOp a.eval ⟨some (ixs X k).dC, .call ⟨.value (.func (dats Y k).f), #[.tmp (if k = 0 then t0 else (ixs X (k - 1)).dC), .tmp (ixs X k).dB], ts⟩, ty, pos, af, none⟩ = callFunc (dats Y k).f #[.pointer (some ⟨b, 0, none⟩), .slice (some ⟨g, 0, none⟩) (dats Y k).n (dats Y k).n] := by
          rw [execOp_call_go]
          simp [harg, g1]
        rw [hexec, hent k hj, Oper.upon_enter]
        refine (hcon k hj w g _ k4 (hpre k) g2 hI.far).mono ?_
        rintro e w' ⟨rfl, hE', hO⟩
        refine hK.out _ _ ⟨by simpa using hI.size, fun i' hi' hn => ?_, hI.agr.put hxm (.inr rfl) _, hF2 _ _ hI.far hO, fun j' hj' h => ?_, k + 1, hj, fun i hi => ?_, fun i hi hik => ?_, ?_⟩
        · rw [lset_ne (fun e => (hn _ hxm).2 e)]
          exact hI.rest i' hi' hn
        · obtain ⟨d1, d2, d3⟩ := (LK hj).d j' hj'
          rw [lset_ne d2] at h
          obtain ⟨g', h1, h2⟩ := hI.lit j' hj' h
          exact ⟨g', by rw [Act.put_other d3]; exact h1, hO _ _ _ h2 (hT j' hj').1 (hT j' hj').2⟩
        · by_cases he : i = k
          · subst he
            rw [lset_at hil, decide_eq_true (by omega)]
          · obtain ⟨d1, -, -⟩ := (LK hj).d i hi
            obtain ⟨d4, d5, d6, d7⟩ := d1.resolve_left he
            rw [lset_ne d5, k2 i hi]
            congr 1
            by_cases h : i < k
            · rw [decide_eq_true h, decide_eq_true (by omega)]
            · rw [decide_eq_false h, decide_eq_false (by omega)]
        · by_cases he : i = k
          · subst he
            exact Act.put_same (by rw [hI.agr.size]; exact (hsz _ hxm).2)
          · obtain ⟨d1, -, -⟩ := (LK hj).d i hi
            obtain ⟨d4, d5, d6, d7⟩ := d1.resolve_left he
            rw [Act.put_other d7]
            exact k3 i hi (by omega)
        · rw [take_succ_out (by omega), ← List.append_assoc]
          exact hE'
  · intro listed a w hI hall
    have hB : ∀ j, j < X.length → listed[(ixs X j).iB]? = some true := fun j hj => by
      obtain ⟨t, n, ps, ty, pos, af, hb1, -, hb3⟩ := (LK hj).b
      refine hall _ _ hb1 fun e he hb => ?_
      obtain ⟨h1, h2⟩ := hb3 e he hb
      rw [Array.getD_eq_getD_getElem?, hI.rest _ h1 h2]
      rfl
    have hC : ∀ m j, j < m → j < X.length → listed[(ixs X j).iC]? = some true := fun m => by
      induction m with
      | zero => intro j h _; omega
      | succ m ih =>
        intro j _ hj
        obtain ⟨f, ts, ty, pos, af, hc1, -, -, hc4⟩ := (LK hj).c
        refine hall _ _ hc1 fun e he hb => ?_
        rw [Array.getD_eq_getD_getElem?]
        rcases hc4 e he hb with ⟨h1, h2⟩ | h1 | ⟨i, h1, h2⟩
        · rw [hI.rest _ h1 h2]; rfl
        · rw [h1, hB j hj]; rfl
        · rw [h2, ih i (by omega) (by omega)]; rfl
    obtain ⟨k, k1, k2, k3, k4⟩ := hI.enc
    have hkn : k = X.length := by
      refine Nat.le_antisymm k1 (Classical.byContradiction fun hn => ?_)
      have h1 := k2 k (by omega)
      rw [hC (k + 1) k (by omega) (by omega), decide_eq_false (Nat.lt_irrefl _)] at h1
      cases h1
    rw [hkn, ← hlen, List.take_length] at k4
    exact hend a w hI.agr hI.far k4
  · rw [(hlinks _ (ixs_mem hj)).1] at h
    cases h
  · rw [(hlinks _ (ixs_mem hj)).2, decide_eq_false (Nat.not_lt_zero _)]
/-- Of a chain's own slots nothing is known behind it. -/
def putsOf (a : Act) (X : List Ix) (a0 : Act) : Act := X.foldl (fun q x => (q.put (some x.dB) (a.eval (.tmp x.dB))).put (some x.dC) (a.eval (.tmp x.dC))) a0
theorem putsOf_size (a : Act) : ∀ (X : List Ix) (a0 : Act), (putsOf a X a0).tmps.size = a0.tmps.size ∧ (putsOf a X a0).defers = a0.defers
  | [], _ => ⟨rfl, rfl⟩
  | x :: X, a0 => by
    have h := putsOf_size a X ((a0.put (some x.dB) (a.eval (.tmp x.dB))).put (some x.dC) (a.eval (.tmp x.dC)))
    unfold putsOf at h ⊢
    rw [List.foldl_cons]
    exact ⟨h.1.trans (by simp [Act.put]), h.2⟩
theorem putsOf_eval (a : Act) (t : Nat) : ∀ (X : List Ix) (a0 : Act), t < a0.tmps.size → (putsOf a X a0).eval (.tmp t) = if (X.any fun x => t == x.dB || t == x.dC) = true then a.eval (.tmp t) else a0.eval (.tmp t)
  | [], a0, _ => by simp [putsOf]
  | x :: X, a0, ht => by
    have h := putsOf_eval a t X ((a0.put (some x.dB) (a.eval (.tmp x.dB))).put (some x.dC) (a.eval (.tmp x.dC))) (by simpa [Act.put] using ht)
    unfold putsOf at h ⊢
    rw [List.foldl_cons, h, List.any_cons]
    by_cases h1 : (X.any fun x => t == x.dB || t == x.dC) = true
    · rw [if_pos h1, if_pos (by rw [h1, Bool.or_true])]
    · rw [if_neg h1]
      by_cases h2 : t = x.dC
      · subst h2
        rw [Act.put_same (by simpa [Act.put] using ht), if_pos (by simp)]
      · rw [Act.put_other h2]
        by_cases h3 : t = x.dB
        · subst h3
          rw [Act.put_same ht, if_pos (by simp)]
        · rw [Act.put_other h3, if_neg]
          rw [Bool.or_eq_true, not_or]
          exact ⟨by simp [h2, h3], h1⟩
theorem Agr.act {a : Act} (h : Agr X a0 a) : a = putsOf a X a0 := by
  obtain ⟨h1, h2⟩ := putsOf_size a X a0
  have he : ∀ t, t < a0.tmps.size → a.eval (.tmp t) = (putsOf a X a0).eval (.tmp t) := fun t ht => by
    rw [putsOf_eval a t X a0 ht]
    by_cases h3 : (X.any fun x => t == x.dB || t == x.dC) = true
    · rw [if_pos h3]
    · rw [if_neg h3]
      refine h.at_ t fun x hx => ?_
      simp only [Bool.not_eq_true, List.any_eq_false, Bool.or_eq_true, beq_iff_eq, not_or] at h3
      exact h3 x hx
  have e1 : a.tmps = (putsOf a X a0).tmps := by
    apply Array.ext
    · rw [h.size, h1]
    · intro i hi hi'
      have := he i (by rw [← h.size]; exact hi)
      simp only [Act.eval] at this
      rw [Array.getD_eq_getD_getElem?, Array.getD_eq_getD_getElem?, Array.getElem?_eq_getElem hi, Array.getElem?_eq_getElem hi'] at this
      exact this
  obtain ⟨t1, d1⟩ := a
  generalize putsOf ⟨t1, d1⟩ X a0 = q at *
  obtain ⟨t2, d2⟩ := q
  simp only at e1 h2
  have := h.defers
  simp only at this
  rw [e1, h2, this]
theorem in_new {wr w : World} {b p : Nat} {L : List UInt8} (l : List Nat) (hl : l.length ≤ 1000) (hx : ∀ n ∈ l, n ≤ 4611686018427387904) (hL : L.length ≤ 274877906944) (h : EncNew wr w b L) (hp : Blk w p 3 (ints l).toArray) :
    Calls Tryz.prog 110 #[.pointer (some ⟨b, 0, none⟩), .slice (some ⟨p, 0, none⟩) l.length l.length] w fun e w' => e = .returned (.pointer (some ⟨b, 0, none⟩)) ∧ EncNew wr w' b (L ++ encIs l) ∧ OthersE w w' := by
  obtain ⟨v, hv, _⟩ := h.enc
  refine (i_calls l hl hx L (by omega) b p v w hv hp).mono ?_
  rintro e w' ⟨rfl, v', h5, h6⟩
  exact ⟨rfl, h.step_one hv h5 h6⟩
theorem u1_new {wr w : World} {b p : Nat} {L : List UInt8} (x : Nat) (hx : x < 18446744073709551616) (hL : L.length ≤ 274877906944) (h : EncNew wr w b L) (hp : Blk w p 39 #[.int .u64 x]) :
    Calls Tryz.prog 112 #[.pointer (some ⟨b, 0, none⟩), .slice (some ⟨p, 0, none⟩) 1 1] w fun e w' => e = .returned (.pointer (some ⟨b, 0, none⟩)) ∧ EncNew wr w' b (L ++ encU x) ∧ OthersE w w' := by
  obtain ⟨v, hv, _⟩ := h.enc
  refine (u_calls x hx L (by omega) b p v w hv hp).mono ?_
  rintro e w' ⟨rfl, v', h5, h6⟩
  exact ⟨rfl, h.step_one hv h5 h6⟩
end
end Go.Proofs.YtpnoiagjgkajdaaGreatDoor
