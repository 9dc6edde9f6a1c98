/- A chain of an encoder's calls in a region that draws its order: the law. -/
import Derived.Test.YtpnoiagjgkajdaaGreatDoorEncChain2
namespace Go.Proofs.YtpnoiagjgkajdaaGreatDoor
open Go Go.RowKit
section
variable {P : Program} {md : Region.Mode} {ops : Array Oper} {Q : Exit → Act → World → Prop} {S F : World → Prop} {X : List Jx} {Y : List Dt} {st : Option Nat} {t0 : Nat} {Z : List Nat} {TA : TypeId} {wr : World} {L0 : List UInt8} {a0 : Act}
/-- The start, and the end, as the kernel reckons them. -/
def startJ (ops : Array Oper) (X : List Jx) (st : Option Nat) (Z : List Nat) (listed : Array Bool) (fuel : Nat) : Bool :=
  listed.size == ops.size && ((List.range ops.size).all fun i => (opsJ X st Z).contains i || listed[i]? == some true) && ((opsJ X st Z).all fun i => listed[i]? == some false) && Nat.ble (unl listed) fuel
def endJ (ops : Array Oper) (Z : List Nat) (listed : Array Bool) : Bool :=
  listed.size == ops.size && (List.range ops.size).all fun i => listed[i]? == some (!Z.contains i)
theorem startJ_ok {listed : Array Bool} {fuel : Nat} (h : startJ ops X st Z listed fuel = true) : listed.size = ops.size ∧ (∀ i, i < ops.size → i ∉ opsJ X st Z → listed[i]? = some true) ∧ (∀ i ∈ opsJ X st Z, listed[i]? = some false) ∧ unl listed ≤ fuel := by
  unfold startJ at h
  simp only [Bool.and_eq_true, beq_iff_eq] at h
  obtain ⟨⟨⟨h1, h2⟩, h3⟩, h4⟩ := h
  refine ⟨h1, fun i hi hn => ?_, fun i hi => ?_, Nat.le_of_ble_eq_true h4⟩
  · rw [List.all_eq_true] at h2
    have h5 := h2 i (List.mem_range.2 hi)
    simp only [Bool.or_eq_true, beq_iff_eq, List.contains_eq_mem, decide_eq_true_eq] at h5
    exact h5.resolve_left hn
  · rw [List.all_eq_true] at h3
    simpa using h3 i hi
theorem endJ_ok {listed : Array Bool} (h : endJ ops Z listed = true) : listed.size = ops.size ∧ ∀ i, i < ops.size → listed[i]? = some (decide (i ∉ Z)) := by
  unfold endJ at h
  simp only [Bool.and_eq_true, beq_iff_eq] at h
  refine ⟨h.1, fun i hi => ?_⟩
  have h2 := h.2
  rw [List.all_eq_true] at h2
  have h5 := h2 i (List.mem_range.2 hi)
  rw [beq_iff_eq] at h5
  rw [h5]
  by_cases hz : i ∈ Z <;> simp [hz]
theorem ixB_mem {j : Nat} (hj : j < X.length) (hl : (jxs X j).lit = true) : (jxs X j).iB ∈ opsJ X st Z := by
  unfold opsJ
  refine List.mem_append_right _ (List.mem_append_left _ (List.mem_flatMap.2 ⟨jxs X j, jxs_mem hj, ?_⟩))
  rw [if_pos hl]
  simp
theorem ixC_mem {j : Nat} (hj : j < X.length) : (jxs X j).iC ∈ opsJ X st Z := by
  unfold opsJ
  refine List.mem_append_right _ (List.mem_append_left _ (List.mem_flatMap.2 ⟨jxs X j, jxs_mem hj, ?_⟩))
  split <;> simp
theorem opsJ_cases {i : Nat} (h : i ∈ opsJ X st Z) : st = some i ∨ (∃ j, j < X.length ∧ ((jxs X j).lit = true ∧ i = (jxs X j).iB ∨ i = (jxs X j).iC)) ∨ i ∈ Z := by
  unfold opsJ at h
  rcases List.mem_append.1 h with h | h
  · cases st with
    | none => cases h
    | some k => simp only [List.mem_singleton] at h; exact .inl (by rw [h])
  · rcases List.mem_append.1 h with h | h
    · obtain ⟨x, hx, h⟩ := List.mem_flatMap.1 h
      obtain ⟨j, hj, rfl⟩ := mem_jxs hx
      refine .inr (.inl ⟨j, hj, ?_⟩)
      split at h
      · rename_i hl
        simp only [List.mem_cons, List.not_mem_nil, or_false] at h
        exact h.imp_left fun h => ⟨hl, h⟩
      · simp only [List.mem_singleton] at h
        exact .inr h
    · exact .inr (.inr h)
theorem sl0_mem {iA : Nat} (h : st = some iA) : t0 ∈ slotsJ X st t0 := by
  subst h
  simp [slotsJ]
theorem slB_mem {j : Nat} (hj : j < X.length) (hl : (jxs X j).lit = true) : (jxs X j).dB ∈ slotsJ X st t0 := by
  unfold slotsJ
  refine List.mem_append_right _ (List.mem_flatMap.2 ⟨jxs X j, jxs_mem hj, ?_⟩)
  rw [if_pos hl]
  simp
theorem slC_mem {j : Nat} (hj : j < X.length) : (jxs X j).dC ∈ slotsJ X st t0 := by
  unfold slotsJ
  refine List.mem_append_right _ (List.mem_flatMap.2 ⟨jxs X j, jxs_mem hj, ?_⟩)
  split <;> simp
theorem sl0_not (h0 : st = none) (hd : ∀ x ∈ X, x.dC ≠ t0 ∧ x.dB ≠ t0) : t0 ∉ slotsJ X st t0 := by
  subst h0
  unfold slotsJ
  intro h
  simp only [List.nil_append] at h
  obtain ⟨x, hx, h⟩ := List.mem_flatMap.1 h
  have := hd x hx
  split at h
  · simp only [List.mem_cons, List.not_mem_nil, or_false] at h
    rcases h with h | h
    · exact this.2 h.symm
    · exact this.1 h.symm
  · simp only [List.mem_singleton] at h
    exact this.1 h.symm
theorem take_succ_outJ {j : Nat} (h : j < Y.length) : (Y.take (j + 1)).flatMap Dt.out = (Y.take j).flatMap Dt.out ++ (dts Y j).out := by
  have e : dts Y j = Y[j] := by unfold dts; rw [List.getD_eq_getElem?_getD, List.getElem?_eq_getElem h]; rfl
  rw [List.take_succ_eq_append_getElem h, List.flatMap_append, e]
  simp
/-- The slice that a link hands on. -/
def ArgJ (x : Jx) (y : Dt) (w : World) (v : Value) : Prop := (x.lit = true ∧ ∃ g, v = .slice (some ⟨g, 0, none⟩) y.n y.n ∧ Blk w g y.T y.vals) ∨ (x.lit = false ∧ v = y.arg)
theorem enc_chain2 (hch : chainJ md ops X st t0 Z TA = true) (hbh : behindJ md ops X Z = true) (listedZ : Array Bool) (hez : endJ ops Z listedZ = true) (hlen : Y.length = X.length) (hX : X ≠ []) (hown : ((slotsJ X st t0).all fun d => Nat.blt d a0.tmps.size) = true)
    (hnew : ∀ w, (Instr.alloc TA true (.tuple #[])).run P w = .ok (.pointer (some ⟨w.heap.size, 0, none⟩)) (w.alloc (.cells #[.slice none 0 0] 230)))
    (hF1 : ∀ w o, F w → F (w.alloc o)) (hF2 : ∀ w w', F w → OthersE w w' → F w') (hFS : ∀ w, F w → S w)
    (hrun : ∀ j, j < X.length → (jxs X j).lit = true → ∃ o t ps, ops[(jxs X j).iB]? = some o ∧ o.op = .buildSlice t (dts Y j).n ps ∧ ∀ w, (Instr.buildSlice t (dts Y j).n (ps.map fun q => (q.1, a0.eval q.2))).run P w = .ok (.slice (some ⟨w.heap.size, 0, none⟩) (dts Y j).n (dts Y j).n) (w.alloc (.cells (dts Y j).vals (dts Y j).T)))
    (hcall : ∀ j, j < X.length → ∃ o args ts, ops[(jxs X j).iC]? = some o ∧ o.op = .call ⟨.value (.func (dts Y j).f), args, ts⟩) (hent : ∀ j, j < X.length → Go.Proofs.Enters P (dts Y j).f)
    (hT : ∀ j, j < X.length → (jxs X j).lit = true → (dts Y j).T ≠ 230 ∧ (dts Y j).T ≠ 5)
    (harg : ∀ j, j < X.length → (jxs X j).lit = false → a0.eval (.tmp (jxs X j).dB) = (dts Y j).arg)
    (hcon : ∀ j, j < X.length → ∀ (w : World) (b : Nat) (v : Value) (L : List UInt8), EncNew wr w b L → L.length ≤ 274877906000 → ArgJ (jxs X j) (dts Y j) w v → F w →
      Calls P (dts Y j).f #[.pointer (some ⟨b, 0, none⟩), v] w fun e w' => e = .returned (.pointer (some ⟨b, 0, none⟩)) ∧ EncNew wr w' b (L ++ (dts Y j).out) ∧ OthersE w w')
    (hL : (L0 ++ Y.flatMap Dt.out).length ≤ 274877906000)
    (hend : ∀ (f : Nat) (a : Act) (w : World) (b : Nat), Agr2 (slotsJ X st t0) a0 a → a.eval (.tmp (jxs X (X.length - 1)).dC) = .pointer (some ⟨b, 0, none⟩) → F w → EncNew wr w b (L0 ++ Y.flatMap Dt.out) → unl listedZ ≤ f → wpAnyH P md ops Q S f listedZ a w) :
    ∀ (fuel : Nat) (listed : Array Bool) (w : World), startJ ops X st Z listed fuel = true → F w → (st = none → ∃ b, a0.eval (.tmp t0) = .pointer (some ⟨b, 0, none⟩) ∧ EncNew wr w b L0) → (st ≠ none → L0 = [] ∧ Keep [] wr w) →
      wpAnyH P md ops Q S fuel listed a0 w := by
  intro fuel listed w hst hF hE0 hE1
  obtain ⟨hls, hrest, hlinks, hfuel⟩ := startJ_ok hst
  obtain ⟨hezs, hezi⟩ := endJ_ok hez
  have hsz : ∀ d ∈ slotsJ X st t0, d < a0.tmps.size := fun d hd => by
    rw [List.all_eq_true] at hown
    simpa using hown d hd
  have hpos : 0 < X.length := List.length_pos_iff.2 hX
  obtain ⟨hN1, hN2⟩ := chainJ_new hch
  have LK : ∀ {j}, j < X.length → LinkJ md ops X st t0 Z j := fun hj => chainJ_ok hch hj
  have hpre : ∀ k, (L0 ++ (Y.take k).flatMap Dt.out).length ≤ 274877906000 := fun k => by
    have h1 : Y.flatMap Dt.out = (Y.take k).flatMap Dt.out ++ (Y.drop k).flatMap Dt.out := by rw [← List.flatMap_append, List.take_append_drop]
    rw [h1] at hL
    simp only [List.length_append] at hL ⊢
    omega
  refine wpAnyH_inv2 (I := ChainJ ops F X Y st t0 Z wr L0 a0) (D := DoneJ ops F X Y st t0 Z wr L0 a0) (fun _ _ _ h => h.size) (fun _ _ w h => hFS w h.far) (fun _ _ w h => hFS w h.far) ?_ ?_ ?_ fuel listed a0 w ⟨hls, hrest, fun z hz => hlinks z (by unfold opsJ; exact List.mem_append_right _ (List.mem_append_right _ hz)), ⟨rfl, rfl, fun _ _ => rfl⟩, hF, fun j hj hl h => ?_, ?_⟩ hfuel
  · intro listed a w i oi hI ho hun hdep K hK
    have hlt : i < ops.size := by
      rcases Nat.lt_or_ge i ops.size with h | h
      · exact h
      · rw [Array.getElem?_eq_none h] at ho; cases ho
    have hil : i < listed.size := by rw [hI.size]; exact hlt
    have hin : i ∈ opsJ X st Z := Classical.byContradiction fun hn => by rw [hI.rest i hlt hn] at hun; cases hun
    have hrest' : ∀ i', i' < ops.size → i' ∉ opsJ X st Z → (listed.setIfInBounds i true)[i']? = some true := fun i' hi' hn => by
      rw [lset_ne (by rintro rfl; exact hn hin)]
      exact hI.rest i' hi' hn
    rcases opsJ_cases hin with hA | ⟨j, hj, hb⟩ | hz
    · -- the encoder is made
      obtain ⟨hA1, hA2, ty, pos, af, hA3, -⟩ := hN2 i hA
      rw [ho] at hA3
      obtain rfl := Option.some.inj hA3
      have hw : ∀ f, Region.wanted ⟨some t0, .alloc TA, ty, pos, af, none⟩ f = true := fun _ => rfl
      rw [if_pos (hw _)]
      unfold Oper.wp execOp
      simp only [Sem.run_bind, Sem.run_pure, hnew w, Result.andThen_ok, Oper.upon_value]
      rcases hI.enc with ⟨iA, e1, e2, e3, e4, e5⟩ | ⟨b, k, e1, -⟩
      · refine hK.out _ _ (.inl ⟨by simpa using hI.size, hrest', fun z hz => ?_, hI.agr.put (sl0_mem hA) _, hF1 _ _ hI.far, fun j hj hl h => ?_, .inr ⟨w.heap.size, 0, fun iA' h => ?_, ?_, hpos, fun j hj => ?_, fun j _ h => absurd h (Nat.not_lt_zero _), ?_, fun j _ h => absurd h (Nat.not_lt_zero _)⟩⟩)
        · rw [lset_ne (by rintro rfl; exact hA2 hz)]
          exact hI.behind z hz
        · rw [lset_ne (hA1 _ (jxs_mem hj)).1] at h
          obtain ⟨g, g1, g2⟩ := hI.lit j hj hl h
          exact ⟨g, by rw [Act.put_other (hN1 _ (jxs_mem hj)).2]; exact g1, g2.alloc _⟩
        · obtain rfl : i = iA' := Option.some.inj (hA.symm.trans h)
          exact lset_at hil
        · exact Act.put_same (by rw [hI.agr.size]; exact hsz _ (sl0_mem hA))
        · rw [lset_ne (hA1 _ (jxs_mem hj)).2, e5 j hj, decide_eq_false (Nat.not_lt_zero _)]
        · rw [e4]
          exact EncNew.start (e3.alloc _) e3.size (Blk.new _ _ _)
      · rw [e1 i hA] at hun
        cases hun
    · rcases hb with ⟨hl, rfl⟩ | rfl
      · -- a literal
        obtain ⟨t, n, ps, ty, pos, af, hb1, hb2, -⟩ := (LK hj).b hl
        obtain ⟨o', t', ps', h1, h2, h3⟩ := hrun j hj hl
        rw [ho] at hb1 h1
        obtain rfl := Option.some.inj hb1
        obtain rfl := Option.some.inj h1
        simp only at h2
        injection h2 with e1 e2 e3
        subst e1 e2 e3
        have hps : (ps.map fun q => (q.1, a.eval q.2)) = ps.map fun q => (q.1, a0.eval q.2) := Array.map_congr_left fun q hq => by rw [hI.agr.eval_of (hb2 q hq)]
        have hw : ∀ f, Region.wanted ⟨some (jxs X j).dB, .buildSlice t (dts Y j).n ps, ty, pos, af, none⟩ f = true := fun _ => rfl
        rw [if_pos (hw _)]
        have hr := h3 w
        rw [← hps] at hr
        unfold Oper.wp execOp
        simp only [Sem.run_bind, Sem.run_pure, hr, Result.andThen_ok, Oper.upon_value]
        refine hK.out _ _ (.inl ⟨by simpa using hI.size, hrest', fun z hz => ?_, hI.agr.put (slB_mem hj hl) _, hF1 _ _ hI.far, fun j' hj' hl' h => ?_, ?_⟩)
        · rw [lset_ne (by rintro rfl; exact (LK hj).g.2.1 hz)]
          exact hI.behind z hz
        · by_cases he : j' = j
          · subst he
            exact ⟨w.heap.size, Act.put_same (by rw [hI.agr.size]; exact hsz _ (slB_mem hj hl)), Blk.new _ _ _⟩
          · obtain ⟨d1, d2, d3⟩ := (LK hj).d j' hj'
            obtain ⟨d4, d5, d6, d7⟩ := d1.resolve_left he
            rw [lset_ne d4] at h
            obtain ⟨g, g1, g2⟩ := hI.lit j' hj' hl' h
            exact ⟨g, by rw [Act.put_other d6]; exact g1, g2.alloc _⟩
        · rcases hI.enc with ⟨iA, e1, e2, e3, e4, e5⟩ | ⟨b, k, e1, e2, k1, k2, k3, k4, k5⟩
          · refine .inl ⟨iA, e1, ?_, e3.alloc _, e4, fun i hi => ?_⟩
            · rw [lset_ne (fun e => ((hN2 iA e1).1 _ (jxs_mem hj)).1 e.symm)]
              exact e2
            · rw [lset_ne (fun e => ((LK hi).d j hj).2.1 e.symm)]
              exact e5 i hi
          · refine .inr ⟨b, k, fun iA h => ?_, ?_, k1, fun i hi => ?_, fun i hi hik => ?_, k4.alloc _, fun i hi hik hli => ?_⟩
            · rw [lset_ne (fun e => ((hN2 iA h).1 _ (jxs_mem hj)).1 e.symm)]
              exact e1 iA h
            · rw [Act.put_other (fun e => (hN1 _ (jxs_mem hj)).2 e.symm)]
              exact e2
            · rw [lset_ne (fun e => ((LK hi).d j hj).2.1 e.symm)]
              exact k2 i hi
            · rw [Act.put_other (fun e => ((LK hi).d j hj).2.2 e.symm)]
              exact k3 i hi hik
            · by_cases he : i = j
              · subst he
                exact lset_at hil
              · rw [lset_ne (((LK hj).d i hi).1.resolve_left he).1]
                exact k5 i hi hik hli
      · -- a call
        obtain ⟨f, ts, ty, pos, af, hc1, hclit, hc0, hcp, -⟩ := (LK hj).c
        obtain ⟨o', args', ts', h1, h2⟩ := hcall j hj
        rw [ho] at hc1 h1
        obtain rfl := Option.some.inj hc1
        obtain rfl := Option.some.inj h1
        simp only at h2
        injection h2 with e2
        injection e2 with e3 e4 e5
        injection e3 with e6
        injection e6 with e7
        subst e7
        rcases hI.enc with ⟨iA, e1, e2, -, -, e5⟩ | ⟨b, k, e1, e2, k1, k2, k3, k4, k5⟩
        · exfalso
          by_cases hj0 : j = 0
          · obtain ⟨e, he, hb, hon⟩ := hc0 hj0 iA e1
            have h5 := getD_true (hdep e he hb)
            rw [hon, e2] at h5
            cases h5
          · obtain ⟨e, he, hb, hon⟩ := hcp hj0
            have h5 := getD_true (hdep e he hb)
            rw [hon, e5 (j - 1) (by omega)] at h5
            cases h5
        · have hjk : ¬ j < k := fun h => by
            have h1 := k2 j hj
            rw [hun, decide_eq_true h] at h1
            cases h1
          have hkj : k = j := by
            by_cases hj0 : j = 0
            · omega
            · obtain ⟨e8, h8, h9, h10⟩ := hcp hj0
              have h11 := getD_true (hdep e8 h8 h9)
              rw [h10, k2 (j - 1) (by omega)] at h11
              have h13 : j - 1 < k := by
                refine Classical.byContradiction fun hn => ?_
                rw [decide_eq_false hn] at h11
                cases h11
              omega
          subst hkj
          have hv : ArgJ (jxs X k) (dts Y k) w (a.eval (.tmp (jxs X k).dB)) := by
            cases hl : (jxs X k).lit with
            | true =>
              obtain ⟨e9, he9, hb9, hon9⟩ := hclit hl
              have hlit := getD_true (hdep e9 he9 hb9)
              rw [hon9] at hlit
              obtain ⟨g, g1, g2⟩ := hI.lit k hj hl hlit
              exact .inl ⟨hl, g, g1, g2⟩
            | false =>
              refine .inr ⟨hl, ?_⟩
              rw [hI.agr.at_ _ ((LK hj).g.1 hl)]
              exact harg k hj hl
          have harg0 : a.eval (.tmp (if k = 0 then t0 else (jxs X (k - 1)).dC)) = .pointer (some ⟨b, 0, none⟩) := by
            by_cases hk0 : k = 0
            · rw [if_pos hk0]
              exact e2
            · rw [if_neg hk0]
              exact k3 (k - 1) (by omega) (by omega)
          have hw : ∀ q, Region.wanted ⟨some (jxs X k).dC, .call ⟨.value (.func (dts Y k).f), #[.tmp (if k = 0 then t0 else (jxs X (k - 1)).dC), .tmp (jxs X k).dB], ts⟩, ty, pos, af, none⟩ q = true := fun _ => rfl
          rw [if_pos (hw _)]
          unfold Oper.wp
          have hexec : execOp a.eval ⟨some (jxs X k).dC, .call ⟨.value (.func (dts Y k).f), #[.tmp (if k = 0 then t0 else (jxs X (k - 1)).dC), .tmp (jxs X k).dB], ts⟩, ty, pos, af, none⟩ = callFunc (dts Y k).f #[.pointer (some ⟨b, 0, none⟩), a.eval (.tmp (jxs X k).dB)] := by
            rw [execOp_call_go]
            simp [harg0]
          rw [hexec, hent k hj, Oper.upon_enter]
          refine (hcon k hj w b _ _ k4 (hpre k) hv hI.far).mono ?_
          rintro e w' ⟨rfl, hE', hO⟩
          have hag := hI.agr.put (slC_mem (st := st) (t0 := t0) hj) (.pointer (some ⟨b, 0, none⟩))
          have hbh' : ∀ z ∈ Z, (listed.setIfInBounds (jxs X k).iC true)[z]? = some false := fun z hz => by
            rw [lset_ne (by rintro rfl; exact (LK hj).g.2.2 hz)]
            exact hI.behind z hz
          have hIC : ∀ i, i < X.length → (listed.setIfInBounds (jxs X k).iC true)[(jxs X i).iC]? = some (decide (i < k + 1)) := fun i hi => by
            by_cases he : i = k
            · subst he
              rw [lset_at hil, decide_eq_true (by omega)]
            · obtain ⟨d1, -, -⟩ := (LK hj).d i hi
              obtain ⟨d4, d5, d6, d7⟩ := d1.resolve_left he
              rw [lset_ne d5, k2 i hi]
              congr 1
              by_cases h : i < k
              · rw [decide_eq_true h, decide_eq_true (by omega)]
              · rw [decide_eq_false h, decide_eq_false (by omega)]
          have hE2 : EncNew wr w' b (L0 ++ (Y.take (k + 1)).flatMap Dt.out) := by
            rw [take_succ_outJ (by omega), ← List.append_assoc]
            exact hE'
          have hsame : (a.put (some (jxs X k).dC) (.pointer (some ⟨b, 0, none⟩))).eval (.tmp (jxs X k).dC) = .pointer (some ⟨b, 0, none⟩) := Act.put_same (by rw [hI.agr.size]; exact hsz _ (slC_mem hj))
          have hlitJ : ∀ i, i < X.length → i ≤ k → (jxs X i).lit = true → (listed.setIfInBounds (jxs X k).iC true)[(jxs X i).iB]? = some true := fun i hi hik hli => by
            rw [lset_ne ((LK hj).d i hi).2.1]
            by_cases he : i = k
            · subst he
              obtain ⟨e9, he9, hb9, hon9⟩ := hclit hli
              have hlit := getD_true (hdep e9 he9 hb9)
              rwa [hon9] at hlit
            · exact k5 i hi (by omega) hli
          by_cases hlast : k + 1 < X.length
          · refine hK.out _ _ (.inl ⟨by simpa using hI.size, hrest', hbh', hag, hF2 _ _ hI.far hO, fun j' hj' hl' h => ?_, .inr ⟨b, k + 1, fun iA h => ?_, ?_, hlast, hIC, fun i hi hik => ?_, hE2, fun i hi hik hli => hlitJ i hi (by omega) hli⟩⟩)
            · obtain ⟨d1, d2, d3⟩ := (LK hj).d j' hj'
              rw [lset_ne d2] at h
              obtain ⟨g', h1, h2⟩ := hI.lit j' hj' hl' h
              exact ⟨g', by rw [Act.put_other d3]; exact h1, hO _ _ _ h2 (hT j' hj' hl').1 (hT j' hj' hl').2⟩
            · rw [lset_ne (fun e => ((hN2 iA h).1 _ (jxs_mem hj)).2 e.symm)]
              exact e1 iA h
            · rw [Act.put_other (fun e => (hN1 _ (jxs_mem hj)).1 e.symm)]
              exact e2
            · by_cases he : i = k
              · subst he
                exact hsame
              · obtain ⟨d1, -, -⟩ := (LK hj).d i hi
                obtain ⟨d4, d5, d6, d7⟩ := d1.resolve_left he
                rw [Act.put_other d7]
                exact k3 i hi (by omega)
          · have hkl : k = X.length - 1 := by omega
            refine hK.out _ _ (.inr ⟨by simpa using hI.size, fun i hi hz => ?_, hbh', hag, hF2 _ _ hI.far hO, b, ?_, ?_⟩)
            · by_cases hio : i ∈ opsJ X st Z
              · rcases opsJ_cases hio with hA | ⟨j', hj', ⟨hl', rfl⟩ | rfl⟩ | hz'
                · rw [lset_ne (fun e => ((hN2 i hA).1 _ (jxs_mem hj)).2 e.symm)]
                  exact e1 i hA
                · exact hlitJ j' hj' (by omega) hl'
                · rw [hIC j' hj', decide_eq_true (by omega)]
                · exact absurd hz' hz
              · exact hrest' i hi hio
            · rw [← hkl]
              exact hsame
            · have h9 : Y.take (k + 1) = Y := List.take_of_length_le (by omega)
              rw [h9] at hE2
              exact hE2
    · -- what follows is not ready
      exfalso
      unfold behindJ at hbh
      rw [List.all_eq_true] at hbh
      have h1 := hbh i hz
      rw [ho] at h1
      obtain ⟨e, he, h9⟩ := Array.any_eq_true'.1 h1
      simp only [Bool.and_eq_true, Bool.or_eq_true, beq_iff_eq, List.contains_eq_mem, decide_eq_true_eq] at h9
      have h5 := getD_true (hdep e he h9.1)
      rcases h9.2 with h9 | h9
      rotate_left
      · rw [hI.behind _ h9] at h5
        cases h5
      rw [h9] at h5
      rcases hI.enc with ⟨iA, e1, e2, -, -, e5⟩ | ⟨b, k, e1, e2, k1, k2, k3, k4, k5⟩
      · rw [e5 _ (by omega)] at h5
        cases h5
      · rw [k2 _ (by omega), decide_eq_false (by omega)] at h5
        cases h5
  · intro listed a w hI hall
    have hA : ∀ iA, st = some iA → listed[iA]? = some true := fun iA h => by
      obtain ⟨-, -, ty, pos, af, h1, h2⟩ := hN2 iA h
      refine hall _ _ h1 fun e he hb => ?_
      rw [Array.getD_eq_getD_getElem?, hI.rest _ (h2 e he hb).1 (h2 e he hb).2]
      rfl
    have hB : ∀ j, j < X.length → (jxs X j).lit = true → listed[(jxs X j).iB]? = some true := fun j hj hl => by
      obtain ⟨t, n, ps, ty, pos, af, hb1, -, hb3⟩ := (LK hj).b hl
      refine hall _ _ hb1 fun e he hb => ?_
      obtain ⟨h1, h2⟩ := hb3 e he hb
      rw [Array.getD_eq_getD_getElem?, hI.rest _ h1 h2]
      rfl
    have hC : ∀ m j, j < m → j < X.length → listed[(jxs X j).iC]? = some true := fun m => by
      induction m with
      | zero => intro j h _; omega
      | succ m ih =>
        intro j _ hj
        obtain ⟨f, ts, ty, pos, af, hc1, -, -, -, hc4⟩ := (LK hj).c
        refine hall _ _ hc1 fun e he hb => ?_
        rw [Array.getD_eq_getD_getElem?]
        rcases hc4 e he hb with ⟨h1, h2⟩ | ⟨hl, h1⟩ | h1 | ⟨i, h1, h2⟩
        · rw [hI.rest _ h1 h2]; rfl
        · rw [h1, hB j hj hl]; rfl
        · rw [hA _ h1]; rfl
        · rw [h2, ih i (by omega) (by omega)]; rfl
    rcases hI.enc with ⟨iA, e1, e2, -⟩ | ⟨b, k, e1, e2, k1, k2, k3, k4, k5⟩
    · rw [hA iA e1] at e2
      cases e2
    · have h1 := k2 k k1
      rw [hC (k + 1) k (by omega) k1, decide_eq_false (Nat.lt_irrefl _)] at h1
      cases h1
  · intro f listed a w hD hu
    have hl : listed = listedZ := by
      apply Array.ext
      · rw [hD.size, hezs]
      · intro i hi hi'
        have h1 := hezi i (by rw [← hezs]; exact hi')
        rw [Array.getElem?_eq_getElem hi', Option.some.injEq] at h1
        rw [h1]
        by_cases hz : i ∈ Z
        · have h2 := hD.behind i hz
          rw [Array.getElem?_eq_getElem hi, Option.some.injEq] at h2
          rw [h2, decide_eq_false (by simpa using hz)]
        · have h2 := hD.all i (by rw [← hD.size]; exact hi) hz
          rw [Array.getElem?_eq_getElem hi, Option.some.injEq] at h2
          rw [h2, decide_eq_true hz]
    subst hl
    obtain ⟨b, h1, h2⟩ := hD.enc
    exact hend f a w b hD.agr h1 hD.far h2 hu
  · rw [hlinks _ (ixB_mem hj hl)] at h
    cases h
  · cases hs : st with
    | none =>
      obtain ⟨b, h1, h2⟩ := hE0 hs
      refine .inr ⟨b, 0, fun iA h => (by cases h), h1, hpos, fun j hj => ?_, fun j _ h => absurd h (Nat.not_lt_zero _), by simpa using h2, fun j _ h => absurd h (Nat.not_lt_zero _)⟩
      rw [hlinks _ (ixC_mem hj), decide_eq_false (Nat.not_lt_zero _)]
    | some iA =>
      obtain ⟨h1, h2⟩ := hE1 (by rw [hs]; simp)
      exact .inl ⟨iA, rfl, hlinks _ (by rw [hs]; simp [opsJ]), h2, h1, fun j hj => hlinks _ (ixC_mem hj)⟩
end
end Go.Proofs.YtpnoiagjgkajdaaGreatDoor
