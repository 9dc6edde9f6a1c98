/- What the evaluator is told of ServiceMay: command.Read, IsOpen; all that it is told. -/
import Derived.Test.YtdgjkejfmehphaaGreatDoorMTold2
set_option linter.unusedVariables false
noncomputable section
namespace Go.Proofs.YtdgjkejfmehphaaGreatDoor.Av
open Go Go.RowKit
theorem rvOf_val {r : R} {v : AV} {σ' : AH} (h : rvOf r = .ok v σ') : r = .val v σ' := by
  cases r with
  | val u s =>
    injection (show RV.ok u s = RV.ok v σ' from h) with h3 h4
    rw [h3, h4]
  | call => cases h
  | bad => cases h
section
variable {p : Mp} {e : Env} {v : Value} {w : World} {σ σ' : AH} {args : List AV} {u : AV} {args' : List Value} {fs : List AV} {put : Bool}
noncomputable def readT (fs : List AV) (put : Bool) (args : List AV) (σ : AH) : RV := match args with
  | [.sp (.s [.at k])] => cnd (Nat.beq k 5) (cnd put (rvOf (newCap 2 σ fun q σ => new (.cells [i0, i1] 3 false none) σ fun l σ => .val (.tup [.agg (fs ++ [.sl (some (l, 0)) 2 (.u q 0), i0, i0, i0]), i0]) σ))
      (.ok (.tup [.agg (fs ++ [.sl none 0 (.k 0), i0, i0, i0]), i0]) σ)) (.bad 0 0 15)
  | _ => .bad 0 0 15
theorem set_same {w : World} {b : Nat} {ob : Obj} (h : w.heap[b]? = some ob) : { w with heap := w.heap.setIfInBounds b ob } = w := by
  have : w.heap.setIfInBounds b ob = w.heap := by
    apply Array.ext_getElem?
    intro i
    rw [Array.getElem?_setIfInBounds]
    split
    · rename_i hi
      subst hi
      split
      · exact h.symm
      · rename_i hb
        rw [Array.getElem?_eq_none (by omega)]
    · rfl
  rw [this]
theorem VRs_app {e : Env} : ∀ {l : List AV} {l' : List Value} {r : List AV} {r' : List Value}, VRs e l l' → VRs e r r' → VRs e (l ++ r) (l' ++ r')
  | _, _, _, _, .nil, h => h
  | _, _, _, _, .cons x y xs ys hx hxs, h => .cons x y _ _ hx (VRs_app hxs h)
theorem cells_val (hf : FldOk p fs put) (hI : e.I = spM p) {d : AV} {dv : Value} (hd : VR e d dv) (h1 : d.one = true) : VR e (.tup [.agg (fs ++ [d, i0, i0, i0]), i0]) (.tuple #[.agg (p.cm.cells dv), .int .i64 0]) := by
  have hc : p.cm.cells dv = (([.int .i64 (p.cm.kind : Int), .int .i64 (p.cm.client : Int), .int .i64 (p.cm.seq : Int), .string (bs p.cm.name), .int .u64 (p.cm.blob : Int), .int .i64 (p.cm.size : Int), .int .u32 (p.cm.sum : Int)] : List Value) ++ [dv, .int .i64 0, .int .i64 0, .int .i64 0]).toArray := by
    simp only [Cm.cells, hf.pool, hf.vol, hf.at_]
    rfl
  rw [hc]
  refine .tup _ [_, _] (.cons _ _ _ _ (.agg _ _ (fun x hx => ?_) (VRs_app (hf.rd e hI) (.cons _ _ _ _ hd (.cons _ _ _ _ (.int _ _) (.cons _ _ _ _ (.int _ _) (.cons _ _ _ _ (.int _ _) .nil)))))) (.cons _ _ _ _ (.int _ _) .nil))
  rcases List.mem_append.1 hx with hx | hx
  · exact hf.one x hx
  · simp only [List.mem_cons, List.not_mem_nil, or_false] at hx
    rcases hx with rfl | rfl | rfl | rfl
    · exact h1
    · rfl
    · rfl
    · rfl
theorem readT_ok (hp : p.Ok) (hf : FldOk p fs put) (h : readT fs put args σ = .ok u σ') (hr : Rel e σ w) (hI : e.I = spM p) (hv : VRs e args args') : Calls P 80 args'.toArray w (Post e σ w u σ') := by
  unfold readT at h
  split at h
  · rename_i k
    rcases cnd_eq h with ⟨h1, h2⟩ | ⟨_, h2⟩
    · obtain rfl := Nat.eq_of_beq_eq_true h1
      cases hv with
      | cons _ y _ ys hy hys =>
      cases hys
      have hy := at_val hI hy
      subst hy
      rw [show p.A 5 = (encC p.cm).map UInt8.toNat from rfl, strB_bs]
      refine (cread_calls p.cm hp.cm w).mono fun e0 w' ⟨dv, he, hd, hown, hk, hfr⟩ => ?_
      subst he
      cases put with
      | false =>
        injection (show RV.ok _ σ = RV.ok u σ' from h2) with h7 h8
        subst h7 h8
        obtain rfl := hfr.1 (by rw [hf.dno rfl]; rfl)
        exact ⟨e, cells_val hf hI .nilsl rfl, Step.below hr (keep_below hk)⟩
      | true =>
        have h3 := rvOf_val (show rvOf _ = RV.ok u σ' from h2)
        have hds := hf.dput rfl
        rw [hds] at hd hfr
        obtain ⟨g, c, rfl, hc⟩ := hfr.2 (by decide)
        have hc : 2 ≤ c := hc
        have hgw : w.heap.size ≤ g := hown g rfl
        rcases hd with ⟨h0, _⟩ | ⟨g2, o2, c2, cs, hv2, hblk, hcs⟩
        · cases h0
        injection hv2 with hv2 _ hv3
        injection hv2 with hv2
        injection hv2 with hv4 hv5
        subst hv4 hv5
        have z0 := hcs 0 (by decide)
        have z1 := hcs 1 (by decide)
        have hsz : 2 ≤ cs.size := by
          rcases Nat.lt_or_ge 1 cs.size with h | h
          · exact h
          · rw [Array.getElem?_eq_none (by omega)] at z1; cases z1
        have hcl : cs = (([.int .i64 0, .int .i64 1] : List Value) ++ cs.toList.drop 2).toArray := by
          apply Array.ext_getElem?
          intro i
          have y0 : cs[0]? = some (.int .i64 0) := z0
          have y1 : cs[1]? = some (.int .i64 1) := z1
          match i with
          | 0 => rw [y0]; rfl
          | 1 => rw [y1]; rfl
          | i + 2 =>
            have h2 : (([.int .i64 0, .int .i64 1] : List Value) ++ cs.toList.drop 2)[i + 2]? = (cs.toList.drop 2)[i]? := rfl
            have h4 : (([.int .i64 0, .int .i64 1] : List Value) ++ cs.toList.drop 2).toArray[i + 2]? = (([.int .i64 0, .int .i64 1] : List Value) ++ cs.toList.drop 2)[i + 2]? := List.getElem?_toArray ..
            rw [h4, h2, List.getElem?_drop, Nat.add_comm 2 i]
            exact (Array.getElem?_toList ..).symm
        have hr' := hr.below (keep_below hk)
        obtain ⟨q, σ1, k1, k2, k3, k4, k5⟩ := new_cap hr' h3 hc
        have hobj : w'.heap[g]? = some (.cells cs 3 (0, 0)) := hblk
        obtain ⟨l, σ2, m1, m2, m3, m4, m5, m6, m7⟩ := new_at (ob := .cells cs 3 (0, 0)) (b := g) k4.rel k1 hblk.lt (fun k hk' => fun hb => by
            have := hr.lt k g hb
            omega) (fun e' he' => ⟨[.int .i64 0, .int .i64 1], cs.toList.drop 2, (0, 0), by rw [set_same hobj, hobj, ← hcl], .cons _ _ _ _ (.int _ _) (.cons _ _ _ _ (.int _ _) .nil), fun x hx => by
              simp only [List.mem_cons, List.not_mem_nil, or_false] at hx
              rcases hx with rfl | rfl <;> rfl, fun _ => rfl, fun c s hcc => (by cases hcc)⟩)
        rw [set_same hobj] at m4
        injection m1 with m1 m8
        subst m1 m8
        have hle := k4.le.trans m3
        refine ⟨_, cells_val hf (hle.2.2.trans hI) (.sl l 0 g 2 _ c m2 (by have := KR.u q 0 c (m3.2.1 _ _ k3) (Nat.zero_le _); simpa using this) hc) rfl, ⟨hle, m4, hk.os, hk.tape, hk.output, hk.size, fun b hb _ => hk.block b hb (by simp), fun l0 b0 q1 q2 q3 => ?_, Nat.le_trans k4.nxle m6, fun k hk' => (m7 k (Nat.lt_of_lt_of_le hk' k4.nxle)).trans rfl⟩⟩
        rcases m5 l0 b0 q2 q3 with rfl | ⟨q4, q5⟩
        · exact .inr hgw
        · exact .inl ⟨l0, q1, by rw [← k5]; exact q4, q5⟩
    · cases h2
  · cases h
end
end Go.Proofs.YtdgjkejfmehphaaGreatDoor.Av
end
