/- Regions that draw their order, whose last operation stores: one operation that alone may come up: a call, a store, an end. No program in sight. -/
import Derived.Test.YtpnoiagjgkajdaaGreatDoorTake
namespace Go.Proofs.YtpnoiagjgkajdaaGreatDoor
open Go Go.RowKit
section
variable {P : Program} {md : Region.Mode} {ops : Array Oper} {Q : Exit → Act → World → Prop} {S : World → Prop} {z fuel : Nat} {listed : Array Bool} {a a' : Act} {w w' : World} {o : Oper} {v : Value} {f : FuncId} {args : Array Value} {R : Ending → World → Prop} {d : Option Tmp} {k : Nat}
/-- What a call in a region has to leave. -/
def RetK (P : Program) (md : Region.Mode) (ops : Array Oper) (Q : Exit → Act → World → Prop) (S : World → Prop) (z fuel : Nat) (listed : Array Bool) (a : Act) (d : Option Tmp) (k : Nat) (e : Ending) (w' : World) : Prop :=
  ∃ v, e = .returned v ∧ (k ≠ z → S w') ∧ wpAnyK P md ops Q S z fuel (listed.setIfInBounds k true) (a.put d v) w'
theorem rk (hS : S w') (h : wpAnyK P md ops Q S z fuel (listed.setIfInBounds k true) a' w') (ha : a.put d v = a' := by (simp only [Act.put, List.setIfInBounds_toArray, List.set_cons_zero, List.set_cons_succ]; rfl)) : RetK P md ops Q S z fuel listed a d k (.returned v) w' := ⟨v, rfl, fun _ => hS, ha ▸ h⟩
/-- Number k, a call. -/
theorem kc (k : Nat) (hC : Calls P f args w R) (h : ∀ e w', R e w' → RetK P md ops Q S z fuel listed a o.dst k e w')
    (hr : Region.ready md ops listed = [k] := by kernel_rfl) (ho : ops[k]? = some o := by (simp only [List.getElem?_toArray, List.getElem?_cons_succ, List.getElem?_cons_zero]; rfl)) (hw : Region.wanted o (yielded ops a.tmps) = true := by rfl)
    (he : (execOp a.eval o).run P w = .ok (.enter f args) w := by (go_simp; rfl)) : wpAnyK P md ops Q S z (fuel + 1) listed a w :=
  wpAnyK_one hr ho fun K hK => by
    rw [if_pos hw]
    unfold Oper.wp
    rw [he]
    refine hC.mono ?_
    intro e w' hR
    obtain ⟨v, rfl, hS, hk⟩ := h e w' hR
    exact hK.out _ _ hS hk
/-- Number k, which changes the world. -/
theorem ks (k : Nat) (hS : k ≠ z → S w') (h : wpAnyK P md ops Q S z fuel (listed.setIfInBounds k true) a' w')
    (hr : Region.ready md ops listed = [k] := by kernel_rfl) (ho : ops[k]? = some o := by (simp only [List.getElem?_toArray, List.getElem?_cons_succ, List.getElem?_cons_zero]; rfl)) (hw : Region.wanted o (yielded ops a.tmps) = true := by rfl)
    (he : (execOp a.eval o).run P w = .ok (.value v) w' := by (go_simp; with_reducible rfl)) (ha : a.put o.dst v = a' := by (simp only [Act.put, List.setIfInBounds_toArray, List.set_cons_zero, List.set_cons_succ]; rfl)) : wpAnyK P md ops Q S z (fuel + 1) listed a w :=
  wpAnyK_one hr ho fun K hK => by
    rw [if_pos hw]
    unfold Oper.wp
    rw [he]
    exact hK.out _ _ hS (ha ▸ h)
/-- Number k isn't wanted. -/
theorem kn (k : Nat) (hS : S w) (h : wpAnyK P md ops Q S z fuel (listed.setIfInBounds k true) a' w)
    (hr : Region.ready md ops listed = [k] := by kernel_rfl) (ho : ops[k]? = some o := by (simp only [List.getElem?_toArray, List.getElem?_cons_succ, List.getElem?_cons_zero]; rfl)) (hw : Region.wanted o (yielded ops a.tmps) = false := by rfl)
    (ha : a.put o.dst undef = a' := by (simp only [Act.put, List.setIfInBounds_toArray, List.set_cons_zero, List.set_cons_succ]; rfl)) : wpAnyK P md ops Q S z (fuel + 1) listed a w :=
  wpAnyK_one hr ho fun K hK => by
    rw [if_neg (by rw [hw]; decide)]
    exact hK.out _ _ (fun _ => hS) (ha ▸ h)
theorem kd (h : Q .normal a w) (hr : Region.ready md ops listed = [] := by kernel_rfl) : wpAnyK P md ops Q S z fuel listed a w := wpAnyK_done hr h
end
end Go.Proofs.YtpnoiagjgkajdaaGreatDoor
