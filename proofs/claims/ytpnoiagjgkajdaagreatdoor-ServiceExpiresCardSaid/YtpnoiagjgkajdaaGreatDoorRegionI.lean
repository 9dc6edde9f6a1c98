/- A region that draws its order, by an invariant over what has come up. No program in sight. -/
import Derived.Test.YtpnoiagjgkajdaaGreatDoorBase
import Derived.Deep.RegionHeld3
namespace Go.Proofs.YtpnoiagjgkajdaaGreatDoor
open Go Go.RowKit

section
variable {P : Program} {md : Region.Mode} {ops : Array Oper} {Q : Exit → Act → World → Prop} {S : World → Prop}
def unl (listed : Array Bool) : Nat := listed.toList.count false
theorem count_set : ∀ (l : List Bool) (i : Nat), l[i]? = some false → (l.set i true).count false + 1 = l.count false
  | [], i, h => by simp at h
  | x :: l, 0, h => by
    simp only [List.getElem?_cons_zero, Option.some.injEq] at h
    subst h
    simp
  | x :: l, i + 1, h => by
    simp only [List.getElem?_cons_succ] at h
    have := count_set l i h
    simp only [List.set_cons_succ, List.count_cons]
    omega
theorem unl_set {listed : Array Bool} {i : Nat} (h : listed[i]? = some false) : unl (listed.setIfInBounds i true) + 1 = unl listed := by
  unfold unl
  rw [Array.toList_setIfInBounds]
  exact count_set _ _ (by simpa using h)
/-- What is unlisted comes to an end: an invariant, kept by whatever comes up, is enough. -/
theorem wpAnyH_inv {I : Array Bool → Act → World → Prop} (hsz : ∀ listed a w, I listed a w → listed.size = ops.size) (hS : ∀ listed a w, I listed a w → S w)
    (hstep : ∀ (listed : Array Bool) (a : Act) (w : World) (i : Nat) (oi : Oper), I listed a w → ops[i]? = some oi → listed[i]? = some false → (∀ e ∈ oi.after, Region.binds md e = true → listed.getD e.on false = true) →
      ∀ K : Act → World → Prop, Shut (∀ a' w', I (listed.setIfInBounds i true) a' w' → K a' w') → if Region.wanted oi (yielded ops a.tmps) = true then Oper.wp P oi a w K Q else K (a.put oi.dst undef) w)
    (hend : ∀ (listed : Array Bool) (a : Act) (w : World), I listed a w → (∀ (i : Nat) (oi : Oper), ops[i]? = some oi → (∀ e ∈ oi.after, Region.binds md e = true → listed.getD e.on false = true) → listed[i]? = some true) → Q .normal a w) :
    ∀ (fuel : Nat) (listed : Array Bool) (a : Act) (w : World), I listed a w → unl listed ≤ fuel → wpAnyH P md ops Q S fuel listed a w := by
  have hnil : ∀ listed a w, I listed a w → Region.ready md ops listed = [] → Q .normal a w := fun listed a w hI hr => by
    refine hend listed a w hI fun i oi ho hall => ?_
    have hlt : i < ops.size := by
      rcases Nat.lt_or_ge i ops.size with h | h
      · exact h
      · rw [Array.getElem?_eq_none h] at ho; cases ho
    have hl : i < listed.size := by rw [hsz _ _ _ hI]; exact hlt
    cases hb : listed[i]'hl with
    | true => rw [Array.getElem?_eq_getElem hl, hb]
    | false =>
      have hm : i ∈ Region.ready md ops listed := mem_ready.2 ⟨by simp [Array.getD, hl, hb], oi, ho, hall⟩
      rw [hr] at hm
      cases hm
  intro fuel
  induction fuel with
  | zero =>
    intro listed a w hI hu
    have hr : Region.ready md ops listed = [] := by
      refine List.eq_nil_iff_forall_not_mem.2 fun i hi => ?_
      obtain ⟨h1, oj, h2, h3⟩ := mem_ready.1 hi
      have hlt : i < listed.size := by
        rcases Nat.lt_or_ge i listed.size with h | h
        · exact h
        · simp [Array.getD, Nat.not_lt.2 h] at h1
      have h4 : listed[i]? = some false := by
        rw [Array.getElem?_eq_getElem hlt]
        simpa [Array.getD, hlt] using h1
      have := unl_set h4
      omega
    exact ⟨hr, hnil _ _ _ hI hr⟩
  | succ fuel ih =>
    intro listed a w hI hu
    refine ⟨hnil _ _ _ hI, fun i hi => ?_⟩
    obtain ⟨h1, oj, h2, h3⟩ := mem_ready.1 hi
    have hlt : i < listed.size := by
      rcases Nat.lt_or_ge i listed.size with h | h
      · exact h
      · simp [Array.getD, Nat.not_lt.2 h] at h1
    have h4 : listed[i]? = some false := by
      rw [Array.getElem?_eq_getElem hlt]
      simpa [Array.getD, hlt] using h1
    exact wpOp_step h2 fun K hK => hstep listed a w i oj hI h2 h4 h3 K fun a' w' hI' => hK a' w' ⟨hS _ _ _ hI', ih _ _ _ hI' (by have := unl_set h4; omega)⟩
end

end Go.Proofs.YtpnoiagjgkajdaaGreatDoor
